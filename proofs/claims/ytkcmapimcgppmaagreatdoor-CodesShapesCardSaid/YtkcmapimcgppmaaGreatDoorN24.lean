/-
  The codes of a block: the program's. Conditions: a small block of four rules, ten members at most. The codes of a block: the program's. Conditions: a small block of four rules, ten members at most. The codes of a block: the document's. Conditions: a small block of four rules, ten members at most. Codes, the program's through the answer's: alike. Conditions: a small block. The law on shapes: its data. Conditions: as each lemma states them.
-/
import Derived.Test.YtkcmapimcgppmaaGreatDoorN23
set_option linter.all false
set_option linter.unusedVariables false
set_option linter.unusedSimpArgs false
set_option linter.unnecessarySimpa false
section
namespace Go.Proofs.YtkcmapimcgppmaaGreatDoor
open Go.RowKit
attribute [local simp] ty_p ty_l ty_t kH tDs lvDs Tm.ts finH elemH ac_skip ac_label ac_region ac_seq ac_cond ac_block ac_loop ac_exit ac_ret seqK_n seqK_r seqK_e vo_nil vo_cons blkK loopK callOf vout aout abuiltin aslice ev startSt nmOf St.out putE updo upd contOf freshC K0 asC fillD fieldOf rowD astore aapp srcOf elsOf tb Dc.tk Dc.dp Dc.over Dc.app Dc.ln Dc.ds Dc.sing Dc.cont AV.cont Ds.hd Value.oneCell' retK resOf one1 AV.imp Dc.imp φOf calleeOf AV.isLL AV.list AV.app AV.arg AV.isL AV.ren Dc.ren Dc.lent tmC tmA tsA iA lo? abin AV.nth Dc.own Dc.toks stOf envOf bxOf τOf
attribute [local simp] AV.room amake agC lentAgC Ds.len Ds.dp

structure SmallD (d : Dl) (l : List Rl) : Prop where
  k : d.k = 3
  lv : d.lv ≤ 1000
  pf : d.p.fits
  ps : d.p.size ≤ 100
  sl : d.s.length ≤ 100
  sf : lvFits d.s
  ml : d.m.length ≤ 10
  mf : ∀ t ∈ d.m, t.fits ∧ t.size ≤ 100
  ll : l.length ≤ 4
  lc : l.length = d.c.length
  rs : ∀ r ∈ l, Small r
def ctT (k n : Int) : Tm := ⟨⟨23, k, n, []⟩, .nil⟩
theorem ctT_fits {k n : Int} (hk : 0 ≤ k ∧ k ≤ 1000000000) (hn : 0 ≤ n ∧ n ≤ 1000000000) : (ctT k n).fits := ⟨num_fits (by decide) hk hn, trivial⟩
def plOne (d : Dl) (n base1 : Int) (r : Rl) (k : Nat) : Tm := aboveT 5 (atT d base1 1 (ctT k n)).ts (placesT d.s r)
def plT (d : Dl) (n base1 : Int) : List Rl → Nat → Ts
  | [], _ => .nil
  | r :: l, k => .cons (plOne d n base1 r k).h (plOne d n base1 r k).x (plT d n base1 l (k + 1))
theorem plT_app (d : Dl) (n base1 : Int) : ∀ (a b : List Rl) (k : Nat), plT d n base1 (a ++ b) k = (plT d n base1 a k).app (plT d n base1 b (k + a.length))
  | [], _, _ => rfl
  | t :: a, b, k => by
    simp only [List.cons_append, plT, Ts.app, List.length_cons]
    rw [plT_app d n base1 a b, show k + 1 + a.length = k + (a.length + 1) by omega]
theorem plT_len (d : Dl) (n base1 : Int) : ∀ (a : List Rl) (k : Nat), (plT d n base1 a k).len = a.length
  | [], _ => rfl
  | t :: a, k => by simp only [plT, Ts.len, plT_len d n base1 a, List.length_cons]
theorem plOne_size {d : Dl} {n base1 : Int} {r : Rl} {k : Nat} (hl : d.lv ≤ 1000) (hp : d.p.size ≤ 100) (hs : d.s.length ≤ 100) (hr : Small r) : (plOne d n base1 r k).size ≤ 17000 := by
  have h1 := aboveK_size 5 (atT d base1 1 (ctT k n)).ts (placesT d.s r)
  have h2 := atT_size d base1 1 (ctT k n) hl
  have h3 := placesT_size hr hs
  have h4 : (ctT k n).size = 0 := rfl
  rw [ts_size] at h1
  unfold plOne
  omega
theorem plOne_fits {d : Dl} {n base1 : Int} {r : Rl} {k : Nat} (hl : d.lv ≤ 1000) (hb : fW base1) (hf : lvFits d.s) (hr : Small r) (hn : 0 ≤ n ∧ n ≤ 1000000000) (hk : k ≤ 1000000000) : (plOne d n base1 r k).fits :=
  aboveK_fits 5 (by decide) (ts_fits (atT_fits d base1 1 (ctT k n) hl hb (ctT_fits (by omega) hn))) (placesT_fits hr hf)
theorem plT_size {d : Dl} {n base1 : Int} (hl : d.lv ≤ 1000) (hp : d.p.size ≤ 100) (hs : d.s.length ≤ 100) : ∀ (a : List Rl) (k : Nat), (∀ r ∈ a, Small r) → (plT d n base1 a k).size ≤ a.length * 17001
  | [], _, _ => Nat.zero_le _
  | t :: a, k, h => by
    have h1 := plOne_size (n := n) (base1 := base1) (k := k) hl hp hs (h t (by simp))
    have h2 := plT_size (n := n) (base1 := base1) hl hp hs a (k + 1) (fun r hr => h r (by simp [hr]))
    have h4 : Tm.size ⟨(plOne d n base1 t k).h, (plOne d n base1 t k).x⟩ = (plOne d n base1 t k).size := rfl
    simp only [plT]
    rw [cons_size, h4, List.length_cons]
    omega
theorem plT_fits {d : Dl} {n base1 : Int} (hl : d.lv ≤ 1000) (hb : fW base1) (hf : lvFits d.s) (hn : 0 ≤ n ∧ n ≤ 1000000000) : ∀ (a : List Rl) (k : Nat), k + a.length ≤ 1000000000 → (∀ r ∈ a, Small r) → (plT d n base1 a k).fits
  | [], _, _, _ => trivial
  | t :: a, k, hk, h => by
    have h1 := plOne_fits (k := k) hl hb hf (h t (by simp)) hn (by omega)
    exact ⟨h1.1, h1.2, plT_fits hl hb hf hn a (k + 1) (by simp at hk; omega) (fun r hr => h r (by simp [hr]))⟩
theorem liftTup_fits {t : Ts} (h : t.fits) : (liftTup t).fits := tup_fits _ (liftsT_fits 1 t 0 h)
theorem liftTup_size (t : Ts) : (liftTup t).size ≤ 2 * t.size := by
  have := tup_size' (liftsT 1 0 t)
  rw [liftsT_size] at this
  exact this
theorem ownT_fits : ∀ (l : List Ts), (∀ t ∈ l, t.fits) → (ownT l).fits
  | [], _ => trivial
  | t :: l, h => ⟨(liftTup_fits (h t (by simp))).1, (liftTup_fits (h t (by simp))).2, ownT_fits l fun u hu => h u (by simp [hu])⟩
theorem ownT_size : ∀ (l : List Ts), (∀ t ∈ l, t.size ≤ 100) → (ownT l).size ≤ l.length * 201
  | [], _ => Nat.zero_le _
  | t :: l, h => by
    have h1 := ownT_size l fun u hu => h u (by simp [hu])
    have h2 := liftTup_size t
    have h3 := h t (by simp)
    have h4 : Tm.size ⟨(liftTup t).h, (liftTup t).x⟩ = (liftTup t).size := rfl
    simp only [ownT]
    rw [cons_size, h4, List.length_cons]
    omega
theorem argsT_fits : ∀ (l : List Rl), (∀ r ∈ l, Small r) → (argsT l).fits
  | [], _ => trivial
  | r :: l, h => by
    have h1 := liftTup_fits (typesT_fits r.g r.g 0 0 (h r (by simp)).fit)
    exact ⟨h1.1, h1.2, argsT_fits l fun u hu => h u (by simp [hu])⟩
theorem argsT_size : ∀ (l : List Rl), (∀ r ∈ l, Small r) → (argsT l).size ≤ l.length * 401
  | [], _ => Nat.zero_le _
  | r :: l, h => by
    have h1 := argsT_size l fun u hu => h u (by simp [hu])
    have h2 := liftTup_size (typesT r.g r.g 0 0)
    have hr := h r (by simp)
    have h3 := hr.len
    have e1 := typesT_size r.g r.g.length r.g 0 0 (by omega)
    have e2 : szAg r.g * (r.g.length + 1) ≤ 40 * 5 := Nat.mul_le_mul hr.sz (by omega)
    have h4 : Tm.size ⟨(liftTup (typesT r.g r.g 0 0)).h, (liftTup (typesT r.g r.g 0 0)).x⟩ = (liftTup (typesT r.g r.g 0 0)).size := rfl
    simp only [argsT]
    rw [cons_size, h4, List.length_cons]
    omega
def c1P (d : Dl) : Tm := aboveT 5 (finT d.m.length).ts (sortT d.s)
def c1B (d : Dl) : Tm := caseT (c1P d) (ownT d.m) (vT 0)
def c2P (d : Dl) (l : List Rl) : Tm := aboveT 5 (finT l.length).ts (sortT d.s)
def c2B (d : Dl) (l : List Rl) : Tm := caseT (c2P d l) (argsT l) (vT 0)
def codA (d : Dl) (base1 : Int) : Tm := aboveT 4 (atT d base1 2 (vT 0)).ts (sortT d.s)
def codT (d : Dl) (n base1 : Int) : Tm := aboveT 5 (finT n).ts (codA d base1)
def v14 : Tm := ⟨kH 14, (vT 0).ts⟩
def v15 : Tm := ⟨kH 15, (vT 0).ts⟩
def c3C (d : Dl) (l : List Rl) (base1 : Int) : Tm := caseT (codT d l.length base1) (plT d l.length base1 l 0) v14
def c3B (d : Dl) (l : List Rl) (base1 : Int) : Tm := appsT (c3C d l base1) v15.ts
def c4B (d : Dl) (base : Int) : Tm := ⟨kH 16, .cons (shapeT d base 0).h (shapeT d base 0).x (atT d (IntKind.i64.wrap (base + 2)) 1 (vT 0)).ts⟩
/-- The codes of a block. -/
def codesL (d : Dl) (l : List Rl) (base : Int) : List Cr :=
  [madeT d (finT d.m.length).ts (sortT d.s) (c1B d), madeT d (finT l.length).ts (sortT d.s) (c2B d l), madeT d (shapeT d base 0).ts (sortT d.s) (c3B d l (IntKind.i64.wrap (base + 1))), madeT d .nil (sortT d.s) (c4B d base)]
def crsDs : List Cr → Ds
  | [] => .nil
  | c :: r => .lit (.int .i64 c.lv) (.lit (.int .i64 c.t.h.k) (.lit (.int .i64 c.t.h.n) (.lit (.int .i64 c.t.h.a) (.row 1 43 (lvDs ty c.t.h.l) .nil (.row 5 26 (tDs ty c.t.x) .nil (.lit (.bool c.h) (.lit (.int .i64 c.b.h.k) (.lit (.int .i64 c.b.h.n) (.lit (.int .i64 c.b.h.a) (.row 1 43 (lvDs ty c.b.h.l) .nil (.row 5 26 (tDs ty c.b.x) .nil (crsDs r))))))))))))
def crsA (l : List Cr) : AV := .c (.row none 12 89 (crsDs l) .nil)
section
variable {d : Dl} {l : List Rl} (h : SmallD d l)
include h
theorem SmallD.c1Pf : (c1P d).fits := aboveK_fits 5 (by decide) (ts_fits (finT_fits (by have := h.ml; omega))) (sortT_fits h.sf)
theorem SmallD.c2Pf : (c2P d l).fits := aboveK_fits 5 (by decide) (ts_fits (finT_fits (by have := h.ll; omega))) (sortT_fits h.sf)
theorem SmallD.c1Ps : (c1P d).size ≤ 110 := by
  have h1 := aboveK_size 5 (finT d.m.length).ts (sortT d.s)
  rw [sortT_size, ts_size] at h1
  have h3 : (finT d.m.length).size = 0 := rfl
  have := h.sl
  unfold c1P
  omega
theorem SmallD.c2Ps : (c2P d l).size ≤ 110 := by
  have h1 := aboveK_size 5 (finT l.length).ts (sortT d.s)
  rw [sortT_size, ts_size] at h1
  have h3 : (finT l.length).size = 0 := rfl
  have := h.sl
  unfold c2P
  omega
theorem SmallD.owf : (ownT d.m).fits := ownT_fits _ fun t ht => (h.mf t ht).1
theorem SmallD.ows : (ownT d.m).size ≤ 2010 := by
  have h1 := ownT_size d.m fun t ht => (h.mf t ht).2
  have := h.ml
  omega
theorem SmallD.arf : (argsT l).fits := argsT_fits _ h.rs
theorem SmallD.ars : (argsT l).size ≤ 2010 := by
  have h1 := argsT_size l h.rs
  have := h.ll
  omega
theorem SmallD.c1Bf : (c1B d).fits := case_fits h.c1Pf h.owf (vT_fits (by decide)) (by rw [ownT_len]; have := h.ml; omega)
theorem SmallD.c2Bf : (c2B d l).fits := case_fits h.c2Pf h.arf (vT_fits (by decide)) (by rw [argsT_len]; have := h.ll; omega)
theorem SmallD.c1Bs : (c1B d).size ≤ 3000 := by
  have h1 := h.c1Ps
  have h2 := h.ows
  have h4 : (vT 0).size = 0 := rfl
  unfold c1B
  rw [case_size', h4]
  omega
theorem SmallD.c2Bs : (c2B d l).size ≤ 3000 := by
  have h1 := h.c2Ps
  have h2 := h.ars
  have h4 : (vT 0).size = 0 := rfl
  unfold c2B
  rw [case_size', h4]
  omega
theorem SmallD.atf {x : Tm} {num : Int} (far : Int) (hn : fW num) (hx : x.fits) : (atT d num far x).fits := atT_fits d num far x h.lv hn hx
theorem SmallD.ats (num far : Int) {x : Tm} (hx : x.size = 0) : (atT d num far x).size ≤ 2300 := by
  have h1 := atT_size d num far x h.lv
  have := h.ps
  omega
theorem SmallD.codAf {base1 : Int} (hb : fW base1) : (codA d base1).fits := aboveK_fits 4 (by decide) (ts_fits (h.atf 2 hb (vT_fits (by decide)))) (sortT_fits h.sf)
theorem SmallD.codAs (base1 : Int) : (codA d base1).size ≤ 5000 := by
  have h1 := aboveK_size 4 (atT d base1 2 (vT 0)).ts (sortT d.s)
  rw [sortT_size, ts_size] at h1
  have h2 := h.ats base1 2 (x := vT 0) rfl
  have := h.sl
  unfold codA
  omega
theorem SmallD.codf {base1 n : Int} (hb : fW base1) (hn : 0 ≤ n ∧ n ≤ 1000000000) : (codT d n base1).fits := aboveK_fits 5 (by decide) (ts_fits (finT_fits hn)) (h.codAf hb)
theorem SmallD.cods (base1 n : Int) : (codT d n base1).size ≤ 5010 := by
  have h1 := aboveK_size 5 (finT n).ts (codA d base1)
  rw [ts_size] at h1
  have h3 : (finT n).size = 0 := rfl
  have := h.codAs base1
  unfold codT
  omega
theorem SmallD.plf {base1 : Int} (hb : fW base1) : (plT d l.length base1 l 0).fits := plT_fits h.lv hb h.sf (by have := h.ll; omega) l 0 (by have := h.ll; omega) h.rs
theorem SmallD.pls (base1 : Int) : (plT d l.length base1 l 0).size ≤ 70000 := by
  have h1 := plT_size (n := l.length) (base1 := base1) h.lv h.ps h.sl l 0 h.rs
  have := h.ll
  omega
omit h in
theorem v14_fits : v14.fits := ⟨kH_fits (by decide), ts_fits (vT_fits (by decide))⟩
omit h in
theorem v15_fits : v15.fits := ⟨kH_fits (by decide), ts_fits (vT_fits (by decide))⟩
theorem SmallD.c3Cf {base1 : Int} (hb : fW base1) : (c3C d l base1).fits := case_fits (h.codf hb (by have := h.ll; omega)) (h.plf hb) ⟨kH_fits (by decide), ts_fits (vT_fits (by decide))⟩ (by rw [plT_len]; have := h.ll; omega)
theorem SmallD.c3Cs (base1 : Int) : (c3C d l base1).size ≤ 80000 := by
  have h1 := h.cods base1 l.length
  have h2 := h.pls base1
  have h4 : v14.size = 1 := rfl
  unfold c3C
  rw [case_size', h4]
  omega
theorem SmallD.c3Bf {base1 : Int} (hb : fW base1) : (c3B d l base1).fits := appsT_fits _ _ (h.c3Cf hb) (ts_fits ⟨kH_fits (by decide), ts_fits (vT_fits (by decide))⟩)
theorem SmallD.c3Bs (base1 : Int) : (c3B d l base1).size ≤ 90000 := by
  have h1 := appsT_size v15.ts (c3C d l base1)
  have h2 := h.c3Cs base1
  have h4 : v15.size = 1 := rfl
  rw [ts_size, h4] at h1
  unfold c3B
  omega
theorem SmallD.shf (base : Int) : (shapeT d base 0).fits := ⟨kH_fits (by decide), num_fits (by decide) (by have := h.ll; have := h.lc; omega) (by decide), trivial, ts_fits (h.atf _ (wrapW _) (vT_fits (by decide)))⟩
theorem SmallD.shs (base : Int) : (shapeT d base 0).size ≤ 2400 := by
  have h1 := h.ats (IntKind.i64.wrap (base + 1)) (IntKind.i64.wrap (0 + 1)) (x := vT 0) rfl
  simp only [shapeT, Tm.size, Ts.size, kH, lvSize, finH, ts_size]
  simp only [Tm.size] at h1
  omega
theorem SmallD.c4xf (base : Int) : Ts.fits (.cons (shapeT d base 0).h (shapeT d base 0).x (atT d (IntKind.i64.wrap (base + 2)) 1 (vT 0)).ts) := ⟨(h.shf base).1, (h.shf base).2, ts_fits (h.atf _ (wrapW _) (vT_fits (by decide)))⟩
theorem SmallD.c4xs (base : Int) : Ts.size (.cons (shapeT d base 0).h (shapeT d base 0).x (atT d (IntKind.i64.wrap (base + 2)) 1 (vT 0)).ts) ≤ 5000 := by
  have h1 := h.shs base
  have h2 := h.ats (IntKind.i64.wrap (base + 2)) 1 (x := vT 0) rfl
  have h4 : Tm.size ⟨(shapeT d base 0).h, (shapeT d base 0).x⟩ = (shapeT d base 0).size := rfl
  rw [cons_size, h4, ts_size]
  omega
theorem SmallD.c4Bf (base : Int) : (c4B d base).fits := ⟨kH_fits (by decide), h.c4xf base⟩
theorem SmallD.c4Bs (base : Int) : (c4B d base).size ≤ 5000 := by
  have h1 := h.c4xs base
  have e : (c4B d base).size = Ts.size (.cons (shapeT d base 0).h (shapeT d base 0).x (atT d (IntKind.i64.wrap (base + 2)) 1 (vT 0)).ts) := by simp only [c4B, Tm.size, kH, lvSize]; omega
  omega
theorem SmallD.stf : (sortT d.s).fits := sortT_fits h.sf
theorem SmallD.sts : (sortT d.s).size ≤ 101 := by rw [sortT_size]; have := h.sl; omega
end
end Go.Proofs.YtkcmapimcgppmaaGreatDoor
end
section
namespace Go.Proofs.YtkcmapimcgppmaaGreatDoor
open Go.RowKit
attribute [local simp] ty_p ty_l ty_t kH tDs lvDs Tm.ts finH elemH ac_skip ac_label ac_region ac_seq ac_cond ac_block ac_loop ac_exit ac_ret seqK_n seqK_r seqK_e vo_nil vo_cons blkK loopK callOf vout aout abuiltin aslice ev startSt nmOf St.out putE updo upd contOf freshC K0 asC fillD fieldOf rowD astore aapp srcOf elsOf tb Dc.tk Dc.dp Dc.over Dc.app Dc.ln Dc.ds Dc.sing Dc.cont AV.cont Ds.hd Value.oneCell' retK resOf one1 AV.imp Dc.imp φOf calleeOf AV.isLL AV.list AV.app AV.arg AV.isL AV.ren Dc.ren Dc.lent tmC tmA tsA iA lo? abin AV.nth Dc.own Dc.toks stOf envOf bxOf τOf
attribute [local simp] AV.room amake agC lentAgC Ds.len Ds.dp

def st80 (d : Dl) (l : List Rl) (base : Int) (b1 : Int) (a : List Rl) : St := stOf [(0, .el (dlC d).ds), (1, .el (.row 3 65 (rulesDs l) .nil .nil)), (2, .el (.lit (.int .i64 base) .nil)), (4, .bx 5 0), (5, .bx 6 0), (6, .bx 7 0), (7, .bx 8 0), (9, tsA none (ownT d.m)), (10, tsA none (argsT l)), (11, .c (.blk 70 (a.length + 1) 5 26 (.seg none (tDs ty (plT d l.length b1 a 0)) .nil) .nil)), (49, rulesA l), (50, iA l.length), (51, iA a.length)] [(5, 130, bkC d l base), (6, 26, tmC none none (sortT d.s).h (sortT d.s).x), (7, 26, tmC none none (finT d.m.length).h (finT d.m.length).x), (8, 26, tmC none none (finT l.length).h (finT l.length).x)] [(70, a.length + 1)]
set_option maxRecDepth 10000 in
set_option maxHeartbeats 4000000 in
theorem k80 (d : Dl) (l : List Rl) (base : Int) (h : SmallD d l) : HH 80 [.el (dlC d).ds, .el (.row 3 65 (rulesDs l) .nil .nil), .el (.lit (.int .i64 base) .nil)] (crsA (codesL d l base)) := by
  have hk := h.k
  have hlv := h.lv
  have hps := h.ps
  have hsl := h.sl
  have hml := h.ml
  have hll := h.ll
  have d6 : d.c.length * 6 / 6 = d.c.length := by omega
  have d3 : l.length * 3 / 3 = l.length := by omega
  have hlc := h.lc
  have hb1 : fW (IntKind.i64.wrap (base + 1)) := wrapW _
  have q81 := k81 d l base (by omega)
  have q84 := k84 d.m (by omega) (fun t ht => ⟨(h.mf t ht).1, by have := (h.mf t ht).2; omega⟩)
  have q86 := k86 l (by omega) (fun r hr => ⟨by have := (h.rs r hr).len; omega, by have := (h.rs r hr).sz; omega, (h.rs r hr).fit⟩)
  refine ab Tryz.func80 Tryz.ntmps80 Tryz.results80 rfl (by decide) (by simp) rfl rfl ?_
  generalize hB : IntKind.i64.wrap (base + 1) = b1 at *
  simp [dlC, hk, rulesDs_len, d3, ctDs_len, d6, hlc, rowsDs_len']
  refine ⟨by kernel_rfl, ?_⟩
  refine asks q81 ?_ ?_ ?_ <;> simp [bkC, dlC, hk, rowsDs_len']
  refine asks (g57 d.m.length) ?_ ?_ ?_ <;> simp [rulesDs_len, d3]
  refine asks (g57 l.length) ?_ ?_ ?_ <;> simp
  refine asks q84 ?_ ?_ ?_ <;> simp [membersA]
  · exact ⟨_, _, ⟨rfl, rfl⟩, rfl⟩
  refine asks q86 ?_ ?_ ?_ <;> simp [rulesA]
  · exact ⟨_, _, ⟨rfl, rfl⟩, rfl⟩
  simp [rulesDs_len, d3]
  refine lp (α := { q : List Rl × List Rl // q.1 ++ q.2 = l }) (fun q => st80 d l base b1 q.1.1) (fun q => q.1.2.length) ⟨([], l), rfl⟩ ?_ ?_
  · refine le_of [((70, 0), [(70, 0)])] ?_ ?_ ?_ <;> simp [AV.ok, Dc.ok, plT, rulesA, bkC, dlC, finT, hk]
  · rintro ⟨⟨a, q⟩, hq⟩
    simp only at hq
    cases q with
    | nil =>
      have e : a = l := by rw [← hq]; simp
      subst e
      have q90b := k90 d a base 1 2 (vT 0) hlv (by omega) (vT_fits (by decide)) (by decide)
      rw [hB] at q90b
      have q91 := k91 (atT d b1 2 (vT 0)).ts (sortT d.s) (ts_fits (h.atf 2 hb1 (vT_fits (by decide)))) (by rw [ts_size]; have := h.ats b1 2 (x := vT 0) rfl; omega) h.stf (by have := h.sts; omega)
      change HH 91 _ (tmL (codA d b1)) at q91
      have q88b := k88 (finT a.length).ts (codA d b1) (ts_fits (finT_fits (by omega))) (by rw [ts_size]; have h3 : (finT a.length).size = 0 := rfl; omega) (h.codAf hb1) (by have := h.codAs b1; omega)
      change HH 88 _ (tmL (codT d a.length b1)) at q88b
      have q93 := k93 d base 0 hlv (by omega) (by omega)
      have q88c := k88 (finT d.m.length).ts (sortT d.s) (ts_fits (finT_fits (by omega))) (by rw [ts_size]; have h3 : (finT d.m.length).size = 0 := rfl; omega) h.stf (by have := h.sts; omega)
      change HH 88 _ (tmL (c1P d)) at q88c
      have q14a := g14 (c1P d) (ownT d.m) (vT 0) h.c1Pf h.owf (vT_fits (by decide)) (by have := h.c1Ps; have := h.ows; have h4 : (vT 0).size = 0 := rfl; omega) (by rw [ownT_len]; omega)
      change HH 14 _ (tmO (c1B d)) at q14a
      have q94a := k94 d a base (finT d.m.length).ts (sortT d.s) (c1B d) h.pf (by omega) (ts_fits (finT_fits (by omega))) (by rw [ts_size]; have h3 : (finT d.m.length).size = 0 := rfl; omega) h.stf (by have := h.sts; omega) h.c1Bf (by have := h.c1Bs; omega)
      have q88d := k88 (finT a.length).ts (sortT d.s) (ts_fits (finT_fits (by omega))) (by rw [ts_size]; have h3 : (finT a.length).size = 0 := rfl; omega) h.stf (by have := h.sts; omega)
      change HH 88 _ (tmL (c2P d a)) at q88d
      have q14b := g14 (c2P d a) (argsT a) (vT 0) h.c2Pf h.arf (vT_fits (by decide)) (by have := h.c2Ps; have := h.ars; have h4 : (vT 0).size = 0 := rfl; omega) (by rw [argsT_len]; omega)
      change HH 14 _ (tmO (c2B d a)) at q14b
      have q94b := k94 d a base (finT a.length).ts (sortT d.s) (c2B d a) h.pf (by omega) (ts_fits (finT_fits (by omega))) (by rw [ts_size]; have h3 : (finT a.length).size = 0 := rfl; omega) h.stf (by have := h.sts; omega) h.c2Bf (by have := h.c2Bs; omega)
      have q59a := g59 14 (vT 0).ts (by decide) (ts_fits (vT_fits (by decide))) (by decide)
      change HH 59 _ (tmO v14) at q59a
      have q14c := g14 (codT d a.length b1) (plT d a.length b1 a 0) v14 (h.codf hb1 (by omega)) (h.plf hb1) v14_fits (by have := h.cods b1 a.length; have := h.pls b1; have h4 : v14.size = 1 := rfl; omega) (by rw [plT_len]; omega)
      change HH 14 _ (tmO (c3C d a b1)) at q14c
      have q59b := g59 15 (vT 0).ts (by decide) (ts_fits (vT_fits (by decide))) (by decide)
      change HH 59 _ (tmO v15) at q59b
      have q95 := k95 (c3C d a b1) v15.ts (h.c3Cf hb1) (by have := h.c3Cs b1; omega) (ts_fits v15_fits) (by rw [ts_size]; decide)
      change HH 95 _ (tmL (c3B d a b1)) at q95
      have q94c := k94 d a base (shapeT d base 0).ts (sortT d.s) (c3B d a b1) h.pf (by omega) (ts_fits (h.shf base)) (by rw [ts_size]; have := h.shs base; omega) h.stf (by have := h.sts; omega) (h.c3Bf hb1) (by have := h.c3Bs b1; omega)
      have q90d := k90 d a base 2 1 (vT 0) hlv (by omega) (vT_fits (by decide)) (by decide)
      have q59c := g59 16 (.cons (shapeT d base 0).h (shapeT d base 0).x (atT d (IntKind.i64.wrap (base + 2)) 1 (vT 0)).ts) (by decide) (h.c4xf base) (by have := h.c4xs base; omega)
      change HH 59 _ (tmO (c4B d base)) at q59c
      have q94d := k94 d a base .nil (sortT d.s) (c4B d base) h.pf (by omega) trivial (by simp [Ts.size]) h.stf (by have := h.sts; omega) (h.c4Bf base) (by have := h.c4Bs base; omega)
      simp only [codesL, hB]
      generalize madeT d (finT d.m.length).ts (sortT d.s) (c1B d) = C1 at *
      generalize madeT d (finT a.length).ts (sortT d.s) (c2B d a) = C2 at *
      generalize madeT d (shapeT d base 0).ts (sortT d.s) (c3B d a b1) = C3 at *
      generalize madeT d .nil (sortT d.s) (c4B d base) = C4 at *
      generalize atT d (IntKind.i64.wrap (base + 2)) 1 (vT 0) = A2 at *
      generalize atT d b1 2 (vT 0) = A1 at *
      generalize shapeT d base 0 = SH at *
      generalize c1B d = B1 at *
      generalize c2B d a = B2 at *
      generalize c3B d a b1 = B3 at *
      generalize c4B d base = B4 at *
      generalize c3C d a b1 = C at *
      generalize c1P d = P1 at *
      generalize c2P d a = P2 at *
      generalize codT d a.length b1 = CT at *
      generalize codA d b1 = CA at *
      generalize v14 = V14 at *
      generalize v15 = V15 at *
      simp only [st80]
      clear h q84 q86 q81
      generalize sortT d.s = S at *
      generalize hM : finT d.m.length = M at *
      generalize hR : finT a.length = R at *
      generalize ownT d.m = OW at *
      generalize argsT a = AR at *
      generalize plT d a.length b1 a 0 = PL at *
      simp [bkC, dlC, hk]
      refine ⟨by kernel_rfl, ?_⟩
      refine asks (g92 0) ?_ ?_ ?_ <;> simp
      refine asks q90b ?_ ?_ ?_ <;> simp [bkC, dlC, hk, vT]
      refine asks q91 ?_ ?_ ?_ <;> simp
      refine asks q88b ?_ ?_ ?_ <;> simp
      refine asks q93 ?_ ?_ ?_ <;> simp [dlL, dlC, hk]
      refine ⟨by kernel_rfl, ?_⟩
      refine asks q88c ?_ ?_ ?_ <;> simp
      refine asks (g92 0) ?_ ?_ ?_ <;> simp
      refine asks q14a ?_ ?_ ?_ <;> simp [vT]
      refine asks q94a ?_ ?_ ?_ <;> simp [bkC, dlC, hk, crL, crC]
      refine asks q88d ?_ ?_ ?_ <;> simp
      refine asks (g92 0) ?_ ?_ ?_ <;> simp
      refine asks q14b ?_ ?_ ?_ <;> simp [vT]
      refine asks q94b ?_ ?_ ?_ <;> simp [bkC, dlC, hk, crL, crC]
      refine asks (g92 0) ?_ ?_ ?_ <;> simp
      refine asks q59a ?_ ?_ ?_ <;> simp [vT]
      refine asks q14c ?_ ?_ ?_ <;> simp [Ds.app_nil]
      refine asks (g92 0) ?_ ?_ ?_ <;> simp
      refine asks q59b ?_ ?_ ?_ <;> simp [vT]
      refine asks q95 ?_ ?_ ?_ <;> simp
      refine asks q94c ?_ ?_ ?_ <;> simp [bkC, dlC, hk, crL, crC]
      refine asks (g92 0) ?_ ?_ ?_ <;> simp
      refine asks q90d ?_ ?_ ?_ <;> simp [bkC, dlC, hk, vT]
      refine asks q59c ?_ ?_ ?_ <;> simp
      refine asks q94d ?_ ?_ ?_ <;> simp [bkC, dlC, hk, crL, crC]
      exact ⟨[], by simp [crsA, crsDs]⟩
    | cons t q =>
      have h1 : a.length < l.length := by rw [← hq]; simp
      have h2 := dp_rules hq
      have ht : t ∈ l := by rw [← hq]; simp
      have hw : IntKind.i64.wrap ((a.length : Int) + 1) = a.length + 1 := by rw [IntKind.wrap_i64]; omega
      have e1 : plT d l.length b1 (a ++ [t]) 0 = (plT d l.length b1 a 0).app (.cons (plOne d l.length b1 t a.length).h (plOne d l.length b1 t a.length).x .nil) := by rw [plT_app, Nat.zero_add]; rfl
      have q89 := k89 d l base t (h.rs t ht) hsl h.sf
      have q90 := k90 d l base 1 1 (ctT a.length l.length) hlv (by omega) (ctT_fits (by omega) (by omega)) (by have h3 : (ctT a.length l.length).size = 0 := rfl; omega)
      rw [hB] at q90
      have q88 := k88 (atT d b1 1 (ctT a.length l.length)).ts (placesT d.s t) (ts_fits (h.atf 1 hb1 (ctT_fits (by omega) (by omega)))) (by rw [ts_size]; have := h.ats b1 1 (x := ctT a.length l.length) rfl; omega) (placesT_fits (h.rs t ht) h.sf) (by have := placesT_size (h.rs t ht) hsl; omega)
      change HH 88 _ (tmL (plOne d l.length b1 t a.length)) at q88
      simp only [st80]
      generalize plOne d l.length b1 t a.length = P at *
      generalize atT d b1 1 (ctT a.length l.length) = A at *
      generalize placesT d.s t = Q at *
      simp [rulesA, h1, h2, rulesDs, bkC, dlC, hk]
      refine ⟨by rw [rulesDs_len]; omega, by kernel_rfl, ?_⟩
      refine asks q89 ?_ ?_ ?_ <;> simp [bkC, dlC, hk, rlL, rlC, rulesDs_len, d3]
      refine asks (g58 a.length l.length) ?_ ?_ ?_ <;> simp
      refine asks q90 ?_ ?_ ?_ <;> simp [bkC, dlC, hk, ctT]
      refine asks q88 ?_ ?_ ?_ <;> simp
      refine ⟨by rw [tDs_len, plT_len]; omega, a ++ [t], q, by simp, by rw [List.append_assoc]; exact hq, ?_⟩
      refine le_of [((70, 0), [(70, 0)])] ?_ ?_ ?_ <;> simp [AV.ok, Dc.ok, hw, e1]
      rw [tDs_app]; rfl
end Go.Proofs.YtkcmapimcgppmaaGreatDoor
end
section
namespace Go.Proofs.YtkcmapimcgppmaaGreatDoor
open Go.RowKit
attribute [local simp] ty_p ty_l ty_t kH tDs lvDs Tm.ts finH elemH ac_skip ac_label ac_region ac_seq ac_cond ac_block ac_loop ac_exit ac_ret seqK_n seqK_r seqK_e vo_nil vo_cons blkK loopK callOf vout aout abuiltin aslice ev startSt nmOf St.out putE updo upd contOf freshC K0 asC fillD fieldOf rowD astore aapp srcOf elsOf tb Dc.tk Dc.dp Dc.over Dc.app Dc.ln Dc.ds Dc.sing Dc.cont AV.cont Ds.hd Value.oneCell' retK resOf one1 AV.imp Dc.imp φOf calleeOf AV.isLL AV.list AV.app AV.arg AV.isL AV.ren Dc.ren Dc.lent tmC tmA tsA iA lo? abin AV.nth Dc.own Dc.toks stOf envOf bxOf τOf
attribute [local simp] AV.room amake agC lentAgC Ds.len Ds.dp

def sa97 (d : Dl) (l : List Rl) (base : Int) (a : List Ts) : St := stOf [(1, rulesA l), (2, iA base), (3, .bx 4 0), (7, .bx 8 0), (8, iA d.m.length), (9, iA l.length), (10, .c (.blk 53 (a.length + 1) 5 26 (.seg none (tDs ty (ownT a)) .nil) .nil)), (11, .v (.slice none 0 0)), (12, .v (.slice none 0 0)), (13, iA a.length)] [(4, 47, dlC d), (8, 26, tmC none none (sortT d.s).h (sortT d.s).x)] [(53, a.length + 1)]
def sb97 (d : Dl) (l : List Rl) (base : Int) (b1 : Int) (a : List Rl) : St := stOf [(1, rulesA l), (2, iA base), (3, .bx 4 0), (7, .bx 8 0), (8, iA d.m.length), (9, iA l.length), (10, tsA none (ownT d.m)), (11, .c (.blk 68 (a.length + 1) 5 26 (.seg none (tDs ty (argsT a)) .nil) .nil)), (12, .c (.blk 85 (a.length + 1) 5 26 (.seg none (tDs ty (plT d l.length b1 a 0)) .nil) .nil)), (14, iA a.length)] [(4, 47, dlC d), (8, 26, tmC none none (sortT d.s).h (sortT d.s).x)] [(68, a.length + 1), (85, a.length + 1)]
set_option maxRecDepth 10000 in
set_option maxHeartbeats 4000000 in
theorem k97 (d : Dl) (l : List Rl) (base : Int) (h : SmallD d l) : HH 97 [dlL d, rulesA l, iA base] (crsA (codesL d l base)) := by
  have hk := h.k
  have hlv := h.lv
  have hps := h.ps
  have hsl := h.sl
  have hml := h.ml
  have hll := h.ll
  have d6 : d.c.length * 6 / 6 = d.c.length := by omega
  have d3 : l.length * 3 / 3 = l.length := by omega
  have hlc := h.lc
  have hb1 : fW (IntKind.i64.wrap (base + 1)) := wrapW _
  have q169 := k169 d.s (by omega)
  refine ab Tryz.func97 Tryz.ntmps97 Tryz.results97 rfl (by decide) (by simp) rfl rfl ?_
  generalize hB : IntKind.i64.wrap (base + 1) = b1 at *
  simp [dlL, dlC, hk, rulesA, rulesDs_len, d3, ctDs_len, d6, hlc, rowsDs_len']
  refine asks q169 ?_ ?_ ?_ <;> simp [lvA, rulesDs_len, d3, rowsDs_len', hlc]
  simp only [← hlc]
  refine lp (α := { q : List Ts × List Ts // q.1 ++ q.2 = d.m }) (fun q => sa97 d l base q.1.1) (fun q => q.1.2.length) ⟨([], d.m), rfl⟩ ?_ ?_
  · refine le_of [((53, 0), [(53, 0)])] ?_ ?_ ?_ <;> simp [AV.ok, Dc.ok, ownT, rulesA, dlC, hk]
  · rintro ⟨⟨a, q⟩, hq⟩
    simp only at hq
    cases q with
    | cons t q =>
      have h1 : a.length < d.m.length := by rw [← hq]; simp
      have h2 := dp_rows hq
      obtain ⟨h3, h4⟩ := h.mf t (by rw [← hq]; simp)
      have hw : IntKind.i64.wrap ((a.length : Int) + 1) = a.length + 1 := by rw [IntKind.wrap_i64]; omega
      have e1 : ownT (a ++ [t]) = (ownT a).app (.cons (liftTup t).h (liftTup t).x .nil) := by rw [ownT_app]; rfl
      have q170 := k170 t h3 (by omega)
      have q17 := h17 (liftsT 1 0 t) (liftsT_fits 1 t 0 h3) (by rw [liftsT_size]; omega)
      change HH 17 _ (tmO (liftTup t)) at q17
      simp only [sa97]
      generalize liftTup t = P at *
      simp [dlC, hk, h1, h2, rowsDs]
      refine ⟨by rw [rowsDs_len']; omega, ?_⟩
      refine asks q170 ?_ ?_ ?_ <;> simp
      refine asks q17 ?_ ?_ ?_ <;> simp
      refine ⟨by rw [tDs_len, ownT_len]; omega, a ++ [t], q, by simp, by rw [List.append_assoc]; exact hq, ?_⟩
      refine le_of [((53, 0), [(53, 0)])] ?_ ?_ ?_ <;> simp [AV.ok, Dc.ok, hw, e1, dlC, hk, rulesA]
      rw [tDs_app]; rfl
    | nil =>
      have e : a = d.m := by rw [← hq]; simp
      subst e
      simp [sa97, dlC, hk]
      refine lp (α := { q : List Rl × List Rl // q.1 ++ q.2 = l }) (fun q => sb97 d l base b1 q.1.1) (fun q => q.1.2.length) ⟨([], l), rfl⟩ ?_ ?_
      · refine le_of [((68, 0), [(68, 0)]), ((85, 0), [(85, 0)])] ?_ ?_ ?_ <;> simp [AV.ok, Dc.ok, argsT, plT, rulesA, dlC, hk, Ds.app_nil]
      · rintro ⟨⟨a, q⟩, hq⟩
        simp only at hq
        cases q with
        | cons t q =>
          have h1 : a.length < l.length := by rw [← hq]; simp
          have h2 := dp_rules hq
          have ht : t ∈ l := by rw [← hq]; simp
          have hr := h.rs t ht
          have hrl := hr.len
          have hrs := hr.sz
          have hw : IntKind.i64.wrap ((a.length : Int) + 1) = a.length + 1 := by rw [IntKind.wrap_i64]; omega
          have e1 : plT d l.length b1 (a ++ [t]) 0 = (plT d l.length b1 a 0).app (.cons (plOne d l.length b1 t a.length).h (plOne d l.length b1 t a.length).x .nil) := by rw [plT_app, Nat.zero_add]; rfl
          have e2 : argsT (a ++ [t]) = (argsT a).app (.cons (liftTup (typesT t.g t.g 0 0)).h (liftTup (typesT t.g t.g 0 0)).x .nil) := by rw [argsT_app]; rfl
          have q41 := k41 t (by omega) (by omega) hr.fit
          have t1 := typesT_size t.g t.g.length t.g 0 0 (by omega)
          have t2 : szAg t.g * (t.g.length + 1) ≤ 40 * 5 := Nat.mul_le_mul hr.sz (by omega)
          have q170 := k170 (typesT t.g t.g 0 0) (typesT_fits t.g t.g 0 0 hr.fit) (by omega)
          have q17 := h17 (liftsT 1 0 (typesT t.g t.g 0 0)) (liftsT_fits 1 _ 0 (typesT_fits t.g t.g 0 0 hr.fit)) (by rw [liftsT_size]; omega)
          change HH 17 _ (tmO (liftTup (typesT t.g t.g 0 0))) at q17
          have q172 := k172 d b1 1 (ctT a.length l.length) hlv (by omega) hb1 (ctT_fits (by omega) (by omega)) (by have h3 : (ctT a.length l.length).size = 0 := rfl; omega)
          have q173 := k173 d t hr hsl h.sf
          have q171 := k171 (atT d b1 1 (ctT a.length l.length)) (placesT d.s t) (h.atf 1 hb1 (ctT_fits (by omega) (by omega))) (by have := h.ats b1 1 (x := ctT a.length l.length) rfl; omega) (placesT_fits hr h.sf) (by have := placesT_size hr hsl; omega)
          change HH 171 _ (tmL (plOne d l.length b1 t a.length)) at q171
          simp only [sb97]
          generalize plOne d l.length b1 t a.length = P at *
          generalize atT d b1 1 (ctT a.length l.length) = A at *
          generalize placesT d.s t = Q at *
          generalize liftTup (typesT t.g t.g 0 0) = Z at *
          generalize liftsT 1 0 (typesT t.g t.g 0 0) = Y at *
          generalize typesT t.g t.g 0 0 = X at *
          simp [rulesA, h1, h2, rulesDs, dlC, hk]
          refine ⟨by rw [rulesDs_len]; omega, ?_⟩
          refine asks q41 ?_ ?_ ?_ <;> simp [rlL, rlC]
          refine asks q170 ?_ ?_ ?_ <;> simp
          refine asks q17 ?_ ?_ ?_ <;> simp [h1, h2, rulesDs, hB]
          refine ⟨by rw [tDs_len, argsT_len]; omega, by kernel_rfl, ?_⟩
          refine asks (g65 a.length l.length) ?_ ?_ ?_ <;> simp [hB]
          refine asks q172 ?_ ?_ ?_ <;> simp [dlL, dlC, hk, ctT, hB, h2, rulesDs]
          refine ⟨by rw [rulesDs_len]; omega, ?_⟩
          refine asks q173 ?_ ?_ ?_ <;> simp [dlL, dlC, hk, rlL, rlC]
          refine asks q171 ?_ ?_ ?_ <;> simp
          refine ⟨by rw [tDs_len, plT_len]; omega, a ++ [t], q, by simp, by rw [List.append_assoc]; exact hq, ?_⟩
          refine le_of [((68, 0), [(68, 0)]), ((85, 0), [(85, 0)])] ?_ ?_ ?_ <;> simp [AV.ok, Dc.ok, hw, e1, e2, rulesA, dlC, hk]
          exact ⟨by rw [tDs_app]; rfl, by rw [tDs_app]; rfl⟩
        | nil =>
          have e : a = l := by rw [← hq]; simp
          subst e
          have z0 : (vT 0).size = 0 := rfl
          have zM : (finT d.m.length).size = 0 := rfl
          have zR : (finT a.length).size = 0 := rfl
          have fM : (finT d.m.length).fits := finT_fits (by omega)
          have fR : (finT a.length).fits := finT_fits (by omega)
          have sS := h.sts
          have f0 : (vT 0).fits := vT_fits (by decide)
          have q172a := k172 d b1 2 (vT 0) hlv (by omega) hb1 f0 (by omega)
          have s1 := h.ats b1 2 (x := vT 0) rfl
          have q174 := k174 (atT d b1 2 (vT 0)) (sortT d.s) (h.atf 2 hb1 f0) (by omega) h.stf (by omega)
          change HH 174 _ (tmL (codA d b1)) at q174
          have s2 := h.codAs b1
          have q171a := k171 (finT a.length) (codA d b1) fR (by omega) (h.codAf hb1) (by omega)
          change HH 171 _ (tmL (codT d a.length b1)) at q171a
          have q66a := g66 14 (vT 0)
          change HH 66 _ (tmL v14) at q66a
          have s3 := h.cods b1 a.length
          have s4 := h.pls b1
          have z14 : v14.size = 1 := rfl
          have z15 : v15.size = 1 := rfl
          have q19a := g19 (codT d a.length b1) (plT d a.length b1 a 0) v14 (h.codf hb1 (by omega)) (h.plf hb1) v14_fits (by omega) (by rw [plT_len]; omega)
          change HH 19 _ (tmL (c3C d a b1)) at q19a
          have q66b := g66 15 (vT 0)
          change HH 66 _ (tmL v15) at q66b
          have s5 := h.c3Cs b1
          have q176 := k176 (c3C d a b1) v15 (h.c3Cf hb1) (by omega) v15_fits (by omega)
          change HH 176 _ (tmL (c3B d a b1)) at q176
          have q171b := k171 (finT d.m.length) (sortT d.s) fM (by omega) h.stf (by omega)
          change HH 171 _ (tmL (c1P d)) at q171b
          have s6 := h.c1Ps
          have s7 := h.ows
          have q19b := g19 (c1P d) (ownT d.m) (vT 0) h.c1Pf h.owf f0 (by omega) (by rw [ownT_len]; omega)
          change HH 19 _ (tmL (c1B d)) at q19b
          have s8 := h.c1Bs
          have q177a := k177 d (finT d.m.length).ts (sortT d.s) (c1B d) h.pf (by omega) (ts_fits fM) (by rw [ts_size]; omega) h.stf (by omega) h.c1Bf (by omega)
          have q171c := k171 (finT a.length) (sortT d.s) fR (by omega) h.stf (by omega)
          change HH 171 _ (tmL (c2P d a)) at q171c
          have s9 := h.c2Ps
          have s10 := h.ars
          have q19c := g19 (c2P d a) (argsT a) (vT 0) h.c2Pf h.arf f0 (by omega) (by rw [argsT_len]; omega)
          change HH 19 _ (tmL (c2B d a)) at q19c
          have s11 := h.c2Bs
          have q177b := k177 d (finT a.length).ts (sortT d.s) (c2B d a) h.pf (by omega) (ts_fits fR) (by rw [ts_size]; omega) h.stf (by omega) h.c2Bf (by omega)
          have q102 := k102 d base 0 hlv (by omega) (by omega)
          have s12 := h.shs base
          have s13 := h.c3Bs b1
          have q177c := k177 d (shapeT d base 0).ts (sortT d.s) (c3B d a b1) h.pf (by omega) (ts_fits (h.shf base)) (by rw [ts_size]; omega) h.stf (by omega) (h.c3Bf hb1) (by omega)
          have q172b := k172 d (IntKind.i64.wrap (base + 2)) 1 (vT 0) hlv (by omega) (wrapW _) f0 (by omega)
          have q64 := g64 16 (shapeT d base 0) (atT d (IntKind.i64.wrap (base + 2)) 1 (vT 0))
          change HH 64 _ (tmL (c4B d base)) at q64
          have s14 := h.c4Bs base
          have q177d := k177 d .nil (sortT d.s) (c4B d base) h.pf (by omega) trivial (by simp [Ts.size]) h.stf (by omega) (h.c4Bf base) (by omega)
          simp only [codesL, hB]
          clear s1 s2 s3 s4 s5 s6 s7 s8 s9 s10 s11 s12 s13 s14 z0 zM zR z14 z15 fM fR f0 sS
          generalize madeT d (finT d.m.length).ts (sortT d.s) (c1B d) = C1 at *
          generalize madeT d (finT a.length).ts (sortT d.s) (c2B d a) = C2 at *
          generalize madeT d (shapeT d base 0).ts (sortT d.s) (c3B d a b1) = C3 at *
          generalize madeT d .nil (sortT d.s) (c4B d base) = C4 at *
          generalize atT d (IntKind.i64.wrap (base + 2)) 1 (vT 0) = A2 at *
          generalize atT d b1 2 (vT 0) = A1 at *
          generalize shapeT d base 0 = SH at *
          generalize c1B d = B1 at *
          generalize c2B d a = B2 at *
          generalize c3B d a b1 = B3 at *
          generalize c4B d base = B4 at *
          generalize c3C d a b1 = C at *
          generalize c1P d = P1 at *
          generalize c2P d a = P2 at *
          generalize codT d a.length b1 = CT at *
          generalize codA d b1 = CA at *
          generalize v14 = V14 at *
          generalize v15 = V15 at *
          simp only [sb97]
          clear h q169
          generalize sortT d.s = S at *
          generalize ownT d.m = OW at *
          generalize argsT a = AR at *
          generalize plT d a.length b1 a 0 = PL at *
          simp [dlC, hk]
          refine ⟨by kernel_rfl, ?_⟩
          refine asks (g62 a.length) ?_ ?_ ?_ <;> simp [hB]
          refine asks (g175 0) ?_ ?_ ?_ <;> simp
          refine asks q172a ?_ ?_ ?_ <;> simp [dlL, dlC, hk, vT]
          refine asks q174 ?_ ?_ ?_ <;> simp
          refine asks q171a ?_ ?_ ?_ <;> simp [finT]
          refine asks (g175 0) ?_ ?_ ?_ <;> simp
          refine ⟨by kernel_rfl, ?_⟩
          refine asks q66a ?_ ?_ ?_ <;> simp [vT]
          refine asks q19a ?_ ?_ ?_ <;> simp [Ds.app_nil]
          refine asks q66b ?_ ?_ ?_ <;> simp [vT]
          refine asks q176 ?_ ?_ ?_ <;> simp
          refine ⟨by kernel_rfl, ?_⟩
          refine asks (g62 d.m.length) ?_ ?_ ?_ <;> simp
          refine asks (g62 d.m.length) ?_ ?_ ?_ <;> simp
          refine asks q171b ?_ ?_ ?_ <;> simp [finT]
          refine asks q19b ?_ ?_ ?_ <;> simp [vT]
          refine asks q177a ?_ ?_ ?_ <;> simp [dlL, dlC, hk, crL, crC, finT]
          refine asks (g62 a.length) ?_ ?_ ?_ <;> simp
          refine asks (g62 a.length) ?_ ?_ ?_ <;> simp
          refine asks q171c ?_ ?_ ?_ <;> simp [finT]
          refine asks q19c ?_ ?_ ?_ <;> simp [vT, Ds.app_nil]
          refine asks q177b ?_ ?_ ?_ <;> simp [dlL, dlC, hk, crL, crC, finT]
          refine asks q102 ?_ ?_ ?_ <;> simp [dlL, dlC, hk]
          refine asks q177c ?_ ?_ ?_ <;> simp [dlL, dlC, hk, crL, crC]
          refine asks q102 ?_ ?_ ?_ <;> simp [dlL, dlC, hk]
          refine asks q172b ?_ ?_ ?_ <;> simp [dlL, dlC, hk, vT]
          refine asks q64 ?_ ?_ ?_ <;> simp
          refine asks q177d ?_ ?_ ?_ <;> simp [dlL, dlC, hk, crL, crC]
          exact ⟨[], by simp [crsA, crsDs]⟩
end Go.Proofs.YtkcmapimcgppmaaGreatDoor
end
section
namespace Go.Proofs.YtkcmapimcgppmaaGreatDoor
open Go.RowKit
attribute [local simp] ty_p ty_l ty_t kH tDs lvDs Tm.ts finH elemH ac_skip ac_label ac_region ac_seq ac_cond ac_block ac_loop ac_exit ac_ret seqK_n seqK_r seqK_e vo_nil vo_cons blkK loopK callOf vout aout abuiltin aslice ev startSt nmOf St.out putE updo upd contOf freshC K0 asC fillD fieldOf rowD astore aapp srcOf elsOf tb Dc.tk Dc.dp Dc.over Dc.app Dc.ln Dc.ds Dc.sing Dc.cont AV.cont Ds.hd Value.oneCell' retK resOf one1 AV.imp Dc.imp φOf calleeOf AV.isLL AV.list AV.app AV.arg AV.isL AV.ren Dc.ren Dc.lent tmC tmA tsA iA lo? abin AV.nth Dc.own Dc.toks stOf envOf bxOf τOf
attribute [local simp] AV.room amake agC lentAgC Ds.len Ds.dp

theorem k49 (n : Int) : HH 49 [iA n] (.agg (.lit (.int .i64 1) (.lit (.int .i64 n) (.lit (.int .i64 0) (.nilr 1 43 (.nilr 5 26 .nil)))))) := by
  refine ab Tryz.func49 Tryz.ntmps49 Tryz.results49 rfl (by decide) (by simp) rfl rfl ?_
  simp
  exact ⟨[], by simp⟩
theorem k50 (k : Int) (x : Ts) : HH 50 [iA k, tsA none x] (tmL ⟨kH k, x⟩) := by
  refine ab Tryz.func50 Tryz.ntmps50 Tryz.results50 rfl (by decide) (by simp) rfl rfl ?_
  simp
  exact ⟨[], by simp⟩
theorem k168 (c : Cr) : HH 168 [crL c, crL c] (.v (.bool true)) := by
  refine ab Tryz.func168 Tryz.ntmps168 Tryz.results168 rfl (by decide) (by simp) rfl rfl ?_
  simp [crL, crC]
  refine asks (k16 c.t) ?_ ?_ ?_ <;> simp
  refine asks (k16 c.b) ?_ ?_ ?_ <;> simp
  exact ⟨[], by simp⟩
theorem crsDs_len (l : List Cr) : (crsDs l).len = l.length * 12 := by
  induction l with
  | nil => rfl
  | cons a r ih => simp [crsDs, Ds.len, ih]; omega
theorem crsDs_app (a b : List Cr) : crsDs (a ++ b) = (crsDs a).app (crsDs b) := by
  induction a with
  | nil => rfl
  | cons x r ih => simp [crsDs, Ds.app, ih]
theorem dp_crs {l a b : List Cr} (h : a ++ b = l) : (crsDs l).dp (a.length * 12) = crsDs b := by
  rw [← h, crsDs_app, ← crsDs_len a, Ds.dp_app]
def st96 (l : List Cr) (k : Nat) : St := stOf [(0, crsA l), (1, crsA l), (5, iA k)] [] []
set_option maxRecDepth 10000 in
theorem k96 (l : List Cr) (hl : l.length ≤ 1000000) : HH 96 [crsA l, crsA l] (.v (.bool true)) := by
  have d0 : l.length * 12 / 12 = l.length := by omega
  refine ab Tryz.func96 Tryz.ntmps96 Tryz.results96 rfl (by decide) (by simp) rfl rfl ?_
  simp [crsA, crsDs_len, d0]
  refine lp (α := { q : List Cr × List Cr // q.1 ++ q.2 = l }) (fun q => st96 l q.1.1.length) (fun q => q.1.2.length) ⟨([], l), rfl⟩ ?_ ?_
  · refine le_of [] ?_ ?_ ?_ <;> simp [AV.ok, Dc.ok, crsA]
  · rintro ⟨⟨a, q⟩, hq⟩
    simp only at hq
    cases q with
    | nil =>
      have e : a = l := by rw [← hq]; simp
      subst e
      simp [st96, crsA, crsDs_len, d0]
      exact ⟨[], by simp⟩
    | cons t q =>
      have h1 : a.length < l.length := by rw [← hq]; simp
      have h2 := dp_crs hq
      have hw : IntKind.i64.wrap ((a.length : Int) + 1) = a.length + 1 := by rw [IntKind.wrap_i64]; omega
      simp [st96, crsA, crsDs_len, d0, h1, h2, crsDs, hw]
      refine ⟨by kernel_rfl, by omega, ?_⟩
      refine asks (k168 t) ?_ ?_ ?_ <;> simp [crL, crC, hw]
      refine ⟨a ++ [t], q, by simp, by rw [List.append_assoc]; exact hq, ?_⟩
      refine le_of [] ?_ ?_ ?_ <;> simp [AV.ok, Dc.ok, hw, crsA]
theorem sl_c {d : Dc} (h : (match d with | .row _ _ _ _ .nil => true | _ => false) = true) : ∀ g v, RepV g (.c d) [v] → ∃ p n c, v = .slice p n c := by
  intro g v hv
  cases d with
  | row k sz e x r =>
    cases r with
    | nil =>
      obtain ⟨-, v1, _, e1, h1, -⟩ := hv
      cases e1
      obtain ⟨p, n, c, rfl, -⟩ := id h1
      exact ⟨p, n, c, rfl⟩
    | _ => simp at h
  | _ => simp at h
theorem k30 (d : Dl) (l : List Rl) (base : Int) (h : SmallD d l) : HH 30 [dlL d, rulesA l, iA base] (crsA (codesL d l base)) := by
  have q79 := triedC_holds (g := 80) (x := .nil) (y := .cons (.el (dlC d).ds) (.cons (.el (.row 3 65 (rulesDs l) .nil .nil)) (.cons (.el (.lit (.int .i64 base) .nil)) .nil))) rfl rfl rfl (k80 d l base h) (sl_c rfl)
  change HH 79 _ (crsA (codesL d l base)) at q79
  generalize codesL d l base = C at *
  refine ab Tryz.func30 Tryz.ntmps30 Tryz.results30 rfl (by decide) (by simp) rfl rfl ?_
  simp [dlL, rulesA]
  refine asks q79 ?_ ?_ ?_ <;> simp [crsA]
  · exact ⟨⟨_, _, ⟨rfl, rfl⟩, rfl⟩, ⟨_, _, ⟨rfl, rfl⟩, rfl⟩, ⟨_, _, ⟨rfl, rfl⟩, rfl⟩⟩
  exact ⟨[], by simp⟩
set_option maxRecDepth 10000 in
theorem k31 (d : Dl) (l : List Rl) (base far : Int) (h : SmallD d l) (hb : fW base) : HH 31 [dlL d, rulesA l, iA base, iA far] (.v (.bool true)) := by
  have hlv := h.lv
  have hps := h.ps
  have hml := h.ml
  have hll := h.ll
  have hlc := h.lc
  have q30 := k30 d l base h
  have q97 := k97 d l base h
  have q96 := k96 (codesL d l base) (by show 4 ≤ 1000000; decide)
  have q98 := k98 d base far hlv (by omega) hb
  have q99 := k99 d base far hlv (by omega) hb
  have q100 := k100 d base far hlv (by omega) hb (by omega)
  have q101 := k101 d base far hlv (by omega) hb
  have q93 := k93 d base far hlv (by omega) (by omega)
  have q102 := k102 d base far hlv (by omega) (by omega)
  generalize codesL d l base = C at *
  generalize constT d base far = T1 at *
  generalize indexT d base far = T2 at *
  generalize shapeT d base far = T3 at *
  refine ab Tryz.func31 Tryz.ntmps31 Tryz.results31 rfl (by decide) (by simp) rfl rfl ?_
  simp [dlL, dlC, rulesA]
  refine ⟨by kernel_rfl, ?_⟩
  refine asks q30 ?_ ?_ ?_ <;> simp [dlL, dlC, rulesA, crsA]
  refine asks q97 ?_ ?_ ?_ <;> simp [dlL, dlC, rulesA, crsA]
  refine asks q96 ?_ ?_ ?_ <;> simp [crsA]
  refine asks q98 ?_ ?_ ?_ <;> simp [dlL, dlC]
  refine asks q99 ?_ ?_ ?_ <;> simp [dlL, dlC]
  refine asks (k16 T1) ?_ ?_ ?_ <;> simp
  refine asks q100 ?_ ?_ ?_ <;> simp [dlL, dlC]
  refine asks q101 ?_ ?_ ?_ <;> simp [dlL, dlC]
  refine asks (k16 T2) ?_ ?_ ?_ <;> simp
  refine asks q93 ?_ ?_ ?_ <;> simp [dlL, dlC]
  refine asks q102 ?_ ?_ ?_ <;> simp [dlL, dlC]
  refine asks (k16 T3) ?_ ?_ ?_ <;> simp
  exact ⟨[], by simp⟩
end Go.Proofs.YtkcmapimcgppmaaGreatDoor
end
section
namespace Go.Proofs.YtkcmapimcgppmaaGreatDoor
open Go.RowKit

theorem tele_both (r : Rl) (v : Ts) (far i : Int) (hr : Small r) (hv : v.fits) (hvs : v.size ≤ 100) : ∃ X, HH 38 [rlL r, iA i, tsA none v, iA far] (tsA (some (0, 0)) X) ∧ HH 42 [rlL r, iA i, tsA none v, iA far] (tsA none X) := by
  have h1 := hr.len
  have h2 := hr.sz
  by_cases ho : i < 0 ∨ (r.g.length : Int) ≤ i
  · exact ⟨.nil, k38_out r v far i ho, k42_out r v far i (by omega) ho⟩
  · obtain ⟨k, rfl⟩ := Int.eq_ofNat_of_zero_le (a := i) (by omega)
    have hk : k < r.g.length := by omega
    have m1 : k * (v.size + 1) ≤ 4 * 101 := Nat.mul_le_mul (by omega) (by omega)
    exact ⟨_, k38 r v far k hk (by omega) (by omega) hr.fit hv (by omega) (by omega), k42 r v far k hk (by omega) (by omega) hr.fit hv (by omega) (by omega)⟩
theorem index_both (r : Rl) (v : Ts) (far i : Int) (hr : Small r) (hv : v.fits) (hvs : v.size ≤ 100) : ∃ X, HH 39 [rlL r, iA i, tsA none v, iA far] (tsA (some (0, 0)) X) ∧ HH 43 [rlL r, iA i, tsA none v, iA far] (tsA none X) := by
  have h1 := hr.len
  have h2 := hr.sz
  by_cases ho : i < 0 ∨ (r.g.length : Int) ≤ i
  · exact ⟨.nil, k39_out r v far i ho, k43_out r v far i (by omega) ho⟩
  · obtain ⟨k, rfl⟩ := Int.eq_ofNat_of_zero_le (a := i) (by omega)
    have hk : k < r.g.length := by omega
    have m1 : k * (v.size + 1) ≤ 4 * 101 := Nat.mul_le_mul (by omega) (by omega)
    exact ⟨_, k39 r v far k hk (by omega) (by omega) hr.fit hv (by omega) (by omega), k43 r v far k hk (by omega) (by omega) hr.fit hv (by omega) (by omega)⟩
theorem end_both (r : Rl) (v : Ts) (far : Int) (hr : Small r) (hv : v.fits) (hvs : v.size ≤ 100) : ∃ X, HH 40 [rlL r, tsA none v, iA far] (tsA (some (0, 0)) X) ∧ HH 44 [rlL r, tsA none v, iA far] (tsA none X) := by
  have h1 := hr.len
  have h2 := hr.isz
  have m1 : r.g.length * (v.size + 1) ≤ 4 * 101 := Nat.mul_le_mul (by omega) (by omega)
  exact ⟨_, k40 r v far (by omega) hv (by omega) (by omega) hr.ifit (by omega), k44 r v far (by omega) hv (by omega) (by omega) hr.ifit (by omega)⟩
theorem types_both (r : Rl) (hr : Small r) : ∃ X, HH 37 [rlL r] (tsA (some (0, 0)) X) ∧ HH 41 [rlL r] (tsA none X) := by
  have h1 := hr.len
  have h2 := hr.sz
  exact ⟨_, k37 r (by omega) (by omega) hr.fit, k41 r (by omega) (by omega) hr.fit⟩
def zeroT : Tm := ⟨⟨0, 0, 0, []⟩, .nil⟩
theorem zeroT_fits : zeroT.fits := ⟨num_fits (by decide) (by decide) (by decide), trivial⟩
def okA (a : Ag) : Prop := a.t.fits ∧ a.e.fits ∧ a.i.fits ∧ a.t.size + a.e.size + a.i.size ≤ 9
/-- Types of params. -/
def parT : Nat → Ts
  | 0 => .nil
  | i + 1 => (parT i).app (.cons ⟨1, ((i - 1 : Nat) : Int), 0, []⟩ .nil .nil)
theorem parT_len : ∀ i, (parT i).len = i
  | 0 => rfl
  | i + 1 => by simp [parT, Ts.app_len, parT_len i, Ts.len]
theorem parT_size : ∀ i, (parT i).size = i
  | 0 => rfl
  | i + 1 => by simp [parT, size_app, parT_size i, Ts.size, lvSize]
theorem parT_fits : ∀ i, i ≤ 1000 → (parT i).fits
  | 0, _ => trivial
  | i + 1, h => fits_app (parT_fits i (by omega)) ⟨num_fits (by decide) (by omega) (by decide), trivial, trivial⟩
/-- A member's index. -/
def idxT (p : Nat) : Nat → Ts
  | 0 => .nil
  | j + 1 => (idxT p j).app (.cons ⟨1, (j : Int) + p, 0, []⟩ .nil .nil)
theorem idxT_len (p : Nat) : ∀ i, (idxT p i).len = i
  | 0 => rfl
  | i + 1 => by simp [idxT, Ts.app_len, idxT_len p i, Ts.len]
theorem idxT_size (p : Nat) : ∀ i, (idxT p i).size = i
  | 0 => rfl
  | i + 1 => by simp [idxT, size_app, idxT_size p i, Ts.size, lvSize]
theorem idxT_fits (p : Nat) (hp : p ≤ 1000) : ∀ i, i ≤ 1000 → (idxT p i).fits
  | 0, _ => trivial
  | i + 1, h => fits_app (idxT_fits p hp i (by omega)) ⟨num_fits (by decide) (by omega) (by decide), trivial, trivial⟩
/-- Members. -/
def memL (p x : Nat) : Nat → List Ts
  | 0 => []
  | i + 1 => memL p x i ++ [idxT p (x * (i % 2))]
theorem memL_len (p x : Nat) : ∀ i, (memL p x i).length = i
  | 0 => rfl
  | i + 1 => by simp [memL, memL_len p x i]
theorem memL_ok (p x : Nat) (hp : p ≤ 1000) (hx : x ≤ 2) : ∀ i, ∀ t ∈ memL p x i, t.fits ∧ t.size ≤ 100
  | 0, t, h => by simp [memL] at h
  | i + 1, t, h => by
    rcases List.mem_append.1 h with h | h
    · exact memL_ok p x hp hx i t h
    · simp at h
      subst h
      have h1 : x * (i % 2) ≤ 2 * 1 := Nat.mul_le_mul hx (by omega)
      exact ⟨idxT_fits p hp _ (by omega), by rw [idxT_size]; omega⟩
def two (a b : Tm) : Ts := .cons a.h a.x (.cons b.h b.x .nil)
/-- The first of two. -/
def takeN : Nat → Ts → Ts
  | 0, _ => .nil
  | _ + 1, .nil => .nil
  | n + 1, .cons h x r => .cons h x (takeN n r)
theorem takeN_fits : ∀ (n : Nat) (t : Ts), t.fits → (takeN n t).fits
  | 0, _, _ => trivial
  | _ + 1, .nil, _ => trivial
  | n + 1, .cons h x r, hf => ⟨hf.1, hf.2.1, takeN_fits n r hf.2.2⟩
theorem takeN_size : ∀ (n : Nat) (t : Ts), (takeN n t).size ≤ t.size
  | 0, _ => Nat.zero_le _
  | _ + 1, .nil => Nat.le_refl _
  | n + 1, .cons h x r => by
    have := takeN_size n r
    simp only [takeN, Ts.size]
    omega
theorem tk_takeN (n : Nat) (t : Ts) : Ds.tk (n * 5) (tDs ty t) = tDs ty (takeN n t) := by
  induction n generalizing t with
  | zero => cases t <;> simp [takeN, tDs, Ds.tk]
  | succ n ih =>
    cases t with
    | nil =>
      rw [show (n + 1) * 5 = n * 5 + 4 + 1 by omega]
      rfl
    | cons h x r =>
      have e : (n + 1) * 5 = n * 5 + 1 + 1 + 1 + 1 + 1 := by omega
      rw [e]
      simp only [tDs, Ds.tk, takeN, ih]
theorem idx_ex (a b j i : Nat) (ha : a ≤ 16) (hb : b ≤ 8) (hj : j ≤ 2) (hi : i ≤ 1) : ∃ x : Nat, x < 4 ∧ (IntKind.i64.wrap (IntKind.i64.wrap ((a : Int) + IntKind.i64.wrap ((b : Int) * (j : Int))) + (i : Int))).tmod 4 = (x : Int) := by
  have h1 : b * j ≤ 8 * 2 := Nat.mul_le_mul hb hj
  have e1 : (b : Int) * (j : Int) = ((b * j : Nat) : Int) := by simp
  generalize b * j = c at *
  have e2 : IntKind.i64.wrap (c : Int) = (c : Int) := by rw [IntKind.wrap_i64]; omega
  have e3 : IntKind.i64.wrap ((a : Int) + (c : Int)) = ((a + c : Nat) : Int) := by rw [IntKind.wrap_i64]; omega
  have e4 : IntKind.i64.wrap (((a + c : Nat) : Int) + (i : Int)) = ((a + c + i : Nat) : Int) := by rw [IntKind.wrap_i64]; omega
  rw [e1, e2, e3, e4]
  exact ⟨(a + c + i) % 4, by omega, rfl⟩
theorem small_of {m : Int} {g : List Ag} {ix : Ts} (hl : g.length ≤ 3) (hg : ∀ a ∈ g, okA a) (hs : ix.size ≤ 10) (hf : ix.fits) : Small ⟨m, g, ix⟩ := by
  have key : ∀ l : List Ag, (∀ a ∈ l, okA a) → szAg l ≤ 10 * l.length := by
    intro l
    induction l with
    | nil => intro _; exact Nat.le_refl _
    | cons a r ih =>
      intro h
      have h1 := ih fun b hb => h b (by simp [hb])
      have h2 := (h a (by simp)).2.2.2
      have e : szAg (a :: r) = 1 + a.t.size + a.e.size + a.i.size + szAg r := by simp [szAg]
      rw [e, List.length_cons]
      omega
  have := key g hg
  exact ⟨by simp only; omega, by simp only; omega, by simp only; omega, fun a ha => ⟨(hg a ha).1, (hg a ha).2.1, (hg a ha).2.2.1⟩, hf⟩
end Go.Proofs.YtkcmapimcgppmaaGreatDoor
end
