/-
  A step of the reading: a word or a sign, to open rows of trees. Conditions: no more than 401 rows, none longer than 1000000.
-/
import Derived.Test.YtgkmhdifjgpbeaaDoorPut
import Derived.Test.YtgkmhdifjgpbeaaDoorWtr
import Derived.Test.YtgkmhdifjgpbeaaDoorRefSize
namespace Go.Proofs.YtgkmhdifjgpbeaaDoor
open Go.RowKit

/-- Open rows (the innermost first), behind a word or a sign; or an error's number. -/
def step (st : List Ts) (s : ByteArray) : Except Int (List Ts) :=
  if s.data.toList = [40] then (if st.length ≤ 400 then .ok (.nil :: st) else .error 3)
  else if s.data.toList = [41] then (match st with
    | t :: u :: r => .ok (u.snoc ⟨#[]⟩ t :: r)
    | _ => .error 4)
  else if st.length ≤ 400 then (match st with
    | t :: r => .ok (t.snoc s .nil :: r)
    | [] => .error 4)
  else .error 3

/-- The reader: its rows, the blocks that may still turn. -/
def RdAt (X : List Nat) (w : World) (base rb : Nat) (S : List Nat) (st : List Ts) : Prop :=
  rb < w.heap.size ∧ rb ∉ S ∧ w.frozen? ⟨rb, 0, none⟩ = false ∧ ∃ g c vs, S = blocks (.slice (some ⟨g, 0, none⟩) vs.length c) vs ∧
    w.cell? ⟨rb, 0, none⟩ = some (.slice (some ⟨g, 0, none⟩) vs.length c) ∧ StkT (rb :: X) w base 41 23 (.slice (some ⟨g, 0, none⟩) vs.length c) vs st.reverse

def TokSays (X : List Nat) (w : World) (base rb : Nat) (S : List Nat) (st : List Ts) (s : ByteArray) (e : Ending) (w' : World) : Prop :=
  Mv (rb :: S) w w' ∧ match step st s with
    | .ok st' => e = .returned (.tuple #[]) ∧ ∃ S', RdAt X w' base rb S' st' ∧ ∀ b ∈ S', b ∈ S ∨ w.heap.size ≤ b
    | .error n => e = .panicked (thrown n)

theorem bytes_ne {s : ByteArray} {l : List UInt8} (h : ¬ s.data.toList = l) : (s.toList == l) = false := by
  rw [ByteArray.toList_eq]; simpa using h
theorem bytes_eq {s : ByteArray} {l : List UInt8} (h : s.data.toList = l) : (s.toList == l) = true := by
  rw [ByteArray.toList_eq]; simpa using h

theorem RdAt.open_ {X : List Nat} {w : World} {base rb : Nat} {S : List Nat} {t : Ts} {st : List Ts} (h : RdAt X w base rb S (t :: st)) :
    rb < w.heap.size ∧ rb ∉ S ∧ w.frozen? ⟨rb, 0, none⟩ = false ∧ ∃ g c vs v, S = blocks (.slice (some ⟨g, 0, none⟩) (vs.length + 1) c) (vs ++ [v]) ∧ vs.length = st.length ∧
      w.cell? ⟨rb, 0, none⟩ = some (.slice (some ⟨g, 0, none⟩) (vs.length + 1) c) ∧ StkT (rb :: X) w base 41 23 (.slice (some ⟨g, 0, none⟩) (vs.length + 1) c) (vs ++ [v]) (st.reverse ++ [t]) := by
  obtain ⟨h1, h2, h3, g, c, vs, rfl, hc, hs⟩ := h
  rw [List.reverse_cons] at hs
  have hl := hs.len
  simp at hl
  have hne : vs ≠ [] := by intro e; subst e; simp at hl
  obtain ⟨vs0, v, rfl⟩ : ∃ vs0 v, vs = vs0 ++ [v] := ⟨vs.dropLast, vs.getLast hne, (List.dropLast_concat_getLast hne).symm⟩
  rw [List.length_append, List.length_singleton] at hc hs h2 hl
  rw [List.length_append, List.length_singleton]
  exact ⟨h1, h2, h3, g, c, vs0, v, rfl, by omega, hc, hs⟩

theorem Mv.wide2 {S S' : List Nat} {w w' : World} (h : Mv S w w') (hs : ∀ b, b ∈ S → b ∈ S') : Mv S' w w' := h.wide (fun b hb => .inl (hs b hb))

/-- The reader behind a put. -/
theorem RdAt.put {X : List Nat} {w w' : World} {base rb g c : Nat} {vs : List Value} {v : Value} {t x : Ts} {st : List Ts} {wd : ByteArray} (hp : PutSays (rb :: X) w base 41 23 g c vs v st.reverse t x wd w')
    (hrb : rb < w.heap.size) (hn : rb ∉ blocks (.slice (some ⟨g, 0, none⟩) (vs.length + 1) c) (vs ++ [v])) (hf : w.frozen? ⟨rb, 0, none⟩ = false)
    (hc : w.cell? ⟨rb, 0, none⟩ = some (.slice (some ⟨g, 0, none⟩) (vs.length + 1) c)) :
    Mv (rb :: blocks (.slice (some ⟨g, 0, none⟩) (vs.length + 1) c) (vs ++ [v])) w w' ∧ ∃ S', RdAt X w' base rb S' (t.snoc wd x :: st) ∧ ∀ b ∈ S', b ∈ blocks (.slice (some ⟨g, 0, none⟩) (vs.length + 1) c) (vs ++ [v]) ∨ w.heap.size ≤ b := by
  obtain ⟨v', h1, h2, h3⟩ := hp
  refine ⟨h2.wide2 (fun b hb => List.mem_cons_of_mem _ hb), _, ⟨Nat.lt_of_lt_of_le hrb h2.size, fun hb => ?_, (h2.frozen hrb hn).trans hf, g, c, vs ++ [v'], rfl, ?_, ?_⟩, ?_⟩
  · rw [List.length_append, List.length_singleton] at hb
    rcases h3 rb hb with h | h
    · exact hn h
    · omega
  · rw [List.length_append, List.length_singleton]; exact (h2.cell hrb hn).trans hc
  · rw [List.length_append, List.length_singleton, List.reverse_cons]; exact h1
  · rw [List.length_append, List.length_singleton]; exact h3

set_option maxRecDepth 100000 in
set_option maxHeartbeats 4000000 in
theorem tok_plain (X : List Nat) (w : World) (base rb : Nat) (S : List Nat) (t : Ts) (st : List Ts) (s : ByteArray) (h : RdAt X w base rb S (t :: st)) (hs : s.size ≤ 140737488355328) (h1 : ¬ s.data.toList = [40]) (h2 : ¬ s.data.toList = [41])
    (hl : st.length ≤ 400) (ht : t.len ≤ 1000000) :
    Calls Tryd.prog 30 #[.pointer (some ⟨rb, 0, none⟩), .string s] w (TokSays X w base rb S (t :: st) s) := by
  obtain ⟨hrb, hrn, hrf, g, c, vs, v, rfl, hvl, hcell, hst⟩ := h.open_
  have q1 := bytes_ne h1
  have q2 := bytes_ne h2
  have HN := Lib.hid hrn
  have HC := Lib.hid (put_any (rb :: X) w base g c v none 0 0 t .nil s vs st.reverse hst hs (Sl.none_ _ _ _) (by omega) ht)
  have hvl2 : vs.length ≤ 400 := by omega
  have HE : Hid (step (t :: st) s = if vs.length + 1 ≤ 400 then .ok (t.snoc s .nil :: st) else .error 3) := by unfold Hid step; rw [if_neg h1, if_neg h2, hvl]; rfl
  clear hst hrn h h1 h2 hvl hl
  by_cases h400 : vs.length + 1 ≤ 400
  · have r1 : decide (((vs.length : Int) + 1) ≤ 400) = true := decide_eq_true (by omega)
    go_enter Tryd.func30, Tryd.ntmps30
    go_wp2_with fail
    refine (must_ok _ _).mono ?_
    rintro e w' ⟨rfl, rfl⟩
    go_wp2_with fail
    refine HC.out.mono ?_
    rintro e w' ⟨rfl, hp⟩
    have HP := Lib.hid hp
    clear hp
    go_wp2_with fail
    go_end0
    obtain ⟨m1, m2⟩ := RdAt.put HP.out hrb HN.out hrf hcell
    refine ⟨m1, ?_⟩
    rw [HE.out, if_pos h400]
    exact ⟨rfl, m2⟩
  · have r1 : decide (((vs.length : Int) + 1) ≤ 400) = false := decide_eq_false (by omega)
    go_enter Tryd.func30, Tryd.ntmps30
    go_wp2_with fail
    refine (must_no _ _).mono ?_
    rintro e w' ⟨rfl, rfl⟩
    refine ⟨rfl, Mv.refl _ _, ?_⟩
    rw [HE.out, if_neg h400]

theorem info23 : (Tryd.prog.info? 23).map (fun i => (i.zero, i.size, i.bytes)) = some (some (.slice none 0 0), 1, 24) := by kernel_rfl

set_option maxRecDepth 100000 in
set_option maxHeartbeats 4000000 in
theorem tok_open (X : List Nat) (w : World) (base rb : Nat) (S : List Nat) (t : Ts) (st : List Ts) (h : RdAt X w base rb S (t :: st)) (hl : st.length ≤ 400) :
    Calls Tryd.prog 30 #[.pointer (some ⟨rb, 0, none⟩), .string ⟨#[40]⟩] w (TokSays X w base rb S (t :: st) ⟨#[40]⟩) := by
  obtain ⟨i0, hi0, hz0, hz1, hz2⟩ := info_parts info23
  obtain ⟨hrb, hrn, hrf, g, c, vs, v, rfl, hvl, hcell, hst⟩ := h.open_
  have HN := Lib.hid hrn
  have HST := Lib.hid hst
  have htop := hst.top
  rw [List.length_append, List.length_singleton] at htop
  have hgb := htop.lt g rfl
  have hrg : rb ≠ g := fun e1 => hrn (List.mem_append.2 (.inl (mem_own.2 (by rw [e1]; rfl))))
  have HVL := Lib.hid hvl
  have hvl2 : vs.length ≤ 400 := by omega
  have HE : Hid (step (t :: st) ⟨#[40]⟩ = if vs.length + 1 ≤ 400 then .ok (.nil :: t :: st) else .error 3) := by unfold Hid step; rw [if_pos rfl, hvl]; rfl
  clear hst hrn h hvl hl
  by_cases h400 : vs.length + 1 ≤ 400
  · have r1 : decide (((vs.length : Int) + 1) ≤ 400) = true := decide_eq_true (by omega)
    have C3 : Hid (vs.length + 1 + 1 ≤ maxLen) := by unfold Hid maxLen; omega
    have C4 : Hid ((vs.length + 1 + 1) * 24 ≤ 140737488355328) := by unfold Hid; omega
    have C5 : Hid (base ≤ (w.alloc (.cells #[.slice none 0 0] 23)).heap.size) := by unfold Hid; simp; omega
    have C6 : Hid (∀ (w2 : World), (w.alloc (.cells #[.slice none 0 0] 23)).grownBy w2 (some g) → w2.cell? ⟨rb, 0, none⟩ = some (.slice (some ⟨g, 0, none⟩) (vs.length + 1) c) ∧ w2.frozen? ⟨rb, 0, none⟩ = false) := fun w2 hg => by
      have hb : w2.heap[rb]? = w.heap[rb]? := (hg.block rb (by simp; omega) (by simp; omega)).trans ((World.grownBy_alloc w _ none).block rb hrb (by simp))
      exact ⟨(World.cell?_of_block (a := ⟨rb, 0, none⟩) hb).trans hcell, (World.frozen?_of_block (a := ⟨rb, 0, none⟩) hb).trans hrf⟩
    go_enter Tryd.func30, Tryd.ntmps30
    go_wp2_with fail
    refine (must_ok _ _).mono ?_
    rintro e w' ⟨rfl, rfl⟩
    go_wp2_with (at_builtin; refine wpList_append_lies _ rfl (.tmp 34) (.tmp 35) 58 rfl base 23 i0 (.slice none 0 0) 1 24 Tryd.underlying58 hi0 hz0 hz1 hz2 rfl (by decide) (.slice (some ⟨g, 0, none⟩) (vs.length + 1) c) (vs.length + 1) (vs ++ [v]) rfl (htop.alloc _) ⟨w.heap.size, 0, none⟩ 1 1 [.slice none 0 0] rfl rfl (new_cells _ _ _) (by simp [Value.oneCell']) (by decide) C3.out C4.out C5.out (w.heap.size + 1) (by simp) ?_; intro gg cap w2 hown2 hg2 hat2 hlt2; have HOWN := Lib.hid hown2; have HG := Lib.hid hg2; obtain ⟨k1, k2⟩ := C6.out w2 hg2; clear hown2 hg2)
    go_end0
    have hM0 : Mv (own (.slice (some ⟨g, 0, none⟩) (vs.length + 1) c)) w w2 := ((Mv.refl _ w).alloc _).grown HG.out (fun k hk => .inl (mem_own.2 hk))
    obtain ⟨p1, p2⟩ := HST.out.push hM0 (by rw [List.length_append, List.length_singleton]; exact HOWN.out) (by
      rcases hat2 with h1 | h1
      · exact .inl h1.symm
      · exact .inr ⟨gg, rfl, by omega⟩)
    have hrb2 : rb < w2.heap.size := Nat.lt_of_lt_of_le hrb hM0.size
    have hM1 := (Mv.refl (rb :: X) w2).store (b := rb) (.inl List.mem_cons_self) 0 (.slice (some ⟨gg, 0, none⟩) (vs.length + 1 + 1) cap)
    have p3 := p1.move hM1
    have hgl : own (.slice (some ⟨g, 0, none⟩) (vs.length + 1) c) = [g] := rfl
    refine ⟨((hM0.wide2 (fun b hb => ?_)).trans ((Mv.refl _ w2).store (b := rb) (.inl List.mem_cons_self) 0 _)), ?_⟩
    · exact List.mem_cons_of_mem _ (List.mem_append.2 (.inl hb))
    · rw [HE.out, if_pos h400]
      refine ⟨rfl, _, ⟨by simpa using hrb2, fun hb => ?_, by rw [World.frozen?_setCell]; exact k2, gg, cap, vs ++ [v] ++ [.slice none 0 0], rfl, ?_, ?_⟩, ?_⟩
      · simp only [List.length_append, List.length_singleton] at hb
        rcases p2 rb hb with h1 | h1
        · exact HN.out h1
        · omega
      · simp only [List.length_append, List.length_singleton]
        exact World.cell?_setCell_same' _ _ _ (by rw [k1]; rfl)
      · simp only [List.length_append, List.length_singleton, List.reverse_cons] at p3 ⊢
        exact p3
      · simp only [List.length_append, List.length_singleton]
        exact p2
  · have r1 : decide (((vs.length : Int) + 1) ≤ 400) = false := decide_eq_false (by omega)
    go_enter Tryd.func30, Tryd.ntmps30
    go_wp2_with fail
    refine (must_no _ _).mono ?_
    rintro e w' ⟨rfl, rfl⟩
    refine ⟨rfl, Mv.refl _ _, ?_⟩
    rw [HE.out, if_neg h400]

set_option maxRecDepth 100000 in
set_option maxHeartbeats 4000000 in
theorem tok_close (X : List Nat) (w : World) (base rb : Nat) (S : List Nat) (t : Ts) (st : List Ts) (h : RdAt X w base rb S (t :: st)) (hl : st.length ≤ 400) (hu : ∀ u ∈ st, u.len ≤ 1000000) :
    Calls Tryd.prog 30 #[.pointer (some ⟨rb, 0, none⟩), .string ⟨#[41]⟩] w (TokSays X w base rb S (t :: st) ⟨#[41]⟩) := by
  obtain ⟨hrb, hrn, hrf, g, c, vs, v, rfl, hvl, hcell, hst⟩ := h.open_
  have HN := Lib.hid hrn
  have HST := Lib.hid hst
  have htop := hst.top
  rw [List.length_append, List.length_singleton] at htop
  have hgb := htop.lt g rfl
  have hrg : rb ≠ g := fun e1 => hrn (List.mem_append.2 (.inl (mem_own.2 (by rw [e1]; rfl))))
  have hvl2 : vs.length ≤ 400 := by omega
  cases st with
  | nil =>
    have hv0 : vs.length = 0 := hvl
    have hvs : vs = [] := List.eq_nil_of_length_eq_zero hv0
    subst hvs
    clear hst htop hrn h hvl hv0
    go_enter Tryd.func30, Tryd.ntmps30
    go_wp2_with fail
    refine (must_no _ _).mono ?_
    rintro e w' ⟨rfl, rfl⟩
    exact ⟨rfl, Mv.refl _ _, rfl⟩
  | cons u r =>
    have hvl3 : vs.length = r.length + 1 := hvl
    have HVL := Lib.hid hvl3
    obtain ⟨pv, nv, cv, rfl⟩ : ∃ pv nv cv, v = .slice pv nv cv := by
      obtain ⟨xs, hr, hc⟩ := hst.last
      rcases hr.2 with ⟨rfl, h0⟩ | ⟨gv, cap, cur, rfl, _⟩
      · exact ⟨none, 0, 0, rfl⟩
      · exact ⟨_, _, _, rfl⟩
    have hpos : 0 < vs.length := by omega
    have hgc : w.cell? ⟨g, vs.length, none⟩ = some (.slice pv nv cv) := by
      have := htop.cellAt vs.length (by omega)
      rw [List.getElem?_append_right (Nat.le_refl _), Nat.sub_self] at this
      exact this
    have hi1 : (vs.length : Int) < ((vs.length + 1 : Nat) : Int) := by omega
    have hi2 : (vs.length : Int) < (vs.length : Int) + 1 := by omega
    have r1 : decide (0 < (vs.length : Int)) = true := decide_eq_true (by omega)
    have hgc2 : (vs.length : Int) + 1 ≤ (c : Int) := by
      rcases htop.2 with ⟨h', _⟩ | ⟨g', cap', cur, h', _, _, hnc, _⟩
      · cases h'
      · cases h'; omega
    obtain ⟨p1, p2, p3⟩ := hst.pop
    have hne : vs ≠ [] := by intro e; subst e; simp at hpos
    obtain ⟨vs0, v0, hvs⟩ : ∃ vs0 v0, vs = vs0 ++ [v0] := ⟨vs.dropLast, vs.getLast hne, (List.dropLast_concat_getLast hne).symm⟩
    have hvn : vs.length = vs0.length + 1 := by rw [hvs]; simp
    have HC : Hid (∀ W', Mv (rb :: X) w W' → Calls Tryd.prog 53 #[.slice (some ⟨g, 0, none⟩) vs.length c, .agg #[.string ⟨#[]⟩, .slice pv nv cv]] W' fun e w' => e = .returned (.tuple #[]) ∧ PutSays (rb :: X) W' base 41 23 g c vs0 v0 r.reverse u t ⟨#[]⟩ w') := fun W' hm => by
      have q1 := p1.move hm
      rw [List.reverse_cons, hvn, hvs] at q1
      have q2 := p2.mono (F' := Fx W' ((rb :: X) ++ blocks (.slice (some ⟨g, 0, none⟩) vs.length c) vs)) (fun b o u _ _ hu => Fx_move hm (fun b hb => .inl hb) (fun b hb => List.mem_append.2 (.inl hb)) b o u hu) (Nat.le_refl _) hm.size
      rw [hvn, hvs] at q2
      have := put_any (rb :: X) W' base g c v0 pv nv cv u t ⟨#[]⟩ vs0 r.reverse q1 (by show (0 : Nat) ≤ _; omega) q2 (by omega) (hu u (by simp))
      rw [← hvn] at this
      exact this
    have HVN := Lib.hid hvn
    have HVS := Lib.hid hvs
    have HP3 := Lib.hid p3
    clear hst htop hrn h hvl hvl3 hl p1 p2 p3 hvs hvn hu
    go_enter Tryd.func30, Tryd.ntmps30
    go_wp2_with fail
    refine (must_ok _ _).mono ?_
    rintro e w' ⟨rfl, rfl⟩
    go_wp2_with fail
    obtain ⟨W, hW⟩ : ∃ W, (w.setCell ⟨rb, 0, none⟩ (.slice (some ⟨g, 0, none⟩) vs.length c)).alloc (.cells #[.string ⟨#[]⟩, .slice pv nv cv] 41) = W := ⟨_, rfl⟩
    have hbx : W.heap[w.heap.size]? = some (.cells #[.string ⟨#[]⟩, .slice pv nv cv] 41 (0, 0)) := by
      rw [← hW]
      have := heap_alloc_new (w.setCell ⟨rb, 0, none⟩ (.slice (some ⟨g, 0, none⟩) vs.length c)) (.cells #[.string ⟨#[]⟩, .slice pv nv cv] 41 (0, 0))
      rwa [show (w.setCell ⟨rb, 0, none⟩ (.slice (some ⟨g, 0, none⟩) vs.length c)).heap.size = w.heap.size by simp] at this
    have hMW : Mv (rb :: X) w W := by rw [← hW]; exact ((Mv.refl _ w).store (.inl List.mem_cons_self) _ _).alloc _
    have hMW1 : Mv [rb] w W := by rw [← hW]; exact ((Mv.refl _ w).store (.inl List.mem_cons_self) _ _).alloc _
    have hcW : W.cell? ⟨rb, 0, none⟩ = some (.slice (some ⟨g, 0, none⟩) vs.length c) := by
      rw [← hW]
      refine (World.cell?_of_block (a := ⟨rb, 0, none⟩) ((World.grownBy_alloc _ _ none).block rb (by simpa using hrb) (by simp))).trans (World.cell?_setCell_same' _ _ _ (by rw [hcell]; rfl))
    have hfW : W.frozen? ⟨rb, 0, none⟩ = false := by
      rw [← hW]
      refine (World.frozen?_of_block (a := ⟨rb, 0, none⟩) ((World.grownBy_alloc _ _ none).block rb (by simpa using hrb) (by simp))).trans ((World.frozen?_setCell _ _ _ _).trans hrf)
    rw [hW]
    clear hW hcell hrf
    have bx0 : W.cell? ⟨w.heap.size, 0, none⟩ = some (.string ⟨#[]⟩) := by simp [World.cell?, hbx]
    have bx1 : W.cell? ⟨w.heap.size, 1, none⟩ = some (.slice pv nv cv) := by simp [World.cell?, hbx]
    have HMW := Lib.hid (hMW.drewN 1)
    have HMW1 := Lib.hid (hMW1.drewN 1)
    clear hbx hMW hMW1
    go_region_with (go_at_call 53; refine (HC.out W.drew HMW.out).mono ?_; rintro e w' ⟨rfl, hp⟩)
    all_goals
      have HP := Lib.hid hp
      clear hp
      go_end0
      have hn3 := HP3.out
      rw [HVN.out, HVS.out] at hn3
      have hsz := HMW1.out.size
      have hcW2 := hcW
      rw [HVN.out] at hcW2
      have e0 : (Value.slice (some ⟨g, 0, none⟩) (vs0.length + 1 + 1) c).ownBlock = some g := rfl
      obtain ⟨m1, S', hR, hS'⟩ := RdAt.put (w := W.drew) HP.out (Nat.lt_of_lt_of_le hrb hsz) (fun hb => HN.out (by rw [HVN.out, HVS.out]; exact hn3 rb hb)) hfW hcW2
      have hE : step (t :: u :: r) ⟨#[41]⟩ = .ok (u.snoc ⟨#[]⟩ t :: r) := by unfold step; rw [if_neg (by decide), if_pos rfl]
      refine ⟨(HMW1.out.wide2 (fun b hb => by simp at hb; subst hb; exact List.mem_cons_self)).trans (m1.wide2 (fun b hb => ?_)), ?_⟩
      · rcases List.mem_cons.1 hb with h1 | h1
        · subst h1; exact List.mem_cons_self
        · exact List.mem_cons_of_mem _ (by rw [HVN.out, HVS.out]; exact hn3 b h1)
      · rw [hE]
        refine ⟨rfl, S', hR, fun b hb => ?_⟩
        rcases hS' b hb with h1 | h1
        · exact .inl (by rw [HVN.out, HVS.out]; exact hn3 b h1)
        · exact .inr (Nat.le_trans hsz h1)

theorem tok_any (X : List Nat) (w : World) (base rb : Nat) (S : List Nat) (t : Ts) (st : List Ts) (s : ByteArray) (h : RdAt X w base rb S (t :: st)) (hs : s.size ≤ 140737488355328) (hl : st.length ≤ 400) (hu : ∀ u ∈ t :: st, u.len ≤ 1000000) :
    Calls Tryd.prog 30 #[.pointer (some ⟨rb, 0, none⟩), .string s] w (TokSays X w base rb S (t :: st) s) := by
  by_cases h1 : s.data.toList = [40]
  · obtain rfl : s = ⟨#[40]⟩ := string_of h1
    exact tok_open X w base rb S t st h hl
  · by_cases h2 : s.data.toList = [41]
    · obtain rfl : s = ⟨#[41]⟩ := string_of h2
      exact tok_close X w base rb S t st h hl (fun u hu' => hu u (List.mem_cons_of_mem _ hu'))
    · exact tok_plain X w base rb S t st s h hs h1 h2 hl (hu t List.mem_cons_self)
end Go.Proofs.YtgkmhdifjgpbeaaDoor
