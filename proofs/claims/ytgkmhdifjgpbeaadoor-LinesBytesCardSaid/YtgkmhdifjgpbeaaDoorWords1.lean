/-
  Going through the words and the signs of a text: what each round of the loop over them is given. Conditions: a text of 262144 bytes at most.
-/
import Derived.Test.YtgkmhdifjgpbeaaDoorCut
import Derived.RangeFuncLeaves
import Derived.RangeFuncSeq
import Derived.Shelf.Abstract
import Derived.OwnWalkIn
import Derived.TacticsInMore
import Derived.BigFrameIn
import Derived.LoopNIn
import Derived.LoopIn
namespace Go.Proofs.YtgkmhdifjgpbeaaDoor
open Go.RowKit Go.Shelf
attribute [local go_sem] Oper.semAt_some

def textLen (w : World) (b : Nat) : Nat := match w.cell? ⟨b, 0, none⟩ with
  | some (.string s) => s.size
  | _ => 0
theorem textLen_eq {w : World} {b : Nat} {s : ByteArray} (h : w.cell? ⟨b, 0, none⟩ = some (.string s)) : textLen w b = s.size := by unfold textLen; rw [h]

def WalkSays (J : List Ts → World → Prop) (Z : World → Prop) (r : Except Int (List Ts)) (e : Ending) (w' : World) : Prop :=
  match r with
  | .ok st => (∃ v, e = .returned v) ∧ J st w'
  | .error n => e = .panicked (thrown n) ∧ Z w'

def RoundSays (tb : Nat) (s : ByteArray) (J : List Ts → World → Prop) (Z : World → Prop) (r : Except Int (List Ts)) (e : Ending) (w' : World) : Prop :=
  match r with
  | .ok st => e = .returned (.bool true) ∧ J st w' ∧ w'.cell? ⟨tb, 0, none⟩ = some (.string s) ∧ w'.frozen? ⟨tb, 0, none⟩ = false
  | .error n => e = .panicked (thrown n) ∧ Z w'

/-- Behind j bytes of a word or sign. -/
def At1 (tb : Nat) (J : List Ts → World → Prop) (r : Except Int (List Ts)) (W : World) : Prop :=
  ∃ st k s, W.cell? ⟨tb, 0, none⟩ = some (.string s) ∧ W.frozen? ⟨tb, 0, none⟩ = false ∧ J st W ∧ Fit k st ∧ k + s.size ≤ 262144 ∧ (∀ b, s.data.toList.head? = some b → isBlank b = false) ∧
    r = run st (toks .out s.data.toList)

theorem head_dropWhile (l : List UInt8) : ∀ b, (l.dropWhile isBlank).head? = some b → isBlank b = false := by
  intro b hb
  induction l with
  | nil => simp at hb
  | cons c r ih =>
    rw [List.dropWhile_cons] at hb
    split at hb
    · exact ih hb
    · rename_i h; simp at hb; subst hb; simpa using h

theorem At1.trim {tb : Nat} {J : List Ts → World → Prop} {r : Except Int (List Ts)} {W W' : World} {st : List Ts} {k : Nat} {s : ByteArray} (hJ : ∀ st W W', Mv [tb] W W' → J st W → J st W')
    (hc : W.cell? ⟨tb, 0, none⟩ = some (.string s)) (hf : W.frozen? ⟨tb, 0, none⟩ = false) (h : J st W) (hF : Fit k st) (hk : k + s.size ≤ 262144) (hr : r = run st (toks .out s.data.toList)) (hb : Below W.heap.size W W') :
    At1 tb J r (W'.setCell ⟨tb, 0, none⟩ (.string ⟨(s.data.toList.dropWhile isBlank).toArray⟩)) ∧ textLen (W'.setCell ⟨tb, 0, none⟩ (.string ⟨(s.data.toList.dropWhile isBlank).toArray⟩)) tb ≤ s.size ∧ W'.cell? ⟨tb, 0, none⟩ = some (.string s) ∧ W'.frozen? ⟨tb, 0, none⟩ = false := by
  have htb := World.block_lt_of_cell? _ _ hc
  have hc1 := (hb.cell (p := ⟨tb, 0, none⟩) htb).trans hc
  have hf1 := (hb.frozen (p := ⟨tb, 0, none⟩) htb).trans hf
  have hM : Mv [tb] W (W'.setCell ⟨tb, 0, none⟩ (.string ⟨(s.data.toList.dropWhile isBlank).toArray⟩)) := (Mv.of_below [tb] hb).store (.inl List.mem_cons_self) 0 _
  have hc2 : (W'.setCell ⟨tb, 0, none⟩ (.string ⟨(s.data.toList.dropWhile isBlank).toArray⟩)).cell? ⟨tb, 0, none⟩ = some (.string ⟨(s.data.toList.dropWhile isBlank).toArray⟩) := World.cell?_setCell_same' _ _ _ (by rw [hc1]; rfl)
  have e0 := (List.dropWhile_sublist isBlank (l := s.data.toList)).length_le
  have e1 : (⟨(s.data.toList.dropWhile isBlank).toArray⟩ : ByteArray).size = (s.data.toList.dropWhile isBlank).length := by simp [ByteArray.size]
  have e2 : s.data.toList.length = s.size := by rw [Array.length_toList]; rfl
  refine ⟨⟨st, k, _, hc2, (World.frozen?_setCell _ _ _ _).trans hf1, hJ _ _ _ hM h, hF, by omega, head_dropWhile _, ?_⟩, by rw [textLen_eq hc2]; omega, hc1, hf1⟩
  show r = run st (toks .out (s.data.toList.dropWhile isBlank))
  rw [toks_trim, hr]

theorem At1.next {tb : Nat} {J : List Ts → World → Prop} {r : Except Int (List Ts)} {W : World} {st : List Ts} {k : Nat} {s : ByteArray} (hJ : ∀ st W W', Mv [tb] W W' → J st W → J st W')
    (hc : W.cell? ⟨tb, 0, none⟩ = some (.string s)) (hf : W.frozen? ⟨tb, 0, none⟩ = false) (h : J st W) (hF : Fit k st) (x : ByteArray) (hk : k + x.size ≤ 262144) (hr : r = run st (toks .out x.data.toList)) :
    ∀ W', Below (W.setCell ⟨tb, 0, none⟩ (.string x)).heap.size (W.setCell ⟨tb, 0, none⟩ (.string x)) W' →
      At1 tb J r (W'.setCell ⟨tb, 0, none⟩ (.string ⟨(x.data.toList.dropWhile isBlank).toArray⟩)) ∧ textLen (W'.setCell ⟨tb, 0, none⟩ (.string ⟨(x.data.toList.dropWhile isBlank).toArray⟩)) tb ≤ x.size ∧ W'.cell? ⟨tb, 0, none⟩ = some (.string x) ∧ W'.frozen? ⟨tb, 0, none⟩ = false :=
  fun _ hb => At1.trim hJ (World.cell?_setCell_same' _ _ _ (by rw [hc]; rfl)) ((World.frozen?_setCell _ _ _ _).trans hf) (hJ _ _ _ ((Mv.refl [tb] W).store (.inl List.mem_cons_self) 0 _) h) hF hk hr hb

theorem head_get {s : ByteArray} (h : 0 < s.size) : ∃ r, s.data.toList = s[0]'h :: r := by
  have e2 : s.data.toList.length = s.size := by rw [Array.length_toList]; rfl
  cases hd : s.data.toList with
  | nil => rw [hd] at e2; simp at e2; omega
  | cons b r =>
    refine ⟨r, ?_⟩
    have h3 : s.data.toList[0]? = some b := by rw [hd]; rfl
    have h4 : s[0]'h = b := by
      rw [Array.getElem?_toList] at h3
      have h5 := (Array.getElem?_eq_some_iff.1 h3)
      exact h5.2
    rw [h4]
theorem take_string (s : ByteArray) (m : Nat) : (⟨(s.data.toList.take m).toArray⟩ : ByteArray) = s.extract 0 m := by
  have h := extract_take s m
  rw [← h]

set_option maxRecDepth 100000 in
set_option maxHeartbeats 4000000 in
theorem words1_in (l tb : Nat) (text : ByteArray) (st0 : List Ts) (J : List Ts → World → Prop) (Z : World → Prop) (hJ : ∀ st W W', Mv [tb] W W' → J st W → J st W')
    (hY : ∀ st k s x W, J st W → Fit k st → k ≤ 262144 → s.size ≤ 262144 → W.cell? ⟨tb, 0, none⟩ = some (.string x) → W.frozen? ⟨tb, 0, none⟩ = false →
      YieldAt Fence.wide 0 Tryd.prog l #[.string s] W (RoundSays tb x J Z (step st s)))
    (w : World) (hc : w.cell? ⟨tb, 0, none⟩ = some (.string text)) (hf : w.frozen? ⟨tb, 0, none⟩ = false) (h0 : J st0 w) (hF : Fit 0 st0) (ht : text.size ≤ 262144) :
    CallsIn Fence.wide 0 Tryd.prog 48 #[.func (.yield l) #[] #[], .pointer (some ⟨tb, 0, none⟩)] w (WalkSays J Z (run st0 (toks .out text.data.toList))) := by
  have HJ := Lib.hid hJ
  have HY := Lib.hid hY
  have H0 := Lib.hid h0
  have HF := Lib.hid hF
  clear hJ hY h0 hF
  refine callsIn_of_wp Tryd.func48 rfl trivial ?_ rfl
  simp only [Tryd.ntmps48, List.size_toArray, List.length_cons, List.length_nil, Nat.reduceAdd, Nat.reduceSub, Array.replicate_succ, Array.replicate_zero, List.push_toArray, List.append_toArray, List.nil_append, List.cons_append]
  have htb := World.block_lt_of_cell? _ _ hc
  have HA0 := Lib.hid (fun W' (hb : Below w.heap.size w W') => At1.trim HJ.out hc hf H0.out HF.out (by omega) rfl hb)
  gi_wp2_with fail
  refine ⟨trivial, rfl, (callsIn_wide.2 (trim_any text w)).mono ?_⟩
  rintro e w' ⟨rfl, hb⟩
  have hc1 := (hb.cell (p := ⟨tb, 0, none⟩) htb).trans hc
  have hf1 := (hb.frozen (p := ⟨tb, 0, none⟩) htb).trans hf
  have HA := Lib.hid (HA0.out w' hb)
  clear hb hc hf HA0 HF H0 htb
  gi_wp2_with fail
  gi_loopw [3] (fun _ wr => At1 tb J (run st0 (toks .out text.data.toList)) wr) (fun _ wr => textLen wr tb)
  case atStart => exact HA.out.1
  case round =>
    obtain ⟨st, k, s, hcs, hfs, hJs, hFs, hks, hhd, hrun⟩ := hrel
    have HMS := Lib.hid (textLen_eq hcs)
    have htb := World.block_lt_of_cell? _ _ hcs
    have HJs := Lib.hid hJs
    have HFs := Lib.hid hFs
    have Hhd := Lib.hid hhd
    have Hrun := Lib.hid hrun
    clear HA hc1 hf1 hJs hFs hhd hrun ht
    by_cases hs0 : s.size = 0
    · obtain rfl : s = ⟨#[]⟩ := by
        have : s.data = #[] := Array.eq_empty_of_size_eq_zero hs0
        cases s; simp at this; subst this; rfl
      gi_wp2_with fail
      go_end0
      have h1 := HJs.out
      have h2 := Hrun.out
      rw [h2]
      exact ⟨⟨_, rfl⟩, h1⟩
    · have hne : (!s.toList.isEmpty) = true := by
        rw [ByteArray.toList_eq]
        have e2 : s.data.toList.length = s.size := by rw [Array.length_toList]; rfl
        cases h : s.data.toList with
        | nil => rw [h] at e2; simp at e2; omega
        | cons => rfl
      obtain ⟨i, hi⟩ : ∃ i, idxB s.data.toList = i := ⟨_, rfl⟩
      have HI := Lib.hid (index_any s wr)
      rw [hi] at HI
      have hge := idxB_ge s.data.toList
      rw [hi] at hge
      by_cases hneg : i = -1
      · subst hneg
        gi_wp2_with fail
        refine ⟨trivial, rfl, (callsIn_wide.2 HI.out).mono ?_⟩
        rintro e w1 ⟨rfl, hb1⟩
        have hc1 := (hb1.cell (p := ⟨tb, 0, none⟩) htb).trans hcs
        have hf1 := (hb1.frozen (p := ⟨tb, 0, none⟩) htb).trans hfs
        have HJ1 := Lib.hid (HJ.out _ _ _ (Mv.of_below [tb] hb1) HJs.out)
        obtain ⟨fn, tmps, assign, body, hy, hR⟩ := HY.out st k s s w1 HJ1.out HFs.out (by omega) (by omega) hc1 hf1
        have HR := Lib.hid hR
        have HNE := Lib.hid (show s.data.toList ≠ [] from fun h => by have e2 : s.data.toList.length = s.size := by rw [Array.length_toList]; rfl
                                                                      rw [h] at e2; simp at e2; omega)
        have HI2 := Lib.hid (show idxB s.data.toList < 0 by omega)
        clear hb1 hR hcs hfs hi hge
        gi_wp2_with fail
        refine ⟨rfl, HR.out.mono ?_⟩
        rintro e W3 h3
        have e4 : toks .out s.data.toList = [s.data.toList] := toks_last HNE.out HI2.out
        cases hst : step st s with
        | error m =>
          rw [hst] at h3
          obtain ⟨rfl, h4⟩ := h3
          refine ⟨rfl, ?_⟩
          have e5 := Hrun.out
          rw [e4] at e5
          simp only [run] at e5
          rw [show (⟨s.data.toList.toArray⟩ : ByteArray) = s from rfl, hst] at e5
          rw [e5]
          exact ⟨rfl, h4⟩
        | ok st' =>
          rw [hst] at h3
          obtain ⟨rfl, h4, h5, h6⟩ := h3
          have htb3 := World.block_lt_of_cell? _ _ h5
          have HT := Lib.hid (At1.next (r := run st0 (toks .out text.data.toList)) HJ.out h5 h6 h4 (HFs.out.step hst) ByteArray.empty (by show _ + 0 ≤ _; omega) (by rw [Hrun.out, e4]; simp only [run]; rw [show (⟨s.data.toList.toArray⟩ : ByteArray) = s from rfl, hst]; rfl))
          clear h4 hst e4
          gi_wp2_with fail
          refine ⟨trivial, rfl, (callsIn_wide.2 (trim_any ByteArray.empty _)).mono ?_⟩
          rintro e W4 ⟨rfl, hb⟩
          obtain ⟨HA1, HL1, hc4, hf4⟩ := HT.out W4 hb
          have HA1 := Lib.hid HA1
          have HL1 := Lib.hid HL1
          clear hb h5 h6
          gi_wp2_with fail
          go_roundw
          case rel => exact HA1.out
          case measure => rw [HMS.out]; exact Nat.lt_of_le_of_lt HL1.out (by show 0 < _; omega)
      · obtain ⟨n, rfl⟩ : ∃ n : Nat, i = n := ⟨i.toNat, by omega⟩
        have hnlt := idxB_lt (l := s.data.toList) (by omega)
        rw [hi, Array.length_toList] at hnlt
        have hnlt2 : n < s.size := by simpa using hnlt
        have hpos : 0 < s.size := by omega
        obtain ⟨r, hsr⟩ := head_get hpos
        have hsb : isEnd (s[0]'hpos) = true ∨ 0 < n := by
          rcases Nat.eq_zero_or_pos n with rfl | h
          · left
            obtain ⟨_, b, h2, h3⟩ := idxB_some s.data.toList (by omega)
            rw [hi, hsr] at h2
            simp at h2
            rw [h2]; exact h3
          · exact .inr h
        have hblk := Hhd.out (s[0]'hpos) (by rw [hsr]; rfl)
        by_cases h59 : s[0]'hpos = 59
        · have q59 : (((s[0]'hpos).toNat : Int) == 59) = true := by rw [h59]; decide
          have HCUT := Lib.hid (fun w1 => cut_any s w1 (by omega))
          have HR2 : Hid (run st0 (toks .out text.data.toList) = run st (toks .out (after10 s.data.toList))) := by
            unfold Hid
            rw [Hrun.out, hsr, h59, toks_rem]
          clear hi hge hnlt hneg hsr hsb hblk h59
          gi_wp2_with fail
          refine ⟨trivial, rfl, (callsIn_wide.2 HI.out).mono ?_⟩
          rintro e w1 ⟨rfl, hb1⟩
          have hc1 := (hb1.cell (p := ⟨tb, 0, none⟩) htb).trans hcs
          have hf1 := (hb1.frozen (p := ⟨tb, 0, none⟩) htb).trans hfs
          have htb1 := World.block_lt_of_cell? _ _ hc1
          have HJ1 := Lib.hid (HJ.out _ _ _ (Mv.of_below [tb] hb1) HJs.out)
          clear hb1 hcs hfs
          gi_wp2_with fail
          refine ⟨trivial, rfl, (callsIn_wide.2 (HCUT.out w1)).mono ?_⟩
          rintro e w2 ⟨hb2, x, y, bb, rfl, hy⟩
          have hc2 := (hb2.cell (p := ⟨tb, 0, none⟩) htb1).trans hc1
          have hf2 := (hb2.frozen (p := ⟨tb, 0, none⟩) htb1).trans hf1
          have htb2 := World.block_lt_of_cell? _ _ hc2
          have hyl := after10_len s.data.toList
          have e2 : s.data.toList.length = s.size := by rw [Array.length_toList]; rfl
          have e3 : y.data.toList.length = y.size := by rw [Array.length_toList]; rfl
          rw [← hy, e2, e3] at hyl
          have HT := Lib.hid (At1.next (r := run st0 (toks .out text.data.toList)) HJ.out hc2 hf2 (HJ.out _ _ _ (Mv.of_below [tb] hb2) HJ1.out) HFs.out y (by omega) (by rw [HR2.out, hy]))
          clear hb2 hc1 hf1 hy e2 e3
          gi_wp2_with fail
          refine ⟨trivial, rfl, (callsIn_wide.2 (trim_any y _)).mono ?_⟩
          rintro e W4 ⟨rfl, hb⟩
          obtain ⟨HA1, HL1, hc4, hf4⟩ := HT.out W4 hb
          have HA1 := Lib.hid HA1
          have HL1 := Lib.hid HL1
          clear hb hc2 hf2
          gi_wp2_with fail
          go_roundw
          case rel => exact HA1.out
          case measure => rw [HMS.out]; exact Nat.lt_of_le_of_lt HL1.out (by omega)
        · have q59 : (((s[0]'hpos).toNat : Int) == 59) = false := by
            have h1 : (s[0]'hpos).toNat ≠ 59 := fun h => h59 (UInt8.toNat_inj.1 h)
            simpa using fun h => h1 (by omega)
          by_cases hn0 : n = 0
          · subst hn0
            have q0 : (((0 : Nat) : Int) == 0) = true := rfl
            have HTK : Hid (toks .out s.data.toList = s.data.toList.take 1 :: toks .out (s.data.toList.drop 1)) := by
              unfold Hid
              rw [hsr, List.take_succ_cons, List.take_zero, List.drop_succ_cons, List.drop_zero]
              exact toks_sign (hsb.resolve_right (by omega)) hblk h59
            have hm1 : 1 ≤ s.size := by omega
            have hm2 : 0 < 1 := by omega
            clear hi hge hnlt hneg hsr hsb hblk h59
            gi_wp2_with fail
            refine ⟨trivial, rfl, (callsIn_wide.2 HI.out).mono ?_⟩
            rintro e w1 ⟨rfl, hb1⟩
            have hc1 := (hb1.cell (p := ⟨tb, 0, none⟩) htb).trans hcs
            have hf1 := (hb1.frozen (p := ⟨tb, 0, none⟩) htb).trans hfs
            have HJ1 := Lib.hid (HJ.out _ _ _ (Mv.of_below [tb] hb1) HJs.out)
            obtain ⟨fn, tmps, assign, body, hy, hR⟩ := HY.out st k (s.extract 0 1) s w1 HJ1.out HFs.out (by omega) (by rw [ByteArray.size_extract]; omega) hc1 hf1
            have HR := Lib.hid hR
            clear hb1 hR hcs hfs
            gi_wp2_with fail
            refine ⟨rfl, HR.out.mono ?_⟩
            rintro e W3 h3
            cases hst : step st (s.extract 0 1) with
            | error m =>
              rw [hst] at h3
              obtain ⟨rfl, h4⟩ := h3
              refine ⟨rfl, ?_⟩
              have e5 := Hrun.out
              rw [HTK.out] at e5
              simp only [run] at e5
              rw [take_string, hst] at e5
              rw [e5]
              exact ⟨rfl, h4⟩
            | ok st' =>
              rw [hst] at h3
              obtain ⟨rfl, h4, h5, h6⟩ := h3
              have htb3 := World.block_lt_of_cell? _ _ h5
              have HT := Lib.hid (At1.next (r := run st0 (toks .out text.data.toList)) HJ.out h5 h6 h4 (HFs.out.step hst) (s.extract 1 s.size) (by rw [ByteArray.size_extract]; omega) (by
                rw [Hrun.out, HTK.out]
                simp only [run]
                rw [take_string, hst, extract_end]))
              clear h4 hst
              gi_wp2_with fail
              have hys : (s.extract 1 s.size).size < s.size := by rw [ByteArray.size_extract]; omega
              revert HT hys
              generalize s.extract 1 s.size = y
              intro HT hys
              refine ⟨trivial, rfl, (callsIn_wide.2 (trim_any y _)).mono ?_⟩
              rintro e W4 ⟨rfl, hb⟩
              obtain ⟨HA1, HL1, hc4, hf4⟩ := HT.out W4 hb
              have HA1 := Lib.hid HA1
              have HL1 := Lib.hid HL1
              clear hb h5 h6
              gi_wp2_with fail
              go_roundw
              case rel => exact HA1.out
              case measure => rw [HMS.out]; exact Nat.lt_of_le_of_lt HL1.out hys
          · have q0 : (((n : Nat) : Int) == 0) = false := by simpa using hn0
            have HTK : Hid (toks .out s.data.toList = s.data.toList.take n :: toks .out (s.data.toList.drop n)) := by
              unfold Hid
              have := toks_next (l := s.data.toList) (by omega)
              rw [hi] at this
              exact this
            have hm1 : n ≤ s.size := by omega
            have hm2 : 0 < n := by omega
            clear hi hge hnlt hneg hsr hsb hblk h59
            gi_wp2_with fail
            refine ⟨trivial, rfl, (callsIn_wide.2 HI.out).mono ?_⟩
            rintro e w1 ⟨rfl, hb1⟩
            have hc1 := (hb1.cell (p := ⟨tb, 0, none⟩) htb).trans hcs
            have hf1 := (hb1.frozen (p := ⟨tb, 0, none⟩) htb).trans hfs
            have HJ1 := Lib.hid (HJ.out _ _ _ (Mv.of_below [tb] hb1) HJs.out)
            obtain ⟨fn, tmps, assign, body, hy, hR⟩ := HY.out st k (s.extract 0 n) s w1 HJ1.out HFs.out (by omega) (by rw [ByteArray.size_extract]; omega) hc1 hf1
            have HR := Lib.hid hR
            clear hb1 hR hcs hfs
            gi_wp2_with fail
            refine ⟨rfl, HR.out.mono ?_⟩
            rintro e W3 h3
            cases hst : step st (s.extract 0 n) with
            | error m =>
              rw [hst] at h3
              obtain ⟨rfl, h4⟩ := h3
              refine ⟨rfl, ?_⟩
              have e5 := Hrun.out
              rw [HTK.out] at e5
              simp only [run] at e5
              rw [take_string, hst] at e5
              rw [e5]
              exact ⟨rfl, h4⟩
            | ok st' =>
              rw [hst] at h3
              obtain ⟨rfl, h4, h5, h6⟩ := h3
              have htb3 := World.block_lt_of_cell? _ _ h5
              have HT := Lib.hid (At1.next (r := run st0 (toks .out text.data.toList)) HJ.out h5 h6 h4 (HFs.out.step hst) (s.extract n s.size) (by rw [ByteArray.size_extract]; omega) (by
                rw [Hrun.out, HTK.out]
                simp only [run]
                rw [take_string, hst, extract_end]))
              clear h4 hst
              gi_wp2_with fail
              have hys : (s.extract n s.size).size < s.size := by rw [ByteArray.size_extract]; omega
              revert HT hys
              generalize s.extract n s.size = y
              intro HT hys
              refine ⟨trivial, rfl, (callsIn_wide.2 (trim_any y _)).mono ?_⟩
              rintro e W4 ⟨rfl, hb⟩
              obtain ⟨HA1, HL1, hc4, hf4⟩ := HT.out W4 hb
              have HA1 := Lib.hid HA1
              have HL1 := Lib.hid HL1
              clear hb h5 h6
              gi_wp2_with fail
              go_roundw
              case rel => exact HA1.out
              case measure => rw [HMS.out]; exact Nat.lt_of_le_of_lt HL1.out hys
end Go.Proofs.YtgkmhdifjgpbeaaDoor
