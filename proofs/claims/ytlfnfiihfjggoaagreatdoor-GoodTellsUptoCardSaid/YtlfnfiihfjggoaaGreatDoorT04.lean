/-
  Levels, terms that read as the same are told to be, and what follows. Conditions: as each lemma states them.
-/
import Derived.Test.YtlfnfiihfjggoaaGreatDoorT01
import Derived.Laws.StructEq
import Derived.Test.YtlfnfiihfjggoaaGreatDoorT03
import Derived.Deep.MidRow
import Derived.Deep.Upon
import Derived.ArgAppend
import Derived.Laws.AppendOwn
import Derived.Shelf.SlIterI.Nil
import Derived.Shelf.SortM.Plain
import Derived.Shelf.SortM.SortNone
import Derived.Ground.GgzProg
import Derived.Ground.SlgmProg
import Derived.Test.YtlfnfiihfjggoaaGreatDoorProg
import Derived.Great.BuildSlice
import Derived.Test.YtlfnfiihfjggoaaGreatDoorT02
set_option linter.all false
set_option linter.unusedVariables false
set_option linter.unusedSimpArgs false
set_option linter.unnecessarySimpa false
set_option maxHeartbeats 8000000
set_option maxRecDepth 100000
namespace Go.Proofs.YtlfnfiihfjggoaaGreatDoor
open Go.RowKit Go.Proofs.Tryz
section

set_option maxHeartbeats 1000000 in
theorem O0 (p : Lv) (va vb : Value) (w : World) (ha : RP w va p) (hb : RP w vb p) : Calls prog 234 #[va, vb] w fun e w' => e = .returned (.bool true) ∧ Below w.heap.size w w' := by
  obtain ⟨q, c, rfl, hc1, hc2, -⟩ := ha.slice
  obtain ⟨q', c', rfl, hc3, hc4, -⟩ := hb.slice
  unfold maxLen at hc2 hc4
  have HA := Lib.hid ha
  have HB := Lib.hid hb
  have hne : ((p.length : Int) != (p.length : Int)) = false := by simp
  clear ha hb
  go_enter func234, ntmps234
  go_wp2_with fail
  clear hne
  go_loopw [5] (fun i wr => ∃ k : Nat, k ≤ p.length ∧ i = .int .i64 k ∧ Below w.heap.size w wr) (fun i _ => p.length - (intOf i).toNat)
  case atStart => exact ⟨0, Nat.zero_le _, rfl, Below.refl _ _⟩
  case round =>
    obtain ⟨k, hk, rfl, hB⟩ := hrel
    by_cases hlt : k < p.length
    · have r1 : decide ((k : Int) < (p.length : Int)) = true := decide_eq_true (by omega)
      obtain ⟨b, o, rfl, hb1, hu1, hu2⟩ := (HA.out.on hB).at_ hlt
      obtain ⟨b', o', rfl, hb2, hu3, hu4⟩ := (HB.out.on hB).at_ hlt
      have e1 := aD hu1
      have e2 := aD hu2
      have e3 := aD hu3
      have e4 := aD hu4
      have HBB := Lib.hid hB
      clear hu1 hu2 hu3 hu4 hB
      go_wp2_with fail
      go_region_with fail
      all_goals (go_wp2_with fail)
      all_goals go_roundw
      all_goals first
        | exact ⟨k + 1, by omega, by go_num, aB HBB.out (aZ wr)⟩
        | (simp [intOf]; omega)
    · have r1 : decide ((k : Int) < (p.length : Int)) = false := decide_eq_false (by omega)
      go_wp2_with fail
      go_ret
      exact ⟨rfl, hB⟩

set_option maxHeartbeats 1000000 in
theorem jK (p : Lv) (q q' : Option Addr) (n n' c c' : Nat) (w : World) (ha : RP w (.slice q n c) p) (hb : RP w (.slice q' n' c') p) : Calls prog 164 #[.agg #[.slice q n c], .agg #[.slice q' n' c']] w fun e w' => e = .returned (.bool true) ∧ Below w.heap.size w w' := by
  have HS : Hid (∀ W, Below w.heap.size w W → Calls prog 234 #[.slice q n c, .slice q' n' c'] W fun e w' => e = .returned (.bool true) ∧ Below W.heap.size W w') := fun W hW => O0 p _ _ W (ha.on hW) (hb.on hW)
  clear ha hb
  go_enter func164, ntmps164
  go_wp2_with fail
  have hB := aB (aA w (.cells #[.slice q n c] 30)) (aA _ (.cells #[.slice q' n' c'] 30))
  refine (HS.out _ hB).mono ?_
  rintro e w1 ⟨rfl, hb1⟩
  have HB1 := Lib.hid (aB hB hb1)
  clear hb1 hB
  go_wp2_with fail
  go_ret
  exact ⟨rfl, HB1.out⟩

set_option maxHeartbeats 1000000 in
theorem B8 (l : List Lv) (va vb : Value) (w : World) (ha : RL ty w va l) (hb : RL ty w vb l) : Calls prog 122 #[va, vb] w fun e w' => e = .returned (.bool true) ∧ Below w.heap.size w w' := by
  obtain ⟨q, c, rfl, hc1, hc2, -⟩ := ha.slice
  obtain ⟨q', c', rfl, hc3, hc4, -⟩ := hb.slice
  unfold maxLen at hc2 hc4
  have HA := Lib.hid ha
  have HB := Lib.hid hb
  have hne : ((l.length : Int) != (l.length : Int)) = false := by simp
  clear ha hb
  go_enter func122, ntmps122
  go_wp2_with fail
  clear hne
  go_loopw [5] (fun i wr => ∃ k : Nat, k ≤ l.length ∧ i = .int .i64 k ∧ Below w.heap.size w wr) (fun i _ => l.length - (intOf i).toNat)
  case atStart => exact ⟨0, Nat.zero_le _, rfl, Below.refl _ _⟩
  case round =>
    obtain ⟨k, hk, rfl, hB⟩ := hrel
    by_cases hlt : k < l.length
    · have r1 : decide ((k : Int) < (l.length : Int)) = true := decide_eq_true (by omega)
      obtain ⟨b, o, rfl, hb1, r, d, hu1, -, -, hr1⟩ := (HA.out.on hB).at_ hlt
      obtain ⟨b', o', rfl, hb2, r', d', hu2, -, -, hr2⟩ := (HB.out.on hB).at_ hlt
      have e1 := aD hu1
      have e2 := aD hu2
      have HBB := Lib.hid hB
      have HS : Hid (∀ W, Below wr.heap.size wr W → Calls prog 164 #[.agg #[.slice r l[k].length d], .agg #[.slice r' l[k].length d']] W fun e w' => e = .returned (.bool true) ∧ Below W.heap.size W w') := fun W hW => jK l[k] _ _ _ _ _ _ W (hr1.on hW) (hr2.on hW)
      obtain ⟨z, hz⟩ : ∃ z : Nat, l[k].length = z := ⟨_, rfl⟩
      rw [hz] at e1 e2 HS
      clear hu1 hu2 hB hr1 hr2 hz
      go_wp2_with fail
      go_region_with (go_at_call 164; refine (HS.out _ (by first | exact aZ _ | assumption)).mono ?_; rintro e wx ⟨rfl, hbx⟩
                      have hBx : Below wr.heap.size wr wx := aB (by first | exact aZ _ | assumption) hbx)
      all_goals (go_wp2_with fail)
      all_goals go_roundw
      all_goals first
        | exact ⟨k + 1, by omega, by go_num, aB HBB.out hBx⟩
        | (simp [intOf]; omega)
    · have r1 : decide ((k : Int) < (l.length : Int)) = false := decide_eq_false (by omega)
      go_wp2_with fail
      go_ret
      exact ⟨rfl, hB⟩
end
section

set_option maxHeartbeats 2000000 in
theorem xL (h : Hd) (x : Ts) (va vb : Value) (w : World) (ha : RM ty w va h x) (hb : RM ty w vb h x)
    (hk : ∀ W v v', RT ty W v x → RT ty W v' x → Calls prog 123 #[v, v'] W fun e w' => e = .returned (.bool true) ∧ Below W.heap.size W w') :
    Calls prog 37 #[va, vb] w fun e w' => e = .returned (.bool true) ∧ Below w.heap.size w w' := by
  obtain ⟨q, c, r, d, rfl, -, -, -, -, hl, hx⟩ := ha.agg
  obtain ⟨q', c', r', d', rfl, -, -, -, -, hl', hx'⟩ := hb.agg
  obtain ⟨n, hn⟩ : ∃ n, h.l.length = n := ⟨_, rfl⟩
  obtain ⟨m, hm⟩ : ∃ m, x.len = m := ⟨_, rfl⟩
  rw [hn] at hl hl' ⊢
  rw [hm] at hx hx' ⊢
  obtain ⟨k0, hk0⟩ : ∃ k, h.k = k := ⟨_, rfl⟩
  obtain ⟨n0, hn0⟩ : ∃ k, h.n = k := ⟨_, rfl⟩
  obtain ⟨a0, ha0⟩ : ∃ k, h.a = k := ⟨_, rfl⟩
  rw [hk0, hn0, ha0]
  obtain ⟨W0, hW0⟩ : ∃ W0, (w.alloc (.cells #[.int .i64 k0, .int .i64 n0, .int .i64 a0, .slice q n c, .slice r m d] 27)).alloc (.cells #[.int .i64 k0, .int .i64 n0, .int .i64 a0, .slice q' n c', .slice r' m d'] 27) = W0 := ⟨_, rfl⟩
  have hB0 : Below w.heap.size w W0 := by rw [← hW0]; exact aB (aA _ _) (aA _ _)
  have hs0 : W0.heap.size = w.heap.size + 2 := by rw [← hW0]; simp
  have p1 : ∀ o v, (#[.int .i64 k0, .int .i64 n0, .int .i64 a0, .slice q n c, .slice r m d] : Array Value)[o]? = some v → U W0 w.heap.size o = some v := fun o v hv => by
    rw [← hW0]; exact aE (aA _ _) _ _ _ (by simp) (aM hv)
  have p2 : ∀ o v, (#[.int .i64 k0, .int .i64 n0, .int .i64 a0, .slice q' n c', .slice r' m d'] : Array Value)[o]? = some v → U W0 (w.heap.size + 1) o = some v := fun o v hv => by
    have := aM (w := w.alloc (.cells #[.int .i64 k0, .int .i64 n0, .int .i64 a0, .slice q n c, .slice r m d] 27)) (ty := 27) hv
    rw [World.size_alloc, hW0] at this
    exact this
  have c0 := aD (p1 0 _ rfl)
  have c1 := aD (p1 1 _ rfl)
  have c2 := aD (p1 2 _ rfl)
  have c3 := aD (p1 3 _ rfl)
  have c4 := aD (p1 4 _ rfl)
  have d0 := aD (p2 0 _ rfl)
  have d1 := aD (p2 1 _ rfl)
  have d2 := aD (p2 2 _ rfl)
  have d3 := aD (p2 3 _ rfl)
  have d4 := aD (p2 4 _ rfl)
  have H61 : Hid (∀ W, Below w.heap.size w W → Calls prog 122 #[.slice q n c, .slice q' n c'] W fun e w' => e = .returned (.bool true) ∧ Below W.heap.size W w') := fun W hW => B8 h.l _ _ W (hl.on hW) (hl'.on hW)
  have H20 : Hid (∀ W, Below w.heap.size w W → Calls prog 123 #[.slice r m d, .slice r' m d'] W fun e w' => e = .returned (.bool true) ∧ Below W.heap.size W w') := fun W hW => hk W _ _ (hx.on hW) (hx'.on hW)
  have HB0 := Lib.hid hB0
  have P1 := Lib.hid p1
  have P2 := Lib.hid p2
  have HS0 := Lib.hid hs0
  clear hl hl' hx hx' hk ha hb hn hm hk0 hn0 ha0 hB0 p1 p2 hs0
  have b0 : (k0 == k0) = true := by simp
  have b1 : (n0 == n0) = true := by simp
  have b2 : (a0 == a0) = true := by simp
  go_enter func37, ntmps37
  go_wp2_with fail
  refine (H61.out _ HB0.out).mono ?_
  rintro e w1 ⟨rfl, hb1⟩
  have g4 := (hb1.cell (p := ⟨w.heap.size, 4, none⟩) (by have := HS0.out; simp; omega)).trans c4
  have k4 := (hb1.cell (p := ⟨w.heap.size + 1, 4, none⟩) (by have := HS0.out; simp; omega)).trans d4
  have HB1 := Lib.hid (aB HB0.out hb1)
  clear hb1 hW0 c0 c1 c2 c3 c4 d0 d1 d2 d3 d4
  go_wp2_with fail
  refine (H20.out _ HB1.out).mono ?_
  rintro e w2 ⟨rfl, hb2⟩
  have HB2 := Lib.hid (aB HB1.out hb2)
  clear hb2
  go_wp2_with fail
  go_ret
  exact ⟨rfl, HB2.out⟩

set_option maxHeartbeats 2000000 in
theorem tN (M : Nat) : ∀ (t : Ts) (va vb : Value) (w : World), t.count < M → RT ty w va t → RT ty w vb t → Calls prog 123 #[va, vb] w fun e w' => e = .returned (.bool true) ∧ Below w.heap.size w w' := by
  induction M with
  | zero => intro t va vb w hm; omega
  | succ M ih =>
    intro t va vb w hm ha hb
    obtain ⟨q, c, rfl, hc1, hc2, -⟩ := ha.slice
    obtain ⟨q', c', rfl, hc3, hc4, -⟩ := hb.slice
    unfold maxLen at hc2 hc4
    have HA := Lib.hid ha
    have HB := Lib.hid hb
    have IH := Lib.hid ih
    have HM := Lib.hid hm
    have hne : ((t.len : Int) != (t.len : Int)) = false := by simp
    clear ha hb ih hm
    go_enter func123, ntmps123
    go_wp2_with fail
    clear hne
    go_loopw [5] (fun i wr => ∃ k : Nat, k ≤ t.len ∧ i = .int .i64 k ∧ Below w.heap.size w wr) (fun i _ => t.len - (intOf i).toNat)
    case atStart => exact ⟨0, Nat.zero_le _, rfl, Below.refl _ _⟩
    case round =>
      obtain ⟨k, hk, rfl, hB⟩ := hrel
      by_cases hlt : k < t.len
      · have r1 : decide ((k : Int) < (t.len : Int)) = true := decide_eq_true (by omega)
        obtain ⟨b, o, rfl, hb1, hu1, hu2, hu3, ⟨r, d, hu4, -, -, hr1⟩, ⟨s, f, hu5, -, -, hs1⟩⟩ := (HA.out.on hB).at_ hlt
        obtain ⟨b', o', rfl, hb2, hv1, hv2, hv3, ⟨r', d', hv4, -, -, hr2⟩, ⟨s', f', hv5, -, -, hs2⟩⟩ := (HB.out.on hB).at_ hlt
        have e1 := aD hu1
        have e2 := aD hu2
        have e3 := aD hu3
        have e4 := aD hu4
        have e5 := aD hu5
        have f1 := aD hv1
        have f2 := aD hv2
        have f3 := aD hv3
        have f4 := aD hv4
        have f5 := aD hv5
        have hcnt := Ts.count_kd hlt
        have HBB := Lib.hid hB
        have HS : Hid (∀ W, Below wr.heap.size wr W → Calls prog 37 #[.agg #[.int .i64 (t.hd k).k, .int .i64 (t.hd k).n, .int .i64 (t.hd k).a, .slice r (t.hd k).l.length d, .slice s (t.kd k).len f], .agg #[.int .i64 (t.hd k).k, .int .i64 (t.hd k).n, .int .i64 (t.hd k).a, .slice r' (t.hd k).l.length d', .slice s' (t.kd k).len f']] W fun e w' => e = .returned (.bool true) ∧ Below W.heap.size W w') := fun W hW =>
          xL (t.hd k) (t.kd k) _ _ W ⟨_, _, _, _, _, _, rfl, hr1.on hW, hs1.on hW⟩ ⟨_, _, _, _, _, _, rfl, hr2.on hW, hs2.on hW⟩ (fun W' v v' h1 h2 => IH.out (t.kd k) v v' W' (by have := HM.out; omega) h1 h2)
        obtain ⟨z, hz⟩ : ∃ z : Nat, (t.hd k).l.length = z := ⟨_, rfl⟩
        obtain ⟨y, hy⟩ : ∃ y : Nat, (t.kd k).len = y := ⟨_, rfl⟩
        rw [hz] at e4 f4 HS
        rw [hy] at e5 f5 HS
        clear hu1 hu2 hu3 hu4 hu5 hv1 hv2 hv3 hv4 hv5 hB hr1 hr2 hs1 hs2 hz hy hcnt
        go_wp2_with fail
        go_region_with (go_at_call 37; refine (HS.out _ (by first | exact aZ _ | assumption)).mono ?_; rintro e wx ⟨rfl, hbx⟩
                        have hBx : Below wr.heap.size wr wx := aB (by first | exact aZ _ | assumption) hbx)
        all_goals (go_wp2_with fail)
        all_goals go_roundw
        all_goals first
          | exact ⟨k + 1, by omega, by go_num, aB HBB.out hBx⟩
          | (simp [intOf]; omega)
      · have r1 : decide ((k : Int) < (t.len : Int)) = false := decide_eq_false (by omega)
        go_wp2_with fail
        go_ret
        exact ⟨rfl, hB⟩
theorem kJ (h : Hd) (x : Ts) (va vb : Value) (w : World) (ha : RM ty w va h x) (hb : RM ty w vb h x) : Calls prog 37 #[va, vb] w fun e w' => e = .returned (.bool true) ∧ Below w.heap.size w w' :=
  xL h x va vb w ha hb fun W v v' h1 h2 => tN _ x v v' W (Nat.lt_succ_self _) h1 h2
end
section
theorem Rd.whole{F:Nat->Nat->Option Value}{hi:Nat}{q:Option Addr}{n c sz m:Nat}{x s:Ds}(h:Rd F hi (.slice q n c) sz x s)(hs:s.len=m*sz)(hm:0<m)(hz:0<sz):n+m<=c/\Rd F hi (.slice q (n+m) c) sz (x.app s) .nil:=by
 obtain⟨q',n',c',e1,h2,h3,h4,h5,h6⟩:=h
 cases e1
 have hle:n+m<=c:=by
  rw[<-h2,hs,<-Nat.add_mul] at h5
  exact Nat.le_of_mul_le_mul_right h5 hz
 refine⟨hle,_,_,_,rfl,by rw[Ds.app_len,<-h2,hs,Nat.add_mul],hle,h4,by simp only[Ds.len];rw[Ds.app_len];omega,?_⟩
 rcases h6 with ⟨rfl,rfl⟩|⟨-,h7,-⟩|⟨b,o,rfl,hl,ha,hs'⟩
 ·omega
 ·exfalso
  rw[h7] at hs
  have:=Nat.mul_pos hm hz
  omega
 ·exact .inr (.inr ⟨b,o,rfl,hl,At.app.2 ⟨ha,hs'⟩,trivial⟩)
theorem GU(k n i:Nat)(h:i<n):(dV k n)[i]'(by rw[gT];exact h)=wG k i:=by
 induction n with
 | zero=>omega
 | succ n ih =>
  by_cases hi:i<n
  ·have:=ih hi
   simp only[dV]
   rw[List.getElem_append_left (by rw[gT];exact hi)]
   exact this
  ·obtain rfl:i=n:=by omega
   simp only[dV]
   rw[List.getElem_append_right (by rw[gT];exact Nat.le_refl _)]
   simp[gT]
theorem tT(p:Lv)(va vb:Value)(w:World)(ha:Rd (U w) w.heap.size va 2 (bY p) (bY (dV 1 12)))(hb:RP w vb p)(hn:p.length<=200000000):Calls prog 167 #[va,vb] w λ e w'=>e=.returned (.bool true)/\Below w.heap.size w w':=by
 obtain⟨q,c,rfl,hc1,hc2,-⟩:=RP.slice (w:=w) (p:=p) ha.plain
 obtain⟨q',c',rfl,hc3,hc4,-⟩:=hb.slice
 unfold maxLen at hc2 hc4
 obtain⟨hc5,hall⟩:=ha.whole (m:=12) (by rw[mU,gT]) (by decide) (by decide)
 rw[<-D6] at hall
 have HA:Hid (RP w (.slice q (p.length+12) c) (p++dV 1 12)):=hid hall
 have HB:=hid hb
 obtain⟨n,hpn⟩:∃n,p.length=n:=⟨_,rfl⟩
 have HN:=hid hpn
 rw[hpn] at HA HB hc1 hc3 hc5 hn ⊢
 have hne:((n:Int) != (n:Int))=false:=by simp
 clear ha hb hall hpn
 go_enter func167,ntmps167
 go_wp2_with fail
 clear hne
 go_loopw [6] (λ i wr=>∃k:Nat,k<=n+12/\i=.int .i64 k/\Below w.heap.size w wr) (λ i _=>n+12-(intOf i).toNat)
 case atStart=>exact⟨0,Nat.zero_le _,rfl,Below.refl _ _⟩
 case round =>
  obtain⟨k,hk,rfl,hB⟩:=hrel
  have HBB:=hid hB
  clear hB
  by_cases hlt:k<n+12
  ·have r1:decide ((k:Int)<(n:Int)+12)=true:=decide_eq_true (by omega)
   obtain⟨b,o,rfl,hb1,hu1,hu2⟩:=(HA.out.on HBB.out).at_ (k:=k) (by rw[List.length_append,gT,HN.out];exact hlt)
   by_cases hkn:k<n
   ·have r2:decide ((k:Int)<(n:Int))=true:=decide_eq_true (by omega)
    have r3:decide ((n:Int)<=(k:Int))=false:=decide_eq_false (by omega)
    have r4:decide (n<=k)=false:=decide_eq_false (by omega)
    have i0:(0:Int)<=(k:Int):=by omega
    have i1:(k:Int)<(n:Int)+12:=by omega
    have i2:(k:Int)<(n:Int):=by omega
    obtain⟨b',o',rfl,hb2,hu3,hu4⟩:=(HB.out.on HBB.out).at_ (k:=k) (by rw[HN.out];exact hkn)
    have hg:(p++dV 1 12)[k]'(by rw[List.length_append,gT,HN.out];exact hlt)=p[k]'(by rw[HN.out];exact hkn):=List.getElem_append_left _
    rw[hg] at hu1 hu2
    have e1:=aD hu1
    have e2:=aD hu2
    have e3:=aD hu3
    have e4:=aD hu4
    obtain⟨x,hx⟩:∃x,(p[k]'(by rw[HN.out];exact hkn)).1=x:=⟨_,rfl⟩
    obtain⟨y,hy⟩:∃x,(p[k]'(by rw[HN.out];exact hkn)).2=x:=⟨_,rfl⟩
    rw[hx] at e1 e3
    rw[hy] at e2 e4
    clear hu1 hu2 hu3 hu4 hg hx hy
    go_wp2_with fail
    go_quiet (fail)
    go_wp2_with fail
    go_roundw
    case rel=>exact⟨k+1,by omega,by go_num,aB HBB.out (EY wr _)⟩
    case measure=>simp[intOf];omega
   ·have r2:decide ((k:Int)<(n:Int))=false:=decide_eq_false (by omega)
    have r4:decide (n<=k)=true:=decide_eq_true (by omega)
    have i0:(0:Int)<=(k:Int):=by omega
    have i1:(k:Int)<(n:Int)+12:=by omega
    have hg:(p++dV 1 12)[k]'(by rw[List.length_append,gT,HN.out];exact hlt)=wG 1 (k-n):=by
     rw[List.getElem_append_right (by rw[HN.out];omega)]
     simp only[HN.out]
     exact GU 1 12 (k-n) (by omega)
    rw[hg] at hu1 hu2
    obtain⟨j,hj⟩:∃j,k-n=j:=⟨_,rfl⟩
    rw[hj] at hu1 hu2
    have i2:(k:Int)-(n:Int)=(j:Int):=by omega
    have HM:Hid (∀W,Calls prog 224 #[.int .i64 1,.int .i64 j] W λ e w'=>e=.returned (.agg #[.int .i64 0,.int .i64 (jG 1 j)])/\Below W.heap.size W w'):=λ W=>pW 1 j W (by decide) (by omega)
    obtain⟨m,hm⟩:∃m,jG 1 j=m:=⟨_,rfl⟩
    rw[hm] at HM
    have e1:∀n:Grown wr,n.it.cell? ⟨b,o+k*2,none⟩=some (.int .i64 0):=Grown.cell hu1
    have e2:∀n:Grown wr,n.it.cell? ⟨b,o+k*2+1,none⟩=some (.int .i64 m):=by rw[<-hm];exact Grown.cell hu2
    clear hu1 hu2 hg hm hj
    go_wp2_with fail
    refine iW (by kernel_rfl) (by kernel_rfl) ?_
    repeat (go_big_quiet_step (exact vQ (HM.out _)))
    refine wpQuiet_nil ?_
    intro _ hw'
    obtain⟨nq,hw''⟩:=hw'
    subst hw''
    have HNQ:=hid nq.below
    clear e1 e2
    obtain⟨wq,hwq⟩:∃wq,nq.it=wq:=⟨_,rfl⟩
    rw[hwq] at HNQ ⊢
    clear hwq nq
    go_wp2_with fail
    go_roundw
    case rel=>exact⟨k+1,by omega,by go_num,aB HBB.out HNQ.out⟩
    case measure=>simp[intOf];omega
  ·have r1:decide ((k:Int)<(n:Int)+12)=false:=decide_eq_false (by omega)
   go_wp2_with fail
   go_ret
   exact⟨rfl,HBB.out⟩
end
section
theorem O9(p:Lv)(q q':Option Addr)(n n' c c':Nat)(w:World)(ha:Rd (U w) w.heap.size (.slice q n c) 2 (bY p) (bY (dV 1 12)))(hb:RP w (.slice q' n' c') p)(hn:p.length<=200000000) :
  Calls prog 98 #[.agg #[.slice q n c],.agg #[.slice q' n' c']] w λ e w'=>e=.returned (.bool true)/\Below w.heap.size w w':=by
 obtain⟨W0,hW0⟩:∃W0,(w.alloc (.cells #[.slice q n c] 30)).alloc (.cells #[.slice q' n' c'] 30)=W0:=⟨_,rfl⟩
 have hB0:Below w.heap.size w W0:=by rw[<-hW0];exact aB (aA _ _) (aA _ _)
 have c1:U W0 w.heap.size 0=some (.slice q n c):=by rw[<-hW0];exact aE (aA _ _) _ _ _ (by simp) (aM rfl)
 have c2:U W0 (w.heap.size+1) 0=some (.slice q' n' c'):=by
  have:=aM (w:=w.alloc (.cells #[.slice q n c] 30)) (cs:=#[.slice q' n' c']) (ty:=30) (o:=0) rfl
  rw[World.size_alloc,hW0] at this
  exact this
 have HS:Hid (∀W,Below w.heap.size w W->Calls prog 164 #[.agg #[.slice q n c],.agg #[.slice q' n' c']] W λ e w'=>e=.returned (.bool true)/\Below W.heap.size W w'):=λ W hW=>jK p _ _ _ _ _ _ W (Rd.plain (ha.on hW)) (hb.on hW)
 have HK:Hid (∀W,Below w.heap.size w W->Calls prog 167 #[.slice q n c,.slice q' n' c'] W λ e w'=>e=.returned (.bool true)/\Below W.heap.size W w'):=λ W hW=>tT p _ _ W (ha.on hW) (hb.on hW) hn
 have d1:=aD c1
 have d2:=aD c2
 have HB0:=hid hB0
 have C1:=hid c1
 have C2:=hid c2
 clear ha hb hn hB0 c1 c2
 go_enter func98,ntmps98
 go_wp2_with fail
 refine (HS.out _ HB0.out).mono ?_
 rintro e w1 ⟨rfl,hb1⟩
 have g1:=aD (aE hb1 _ _ _ (aL C1.out) C1.out)
 have g2:=aD (aE hb1 _ _ _ (aL C2.out) C2.out)
 have HB1:=hid (aB HB0.out hb1)
 clear hb1 hW0 d1 d2
 go_wp2_with fail
 refine (HK.out _ HB1.out).mono ?_
 rintro e w2 ⟨rfl,hb2⟩
 have HB2:=hid (aB HB1.out hb2)
 clear hb2
 go_wp2_with fail
 go_ret
 exact⟨rfl,HB2.out⟩
theorem IE(k n i:Nat)(h:i<n):(dJ k n)[i]'(by rw[kC];exact h)=rB k i:=by
 induction n with
 | zero=>omega
 | succ n ih =>
  by_cases hi:i<n
  ·have:=ih hi
   simp only[dJ]
   rw[List.getElem_append_left (by rw[kC];exact hi)]
   exact this
  ·obtain rfl:i=n:=by omega
   simp only[dJ]
   rw[List.getElem_append_right (by rw[kC];exact Nat.le_refl _)]
   simp[kC]
theorem Rd.lentLv_plain{w:World}{v:Value}{l:List Lv}{s:Ds}(h:Rd (U w) w.heap.size v 1 (cO ty l) s):RL ty w v l:=by
 have:=h.strip
 rw[cW] at this
 exact this
theorem I5(l:List Lv)(va vb:Value)(w:World)(ha:Rd (U w) w.heap.size va 1 (cO ty l) (cB ty (dJ 1 12)))(hb:RL ty w vb l)(hs:aH l<=200000000):Calls prog 119 #[va,vb] w λ e w'=>e=.returned (.bool true)/\Below w.heap.size w w':=by
 obtain⟨q,c,rfl,hc1,hc2,-⟩:=RL.slice (y:=ty) (w:=w) (l:=l) ha.lentLv_plain
 obtain⟨q',c',rfl,hc3,hc4,-⟩:=hb.slice
 unfold maxLen at hc2 hc4
 obtain⟨hc5,hall⟩:=ha.whole (m:=12) (by rw[gL,kC]) (by decide) (by decide)
 have HA:=hid ha
 have HW:=hid hall
 have HB:=hid hb
 have HSZ:=hid hs
 have hl:l.length<=200000000:=by
  have:∀l:List Lv,l.length<=aH l:=by
   intro l
   induction l with
   | nil=>simp
   | cons a r ih=>simp only[List.length_cons,aH];omega
  have:=this l
  omega
 obtain⟨n,hpn⟩:∃n,l.length=n:=⟨_,rfl⟩
 have HN:=hid hpn
 rw[hpn] at HA HW HB hc1 hc3 hc5 hl ⊢
 have hne:((n:Int) != (n:Int))=false:=by simp
 clear ha hb hall hpn hs
 go_enter func119,ntmps119
 go_wp2_with fail
 clear hne
 go_loopw [6] (λ i wr=>∃k:Nat,k<=n+12/\i=.int .i64 k/\Below w.heap.size w wr) (λ i _=>n+12-(intOf i).toNat)
 case atStart=>exact⟨0,Nat.zero_le _,rfl,Below.refl _ _⟩
 case round =>
  obtain⟨k,hk,rfl,hB⟩:=hrel
  have HBB:=hid hB
  clear hB
  by_cases hlt:k<n+12
  ·have r1:decide ((k:Int)<(n:Int)+12)=true:=decide_eq_true (by omega)
   have i0:(0:Int)<=(k:Int):=by omega
   have i1:(k:Int)<(n:Int)+12:=by omega
   by_cases hkn:k<n
   ·have r2:decide ((k:Int)<(n:Int))=true:=decide_eq_true (by omega)
    have r4:decide (n<=k)=false:=decide_eq_false (by omega)
    have i2:(k:Int)<(n:Int):=by omega
    obtain⟨b,o,rfl,hlb,hAt,-⟩:=Rd.lies (HA.out.on HBB.out) (by omega)
    obtain⟨v,hv,hrv⟩:=NF hAt (k:=k) (by rw[HN.out];exact hkn)
    obtain⟨r,m,d,rfl,-⟩:=Rd.slice hrv
    obtain⟨b',o',rfl,hb2,r',d',hu2,-,-,hr2⟩:=(HB.out.on HBB.out).at_ (k:=k) (by rw[HN.out];exact hkn)
    have hsz:=sL (l:=l) (k:=k) (by rw[HN.out];exact hkn)
    obtain⟨z,hz⟩:∃z:Nat,(l[k]'(by rw[HN.out];exact hkn)).length=z:=⟨_,rfl⟩
    rw[hz] at hu2 hr2 hsz
    have HK:Hid (∀W:Grown wr,Calls prog 98 #[.agg #[.slice r m d],.agg #[.slice r' z d']] W.it λ e w'=>e=.returned (.bool true)/\Below W.it.heap.size W.it w'):=λ W=>O9 _ _ _ _ _ _ _ W.it (hrv.on W.below) (hr2.on W.below) (by rw[hz];have:=HSZ.out;omega)
    have e1:∀n:Grown wr,n.it.cell? ⟨b,o+k,none⟩=some (.slice r m d):=Grown.cell hv
    have e2:∀n:Grown wr,n.it.cell? ⟨b',o'+k,none⟩=some (.slice r' z d'):=Grown.cell hu2
    clear hv hu2 hrv hr2 hAt hz hsz
    go_wp2_with fail
    refine iW (by kernel_rfl) (by kernel_rfl) ?_
    repeat (go_big_quiet_step (exact vQ (HK.out _)))
    refine wpQuiet_nil ?_
    intro _ hw'
    obtain⟨nq,hw''⟩:=hw'
    subst hw''
    have HNQ:=hid nq.below
    clear e1 e2
    obtain⟨wq,hwq⟩:∃wq,nq.it=wq:=⟨_,rfl⟩
    rw[hwq] at HNQ ⊢
    clear hwq nq
    go_wp2_with fail
    go_roundw
    case rel=>exact⟨k+1,by omega,by go_num,aB HBB.out HNQ.out⟩
    case measure=>simp[intOf];omega
   ·have r2:decide ((k:Int)<(n:Int))=false:=decide_eq_false (by omega)
    have r4:decide (n<=k)=true:=decide_eq_true (by omega)
    have r5:decide (k<n)=false:=decide_eq_false (by omega)
    have r6:decide ((n:Int)<=(k:Int))=true:=decide_eq_true (by omega)
    obtain⟨b,o,rfl,hlb,hAt,-⟩:=Rd.lies (HW.out.on HBB.out) (by omega)
    have hAt2:=(At.app.1 hAt).2
    obtain⟨v,hv,hrv⟩:=lv_at hAt2 (k:=k-n) (by rw[kC];omega)
    rw[G6,HN.out,IE 1 12 (k-n) (by omega),show o+n+(k-n)=o+k by omega] at *
    obtain⟨r,m,d,rfl,-⟩:=Rd.slice hrv
    obtain⟨j,hj⟩:∃j,k-n=j:=⟨_,rfl⟩
    rw[hj] at hrv
    have i2:(k:Int)-(n:Int)=(j:Int):=by omega
    have HM:Hid (∀W,Calls prog 193 #[.int .i64 1,.int .i64 j] W λ e w'=>∃r n d S,e=.returned (.agg #[.slice r n d])/\Below W.heap.size W w'/\Own w' W.heap.size (cB ty [rB 1 j]) [.slice r n d] S/\S.Nodup):=λ W=>(oG 1 j W (by decide) (by omega)).mono λ _ _ h=>Makes.one h
    have e1:∀n:Grown wr,n.it.cell? ⟨b,o+k,none⟩=some (.slice r m d):=Grown.cell hv
    have HS:Hid (∀W r' n' d' S,Below wr.heap.size wr W->Own W wr.heap.size (cB ty [rB 1 j]) [.slice r' n' d'] S->Calls prog 164 #[.agg #[.slice r m d],.agg #[.slice r' n' d']] W λ e w'=>e=.returned (.bool true)/\Below W.heap.size W w'):=λ W r' n' d' S hW ho=>by
     obtain⟨v',ys,e2,h2,-⟩:=ho.vs
     cases e2
     exact jK _ _ _ _ _ _ _ W (hrv.on hW) h2
    clear hv hrv hAt hAt2 hj
    go_wp2_with fail
    refine tX 30 (by decide) (by kernel_rfl) (by kernel_rfl) (by kernel_rfl) (λ _ _ d _ _ h=>by cases d<;>exact h) ?_
    simp only[List.take_succ_cons,List.take_zero,List.map_cons,List.map_nil,bar,bH,List.size_toArray,List.length_cons,List.length_nil,Nat.zero_add,Nat.reduceAdd,if_true,if_false,Bool.false_eq_true]
    repeat (go_big_quiet_step (fail))
    refine wpQuiet_nil ?_
    clear e1
    refine aP (i:=30) (fuel:=4) (by kernel_rfl) rfl (by rfl) (λ K' hK=>?_)
    go_simp
    refine (HM.out _).mono ?_
    rintro e wx ⟨r',n',d',S,rfl,hbx,hox,-⟩
    have hBx:Below wr.heap.size wr wx:=aB (aZ wr) hbx
    refine hK.out _ _ ⟨⟨wx,hBx⟩,rfl⟩ (λ _=>?_)
    clear hK K'
    refine aP (i:=31) (fuel:=3) (by kernel_rfl) rfl (by rfl) (λ K' hK=>?_)
    go_simp
    refine (HS.out _ _ _ _ _ hBx (hox.lower (by simp))).mono ?_
    rintro e wy ⟨rfl,hby⟩
    have hBy:Below wr.heap.size wr wy:=aB hBx hby
    refine hK.out _ _ ⟨⟨wy,hBy⟩,rfl⟩ (λ _=>?_)
    clear hK K'
    refine aP (i:=32) (fuel:=2) (by kernel_rfl) rfl (by rfl) (λ K' hK=>?_)
    go_simp
    refine hK.out _ _ ⟨⟨wy,hBy⟩,rfl⟩ (λ _=>?_)
    clear hK K'
    refine aP (i:=33) (fuel:=1) (by kernel_rfl) rfl (by rfl) (λ K' hK=>?_)
    go_simp
    refine hK.out _ _ ⟨⟨wy,hBy⟩,rfl⟩ (λ _=>?_)
    clear hK K'
    refine aP (i:=34) (fuel:=0) (by kernel_rfl) rfl (by rfl) (λ K' hK=>?_)
    go_simp
    refine hK.out _ _ ⟨⟨wy,hBy⟩,rfl⟩ (λ _=>?_)
    clear hK K'
    refine wpAnyH_done (by kernel_rfl) ?_ _
    have HNQ:=hid hBy
    clear hBy hBx hby hbx hox
    go_wp2_with fail
    go_roundw
    case rel=>exact⟨k+1,by omega,by go_num,aB HBB.out HNQ.out⟩
    case measure=>simp[intOf];omega
  ·have r1:decide ((k:Int)<(n:Int)+12)=false:=decide_eq_false (by omega)
   go_wp2_with fail
   go_ret
   exact⟨rfl,HBB.out⟩
end
section
theorem Rd.lentT_plain{w:World}{v:Value}{t:Ts}{s:Ds}(h:Rd (U w) w.heap.size v 5 (cJ ty t) s):RT ty w v t:=by
 have:=h.strip
 rw[dP] at this
 exact this
theorem Rd.lentL_plain{w:World}{v:Value}{l:List Lv}{s:Ds}(h:Rd (U w) w.heap.size v 1 (cO ty l) s):RL ty w v l:=by
 have:=h.strip
 rw[cW] at this
 exact this
def VK(l:List Lv):Prop:=∀(va vb:Value) (w:World),Rd (U w) w.heap.size va 1 (cO ty l) (cB ty (dJ 1 12))->RL ty w vb l->Calls prog 119 #[va,vb] w λ e w'=>e=.returned (.bool true)/\Below w.heap.size w w'
def RLent(w:World)(v:Value)(h:Hd)(x:Ts):Prop :=
 ∃q n c r m d,v=.agg #[.int .i64 h.k,.int .i64 h.n,.int .i64 h.a,.slice q n c,.slice r m d]/\Rd (U w) w.heap.size (.slice q n c) 1 (cO ty h.l) (cB ty (dJ 1 12))/\Rd (U w) w.heap.size (.slice r m d) 5 (cJ ty x) (tDs ty (cH 1 12))
theorem RLent.on{w w':World}{v:Value}{h:Hd}{x:Ts}(hm:RLent w v h x)(hb:Below w.heap.size w w'):RLent w' v h x:=by
 obtain⟨q,n,c,r,m,d,e1,h1,h2⟩:=hm
 exact⟨q,n,c,r,m,d,e1,h1.on hb,h2.on hb⟩
theorem xT(h:Hd)(x:Ts)(va vb:Value)(w:World)(ha:RLent w va h x)(hb:RM ty w vb h x)(hkl:VK h.l)
  (hk:∀W v v',Rd (U W) W.heap.size v 5 (cJ ty x) (tDs ty (cH 1 12))->RT ty W v' x->Calls prog 97 #[v,v'] W λ e w'=>e=.returned (.bool true)/\Below W.heap.size W w') :
  Calls prog 27 #[va,vb] w λ e w'=>e=.returned (.bool true)/\Below w.heap.size w w':=by
 obtain⟨q,n,c,r,m,d,rfl,hl,hx⟩:=ha
 obtain⟨q',n',c',r',m',d',rfl,hl',hx'⟩:=hb
 obtain⟨k0,hk0⟩:∃k,h.k=k:=⟨_,rfl⟩
 obtain⟨n0,hn0⟩:∃k,h.n=k:=⟨_,rfl⟩
 obtain⟨a0,ha0⟩:∃k,h.a=k:=⟨_,rfl⟩
 have H16:Hid (∀W,Below w.heap.size w W->Calls prog 37 #[.agg #[.int .i64 h.k,.int .i64 h.n,.int .i64 h.a,.slice q n c,.slice r m d],.agg #[.int .i64 h.k,.int .i64 h.n,.int .i64 h.a,.slice q' n' c',.slice r' m' d']] W λ e w'=>e=.returned (.bool true)/\Below W.heap.size W w'):=λ W hW =>
  kJ h x _ _ W ⟨_,_,_,_,_,_,rfl,(hl.lentL_plain).on hW,(hx.lentT_plain).on hW⟩ ⟨_,_,_,_,_,_,rfl,hl'.on hW,hx'.on hW⟩
 have H67:Hid (∀W,Below w.heap.size w W->Calls prog 119 #[.slice q n c,.slice q' n' c'] W λ e w'=>e=.returned (.bool true)/\Below W.heap.size W w'):=λ W hW=>hkl _ _ W (hl.on hW) (hl'.on hW)
 have H22:Hid (∀W,Below w.heap.size w W->Calls prog 97 #[.slice r m d,.slice r' m' d'] W λ e w'=>e=.returned (.bool true)/\Below W.heap.size W w'):=λ W hW=>hk W _ _ (hx.on hW) (hx'.on hW)
 rw[hk0,hn0,ha0] at H16 ⊢
 obtain⟨W0,hW0⟩:∃W0,(w.alloc (.cells #[.int .i64 k0,.int .i64 n0,.int .i64 a0,.slice q n c,.slice r m d] 27)).alloc (.cells #[.int .i64 k0,.int .i64 n0,.int .i64 a0,.slice q' n' c',.slice r' m' d'] 27)=W0:=⟨_,rfl⟩
 have hB0:Below w.heap.size w W0:=by rw[<-hW0];exact aB (aA _ _) (aA _ _)
 have p1:∀o v,(#[.int .i64 k0,.int .i64 n0,.int .i64 a0,.slice q n c,.slice r m d]:Array Value)[o]? = some v->U W0 w.heap.size o=some v:=λ o v hv=>by
  rw[<-hW0];exact aE (aA _ _) _ _ _ (by simp) (aM hv)
 have p2:∀o v,(#[.int .i64 k0,.int .i64 n0,.int .i64 a0,.slice q' n' c',.slice r' m' d']:Array Value)[o]? = some v->U W0 (w.heap.size+1) o=some v:=λ o v hv=>by
  have:=aM (w:=w.alloc (.cells #[.int .i64 k0,.int .i64 n0,.int .i64 a0,.slice q n c,.slice r m d] 27)) (ty:=27) hv
  rw[World.size_alloc,hW0] at this
  exact this
 have c0:=aD (p1 0 _ rfl)
 have c1:=aD (p1 1 _ rfl)
 have c2:=aD (p1 2 _ rfl)
 have c3:=aD (p1 3 _ rfl)
 have c4:=aD (p1 4 _ rfl)
 have d0:=aD (p2 0 _ rfl)
 have d1:=aD (p2 1 _ rfl)
 have d2:=aD (p2 2 _ rfl)
 have d3:=aD (p2 3 _ rfl)
 have d4:=aD (p2 4 _ rfl)
 have HB0:=hid hB0
 have P1:=hid p1
 have P2:=hid p2
 clear hl hl' hx hx' hk hkl hk0 hn0 ha0 hB0 p1 p2
 go_enter func27,ntmps27
 go_wp2_with fail
 refine (H16.out _ HB0.out).mono ?_
 rintro e w1 ⟨rfl,hb1⟩
 have f3:=aD (aE hb1 _ _ _ (aL (P1.out 3 _ rfl)) (P1.out 3 _ rfl))
 have f4:=aD (aE hb1 _ _ _ (aL (P2.out 3 _ rfl)) (P2.out 3 _ rfl))
 have Q1:Hid (U w1 w.heap.size 4=some (.slice r m d)):=hid (aE hb1 _ _ _ (aL (P1.out 4 _ rfl)) (P1.out 4 _ rfl))
 have Q2:Hid (U w1 (w.heap.size+1) 4=some (.slice r' m' d')):=hid (aE hb1 _ _ _ (aL (P2.out 4 _ rfl)) (P2.out 4 _ rfl))
 have HB1:=hid (aB HB0.out hb1)
 clear hb1 hW0 c0 c1 c2 c3 c4 d0 d1 d2 d3 d4
 go_wp2_with fail
 refine (H67.out _ HB1.out).mono ?_
 rintro e w2 ⟨rfl,hb2⟩
 have g3:=aD (aE hb2 _ _ _ (aL Q1.out) Q1.out)
 have g4:=aD (aE hb2 _ _ _ (aL Q2.out) Q2.out)
 have HB2:=hid (aB HB1.out hb2)
 clear hb2 f3 f4
 go_wp2_with fail
 refine (H22.out _ HB2.out).mono ?_
 rintro e w3 ⟨rfl,hb3⟩
 have HB3:=hid (aB HB2.out hb3)
 clear hb3
 go_wp2_with fail
 go_ret
 exact⟨rfl,HB3.out⟩
theorem ME(k n i:Nat)(h:i<n):(cH k n).hd i=R5 k i/\(cH k n).kd i=.nil:=by
 induction n with
 | zero=>omega
 | succ n ih =>
  have key:∀(x:Ts) (h:Hd) (i:Nat),(i<x.len->(x.snoc h .nil).hd i=x.hd i/\(x.snoc h .nil).kd i=x.kd i)/\(i=x.len->(x.snoc h .nil).hd i=h/\(x.snoc h .nil).kd i=.nil):=by
   intro x h
   induction x with
   | nil=>intro i;exact⟨fun hi=>by simp[Ts.len] at hi,λ hi=>by subst hi;exact⟨rfl,rfl⟩⟩
   | cons w y r _ ihr =>
    intro i
    cases i with
    | zero=>exact⟨fun _=>⟨rfl,rfl⟩,λ hi=>by simp[Ts.len] at hi⟩
    | succ i=>exact⟨fun hi=>(ihr i).1 (by simp[Ts.len] at hi;omega),λ hi=>(ihr i).2 (by simp[Ts.len] at hi;omega)⟩
  by_cases hi:i<n
  ·have:=(key (cH k n) (R5 k n) i).1 (by rw[pM];exact hi)
   exact⟨this.1.trans (ih hi).1,this.2.trans (ih hi).2⟩
  ·obtain rfl:i=n:=by omega
   exact (key (cH k i) (R5 k i) i).2 (pM k i).symm
theorem AN(hkl:∀l,aH l<=200000000->VK l)(M:Nat):∀(t:Ts) (va vb:Value) (w:World),t.count<M->Rd (U w) w.heap.size va 5 (cJ ty t) (tDs ty (cH 1 12))->RT ty w vb t->t.size<=200000000 ->
  Calls prog 97 #[va,vb] w λ e w'=>e=.returned (.bool true)/\Below w.heap.size w w':=by
 induction M with
 | zero=>intro t va vb w hm;omega
 | succ M ih =>
  intro t va vb w hm ha hb hs
  obtain⟨q,c,rfl,hc1,hc2,-⟩:=RT.slice (y:=ty) (w:=w) (t:=t) ha.lentT_plain
  obtain⟨q',c',rfl,hc3,hc4,-⟩:=hb.slice
  unfold maxLen at hc2 hc4
  obtain⟨hc5,hall⟩:=ha.whole (m:=12) (by rw[aF,pM]) (by decide) (by decide)
  have HA:=hid ha
  have HW:=hid hall
  have HB:=hid hb
  have HSZ:=hid hs
  have IH:=hid ih
  have HM:=hid hm
  have HKL:=hid hkl
  have hl:t.len<=200000000:=by have:=Ts.len_le_size t;omega
  obtain⟨n,hpn⟩:∃n,t.len=n:=⟨_,rfl⟩
  have HN:=hid hpn
  rw[hpn] at HA HW HB hc1 hc3 hc5 hl ⊢
  have hne:((n:Int) != (n:Int))=false:=by simp
  clear ha hb hall hpn hs ih hm hkl
  go_enter func97,ntmps97
  go_wp2_with fail
  clear hne
  go_loopw [6] (λ i wr=>∃k:Nat,k<=n+12/\i=.int .i64 k/\Below w.heap.size w wr) (λ i _=>n+12-(intOf i).toNat)
  case atStart=>exact⟨0,Nat.zero_le _,rfl,Below.refl _ _⟩
  case round =>
   obtain⟨k,hk,rfl,hB⟩:=hrel
   have HBB:=hid hB
   clear hB
   by_cases hlt:k<n+12
   ·have r1:decide ((k:Int)<(n:Int)+12)=true:=decide_eq_true (by omega)
    have i0:(0:Int)<=(k:Int):=by omega
    have i1:(k:Int)<(n:Int)+12:=by omega
    by_cases hkn:k<n
    ·have r2:decide ((k:Int)<(n:Int))=true:=decide_eq_true (by omega)
     have r4:decide (n<=k)=false:=decide_eq_false (by omega)
     have i2:(k:Int)<(n:Int):=by omega
     have hkt:k<t.len:=by rw[HN.out];exact hkn
     obtain⟨b,o,rfl,hlb,hAt,-⟩:=Rd.lies (HA.out.on HBB.out) (by omega)
     obtain⟨h1,h2,h3,⟨v,h4,hrv⟩,⟨v',h5,hrv'⟩⟩:=SM hAt (k:=k) hkt
     obtain⟨r,m,d,rfl,-⟩:=Rd.slice hrv
     obtain⟨s,p,f,rfl,-⟩:=Rd.slice hrv'
     obtain⟨b',o',rfl,hb2,u1,u2,u3,⟨r',d',u4,-,-,hr2⟩,⟨s',f',u5,-,-,hs2⟩⟩:=(HB.out.on HBB.out).at_ hkt
     have hsz:=Ts.size_kd hkt
     have hcnt:=Ts.count_kd hkt
     have HK:Hid (∀W:Grown wr,Calls prog 27 #[.agg #[.int .i64 (t.hd k).k,.int .i64 (t.hd k).n,.int .i64 (t.hd k).a,.slice r m d,.slice s p f],.agg #[.int .i64 (t.hd k).k,.int .i64 (t.hd k).n,.int .i64 (t.hd k).a,.slice r' (t.hd k).l.length d',.slice s' (t.kd k).len f']] W.it λ e w'=>e=.returned (.bool true)/\Below W.it.heap.size W.it w'):=λ W =>
      xT (t.hd k) (t.kd k) _ _ W.it ⟨_,_,_,_,_,_,rfl,hrv.on W.below,hrv'.on W.below⟩ ⟨_,_,_,_,_,_,rfl,hr2.on W.below,hs2.on W.below⟩ (HKL.out _ (by have:=HSZ.out;omega)) (λ W' v v' g1 g2=>IH.out (t.kd k) v v' W' (by have:=HM.out;omega) g1 g2 (by have:=HSZ.out;omega))
     obtain⟨z1,hz1⟩:∃z,(t.hd k).l.length=z:=⟨_,rfl⟩
     obtain⟨z2,hz2⟩:∃z,(t.kd k).len=z:=⟨_,rfl⟩
     obtain⟨x1,hx1⟩:∃z,(t.hd k).k=z:=⟨_,rfl⟩
     obtain⟨x2,hx2⟩:∃z,(t.hd k).n=z:=⟨_,rfl⟩
     obtain⟨x3,hx3⟩:∃z,(t.hd k).a=z:=⟨_,rfl⟩
     rw[hz1] at u4 HK
     rw[hz2] at u5 HK
     rw[hx1] at h1 u1 HK
     rw[hx2] at h2 u2 HK
     rw[hx3] at h3 u3 HK
     have e1:=Grown.cell h1
     have e2:=Grown.cell h2
     have e3:=Grown.cell h3
     have e4:=Grown.cell h4
     have e5:=Grown.cell h5
     have f1:=Grown.cell u1
     have f2:=Grown.cell u2
     have f3:=Grown.cell u3
     have f4:=Grown.cell u4
     have f5:=Grown.cell u5
     clear h1 h2 h3 h4 h5 u1 u2 u3 u4 u5 hrv hrv' hr2 hs2 hAt hz1 hz2 hx1 hx2 hx3 hsz hcnt hkt
     go_wp2_with fail
     refine iW (by kernel_rfl) (by kernel_rfl) ?_
     repeat (go_big_quiet_step (exact vQ (HK.out _)))
     refine wpQuiet_nil ?_
     intro _ hw'
     obtain⟨nq,hw''⟩:=hw'
     subst hw''
     have HNQ:=hid nq.below
     clear e1 e2 e3 e4 e5 f1 f2 f3 f4 f5
     obtain⟨wq,hwq⟩:∃wq,nq.it=wq:=⟨_,rfl⟩
     rw[hwq] at HNQ ⊢
     clear hwq nq
     go_wp2_with fail
     go_roundw
     case rel=>exact⟨k+1,by omega,by go_num,aB HBB.out HNQ.out⟩
     case measure=>simp[intOf];omega
    ·have r2:decide ((k:Int)<(n:Int))=false:=decide_eq_false (by omega)
     have r4:decide (n<=k)=true:=decide_eq_true (by omega)
     obtain⟨b,o,rfl,hlb,hAt,-⟩:=Rd.lies (HW.out.on HBB.out) (by omega)
     have hAt2:=(At.app.1 hAt).2
     have hoff:o+(cJ ty t).len+(k-n)*5=o+k*5:=by rw[V2,HN.out];omega
     obtain⟨h1,h2,h3,⟨v,h4,hrv⟩,⟨v',h5,hrv'⟩⟩:=t_at hAt2 (k:=k-n) (by rw[pM];omega)
     rw[hoff] at h1 h2 h3 h4 h5
     obtain⟨g1,g2⟩:=ME 1 12 (k-n) (by omega)
     rw[g1] at h1 h2 h3 hrv
     rw[g2] at hrv'
     obtain⟨r,m,d,rfl,-⟩:=Rd.slice hrv
     obtain⟨s,p,f,rfl,-⟩:=Rd.slice hrv'
     obtain⟨j,hj⟩:∃j,k-n=j:=⟨_,rfl⟩
     rw[hj] at h2
     have i2:(k:Int)-(n:Int)=(j:Int):=by omega
     obtain⟨x,hx⟩:∃x,jG 1 j=x:=⟨_,rfl⟩
     have HM1:Hid (∀W:Grown wr,Calls prog 132 #[.int .i64 1,.int .i64 j] W.it λ e w'=>e=.returned (.agg #[.int .i64 0,.int .i64 x,.int .i64 0,.slice none 0 0,.slice none 0 0])/\Below W.it.heap.size W.it w'):=λ W=>by rw[<-hx];exact pV 1 j W.it (by decide) (by omega)
     have h2':U wr b (o+k*5+1)=some (.int .i64 x):=by rw[<-hx];exact h2
     have h1':U wr b (o+k*5)=some (.int .i64 0):=h1
     have h3':U wr b (o+k*5+2)=some (.int .i64 0):=h3
     have HS:Hid (∀W:Grown wr,Calls prog 37 #[.agg #[.int .i64 0,.int .i64 x,.int .i64 0,.slice r m d,.slice s p f],.agg #[.int .i64 0,.int .i64 x,.int .i64 0,.slice none 0 0,.slice none 0 0]] W.it λ e w'=>e=.returned (.bool true)/\Below W.it.heap.size W.it w'):=λ W =>
      kJ ⟨0,x,0,[]⟩ .nil _ _ W.it ⟨_,_,_,_,_,_,rfl,Rd.on hrv W.below,Rd.on hrv' W.below⟩ ⟨_,_,_,_,_,_,rfl,Rd.none_ _ _ _,Rd.none_ _ _ _⟩
     have e1:=Grown.cell h1'
     have e2:=Grown.cell h2'
     have e3:=Grown.cell h3'
     have e4:=Grown.cell h4
     have e5:=Grown.cell h5
     clear h1 h2 h3 h4 h5 h1' h2' h3' hrv hrv' hAt hAt2 hoff g1 g2 hj hx
     go_wp2_with fail
     refine iW (by kernel_rfl) (by kernel_rfl) ?_
     repeat (go_big_quiet_step (first|(exact vQ (HM1.out _))|(exact vQ (HS.out _))))
     refine wpQuiet_nil ?_
     intro _ hw'
     obtain⟨nq,hw''⟩:=hw'
     subst hw''
     have HNQ:=hid nq.below
     clear e1 e2 e3 e4 e5
     obtain⟨wq,hwq⟩:∃wq,nq.it=wq:=⟨_,rfl⟩
     rw[hwq] at HNQ ⊢
     clear hwq nq
     go_wp2_with fail
     go_roundw
     case rel=>exact⟨k+1,by omega,by go_num,aB HBB.out HNQ.out⟩
     case measure=>simp[intOf];omega
   ·have r1:decide ((k:Int)<(n:Int)+12)=false:=decide_eq_false (by omega)
    go_wp2_with fail
    go_ret
    exact⟨rfl,HBB.out⟩
end
section
theorem V4(l:List Lv)(hs:aH l<=200000000):VK l:=λ va vb w ha hb=>I5 l va vb w ha hb hs
theorem tS(t:Ts)(va vb:Value)(w:World)(ha:Rd (U w) w.heap.size va 5 (cJ ty t) (tDs ty (cH 1 12)))(hb:RT ty w vb t)(hs:t.size<=200000000) :
  Calls prog 97 #[va,vb] w λ e w'=>e=.returned (.bool true)/\Below w.heap.size w w':=AN V4 _ t va vb w (Nat.lt_succ_self _) ha hb hs
theorem AO(h:Hd)(x:Ts)(va vb:Value)(w:World)(ha:RLent w va h x)(hb:RM ty w vb h x)(hs:aH h.l+x.size<=200000000) :
  Calls prog 27 #[va,vb] w λ e w'=>e=.returned (.bool true)/\Below w.heap.size w w':=xT h x va vb w ha hb (V4 _ (by omega)) λ W v v' h1 h2=>tS x v v' W h1 h2 (by omega)
end
section
variable {P:Program} {G:World->Prop} {tb:TB} {N:Nat} {F0:Mem} {w0:World}
def stX(l:List (Nat×AV))(b:List (Nat×Nat×Dc))(t:List (Nat×Nat))(fx:Nat->Option Value):St:={ bV l b t with fx:=fx }
theorem SN{s:St}{l:List (Nat×AV)}{b:List (Nat×Nat×Dc)}{t:List (Nat×Nat)}{fx:Nat->Option Value}(h:Le G N s (bV l b t))(hf:∀t x,fx t=some x->s.fx t=some x):Le G N s (stX l b t fx):=by
 intro F0 w0 a w hs
 obtain⟨h1,h2,h3,h4,h5,h6,-⟩:=h F0 w0 a w hs
 exact⟨⟨h1.1,h1.2⟩,h2,h3,h4,h5,h6,λ t x e=>hs.fix t x (hf t x e)⟩
def toK(G:World->Prop)(N:Nat)(st':St):Exit->St->Prop:=λ e s=>e=.normal/\Le G N s st'
theorem kX(hT:jE P tb)(hS:iU G)(hm:P.follows .mixedOrders=true){x y:Code}{Q:Exit->Act->World->Prop}{st st':St}{a:Act}{w:World}(hs:Sat G F0 w0 N st a w)(h:dL P G tb N x (toK G N st') st)
  (k:∀a' w',Sat G F0 w0 N st' a' w'->y.wp P Q a' w'):(x.seq y).wp P Q a w:=by
 refine wp_seq (wp_mono (kF hT hS hm h F0 w0 a w hs) ?_)
 rintro e a' w' ⟨s,⟨rfl,hle⟩,hs'⟩
 exact k a' w' (hle F0 w0 a' w' hs')
theorem GG(hG:G w0){st:St}{a:Act}(hok:∀t,(st.env t).ok (λ _=>none) (λ _=>none))(hb:st.bx=fun _=>none)(hτ:st.τ=fun _=>none)(hsz:a.tmps.size=N)(hd:a.defers=[])(hx:∀t x,st.fx t=some x->a.tmps.getD t undef=x)
  (hr:∀t,t<N->RepV (bJ (U w0) w0) (st.env t) [a.tmps.getD t undef]):Sat G (U w0) w0 N st a w0:=by
 refine⟨⟨fun t=>by rw[hb,hτ];exact hok t,λ k T d e=>by rw[hb] at e;cases e⟩,⟨bJ (U w0) w0,rfl,⟨fun _ _ _ h=>h,Nat.le_refl _,λ k T d e=>(by cases e),λ k k' h1=>(absurd rfl h1),λ k j b h1=>(absurd rfl h1),λ k k' b h1=>(absurd rfl h1)⟩,hb.symm,hτ.symm,rfl,λ _ _ _=>rfl,hr⟩,Below.refl _ _,hG,hsz,hd,hx⟩
theorem R8(hG:G w0){l:List AV}{vs:List Value}(hv:RepV (bJ (U w0) w0) (.list l) vs)(hN:l.length<=N)(hl:∀a∈l,a.ok (λ _=>none) (λ _=>none)) :
  Sat G (U w0) w0 N (jQ l) { tmps:=vs.toArray++Array.replicate (N-vs.toArray.size) undef,defers:=[] } w0:=by
 have hlen:∀(l:List AV) (vs:List Value),RepV (bJ (U w0) w0) (.list l) vs->vs.length=l.length/\∀t,RepV (bJ (U w0) w0) (l.getD t .junk) [vs.getD t undef]:=by
  intro l
  induction l with
  | nil=>intro vs h;rw[show vs=[] from h];exact⟨rfl,λ t=>trivial⟩
  | cons a l ih =>
   rintro vs ⟨y,ys,rfl,h1,h2⟩
   obtain⟨h3,h4⟩:=ih ys h2
   refine⟨by simp[h3],λ t=>?_⟩
   cases t with
   | zero=>exact h1
   | succ t=>exact h4 t
 obtain⟨hvl,hvs⟩:=hlen l vs hv
 refine GG hG (λ t=>?_) rfl rfl (by simp;omega) rfl (λ t x e=>by cases e) λ t ht=>?_
 ·show (l.getD t .junk).ok _ _
  rw[List.getD_eq_getElem?_getD]
  cases ht:l[t]? with
  | none=>trivial
  | some x=>exact hl x (List.mem_of_getElem? ht)
 ·have:=hvs t
  have e:(vs.toArray++Array.replicate (N-vs.toArray.size) undef).getD t undef=vs.getD t undef:=by
   rw[Array.getD_eq_getD_getElem?,Array.getElem?_append,List.getD_eq_getElem?_getD]
   by_cases h1:t<vs.length
   ·simp[h1]
   ·have h2:vs[t]? = none:=List.getElem?_eq_none (by omega)
    simp only[List.size_toArray,h1,if_false,h2,Option.getD_none]
    rw[Array.getElem?_replicate]
    split<;>rfl
  show RepV _ (l.getD t .junk) [(vs.toArray++Array.replicate (N-vs.toArray.size) undef).getD t undef]
  rw[e]
  exact this
theorem LW{n:Nat}{arr:Array Value}(h:arr.size=n):arr=((List.range n).map λ i=>arr.getD i undef).toArray:=by
 apply Array.ext_getElem?
 intro i
 subst h
 by_cases hi:i<arr.size
 ·simp[hi]
 ·simp[hi]
end
section
structure Tn (em:Nat) (X:Nat->Prop) (w w':World):Prop where
 os:w'.os=w.os
 tape:w'.tape=w.tape
 output:w'.output=w.output
 size:w.heap.size<=w'.heap.size
 block:∀b,b<w.heap.size->¬X b->w'.heap[b]? = w.heap[b]?
 keep:∀(b:Nat) (cur:Array Value) (fz:Nat×Nat),w.heap[b]? = some (Obj.cells cur em fz)->w'.heap[b]? = some (Obj.cells cur em fz)
theorem Tn.refl(em:Nat)(X:Nat->Prop)(w:World):Tn em X w w:=⟨rfl,rfl,rfl,Nat.le_refl _,λ _ _ _=>rfl,λ _ _ _ h=>h⟩
theorem Tn.trans{em:Nat}{X:Nat->Prop}{a b c:World}(h:Tn em X a b)(k:Tn em X b c):Tn em X a c :=
 ⟨k.os.trans h.os,k.tape.trans h.tape,k.output.trans h.output,Nat.le_trans h.size k.size,λ i hi hx=>(k.block i (Nat.lt_of_lt_of_le hi h.size) hx).trans (h.block i hi hx),λ i c f e=>k.keep i c f (h.keep i c f e)⟩
theorem Tn.trans'{em:Nat}{X Y:Nat->Prop}{a b c:World}(h:Tn em X a b)(k:Tn em Y b c)(hxy:∀i,i<a.heap.size->Y i->X i):Tn em X a c :=
 ⟨k.os.trans h.os,k.tape.trans h.tape,k.output.trans h.output,Nat.le_trans h.size k.size,λ i hi hx=>(k.block i (Nat.lt_of_lt_of_le hi h.size) (λ hy=>hx (hxy i hi hy))).trans (h.block i hi hx),λ i c f e=>k.keep i c f (h.keep i c f e)⟩
theorem Tn.mono{em:Nat}{X Y:Nat->Prop}{w w':World}(h:Tn em X w w')(hxy:∀i,i<w.heap.size->X i->Y i):Tn em Y w w' :=
 ⟨h.os,h.tape,h.output,h.size,λ i hi hy=>h.block i hi (λ hx=>hy (hxy i hi hx)),h.keep⟩
theorem bC{w:World}{b:Nat}{o:Obj}(h:w.heap[b]? = some o):b<w.heap.size:=(Array.getElem?_eq_some_iff.1 h).1
theorem Tn.of_below{em:Nat}{X:Nat->Prop}{w w':World}(h:Below w.heap.size w w'):Tn em X w w' :=
 ⟨h.os,h.tape,h.output,h.size,λ b hb _=>h.block b hb,λ b _ _ e=>by rw[h.block b (bC e)];exact e⟩
theorem Tn.below{em:Nat}{X:Nat->Prop}{w w':World}(h:Tn em X w w'){B:Nat}(hB:B<=w.heap.size)(hx:∀b,X b->B<=b):Below B w w' :=
 ⟨h.os,h.tape,h.output,h.size,λ b hb=>h.block b (Nat.lt_of_lt_of_le hb hB) (λ h1=>by have:=hx b h1;omega)⟩
theorem lH{g:Nat}{t:TypeId}:∀(vs:List Value) (o:Nat) (cur:Array Value) (w:World),w.heap[g]? = some (Obj.cells cur t (0,0))->o+vs.length<=cur.size ->
  ∃cur',(w.setCells g o vs).heap[g]? = some (Obj.cells cur' t (0,0))/\cur'.size=cur.size/\(∀p,p<o∨o+vs.length<=p->cur'[p]? = cur[p]?)/\∀j,j<vs.length->cur'[o+j]? = vs[j]?
 | [],o,cur,w,hg,_=>⟨cur,hg,rfl,λ _ _=>rfl,λ j hj=>by simp at hj⟩
 | v :: vs,o,cur,w,hg,hl=>by
  simp only[List.length_cons] at hl
  have h1:(w.setCell ⟨g,o,none⟩ v).heap[g]? = some (Obj.cells (cur.setIfInBounds o v) t (0,0)):=by
   rw[setCell_eq_setRow w g o cur t (0,0) v hg];exact setRow_heap w g cur _ t _ hg
  obtain⟨cur',h2,h3,h4,h5⟩:=lH vs (o+1) _ _ h1 (by rw[Array.size_setIfInBounds];omega)
  refine⟨cur',h2,by rw[h3,Array.size_setIfInBounds],λ p hp=>?_,λ j hj=>?_⟩
  ·simp only[List.length_cons] at hp
   rw[h4 p (by omega),Array.getElem?_setIfInBounds,if_neg (by omega)]
  ·cases j with
   | zero=>rw[Nat.add_zero,h4 o (by omega),Array.getElem?_setIfInBounds,if_pos rfl,if_pos (by omega)];rfl
   | succ j =>
    have:=h5 j (by simp at hj;omega)
    rw[show o+(j+1)=o+1+j by omega,this];rfl
theorem N9(w:World)(g o:Nat)(vs:List Value):(w.setCells g o vs).heap.size=w.heap.size:=by
 induction vs generalizing o w with
 | nil=>rfl
 | cons v vs ih=>rw[World.setCells,ih];simp[World.setCell]
theorem N8(w:World)(g o:Nat)(vs:List Value):(w.setCells g o vs).tape=w.tape:=by
 induction vs generalizing o w with
 | nil=>rfl
 | cons v vs ih=>rw[World.setCells,ih];rfl
theorem mS{w:World}{g o i:Nat}{vs:List Value}(hne:i≠g):(w.setCells g o vs).heap[i]? = w.heap[i]?:=by
 induction vs generalizing o w with
 | nil=>rfl
 | cons v vs ih=>rw[World.setCells,ih];exact Below.heap_setCell _ _ _ _ (by simpa using hne)
theorem lR{em e:Nat}{w:World}{g o:Nat}{cur:Array Value}(vs:List Value)(hg:w.heap[g]? = some (Obj.cells cur e (0,0)))(he:e≠em):Tn em (λ b=>b=g) w (w.setCells g o vs) :=
 ⟨World.os_setCells _ _ _ _,N8 _ _ _ _,World.output_setCells _ _ _ _,by rw[N9];exact Nat.le_refl _,λ b _ hb=>mS hb,λ b c f h=>by
  by_cases e1:b=g
  ·subst e1;rw[hg] at h;cases h;exact absurd rfl he
  ·rw[mS e1];exact h⟩
theorem zG{w:World}{g o n:Nat}{cur:Array Value}{t:TypeId}(hg:w.heap[g]? = some (Obj.cells cur t (0,0)))(hl:o+n<=cur.size):w.there g o n:=λ j hj =>
 ⟨by simp[World.cell?,hg];omega,by simp[World.frozen?,hg]⟩
theorem pR{w:World}{g o:Nat}{cur:Array Value}{t:TypeId}{xs:List Value}(hg:w.heap[g]? = some (Obj.cells cur t (0,0)))(h:∀j,j<xs.length->cur[o+j]? = xs[j]?):w.rangeAt g o xs:=λ j v hv=>by
 have hj:=(List.getElem?_eq_some_iff.1 hv).1
 simp[World.cell?,hg,h j hj,hv]
structure Kd where
 e:Nat
 sz:Nat
 em:Nat
 cel:World->Int->List Value->Prop
structure Kd.Ok (K:Kd):Prop where
 ne:K.e≠K.em
 pos:0<K.sz
 len:∀w M xs,K.cel w M xs->xs.length=K.sz
 one:∀w M xs,K.cel w M xs->∀u∈xs,u.oneCell'=true
 on:∀w w' M xs,(∀(b:Nat) (cur:Array Value) (fz:Nat×Nat),w.heap[b]? = some (Obj.cells cur K.em fz)->w'.heap[b]? = some (Obj.cells cur K.em fz))->K.cel w M xs->K.cel w' M xs
def mk(k i:Nat):Int:=1000003*((k:Int)+7)+i
def Mkd(K:Kd)(w:World)(cur:Array Value)(d k:Nat):Prop:=∀i,i<d->∃xs,K.cel w (mk k i) xs/\∀j,j<xs.length->cur[i*K.sz+j]? = xs[j]?
theorem Mkd.on{K:Kd}(hK:K.Ok){X:Nat->Prop}{w w':World}{cur:Array Value}{d k:Nat}(h:Mkd K w cur d k)(ht:Tn K.em X w w'):Mkd K w' cur d k:=λ i hi=>by
 obtain⟨xs,h1,h2⟩:=h i hi
 exact⟨xs,hK.on _ _ _ _ ht.keep h1,h2⟩
theorem Mkd.less{K:Kd}{w:World}{cur:Array Value}{d d' k:Nat}(h:Mkd K w cur d k)(hd:d'<=d):Mkd K w cur d' k:=λ i hi=>h i (by omega)
theorem Mkd.head{K:Kd}(hK:K.Ok){w:World}{cur cur':Array Value}{d k:Nat}(h:Mkd K w cur d k)(hc:∀p,p<d*K.sz->cur'[p]? = cur[p]?):Mkd K w cur' d k:=λ i hi=>by
 obtain⟨xs,h1,h2⟩:=h i hi
 refine⟨xs,h1,λ j hj=>?_⟩
 have hl:=hK.len _ _ _ h1
 have:(i+1)*K.sz<=d*K.sz:=Nat.mul_le_mul_right _ hi
 rw[hc _ (by rw[Nat.add_mul] at this;omega)]
 exact h2 j hj
theorem Mkd.next{K:Kd}{w:World}{cur:Array Value}{d k:Nat}{xs:List Value}(h:Mkd K w cur d k)(hx:K.cel w (mk k d) xs)(hc:∀j,j<xs.length->cur[d*K.sz+j]? = xs[j]?):Mkd K w cur (d+1) k:=λ i hi=>by
 by_cases e:i=d
 ·subst e;exact⟨xs,hx,hc⟩
 ·exact h i (by omega)
def vn:Value->Nat
 | .slice _ n _=>n
 | _=>0
def RowI(K:Kd)(lo:Nat)(w:World)(v:Value)(d k:Nat):Prop :=
 (∃p,v=.slice p 0 0/\d=0)∨∃g n cap cur,v=.slice (some ⟨g,0,none⟩) n cap/\lo<=g/\w.heap[g]? = some (Obj.cells cur K.e (0,0))/\n<=cap/\0<cap/\cap<=maxLen/\cur.size=cap*K.sz/\d<=n/\Mkd K w cur d k
def vb:Value->Option Nat
 | .slice (some a) _ (_+1)=>some a.block
 | _=>none
theorem qL{g n cap:Nat}(h:0<cap):vb (.slice (some ⟨g,0,none⟩) n cap)=some g:=by
 cases cap with
 | zero=>omega
 | succ c=>rfl
theorem RowI.lt{K:Kd}{lo:Nat}{w:World}{v:Value}{d k:Nat}(h:RowI K lo w v d k){b:Nat}(hb:vb v=some b):lo<=b/\b<w.heap.size:=by
 rcases h with ⟨p,rfl,-⟩|⟨g,n,cap,cur,rfl,h1,h2,h3,h4,-⟩
 ·cases p<;>cases hb
 ·rw[qL h4] at hb;cases hb;exact⟨h1,bC h2⟩
theorem RowI.on{K:Kd}(hK:K.Ok){X:Nat->Prop}{lo:Nat}{w w':World}{v:Value}{d k:Nat}(h:RowI K lo w v d k)(ht:Tn K.em X w w')(hx:∀(b:Nat) (cur:Array Value),w.heap[b]? = some (Obj.cells cur K.e (0,0))->vb v=some b->¬X b):RowI K lo w' v d k:=by
 rcases h with h|⟨g,n,cap,cur,rfl,h1,h2,h3,h4,h5,h6,h7,h8⟩
 ·exact .inl h
 ·exact .inr ⟨g,n,cap,cur,rfl,h1,by rw[ht.block g (bC h2) (hx g cur h2 (qL h4))];exact h2,h3,h4,h5,h6,h7,h8.on hK ht⟩
theorem RowI.start{K:Kd}{lo:Nat}{w:World}{v:Value}{d k k':Nat}(h:RowI K lo w v d k):RowI K lo w v 0 k':=by
 rcases h with ⟨p,rfl,-⟩|⟨g,n,cap,cur,rfl,h1,h2,h3,h4,h5,h6,h7,h8⟩
 ·exact .inl ⟨p,rfl,rfl⟩
 ·exact .inr ⟨g,n,cap,cur,rfl,h1,h2,h3,h4,h5,h6,Nat.zero_le _,λ i hi=>by omega⟩
theorem RowI.set{K:Kd}(hK:K.Ok){lo:Nat}{w:World}{g n cap d k:Nat}{xs:List Value}(h:RowI K lo w (.slice (some ⟨g,0,none⟩) n cap) d k)(hd:d<n)(hx:K.cel w (mk k d) xs) :
  w.there g (d*K.sz) K.sz/\RowI K lo (w.setCells g (d*K.sz) xs) (.slice (some ⟨g,0,none⟩) n cap) (d+1) k/\Tn K.em (λ b=>b=g) w (w.setCells g (d*K.sz) xs):=by
 rcases h with ⟨p,e,-⟩|⟨g,n,cap,cur,e,h1,h2,h3,h4,h5,h6,h7,h8⟩
 ·cases e;omega
 ·cases e
  have hl:=hK.len _ _ _ hx
  have hm:(d+1)*K.sz<=cap*K.sz:=Nat.mul_le_mul_right _ (by omega)
  rw[Nat.add_mul,Nat.one_mul] at hm
  have ht:=lR (em:=K.em) (o:=d*K.sz) xs h2 hK.ne
  obtain⟨cur',e1,e2,e3,e4⟩:=lH xs (d*K.sz) cur w h2 (by omega)
  refine⟨zG h2 (by omega),.inr ⟨g,n,cap,cur',rfl,h1,e1,h3,h4,h5,by rw[e2,h6],hd,?_⟩,ht⟩
  exact ((h8.on hK ht).head hK (λ p hp=>e3 p (.inl hp))).next (hK.on _ _ _ _ ht.keep hx) e4
theorem RowI.get{K:Kd}{lo:Nat}{w:World}{g n cap d k i:Nat}(h:RowI K lo w (.slice (some ⟨g,0,none⟩) n cap) d k)(hi:i<d):∃xs,K.cel w (mk k i) xs/\w.rangeAt g (i*K.sz) xs:=by
 rcases h with ⟨p,-,rfl⟩|⟨g,n,cap,cur,e,h1,h2,h3,h4,h5,h6,h7,h8⟩
 ·omega
 ·cases e
  obtain⟨xs,e1,e2⟩:=h8 i hi
  exact⟨xs,e1,pR h2 e2⟩
def RowsG(K:Kd)(lo:Nat)(w:World)(vs:List Value)(d:Nat->Nat):Prop:=∀k v,vs[k]? = some v->RowI K lo w v (d k) k
def BV(vs:List Value):Prop:=∀(k k':Nat) (v v':Value) (b:Nat),vs[k]? = some v->vs[k']? = some v'->vb v=some b->vb v'=some b->k=k'
def InV(vs:List Value)(b:Nat):Prop:=∃v∈vs,vb v=some b
theorem RowsG.set{K:Kd}(hK:K.Ok){lo:Nat}{w:World}{vs:List Value}(hD:BV vs){d:Nat->Nat}(h:RowsG K lo w vs d){k g n cap:Nat}{xs:List Value}(hv:vs[k]? = some (.slice (some ⟨g,0,none⟩) n cap))(hd:d k<n)(hx:K.cel w (mk k (d k)) xs) :
  w.there g (d k*K.sz) K.sz/\RowsG K lo (w.setCells g (d k*K.sz) xs) vs (λ j=>if j=k then d k+1 else d j)/\Tn K.em (InV vs) w (w.setCells g (d k*K.sz) xs):=by
 have hr:=h k _ hv
 have hcap:0<cap:=by
  rcases hr with ⟨p,e,-⟩|⟨_,_,_,_,e,_,_,_,h4,-⟩
  ·cases e;omega
  ·cases e;exact h4
 obtain⟨h1,h2,h3⟩:=hr.set hK hd hx
 refine⟨h1,λ j v hj=>?_,h3.mono λ b _ e=>⟨_,List.mem_of_getElem? hv,by rw[e];exact qL hcap⟩⟩
 by_cases e:j=k
 ·subst e
  rw[hv] at hj;cases hj
  show RowI _ _ _ _ (if j=j then _ else _) _
  rw[if_pos rfl];exact h2
 ·show RowI _ _ _ _ (if j=k then _ else _) _
  rw[if_neg e]
  exact (h j v hj).on hK h3 λ b _ _ hb e2=>e (hD j k v _ b hj hv hb (by rw[e2];exact qL hcap))
theorem RowsG.on{K:Kd}(hK:K.Ok){X:Nat->Prop}{lo:Nat}{w w':World}{vs:List Value}{d:Nat->Nat}(h:RowsG K lo w vs d)(ht:Tn K.em X w w')(hx:∀(b:Nat) (cur:Array Value),w.heap[b]? = some (Obj.cells cur K.e (0,0))->InV vs b->¬X b):RowsG K lo w' vs d:=λ k v hv =>
 (h k v hv).on hK ht λ b cur hc hb=>hx b cur hc ⟨v,List.mem_of_getElem? hv,hb⟩
end
end Go.Proofs.YtlfnfiihfjggoaaGreatDoor
section
namespace Go.Proofs
open Go.Shelf
def Tryz.keysA_ren:Go.Shelf.Ren:=⟨fun|7=>289|10=>293|n=>n,fun|23=>273|26=>3|3=>3|28=>290|0=>0|27=>289|33=>292|4=>4|n=>n,fun|n=>n⟩
theorem Tryz.keysA:Go.Proofs.SlLaysZI.n7 prog Tryz.keysA_ren:={
 mixed:=by kernel_rfl
 f7:=⟨Tryz.f289.name,by decide,func289.trans (congrArg some (by kernel_rfl))⟩
 f10:=⟨Tryz.f293.name,by decide,func293.trans (congrArg some (by kernel_rfl))⟩
 t0:=underlying0
 a0:=Tryz.isAgg0
 z0:=Tryz.sizeOf0
 v0:=Tryz.zeroValue0
 t4:=underlying4
 a4:=Tryz.isAgg4
 z4:=Tryz.sizeOf4
 v4:=Tryz.zeroValue4
 t23:=underlying273
 a23:=Tryz.isAgg273
 z23:=Tryz.sizeOf273
 v23:=Tryz.zeroValue273
 t26:=underlying3
 a26:=Tryz.isAgg3
 z26:=Tryz.sizeOf3
 v26:=Tryz.zeroValue3
 t27:=underlying289
 a27:=Tryz.isAgg289
 z27:=Tryz.sizeOf289
 v27:=Tryz.zeroValue289
 t28:=underlying290
 a28:=Tryz.isAgg290
 z28:=Tryz.sizeOf290
 v28:=Tryz.zeroValue290
 t33:=underlying292
 a33:=Tryz.isAgg292
 z33:=Tryz.sizeOf292
 v33:=Tryz.zeroValue292 }
def Tryz.sortedA_ren:Go.Shelf.Ren:=⟨fun|6=>288|8=>291|9=>292|11=>294|13=>296|12=>295|23=>306|24=>307|14=>297|15=>298|16=>299|17=>300|18=>301|19=>302|20=>303|21=>304|22=>305|25=>308|26=>309|27=>310|28=>311|29=>312|30=>313|31=>314|n=>n,fun|26=>3|28=>290|24=>103|0=>0|3=>3|37=>260|48=>231|50=>233|4=>4|40=>299|39=>298|45=>223|5=>5|9=>9|51=>307|55=>311|57=>313|58=>314|33=>292|n=>n,fun|n=>n⟩
theorem Tryz.sortedA:Go.Proofs.SlLaysZI.n6 prog Tryz.sortedA_ren:={
 mixed:=by kernel_rfl
 f6:=⟨Tryz.f288.name,by decide,func288.trans (congrArg some (by kernel_rfl))⟩
 f8:=⟨Tryz.f291.name,by decide,func291.trans (congrArg some (by kernel_rfl))⟩
 f11:=⟨Tryz.f294.name,by decide,func294.trans (congrArg some (by kernel_rfl))⟩
 t0:=underlying0
 a0:=Tryz.isAgg0
 z0:=Tryz.sizeOf0
 v0:=Tryz.zeroValue0
 t24:=underlying103
 a24:=Tryz.isAgg103
 z24:=Tryz.sizeOf103
 v24:=Tryz.zeroValue103
 t26:=underlying3
 a26:=Tryz.isAgg3
 z26:=Tryz.sizeOf3
 v26:=Tryz.zeroValue3
 t28:=underlying290
 a28:=Tryz.isAgg290
 z28:=Tryz.sizeOf290
 v28:=Tryz.zeroValue290
 i26:=by kernel_rfl }
def Tryz.sortA_ren:Go.Shelf.Ren:=⟨fun|5=>292|8=>296|7=>295|19=>306|20=>307|10=>297|11=>298|12=>299|13=>300|14=>301|15=>302|16=>303|17=>304|18=>305|30=>308|31=>309|32=>310|33=>311|34=>312|35=>313|40=>314|n=>n,fun|23=>103|25=>3|3=>3|32=>260|22=>103|0=>0|44=>231|46=>233|4=>4|36=>299|35=>298|41=>223|5=>5|9=>9|53=>307|57=>311|63=>313|64=>314|n=>n,fun|n=>n⟩
theorem Tryz.sortA:Go.Proofs.SlLaysM.n5 prog Tryz.sortA_ren:={
 mixed:=by kernel_rfl
 f5:=⟨Tryz.f292.name,by decide,func292.trans (congrArg some (by kernel_rfl))⟩
 f7:=⟨Tryz.f295.name,by decide,func295.trans (congrArg some (by kernel_rfl))⟩
 f8:=func296.trans (congrArg some (by kernel_rfl))
 f10:=⟨Tryz.f297.name,by decide,func297.trans (congrArg some (by kernel_rfl))⟩
 f11:=⟨Tryz.f298.name,by decide,func298.trans (congrArg some (by kernel_rfl))⟩
 f12:=⟨Tryz.f299.name,by decide,func299.trans (congrArg some (by kernel_rfl))⟩
 f13:=⟨Tryz.f300.name,by decide,func300.trans (congrArg some (by kernel_rfl))⟩
 f14:=⟨Tryz.f301.name,by decide,func301.trans (congrArg some (by kernel_rfl))⟩
 f15:=⟨Tryz.f302.name,by decide,func302.trans (congrArg some (by kernel_rfl))⟩
 f16:=⟨Tryz.f303.name,by decide,func303.trans (congrArg some (by kernel_rfl))⟩
 f17:=⟨Tryz.f304.name,by decide,func304.trans (congrArg some (by kernel_rfl))⟩
 f18:=⟨Tryz.f305.name,by decide,func305.trans (congrArg some (by kernel_rfl))⟩
 f19:=func306.trans (congrArg some (by kernel_rfl))
 f20:=func307.trans (congrArg some (by kernel_rfl))
 f30:=⟨Tryz.f308.name,by decide,func308.trans (congrArg some (by kernel_rfl))⟩
 f31:=func309.trans (congrArg some (by kernel_rfl))
 f32:=func310.trans (congrArg some (by kernel_rfl))
 f33:=⟨Tryz.f311.name,by decide,func311.trans (congrArg some (by kernel_rfl))⟩
 f34:=⟨Tryz.f312.name,by decide,func312.trans (congrArg some (by kernel_rfl))⟩
 f35:=⟨Tryz.f313.name,by decide,func313.trans (congrArg some (by kernel_rfl))⟩
 f40:=⟨Tryz.f314.name,by decide,func314.trans (congrArg some (by kernel_rfl))⟩
 t0:=underlying0
 a0:=Tryz.isAgg0
 z0:=Tryz.sizeOf0
 v0:=Tryz.zeroValue0
 t3:=underlying3
 a3:=Tryz.isAgg3
 z3:=Tryz.sizeOf3
 v3:=Tryz.zeroValue3
 t4:=underlying4
 a4:=Tryz.isAgg4
 z4:=Tryz.sizeOf4
 v4:=Tryz.zeroValue4
 t5:=underlying5
 a5:=Tryz.isAgg5
 z5:=Tryz.sizeOf5
 v5:=Tryz.zeroValue5
 t9:=underlying9
 a9:=Tryz.isAgg9
 z9:=Tryz.sizeOf9
 v9:=Tryz.zeroValue9
 t22:=underlying103
 a22:=Tryz.isAgg103
 z22:=Tryz.sizeOf103
 v22:=Tryz.zeroValue103
 t23:=underlying103
 a23:=Tryz.isAgg103
 z23:=Tryz.sizeOf103
 v23:=Tryz.zeroValue103
 t25:=underlying3
 a25:=Tryz.isAgg3
 z25:=Tryz.sizeOf3
 v25:=Tryz.zeroValue3
 t32:=underlying260
 a32:=Tryz.isAgg260
 z32:=Tryz.sizeOf260
 v32:=Tryz.zeroValue260
 t35:=underlying298
 a35:=Tryz.isAgg298
 z35:=Tryz.sizeOf298
 v35:=Tryz.zeroValue298
 t36:=underlying299
 a36:=Tryz.isAgg299
 z36:=Tryz.sizeOf299
 v36:=Tryz.zeroValue299
 t41:=underlying223
 a41:=Tryz.isAgg223
 z41:=Tryz.sizeOf223
 v41:=Tryz.zeroValue223
 t44:=underlying231
 a44:=Tryz.isAgg231
 z44:=Tryz.sizeOf231
 v44:=Tryz.zeroValue231
 t46:=underlying233
 a46:=Tryz.isAgg233
 z46:=Tryz.sizeOf233
 v46:=Tryz.zeroValue233
 t53:=underlying307
 a53:=Tryz.isAgg307
 z53:=Tryz.sizeOf307
 v53:=Tryz.zeroValue307
 t57:=underlying311
 a57:=Tryz.isAgg311
 z57:=Tryz.sizeOf311
 v57:=Tryz.zeroValue311
 t63:=underlying313
 a63:=Tryz.isAgg313
 z63:=Tryz.sizeOf313
 v63:=Tryz.zeroValue313
 t64:=underlying314
 a64:=Tryz.isAgg314
 z64:=Tryz.sizeOf314
 v64:=Tryz.zeroValue314 }
end Go.Proofs
end
namespace Go.Proofs.YtlfnfiihfjggoaaGreatDoor
open Go.RowKit Go.Proofs.Tryz
end Go.Proofs.YtlfnfiihfjggoaaGreatDoor
section
namespace Go.Proofs
open Go.RowKit Go.Maps Go.Sort Go.Shelf
theorem Tryz.sortsA(m:Nat):AnyZI.SortsIn prog Tryz.sortedA_ren Fence.wide m :=
 ⟨fun blk off cap ss W hH hblk hsz=>callsIn_wide.2 (AnyM.slices_Sort_int Tryz.sortA blk off cap ss W hH hblk hsz),
  fun p cap W=>callsIn_wide.2 (AnyM.slices_Sort_int_none Tryz.sortA p cap W)⟩
theorem Tryz.keys_calls(mb:Option Nat)(W:World):Calls prog 289 #[.map mb] W λ e w'=>e=.returned (.func (.func 293) #[] #[.pointer (some ⟨W.heap.size,0,none⟩)])/\w'=W.alloc (.cells #[.map mb] 273) :=
 (callsIn_wide (n:=5)).1 (AnyZI.keys_in Tryz.keysA Fence.wide 5 trivial rfl mb W)
theorem Tryz.sorted_calls{H:Type}(b nn:Nat)(D0:DataW H)(R:Value->Option (DataW H×List MemPlace))(w:World)(hown:w.ownsMap prog 3 R b nn D0)(hmax:Maps.size D0<=maxLen)(hbytes:Maps.size D0*8<=140737488355328) :
  Calls prog 288 #[.func (.func 293) #[] #[.pointer (some ⟨w.heap.size,0,none⟩)]] (w.alloc (.cells #[.map (some b)] 273)) λ e w'=>∃(v:Value) (ss:List Int),e=.returned v/\ss.Perm (intKeys D0) /\
   w'.ownsRow (w.alloc (.cells #[.map (some b)] 273)).heap.size 3 1 v ss.length ((ss.mergeSort (λ x y=>decide (x<=y))).map encZ)/\(v=.slice none 0 0↔ss=[])/\Below (w.alloc (.cells #[.map (some b)] 273)).heap.size (w.alloc (.cells #[.map (some b)] 273)) w':=by
 have hbl:=hown.lt
 have hseq:SeqGives Fence.wide 2 prog 293 #[.pointer (some ⟨w.heap.size,0,none⟩)] encZ (λ ss=>ss.Perm (intKeys D0)) (Maps.size D0) (w.alloc (.cells #[.map (some b)] 273)) :=
  AnyZI.keys_gives (ρ:=Tryz.keysA_ren) { Tryz.keysA with } Fence.wide _ trivial rfl (by omega) w.heap.size b nn D0 _ (by simp) (by simp) (by
   obtain⟨es,clock,hb,Ft,hs,hD⟩:=hown
   exact⟨es,clock,(Below.heap_alloc _ _ b hbl).trans hb,Ft,hs,hD⟩)
 exact (callsIn_wide (n:=5)).1 (AnyZI.sorted_in Tryz.sortedA Fence.wide 5 trivial trivial trivial trivial rfl (by omega) (Tryz.sortsA _) (enters_of func292 (by kernel_rfl) rfl) 293 #[.pointer (some ⟨w.heap.size,0,none⟩)] trivial (enters_of func293 (by kernel_rfl) rfl) _ _ hmax hbytes _ hseq)
end Go.Proofs
end
namespace Go.Proofs.YtlfnfiihfjggoaaGreatDoor
open Go.RowKit Go.Proofs.Tryz
section
variable {P:Program}
structure Sty (P:Program) (K:Kd) (t:Nat):Prop where
 t:P.underlying t=some (.slice K.e)
 i:∃(i:TypeInfo) (z:Value),P.info? K.e=some i/\i.zero=some z/\i.size=K.sz/\z.cells.size=K.sz/\i.bytes<=1000
def RowA(K:Kd)(w:World)(v:Value):Prop :=
 (∃p,v=.slice p 0 0)∨∃g n cap cur,v=.slice (some ⟨g,0,none⟩) n cap/\w.heap[g]? = some (Obj.cells cur K.e (0,0))/\n<=cap/\0<cap/\cap<=maxLen/\cur.size=cap*K.sz
theorem LY{K:Kd}{t:Nat}(hS:Sty P K t)(ty:TypeId)(w:World){v:Value}(hv:RowA K w v){a:Addr}{m c:Nat}{news:List Value}(hl:news.length=m*K.sz)(hm:0<m)(hnews:∀j u,news[j]? = some u->w.cell? (a.add j)=some u)
  (h1:∀u∈news,u.oneCell'=true) (h63:vn v+m<=100000000000) :
  ∃h cap' cur' w',(Builtin.append_ #[t,t] ty #[v,.slice (some a) m c]).run P w=.ok (.slice (some ⟨h,0,none⟩) (vn v+m) cap') w'/\w'.heap[h]? = some (Obj.cells cur' K.e (0,0))/\vn v+m<=cap'/\cap'<=maxLen/\cur'.size=cap'*K.sz /\
   (∀j,j<news.length->cur'[vn v*K.sz+j]? = news[j]?)/\(∀g n cap cur,v=.slice (some ⟨g,0,none⟩) n cap->w.heap[g]? = some (Obj.cells cur K.e (0,0))->∀p,p<vn v*K.sz->cur'[p]? = cur[p]?) /\
   ((vb v=some h/\w'=w.setCells h (vn v*K.sz) news)∨(h=w.heap.size/\Below w.heap.size w w')):=by
 obtain⟨ht,i,z,hi,hz,hsz,hzs,hby⟩:=hS
 have hmm:vn v+m<=maxLen:=by unfold maxLen;omega
 have hmb:(vn v+m)*i.bytes<=100000000000*1000:=Nat.mul_le_mul h63 hby
 have hmb1:m*i.bytes<=100000000000*1000:=Nat.mul_le_mul (by omega) hby
 have hbel:∀o,Below w.heap.size w (w.drew.alloc o):=λ o=>aB (aZ w) (aA w.drew o)
 rcases hv with ⟨p,rfl⟩|⟨g,n,cap,cur,rfl,hg,hnc,hc0,hcm,hcs⟩
 ·cases p with
  | none =>
   have hr:=run_append_nil (P:=P) w t ty K.e i z ht hi hz a m c news (by rw[hl,hsz]) hnews hm (by omega) (by omega)
   simp only[vn,Nat.zero_add] at hmm hmb ⊢
   refine⟨_,_,_,_,hr,heap_alloc_new w.drew _,grownCap_ge w m 0 K.e,grownCap_le_maxLen w m 0 K.e hmm,?_,λ j hj=>?_,(λ _ _ _ _ e=>by cases e),.inr ⟨rfl,hbel _⟩⟩
   ·have:=grownCap_ge w m 0 K.e
    simp only[Array.size_append,List.size_toArray,size_zeroCells,hzs,hl,<-Nat.add_mul]
    congr 1;omega
   ·rw[Nat.zero_mul,Nat.zero_add,Array.getElem?_append_left (by simpa using hj)];simp
  | some b =>
   have hr:=run_append_grow (P:=P) w t ty K.e i z ht hi hz b 0 0 [] (by simp) (λ j v h=>by simp at h) a m c news (by rw[hl,hsz]) hnews (by omega) (by omega)
    (by rw[Nat.zero_add,nextslicecap_zero hm];omega)
   simp only[vn,Nat.zero_add] at hmm hmb hr ⊢
   refine⟨_,_,_,_,hr,heap_alloc_new w.drew _,grownCap_ge w m 0 K.e,grownCap_le_maxLen w m 0 K.e hmm,?_,λ j hj=>?_,(λ _ _ _ _ _ _ p hp=>by omega),.inr ⟨rfl,hbel _⟩⟩
   ·have:=grownCap_ge w m 0 K.e
    simp only[Array.size_append,List.size_toArray,size_zeroCells,hzs,hl,List.length_nil,Nat.zero_add,<-Nat.add_mul]
    congr 1;omega
   ·rw[Nat.zero_mul,Nat.zero_add]
    simp only[Array.append_assoc]
    rw[Array.getElem?_append_right (by simp)]
    rw[Array.getElem?_append_left (by simpa using hj)];simp
 ·have hn:vn (.slice (some ⟨g,0,none⟩) n cap)=n:=rfl
  rw[hn] at hmm hmb h63 ⊢
  by_cases hroom:n+m<=cap
  ·have hle:n*K.sz+news.length<=cur.size:=by rw[hl,hcs,<-Nat.add_mul];exact Nat.mul_le_mul_right _ hroom
   have hth:=zG (w:=w) hg hle
   have hr:=run_append_room_cells (P:=P) w t ty K.e i ht hi g 0 n cap a m c news (by rw[hl,hsz]) hnews h1 hroom (λ j hj=>by rw[Nat.zero_add,hsz];exact (hth j hj).1) (λ j hj=>by rw[Nat.zero_add,hsz];exact (hth j hj).2)
   rw[Nat.zero_add,hsz] at hr
   obtain⟨cur',e1,e2,e3,e4⟩:=lH news (n*K.sz) cur w hg hle
   refine⟨g,cap,cur',_,hr,e1,hroom,hcm,by rw[e2,hcs],e4,λ g' n' cap' cur0 e h0 p hp=>?_,.inl ⟨qL hc0,rfl⟩⟩
   cases e
   rw[hg] at h0;cases h0
   exact e3 p (.inl hp)
  ·have hol:n*K.sz<=cur.size:=by rw[hcs];exact Nat.mul_le_mul_right _ hnc
   have hfit:Builtin.nextslicecap (n+m) cap*i.bytes<=281474976710656:=growslice_fits (by omega) (by omega)
   have hr:=run_append_grow (P:=P) w t ty K.e i z ht hi hz ⟨g,0,none⟩ n cap (cur.toList.take (n*K.sz)) (by rw[List.length_take,Array.length_toList,hsz];omega) (λ j v h=>by
     have hj:j<n*K.sz:=by have:=(List.getElem?_eq_some_iff.1 h).1;rw[List.length_take] at this;omega
     rw[List.getElem?_take,if_pos hj] at h
     rw[Addr.add_mid]
     simpa[World.cell?,hg] using h) a m c news (by rw[hl,hsz]) hnews (by omega) (by omega) hfit
   have hge:=grownCap_ge w (n+m) cap K.e
   refine⟨_,_,_,_,hr,heap_alloc_new w.drew _,hge,grownCap_le_maxLen w (n+m) cap K.e hmm,?_,λ j hj=>?_,λ g' n' cap' cur0 e h0 p hp=>?_,.inr ⟨rfl,hbel _⟩⟩
   ·simp only[Array.size_append,List.size_toArray,size_zeroCells,hzs,hl,List.length_take,Array.length_toList,Nat.min_eq_left hol,<-Nat.add_mul]
    congr 1;omega
   ·rw[Array.append_assoc,Array.getElem?_append_right (by simp;omega)]
    rw[Array.getElem?_append_left (by simp;omega)]
    simp[Nat.min_eq_left hol]
   ·cases e
    rw[hg] at h0;cases h0
    rw[Array.append_assoc,Array.getElem?_append_left (by simp;omega)]
    simp[hp]
end
section
variable {P:Program}
theorem RowI.rowA{K:Kd}{lo:Nat}{w:World}{v:Value}{d k:Nat}(h:RowI K lo w v d k):RowA K w v:=by
 rcases h with ⟨p,rfl,-⟩|⟨g,n,cap,cur,rfl,h1,h2,h3,h4,h5,h6,h7,h8⟩
 ·exact .inl ⟨p,rfl⟩
 ·exact .inr ⟨g,n,cap,cur,rfl,h2,h3,h4,h5,h6⟩
def Cur(K:Kd)(s:Nat)(w:World)(v gv:Value)(t k:Nat):Prop :=
 (t=0/\gv=v)∨∃h cap cur,gv=.slice (some ⟨h,0,none⟩) (vn v+t) cap/\w.heap[h]? = some (Obj.cells cur K.e (0,0))/\vn v+t<=cap/\0<cap/\cap<=maxLen/\cur.size=cap*K.sz/\(vb v=some h∨s<=h)/\Mkd K w cur (vn v+t) k
theorem Cur.on{K:Kd}(hK:K.Ok){X:Nat->Prop}{s:Nat}{w w':World}{v gv:Value}{t k:Nat}(h:Cur K s w v gv t k)(ht:Tn K.em X w w')(hx:∀(b:Nat) (cur:Array Value),w.heap[b]? = some (Obj.cells cur K.e (0,0))->(vb v=some b∨s<=b)->¬X b):Cur K s w' v gv t k:=by
 rcases h with h|⟨h,cap,cur,h1,h2,h3,h4,h5,h6,h7,h8⟩
 ·exact .inl h
 ·exact .inr ⟨h,cap,cur,h1,by rw[ht.block h (bC h2) (hx h cur h2 h7)];exact h2,h3,h4,h5,h6,h7,h8.on hK ht⟩
theorem Cur.len{K:Kd}{s:Nat}{w:World}{v gv:Value}{lo d t k k':Nat}(hr:RowI K lo w v d k')(h:Cur K s w v gv t k):∃p c,gv=.slice p (vn v+t) c:=by
 rcases h with ⟨rfl,rfl⟩|⟨h,cap,cur,h1,-⟩
 ·rcases hr with ⟨p,rfl,-⟩|⟨g,n,cap,cur,rfl,-⟩
  ·exact⟨p,0,rfl⟩
  ·exact⟨_,cap,rfl⟩
 ·exact⟨_,_,h1⟩
theorem RowI.tnx{K:Kd}(hK:K.Ok){lo:Nat}{w w':World}{v:Value}{d k h o:Nat}{xs:List Value}{cur0:Array Value}(hr:RowI K lo w v d k)(hvb:∀b,vb v=some b->b=h->d*K.sz<=o)(hh:w.heap[h]? = some (Obj.cells cur0 K.e (0,0)))(hw:w'=w.setCells h o xs)(hfit:o+xs.length<=cur0.size):RowI K lo w' v d k:=by
 subst hw
 have ht:=lR (em:=K.em) (o:=o) xs hh hK.ne
 rcases hr with hr|⟨g,n,cap,cur,rfl,h1,h2,h3,h4,h5,h6,h7,h8⟩
 ·exact .inl hr
 ·by_cases e:g=h
  ·subst e
   have e9:cur=cur0:=by rw[h2] at hh;injection hh with hh;injection hh
   subst e9
   obtain⟨cur',e1,e2,e3,e4⟩:=lH xs o cur w h2 hfit
   have:=hvb g (qL h4) rfl
   exact .inr ⟨g,n,cap,cur',rfl,h1,e1,h3,h4,h5,by rw[e2,h6],h7,(h8.on hK ht).head hK λ p hp=>e3 p (.inl (by omega))⟩
  ·exact .inr ⟨g,n,cap,cur,rfl,h1,by rw[mS e];exact h2,h3,h4,h5,h6,h7,h8.on hK ht⟩
theorem Cur.grow{K:Kd}(hK:K.Ok){ts:Nat}(hS:Sty P K ts)(ty:TypeId){lo s:Nat}{w:World}{v gv:Value}{t k:Nat}(hr:RowI K lo w v (vn v) k)(hs:∀b,vb v=some b->b<s)(hsw:s<=w.heap.size)(h:Cur K s w v gv t k)
  {a:Addr} {c:Nat} {xs:List Value} (hx:K.cel w (mk k (vn v+t)) xs) (hxs:∀j u,xs[j]? = some u->w.cell? (a.add j)=some u) (h63:vn v+t+1<=100000000000) :
  ∃gv' w',(Builtin.append_ #[ts,ts] ty #[gv,.slice (some a) 1 c]).run P w=.ok gv' w'/\RowI K lo w' v (vn v) k/\Cur K s w' v gv' (t+1) k/\Tn K.em (λ b=>vb v=some b∨s<=b) w w':=by
 have hl:xs.length=1*K.sz:=by rw[Nat.one_mul];exact hK.len _ _ _ hx
 have hA:RowA K w gv:=by
  rcases h with ⟨-,rfl⟩|⟨h,cap,cur,h1,h2,h3,h4,h5,h6,h7,h8⟩
  ·exact hr.rowA
  ·exact .inr ⟨h,_,cap,cur,h1,h2,h3,h4,h5,h6⟩
 have hn:vn gv=vn v+t:=by
  obtain⟨p,c,e⟩:=h.len hr
  rw[e];rfl
 obtain⟨h',cap',cur',w',e1,e2,e3,e4,e5,e6,e7,e8⟩:=LY hS ty w hA hl (by omega) hxs (hK.one _ _ _ hx) (by omega)
 rw[hn] at e1 e3 e6 e7 e8
 have hmk:Mkd K w cur' (vn v+t) k:=by
  rcases h with ⟨rfl,rfl⟩|⟨h,cap,cur,h1,h2,h3,h4,h5,h6,h7,h8⟩
  ·rcases hr with ⟨p,rfl,-⟩|⟨g,n,cap,cur,rfl,h1,h2,h3,h4,h5,h6,h7,h8⟩
   ·intro i hi;simp[vn] at hi
   ·exact h8.head hK λ p hp=>e7 g n cap cur rfl h2 p hp
  ·exact h8.head hK λ p hp=>e7 h _ cap cur h1 h2 p hp
 have fin:∀X,Tn K.em X w w'->(vb v=some h'∨s<=h')->Cur K s w' v (.slice (some ⟨h',0,none⟩) (vn v+t+1) cap') (t+1) k:=λ X ht hb =>
  .inr ⟨h',cap',cur',rfl,e2,e3,by omega,e4,e5,hb,(hmk.on hK ht).next (hK.on _ _ _ _ ht.keep hx) e6⟩
 rcases e8 with ⟨e8,rfl⟩|⟨rfl,e8⟩
 ·have hb:vb v=some h'∨s<=h':=by
   rcases h with ⟨-,rfl⟩|⟨h,cap,cur,rfl,h2,h3,h4,h5,h6,h7,h8⟩
   ·exact .inl e8
   ·rw[qL h4] at e8;cases e8;exact h7
  have hh:∃cur0,w.heap[h']? = some (Obj.cells cur0 K.e (0,0))/\(vn v+t)*K.sz+xs.length<=cur0.size:=by
   obtain⟨cur0,c1,c2⟩:∃cur0,w.heap[h']? = some (Obj.cells cur0 K.e (0,0))/\True:=by
    rcases hA with ⟨p,rfl⟩|⟨g,n,cap,cur,rfl,g1,g2,g3,g4,g5⟩
    ·cases p<;>cases e8
    ·rw[qL g3] at e8;cases e8;exact⟨cur,g1,trivial⟩
   refine⟨cur0,c1,?_⟩
   apply Classical.byContradiction
   intro hc
   have:=e5
   have hsz:(w.setCells h' ((vn v+t)*K.sz) xs).heap[h']? = some (Obj.cells cur' K.e (0,0)):=e2
   have key:∀(vs:List Value) (o:Nat) (c0:Array Value) (w:World),w.heap[h']? = some (Obj.cells c0 K.e (0,0))->∃c1,(w.setCells h' o vs).heap[h']? = some (Obj.cells c1 K.e (0,0))/\c1.size=c0.size:=by
    intro vs
    induction vs with
    | nil=>intro o c0 w h;exact⟨c0,h,rfl⟩
    | cons u vs ih =>
     intro o c0 w h
     obtain⟨c1,i1,i2⟩:=ih (o+1) _ (w.setCell ⟨h',o,none⟩ u) (by rw[setCell_eq_setRow w h' o c0 K.e (0,0) u h];exact setRow_heap w h' c0 _ K.e _ h)
     exact⟨c1,i1,by rw[i2,Array.size_setIfInBounds]⟩
   obtain⟨c1',k1,k2⟩:=key xs ((vn v+t)*K.sz) cur0 w c1
   rw[hsz] at k1;cases k1
   have hm:(vn v+t+1)*K.sz<=cap'*K.sz:=Nat.mul_le_mul_right _ e3
   rw[Nat.add_mul,Nat.one_mul] at hm
   rw[Nat.one_mul] at hl
   omega
  obtain⟨cur0,c1,c2⟩:=hh
  have ht:=lR (em:=K.em) (o:=(vn v+t)*K.sz) xs c1 hK.ne
  refine⟨_,_,e1,hr.tnx hK (λ b hb' e=>?_) c1 rfl c2,fin _ ht hb,ht.mono λ b _ e=>by rw[e];exact hb⟩
  exact Nat.mul_le_mul_right _ (by omega)
 ·have ht:Tn K.em (λ _=>False) w w':=Tn.of_below e8
  exact⟨_,_,e1,hr.on hK ht (λ _ _ _ _=>id),fin _ ht (.inr hsw),ht.mono λ _ _=>False.elim⟩
def Ent(K:Kd)(s:Nat)(w:World)(v u:Value)(n d k:Nat):Prop :=
 ∃h cap cur,u=.slice (some ⟨h,0,none⟩) n cap/\w.heap[h]? = some (Obj.cells cur K.e (0,0))/\d<=n/\n<=cap/\cap<=maxLen/\(vb v=some h∨s<=h)/\Mkd K w cur d k
theorem Ent.on{K:Kd}(hK:K.Ok){X:Nat->Prop}{s:Nat}{w w':World}{v u:Value}{n d k:Nat}(h:Ent K s w v u n d k)(ht:Tn K.em X w w')(hx:∀(b:Nat) (cur:Array Value),w.heap[b]? = some (Obj.cells cur K.e (0,0))->(vb v=some b∨s<=b)->¬X b):Ent K s w' v u n d k:=by
 obtain⟨h,cap,cur,h1,h2,h3,h4,h5,h6,h7⟩:=h
 exact⟨h,cap,cur,h1,by rw[ht.block h (bC h2) (hx h cur h2 h6)];exact h2,h3,h4,h5,h6,h7.on hK ht⟩
theorem Ent.get{K:Kd}{s:Nat}{w:World}{v u:Value}{n d k i:Nat}(h:Ent K s w v u n d k)(hi:i<d):∃h cap xs,u=.slice (some ⟨h,0,none⟩) n cap/\K.cel w (mk k i) xs/\w.rangeAt h (i*K.sz) xs:=by
 obtain⟨h,cap,cur,h1,h2,h3,h4,h5,h6,h7⟩:=h
 obtain⟨xs,e1,e2⟩:=h7 i hi
 exact⟨h,cap,xs,h1,e1,pR h2 e2⟩
theorem Ent.less{K:Kd}{s s':Nat}{w:World}{v u:Value}{n d d' k:Nat}(h:Ent K s w v u n d k)(hd:d'<=d)(hs:s'<=s):Ent K s' w v u n d' k:=by
 obtain⟨h,cap,cur,h1,h2,h3,h4,h5,h6,h7⟩:=h
 exact⟨h,cap,cur,h1,h2,by omega,h4,h5,h6.imp id (by omega),h7.less hd⟩
theorem Cur.ent{K:Kd}{s:Nat}{w:World}{v gv:Value}{t k:Nat}(h:Cur K s w v gv t k)(ht:0<t):Ent K s w v gv (vn v+t) (vn v+t) k:=by
 rcases h with ⟨rfl,-⟩|⟨h,cap,cur,h1,h2,h3,h4,h5,h6,h7,h8⟩
 ·omega
 ·exact⟨h,cap,cur,h1,h2,Nat.le_refl _,h3,h5,h7,h8⟩
theorem RowI.many{K:Kd}(hK:K.Ok){ts:Nat}(hS:Sty P K ts)(ty:TypeId){lo:Nat}{w:World}{v:Value}{k:Nat}(hr:RowI K lo w v (vn v) k){a:Addr}{c m:Nat}{news:List Value}(hl:news.length=m*K.sz)(hm:0<m)(hnews:∀j u,news[j]? = some u->w.cell? (a.add j)=some u)
  (h1:∀u∈news,u.oneCell'=true) (h63:vn v+m<=100000000000) :
  ∃gv' w',(Builtin.append_ #[ts,ts] ty #[v,.slice (some a) m c]).run P w=.ok gv' w'/\RowI K lo w' v (vn v) k/\Ent K w.heap.size w' v gv' (vn v+m) (vn v) k/\Tn K.em (λ b=>vb v=some b) w w':=by
 obtain⟨h',cap',cur',w',e1,e2,e3,e4,e5,e6,e7,e8⟩:=LY hS ty w hr.rowA hl hm hnews h1 h63
 have hmk:Mkd K w cur' (vn v) k:=by
  rcases hr with ⟨p,rfl,-⟩|⟨g,n,cap,cur,rfl,h1,h2,h3,h4,h5,h6,h7,h8⟩
  ·intro i hi;simp[vn] at hi
  ·exact h8.head hK λ p hp=>e7 g n cap cur rfl h2 p hp
 rcases e8 with ⟨e8,rfl⟩|⟨rfl,e8⟩
 ·have hh:∃cur0,w.heap[h']? = some (Obj.cells cur0 K.e (0,0)):=by
   rcases hr with ⟨p,rfl,-⟩|⟨g,n,cap,cur,rfl,h1,h2,h3,h4,-⟩
   ·cases p<;>cases e8
   ·rw[qL h4] at e8;cases e8;exact⟨cur,h2⟩
  obtain⟨cur0,c1⟩:=hh
  have ht:=lR (em:=K.em) (o:=vn v*K.sz) news c1 hK.ne
  refine⟨_,_,e1,?_,⟨h',cap',cur',rfl,e2,by omega,e3,e4,.inl e8,hmk.on hK ht⟩,ht.mono λ b _ e=>by rw[e];exact e8⟩
  rcases hr with hr|⟨g,n,cap,cur,rfl,h1,h2,h3,h4,h5,h6,h7,h8⟩
  ·exact .inl hr
  ·have e9:g=h':=by rw[qL h4] at e8;injection e8
   subst e9
   have e10:cur=cur0:=by rw[h2] at c1;injection c1 with c1;injection c1
   subst e10
   have hsz:cur'.size=cur.size:=by
    have key:∀(vs:List Value) (o:Nat) (c0:Array Value) (w:World),w.heap[g]? = some (Obj.cells c0 K.e (0,0))->∃c1,(w.setCells g o vs).heap[g]? = some (Obj.cells c1 K.e (0,0))/\c1.size=c0.size:=by
     intro vs
     induction vs with
     | nil=>intro o c0 w h;exact⟨c0,h,rfl⟩
     | cons u vs ih =>
      intro o c0 w h
      obtain⟨c1,i1,i2⟩:=ih (o+1) _ (w.setCell ⟨g,o,none⟩ u) (by rw[setCell_eq_setRow w g o c0 K.e (0,0) u h];exact setRow_heap w g c0 _ K.e _ h)
      exact⟨c1,i1,by rw[i2,Array.size_setIfInBounds]⟩
    obtain⟨c1',k1,k2⟩:=key news (vn (.slice (some ⟨g,0,none⟩) n cap)*K.sz) cur w h2
    rw[e2] at k1;cases k1
    exact k2
   exact .inr ⟨g,n,cap,cur',rfl,h1,e2,h3,h4,h5,by rw[hsz,h6],h7,hmk.on hK ht⟩
 ·have ht:Tn K.em (λ _=>False) w w':=Tn.of_below e8
  exact⟨_,_,e1,hr.on hK ht (λ _ _ _ _=>id),⟨w.heap.size,cap',cur',rfl,e2,by omega,e3,e4,.inr (Nat.le_refl _),hmk.on hK ht⟩,ht.mono λ _ _=>False.elim⟩
def Gsl(K:Kd)(eS G s:Nat)(w:World)(vs:List Value)(d x j:Nat):Prop :=
 ∃arr,w.heap[G]? = some (Obj.cells arr eS (0,0))/\arr.size=vs.length/\∀k v,k<j->vs[k]? = some v->∃u,arr[k]? = some u/\Ent K s w v u (vn v+x) (vn v+d) k
theorem Gsl.on{K:Kd}(hK:K.Ok){eS G s:Nat}{X:Nat->Prop}{w w':World}{vs:List Value}{d x j:Nat}(h:Gsl K eS G s w vs d x j)(ht:Tn K.em X w w')(hG:∀cur,w.heap[G]? = some (Obj.cells cur eS (0,0))->¬X G)
  (hx:∀(b:Nat) (cur:Array Value),w.heap[b]? = some (Obj.cells cur K.e (0,0))->((∃k v,k<j/\vs[k]? = some v/\vb v=some b)∨s<=b)->¬X b):Gsl K eS G s w' vs d x j:=by
 obtain⟨arr,h1,h2,h3⟩:=h
 refine⟨arr,by rw[ht.block G (bC h1) (hG arr h1)];exact h1,h2,λ k v hk hv=>?_⟩
 obtain⟨u,h4,h5⟩:=h3 k v hk hv
 exact⟨u,h4,h5.on hK ht λ b cur hc hb=>hx b cur hc (hb.imp (λ e=>⟨k,v,hk,hv,e⟩) id)⟩
theorem Gsl.put{K:Kd}(hK:K.Ok){eS G s:Nat}(heS:eS≠K.em)(heE:eS≠K.e){w:World}{vs:List Value}{d x j:Nat}(h:Gsl K eS G s w vs d x j){v u:Value}(hv:vs[j]? = some v)(hu:Ent K s w v u (vn v+x) (vn v+d) j) :
  w.there G j 1/\Gsl K eS G s (w.setCell ⟨G,j,none⟩ u) vs d x (j+1)/\Tn K.em (λ b=>b=G) w (w.setCell ⟨G,j,none⟩ u):=by
 obtain⟨arr,h1,h2,h3⟩:=h
 have hj:j<vs.length:=(List.getElem?_eq_some_iff.1 hv).1
 have ht:=lR (em:=K.em) (o:=j) [u] h1 heS
 have hne:∀(b:Nat) (cur:Array Value),w.heap[b]? = some (Obj.cells cur K.e (0,0))->¬b=G:=λ b cur hc e=>by
  subst e;rw[h1] at hc;cases hc;exact heE rfl
 have hh:(w.setCell ⟨G,j,none⟩ u).heap[G]? = some (Obj.cells (arr.setIfInBounds j u) eS (0,0)):=by
  rw[setCell_eq_setRow w G j arr eS (0,0) u h1];exact setRow_heap w G arr _ eS _ h1
 refine⟨zG h1 (by omega),⟨_,hh,by rw[Array.size_setIfInBounds,h2],λ k v' hk hv'=>?_⟩,ht⟩
 by_cases e:k=j
 ·subst e
  rw[hv] at hv';cases hv'
  refine⟨u,by rw[Array.getElem?_setIfInBounds,if_pos rfl,if_pos (by omega)],hu.on hK ht λ b cur hc _=>hne b cur hc⟩
 ·obtain⟨u',h4,h5⟩:=h3 k v' (by omega) hv'
  exact⟨u',by rw[Array.getElem?_setIfInBounds,if_neg (by omega)];exact h4,h5.on hK ht λ b cur hc _=>hne b cur hc⟩
theorem Gsl.get{K:Kd}{eS G s:Nat}{w:World}{vs:List Value}{d x j k:Nat}(h:Gsl K eS G s w vs d x j)(hk:k<j){v:Value}(hv:vs[k]? = some v):∃u,w.cell? ⟨G,k,none⟩=some u/\w.frozen? ⟨G,k,none⟩=false/\Ent K s w v u (vn v+x) (vn v+d) k:=by
 obtain⟨arr,h1,h2,h3⟩:=h
 obtain⟨u,h4,h5⟩:=h3 k v hk hv
 exact⟨u,by simp[World.cell?,h1,h4],by simp[World.frozen?,h1],h5⟩
end
section
structure GrownX (ex:Nat->Prop) (w:World) where
 it:World
 keep:∀b,b<w.heap.size->¬ex b->it.heap[b]? = w.heap[b]?
instance (ex:Nat->Prop) (w:World):Nonempty (GrownX ex w):=⟨⟨w,λ _ _ _=>rfl⟩⟩
theorem GrownX.cell{ex:Nat->Prop}{w:World}{b o:Nat}{v:Value}(h:U w b o=some v)(hb:¬ex b):∀n:GrownX ex w,n.it.cell? ⟨b,o,none⟩=some v:=λ n=>aD ((eW (n.keep b (aL h) hb) o).trans h)
theorem iZ{P:Program}{id:Nat}{Q:Exit->Act->World->Prop}{a:Act}{w:World}{L:List Oper}(ex:Nat->Prop)(is:List Nat)(hn:is.length<=L.length)(hm:P.follows .mixedOrders=true)(hs:Region.noSelect L.toArray=true)
  (hi:is.all (λ i=>decide (i<L.length))=true) (ht:zY .any L.toArray (Array.replicate L.length false) is=true) (hQ:∀c a d v w,Q (.panic c) (Act.put a d v) w->Q (.panic c) a w)
  (h:wpQuiet P L.toArray (λ w'=>∃n:GrownX ex w,w'=n.it) (λ a'=>wpAnyH P .any L.toArray Q (λ w'=>∃n:GrownX ex w,w'=n.it) (L.length-is.length) (uV (Array.replicate L.length false) is) a' w.drew) ((is.map λ i=>L.getD i SA).map bar) a) :
  (Code.region id L.toArray true).wp P Q a w:=by
 refine wp_region_held (S:=λ w'=>∃n:GrownX ex w,w'=n.it) hm ?_
 have:=bR (md:=.any) (Q:=Q) (S:=λ w'=>∃n:GrownX ex w,w'=n.it) hs hQ (w:=w.drew) ⟨⟨w.drew,λ _ _ _=>rfl⟩,rfl⟩ (L.length-is.length) is (Array.replicate L.length false) a hi ht h
 have e4:L.toArray.size=L.length-is.length+is.length:=by simp;omega
 have e5:Array.replicate L.length false=Array.replicate L.toArray.size false:=by simp
 rw[e5] at this
 rw[e4] at this ⊢
 exact this
end
section
def BU(P:Program)(K:Kd)(f:Nat):Prop:=∀(k i:Nat) (w:World),k<=10000000000->i<=10000000000->Calls P f #[.int .i64 k,.int .i64 i] w λ e w'=>∃xs,e=.returned (.agg xs.toArray)/\K.cel w' (mk k i) xs/\Below w.heap.size w w'
def JP(P:Program)(K:Kd)(f:Nat):Prop:=∀(M:Int) (w:World) (xs ys:List Value),K.cel w M xs->K.cel w M ys->Calls P f #[.agg xs.toArray,.agg ys.toArray] w λ e w'=>e=.returned (.bool true)/\Below w.heap.size w w'
theorem Kd.Ok.below{K:Kd}(hK:K.Ok){w w':World}{M:Int}{xs:List Value}(h:K.cel w M xs)(hb:Below w.heap.size w w'):K.cel w' M xs:=hK.on _ _ _ _ (Tn.of_below (X:=λ _=>False) hb).keep h
theorem RowI.isSlice{K:Kd}{lo:Nat}{w:World}{v:Value}{d k:Nat}(h:RowI K lo w v d k):∃p n c,v=.slice p n c/\n<=c/\c<=maxLen:=by
 rcases h with ⟨p,rfl,-⟩|⟨g,n,cap,cur,rfl,h1,h2,h3,h4,h5,-⟩
 ·exact⟨p,0,0,rfl,Nat.le_refl _,Nat.zero_le _⟩
 ·exact⟨_,n,cap,rfl,h3,h5⟩
theorem RowI.lies{K:Kd}{lo:Nat}{w:World}{p:Option Addr}{n c d k:Nat}(h:RowI K lo w (.slice p n c) d k)(h0:0<n):∃g,p=some ⟨g,0,none⟩/\0<c:=by
 rcases h with ⟨p,e,-⟩|⟨g,n,cap,cur,e,h1,h2,h3,h4,-⟩
 ·cases e;omega
 ·cases e;exact⟨g,rfl,h4⟩
theorem RowsG.typed{K:Kd}{lo:Nat}{w:World}{vs:List Value}{d:Nat->Nat}(h:RowsG K lo w vs d){b:Nat}(hb:InV vs b):lo<=b/\∃cur,w.heap[b]? = some (Obj.cells cur K.e (0,0)):=by
 obtain⟨v,hv,e⟩:=hb
 obtain⟨k,hk⟩:=List.getElem?_of_mem hv
 rcases h k v hk with ⟨p,rfl,-⟩|⟨g,n,cap,cur,rfl,h1,h2,h3,h4,-⟩
 ·cases p<;>cases e
 ·rw[qL h4] at e;cases e
  exact⟨h1,cur,h2⟩
theorem RowsG.cong{K:Kd}{lo:Nat}{w:World}{vs:List Value}{d d':Nat->Nat}(h:RowsG K lo w vs d)(he:∀k v,vs[k]? = some v->d k=d' k):RowsG K lo w vs d':=λ k v hv=>by rw[<-he k v hv];exact h k v hv
theorem RowsG.below{K:Kd}(hK:K.Ok){lo:Nat}{w w':World}{vs:List Value}{d:Nat->Nat}(h:RowsG K lo w vs d)(hb:Below w.heap.size w w'):RowsG K lo w' vs d:=h.on hK (Tn.of_below (X:=λ _=>False) hb) λ _ _ _ _=>id
def dF(vs:List Value)(k i:Nat):Nat->Nat:=λ j=>if j<k then vn (vs.getD j undef) else if j=k then i else 0
theorem yP(vs:List Value)(k i:Nat):dF vs k i k=i:=by simp[dF]
theorem RowsG.dNext{K:Kd}{lo:Nat}{w:World}{vs:List Value}{k i:Nat}(h:RowsG K lo w vs (λ j=>if j=k then dF vs k i k+1 else dF vs k i j)):RowsG K lo w vs (dF vs k (i+1)) :=
 h.cong λ j _ _=>by
  by_cases e:j=k
  ·subst e;simp[dF]
  ·simp[dF,e]
theorem RowsG.setF{K:Kd}(hK:K.Ok){lo:Nat}{w:World}{vs:List Value}(hD:BV vs){k i g n cap:Nat}{xs:List Value}(h:RowsG K lo w vs (dF vs k i))(hv:vs[k]? = some (.slice (some ⟨g,0,none⟩) n cap))(hi:i<n)(hx:K.cel w (mk k i) xs) :
  w.there g (i*K.sz) K.sz/\RowsG K lo (w.setCells g (i*K.sz) xs) vs (dF vs k (i+1))/\Tn K.em (InV vs) w (w.setCells g (i*K.sz) xs):=by
 have:=RowsG.set hK hD h hv (by rw[yP];exact hi) (by rw[yP];exact hx)
 rw[yP] at this
 obtain⟨h1,h2,h3⟩:=this
 refine⟨h1,RowsG.dNext ?_,h3⟩
 rw[yP]
 exact h2
theorem LK{vs:List Value}{k:Nat}{v:Value}(h:vs[k]? = some v):vs.getD k undef=v:=by rw[List.getD_eq_getElem?_getD,h];rfl
theorem RowsG.dEnd{K:Kd}{lo:Nat}{w:World}{vs:List Value}{k:Nat}{v:Value}(hv:vs[k]? = some v)(h:RowsG K lo w vs (dF vs k (vn v))):RowsG K lo w vs (dF vs (k+1) 0) :=
 h.cong λ j _ _=>by
  unfold dF
  by_cases e:j<k
  ·rw[if_pos e,if_pos (by omega)]
  ·rw[if_neg e]
   by_cases e2:j=k
   ·subst e2;rw[if_pos rfl,if_pos (by omega),LK hv]
   ·rw[if_neg e2,if_neg (by omega)];split<;>rfl
def Full(K:Kd)(lo:Nat)(w:World)(vs:List Value):Prop:=∀k v,vs[k]? = some v->RowI K lo w v (vn v) k
theorem RowsG.full{K:Kd}{lo:Nat}{w:World}{vs:List Value}{m:Nat}(hm:vs.length=m)(h:RowsG K lo w vs (dF vs m 0)):Full K lo w vs:=λ k v hv=>by
 have:=h k v hv
 have hk:k<m:=by rw[<-hm];exact (List.getElem?_eq_some_iff.1 hv).1
 unfold dF at this
 rwa [if_pos hk,LK hv] at this
theorem Full.on{K:Kd}(hK:K.Ok){X:Nat->Prop}{lo:Nat}{w w':World}{vs:List Value}(h:Full K lo w vs)(ht:Tn K.em X w w')(hx:∀(b:Nat) (cur:Array Value),w.heap[b]? = some (Obj.cells cur K.e (0,0))->InV vs b->¬X b):Full K lo w' vs:=λ k v hv =>
 (h k v hv).on hK ht λ b cur hc hb=>hx b cur hc ⟨v,List.mem_of_getElem? hv,hb⟩
theorem Full.below{K:Kd}(hK:K.Ok){lo:Nat}{w w':World}{vs:List Value}(h:Full K lo w vs)(hb:Below w.heap.size w w'):Full K lo w' vs:=h.on hK (Tn.of_below (X:=λ _=>False) hb) λ _ _ _ _=>id
theorem II{K:Kd}{eS em lo L:Nat}{w:World}{vs:List Value}{d:Nat->Nat}(hR:RowsG K lo w vs d)(hne:eS≠K.e){arr:Array Value}(hL:w.heap[L]? = some (Obj.cells arr eS (0,0)))(ha:∀(k:Nat) (v:Value),vs[k]? = some v->arr[k]? = some v) :
  ¬InV vs L/\∀W,Tn em (InV vs) w W->∀(k:Nat) (v:Value),vs[k]? = some v->U W L k=some v:=by
 have h1:¬InV vs L:=λ h=>by
  obtain⟨-,cur,e⟩:=hR.typed h
  rw[hL] at e;cases e;exact hne rfl
 refine⟨h1,λ W ht k v hv=>?_⟩
 have h2:=ht.block L (bC hL) h1
 rw[hL] at h2
 exact nJ (by simp[World.cell?,h2,ha k v hv]) (by simp[World.frozen?,h2])
theorem Full.one{K:Kd}(hK:K.Ok){lo:Nat}{w w':World}{vs:List Value}(hD:BV vs)(h:Full K lo w vs){k:Nat}{v:Value}(hv:vs[k]? = some v)(ht:Tn K.em (λ b=>vb v=some b) w w')(hr:RowI K lo w' v (vn v) k):Full K lo w' vs:=λ j u hu=>by
 by_cases e:j=k
 ·subst e
  rw[hv] at hu;cases hu
  exact hr
 ·exact (h j u hu).on hK ht λ b _ _ hb hx=>e (hD j k u v b hu hv hb hx)
theorem Tn.inV{em:Nat}{w w':World}{vs:List Value}{k:Nat}{v:Value}(hv:vs[k]? = some v)(ht:Tn em (λ b=>vb v=some b) w w'):Tn em (InV vs) w w':=ht.mono λ _ _ h=>⟨v,List.mem_of_getElem? hv,h⟩
theorem Gsl.one{K:Kd}(hK:K.Ok){eS G s:Nat}{w w':World}{vs:List Value}{d x k:Nat}(hD:BV vs)(h:Gsl K eS G s w vs d x k)(hs:∀b,InV vs b->b<s)(hG:s<=G){v:Value}(hv:vs[k]? = some v)(ht:Tn K.em (λ b=>vb v=some b) w w'):Gsl K eS G s w' vs d x k :=
 h.on hK ht (λ _ _ e=>by have:=hs G ⟨v,List.mem_of_getElem? hv,e⟩;omega) λ b _ _ hb e=>by
  rcases hb with ⟨j,u,hj,hu,e2⟩|hb
  ·have:=hD j k u v b hu hv e2 e;omega
  ·have:=hs b ⟨v,List.mem_of_getElem? hv,e⟩;omega
theorem Full.put{K:Kd}(hK:K.Ok){lo G s:Nat}{w w':World}{vs:List Value}(h:Full K lo w vs)(hs:∀b,InV vs b->b<s)(hG:s<=G)(ht:Tn K.em (λ b=>b=G) w w'):Full K lo w' vs:=h.on hK ht λ b _ _ hb e=>by have:=hs b hb;omega
theorem Gsl.start{K:Kd}{eS G s:Nat}{w:World}{vs:List Value}{d x d' x' j:Nat}(h:Gsl K eS G s w vs d x j):Gsl K eS G s w vs d' x' 0:=by
 obtain⟨arr,h1,h2,-⟩:=h
 exact⟨arr,h1,h2,λ k v hk=>by omega⟩
theorem Gsl.below{K:Kd}(hK:K.Ok){eS G s:Nat}{w w':World}{vs:List Value}{d x j:Nat}(h:Gsl K eS G s w vs d x j)(hb:Below w.heap.size w w'):Gsl K eS G s w' vs d x j :=
 h.on hK (Tn.of_below (X:=λ _=>False) hb) (λ _ _=>id) λ _ _ _ _=>id
theorem Gsl.new{K:Kd}{eS s:Nat}(w:World)(vs:List Value)(d x:Nat){arr:Array Value}(ha:arr.size=vs.length):Gsl K eS w.heap.size s (w.alloc (.cells arr eS)) vs d x 0 :=
 ⟨arr,heap_alloc_new w _,ha,λ k v hk=>by omega⟩
theorem Ent.getU{K:Kd}{s:Nat}{w:World}{v:Value}{h n cap d k i:Nat}(hE:Ent K s w v (.slice (some ⟨h,0,none⟩) n cap) n d k)(hi:i<d):∃xs,K.cel w (mk k i) xs/\∀j u,xs[j]? = some u->U w h (i*K.sz+j)=some u:=by
 obtain⟨h',cap',cur,h1,h2,h3,h4,h5,h6,h7⟩:=hE
 cases h1
 obtain⟨xs,e1,e2⟩:=h7 i hi
 exact⟨xs,e1,λ j u hj=>nJ (pR h2 e2 j u hj) (by simp[World.frozen?,h2])⟩
theorem RowI.getU{K:Kd}{lo:Nat}{w:World}{g n cap d k i:Nat}(h:RowI K lo w (.slice (some ⟨g,0,none⟩) n cap) d k)(hi:i<d):∃xs,K.cel w (mk k i) xs/\∀j u,xs[j]? = some u->U w g (i*K.sz+j)=some u:=by
 rcases h with ⟨p,-,rfl⟩|⟨g,n,cap,cur,e,h1,h2,h3,h4,h5,h6,h7,h8⟩
 ·omega
 ·cases e
  obtain⟨xs,e1,e2⟩:=h8 i hi
  exact⟨xs,e1,λ j u hj=>nJ (pR h2 e2 j u hj) (by simp[World.frozen?,h2])⟩
theorem RowI.all{K:Kd}(hK:K.Ok){lo:Nat}{w:World}{B n k:Nat}(h:RowI K lo w (.slice (some ⟨B,0,none⟩) n n) n k)(h0:0<n):∃news:List Value,news.length=n*K.sz/\(∀j u,news[j]? = some u->w.cell? ((⟨B,0,none⟩:Addr).add j)=some u)/\∀u∈news,u.oneCell'=true:=by
 rcases h with ⟨p,e,-⟩|⟨g,m,cap,cur,e,h1,h2,h3,h4,h5,h6,h7,h8⟩
 ·cases e;omega
 ·cases e
  refine⟨cur.toList,by rw[Array.length_toList,h6],λ j u hu=>?_,λ u hu=>?_⟩
  ·rw[Addr.add_mid]
   simpa[World.cell?,h2] using hu
  ·obtain⟨p,hp⟩:=List.getElem?_of_mem hu
   have hlt:p<n*K.sz:=by rw[<-h6,<-Array.length_toList];exact (List.getElem?_eq_some_iff.1 hp).1
   have hpos:=hK.pos
   obtain⟨xs,e1,e2⟩:=h8 (p / K.sz) ((Nat.div_lt_iff_lt_mul hpos).2 hlt)
   have hl:=hK.len _ _ _ e1
   have hm:=Nat.mod_lt p hpos
   have:=e2 (p % K.sz) (by omega)
   rw[show p / K.sz*K.sz+p % K.sz=p by rw[Nat.mul_comm];exact Nat.div_add_mod p K.sz] at this
   rw[Array.getElem?_toList,this] at hp
   exact hK.one _ _ _ e1 u (List.mem_of_getElem? hp)
theorem RowI.new{K:Kd}(w:World)(n k:Nat){arr:Array Value}(ha:arr.size=n*K.sz)(h0:0<n)(hm:n<=maxLen):RowI K w.heap.size (w.alloc (.cells arr K.e)) (.slice (some ⟨w.heap.size,0,none⟩) n n) 0 k :=
 .inr ⟨_,n,n,arr,rfl,Nat.le_refl _,heap_alloc_new w _,Nat.le_refl _,h0,hm,ha,Nat.zero_le _,λ i hi=>by omega⟩
theorem oA{em B:Nat}{w w1 w2 w3:World}(h1:Below w.heap.size w w1)(h2:Below w1.heap.size w1 w2)(h3:Tn em (λ b=>b=B) w2 w3)(hB:w.heap.size=B):Below w.heap.size w w3 :=
 have h:=aB h1 h2
 h.trans (h3.below h.size λ b hb=>by omega)
theorem Gsl.cell{K:Kd}{eS G s:Nat}{w:World}{vs:List Value}{d x j k:Nat}(h:Gsl K eS G s w vs d x j)(hk:k<vs.length):∃u,w.cell? ⟨G,k,none⟩=some u/\w.frozen? ⟨G,k,none⟩=false:=by
 obtain⟨arr,h1,h2,-⟩:=h
 exact⟨arr[k]'(by omega),by simp[World.cell?,h1,h2,hk],by simp[World.frozen?,h1]⟩
section
variable {P:Program}
theorem Sty.load{K:Kd}{t:Nat}(hS:Sty P K t){d:TypeDesc}(hu:P.underlying K.e=some d)(hd:d.isRow=true){w:World}{b o:Nat}{xs:List Value}(h:w.rangeAt b o xs)(hl:xs.length=K.sz):(Instr.loadAt K.e (.pointer (some ⟨b,o,none⟩))).run P w=.ok (.agg xs.toArray) w:=by
 obtain⟨ht,i,z,hi,hz,hsz,hzs,hby⟩:=hS
 exact run_loadAt_mid w b o K.e xs d h hu hd (by rw[hi,Option.map_some,hsz,hl])
theorem Sty.size{K:Kd}{t:Nat}(hS:Sty P K t):(P.info? K.e).map (·.size)=some K.sz:=by
 obtain⟨ht,i,z,hi,hz,hsz,hzs,hby⟩:=hS
 rw[hi,Option.map_some,hsz]
theorem Sty.make{K:Kd}{t:Nat}(hS:Sty P K t)(n:Nat)(hn:n<=100000000000)(w:World):∃arr:Array Value,(Instr.makeSlice t (.int .i64 n) (.int .i64 n)).run P w=.ok (.slice (some ⟨w.heap.size,0,none⟩) n n) (w.alloc (.cells arr K.e))/\arr.size=n*K.sz:=by
 obtain⟨ht,i,z,hi,hz,hsz,hzs,hby⟩:=hS
 have hb:n*i.bytes<=100000000000*1000:=Nat.mul_le_mul hn hby
 have hb':(i.bytes:Int)*(n:Int)<=281474976710656:=by
  have h:((i.bytes*n:Nat):Int)<=281474976710656:=by rw[Nat.mul_comm];omega
  rwa [Int.natCast_mul] at h
 have:=run_make (P:=P) w t K.e i z ht hi hz .i64 .i64 n n (by omega) (by omega) hb' (by omega)
 simp only[Int.toNat_natCast,hsz] at this
 exact⟨_,this,by simp[madeCells]⟩
end
end
section
def tyB(i:Nat):Nat:=[230,232,103,234,235,237,239,28,24,25,31,32,240,52,35,44,243].getD i 0
theorem PN:∀i,i<17->∀j,j<17->tyB i=tyB j->i=j:=by decide
theorem tyB_inj(i j:Nat)(hi:i<17)(hj:j<17)(h:tyB i=tyB j):i=j:=PN i hi j hj h
theorem FG:∀i,i<17->tyB i≠140:=by decide
def BagAt(w:World)(β B0:Nat)(f:Nat->List Value):Prop :=
 B0<=β/\∃cur:Array Value,w.heap[β]? = some (Obj.cells cur 140 (0,0))/\cur.size=17/\∀i,i<17->∃v,cur[i]? = some v/\(f i=[]->v=.slice none 0 0)/\w.ownsRow B0 (tyB i) 1 v (f i).length (f i)
theorem BagAt.below{w w':World}{β B0:Nat}{f:Nat->List Value}(h:BagAt w β B0 f)(hb:Below w.heap.size w w'):BagAt w' β B0 f:=by
 obtain⟨h0,cur,h1,h2,h3⟩:=h
 refine⟨h0,cur,by rw[hb.block β (bC h1)];exact h1,h2,λ i hi=>?_⟩
 obtain⟨v,h4,h5,h6⟩:=h3 i hi
 exact⟨v,h4,h5,lJ h6 hb⟩
theorem BagAt.cell{w:World}{β B0:Nat}{f:Nat->List Value}(h:BagAt w β B0 f){i:Nat}(hi:i<17):∃v,w.cell? ⟨β,i,none⟩=some v/\w.frozen? ⟨β,i,none⟩=false/\(f i=[]->v=.slice none 0 0)/\w.ownsRow B0 (tyB i) 1 v (f i).length (f i):=by
 obtain⟨h0,cur,h1,h2,h3⟩:=h
 obtain⟨v,h4,h5,h6⟩:=h3 i hi
 exact⟨v,by simp[World.cell?,h1,h4],by simp[World.frozen?,h1],h5,h6⟩
theorem lI{w w':World}{base e size n:Nat}{v:Value}{xs:List Value}(h:w.ownsRow base e size v n xs)(hk:∀(b:Nat) (cur:Array Value),w.heap[b]? = some (Obj.cells cur e (0,0))->w'.heap[b]? = w.heap[b]?):w'.ownsRow base e size v n xs:=by
 refine⟨h.1,h.2.imp id ?_⟩
 rintro⟨g,cap,cur,rfl,h1,h2,h3⟩
 exact⟨g,cap,cur,rfl,h1,by rw[hk g cur h2];exact h2,h3⟩
structure PF (B0:Nat) (w w':World):Prop where
 below:Below B0 w w'
 keep:∀(b:Nat) (cur:Array Value) (e:Nat),e≠140->(∀i,i<17->e≠tyB i)->w.heap[b]? = some (Obj.cells cur e (0,0))->w'.heap[b]? = some (Obj.cells cur e (0,0))
theorem PF.trans{B0:Nat}{a b c:World}(h:PF B0 a b)(k:PF B0 b c):PF B0 a c:=⟨h.below.trans k.below,λ i cur e h1 h2 h3=>k.keep i cur e h1 h2 (h.keep i cur e h1 h2 h3)⟩
theorem PF.of_below{B0:Nat}{w w':World}(h:Below w.heap.size w w')(hB:B0<=w.heap.size):PF B0 w w':=⟨h.mono hB,λ b _ _ _ _ hb=>by rw[h.block b (bC hb)];exact hb⟩
theorem PF.refl(B0:Nat)(w:World):PF B0 w w:=⟨Below.refl _ _,λ _ _ _ _ _ h=>h⟩
theorem BagAt.put{P:Program}{K:Kd}{t i:Nat}(hS:Sty P K t)(he:K.e=tyB i)(hsz:K.sz=1)(ty:TypeId){w:World}{β B0:Nat}{f:Nat->List Value}(h:BagAt w β B0 f)(hi:i<17)(l:Value)(h1:l.oneCell'=true)(hn:(f i).length+1<=100000000000)(hB:B0<=w.heap.size) :
  ∃v v' w2,w.cell? ⟨β,i,none⟩=some v/\(w.alloc (.cells #[l] K.e)).cell? ⟨β,i,none⟩=some v/\(Builtin.append_ #[t,t] ty #[v,.slice (some ⟨w.heap.size,0,none⟩) 1 1]).run P (w.alloc (.cells #[l] K.e))=.ok v' w2/\(∃a n c,v'=.slice a n c) /\
   (∃u,w2.cell? ⟨β,i,none⟩=some u)/\w2.frozen? ⟨β,i,none⟩=false/\BagAt (w2.setCell ⟨β,i,none⟩ v') β B0 (λ j=>if j=i then f i++[l] else f j)/\PF B0 w (w2.setCell ⟨β,i,none⟩ v'):=by
 have hba:=aA w (.cells #[l] K.e)
 obtain⟨h0,cur,g1,g2,g3⟩:=h.below hba
 obtain⟨v,g4,g5,g6⟩:=g3 i hi
 obtain⟨v0,c1,-,-,-⟩:=h.cell hi
 have c2:(w.alloc (.cells #[l] K.e)).cell? ⟨β,i,none⟩=some v:=by simp[World.cell?,g1,g4]
 have hv0:v0=v:=by
  have:=aE hba β i v0 (by obtain⟨_,cur',q,-⟩:=h;exact bC q) (nJ c1 (by obtain⟨_,cur',q,-⟩:=h;simp[World.frozen?,q]))
  rw[aD this] at c2;cases c2;rfl
 subst hv0
 obtain⟨ht,ti,z,hti,hz,hs,hzs,hby⟩:=hS
 rw[hsz] at hs hzs
 obtain⟨v',w2,hr,ho,hf⟩:=M5 (P:=P) (w.alloc (.cells #[l] K.e)) B0 t ty K.e ti z 1 ht hti hz hs hzs (by decide) v0 (f i).length (f i) (by rw[<-he] at g6;exact g6) (.slice (some ⟨w.heap.size,0,none⟩) 1 1) 1 [l]
  (.inr ⟨_,_,rfl,gK w [l] K.e⟩) rfl (by simpa using h1) hn hby (Nat.le_trans hB hba.size)
 obtain⟨W,hW⟩:∃W,w.alloc (.cells #[l] K.e)=W:=⟨_,rfl⟩
 rw[hW] at hba g1 g6 hf g3 c2
 have hown:∀b,v0.ownBlock=some b->∃cur,W.heap[b]? = some (Obj.cells cur (tyB i) (0,0))/\B0<=b:=by
  intro b hb
  rcases g6.2 with ⟨rfl,-⟩|⟨g,cap,cur',rfl,q1,q2,-⟩
  ·cases hb
  ·cases hb;exact⟨cur',q2,q1⟩
 have hkeep:∀(b:Nat) (cur:Array Value) (e:Nat),e≠tyB i->W.heap[b]? = some (Obj.cells cur e (0,0))->w2.heap[b]? = W.heap[b]?:=by
  intro b cur' e hne hb
  rcases hf with ⟨-,hg⟩|⟨-,hg⟩
  ·refine hg.block b (bC hb) (λ e2=>?_)
   obtain⟨cur2,q,-⟩:=hown b e2.symm
   rw[hb] at q;cases q;exact hne rfl
  ·exact hg.block b (bC hb)
 have hB2:Below B0 W w2:=by
  rcases hf with ⟨-,hg⟩|⟨-,hg⟩
  ·exact⟨hg.os,hg.tape,hg.output,hg.size,λ b hb=>hg.block b (Nat.lt_of_lt_of_le hb (Nat.le_trans hB hba.size)) (λ e=>by
    obtain⟨-,-,q⟩:=hown b e.symm
    omega)⟩
  ·exact hg.mono (Nat.le_trans hB hba.size)
 have g1':=hkeep β cur 140 (λ e=>FG i hi e.symm) g1
 rw[g1] at g1'
 have hset:(w2.setCell ⟨β,i,none⟩ v').heap[β]? = some (Obj.cells (cur.setIfInBounds i v') 140 (0,0)):=by
  rw[setCell_eq_setRow w2 β i cur 140 (0,0) v' g1'];exact setRow_heap w2 β cur _ 140 _ g1'
 have hoth:∀b,b≠β->(w2.setCell ⟨β,i,none⟩ v').heap[b]? = w2.heap[b]?:=λ b hb=>Below.heap_setCell _ _ _ _ (by simpa using hb)
 have hsl:∃a n c,v'=.slice a n c:=by
  rcases ho.2 with ⟨rfl,-⟩|⟨g,cap,cur',rfl,-⟩
  ·exact⟨_,_,_,rfl⟩
  ·exact⟨_,_,_,rfl⟩
 refine⟨v0,v',w2,c1,by rw[hW];exact c2,hr,hsl,⟨v0,by simp[World.cell?,g1',g4]⟩,by simp[World.frozen?,g1'],⟨h0,_,hset,by rw[Array.size_setIfInBounds,g2],λ j hj=>?_⟩,?_⟩
 ·by_cases e:j=i
  ·subst e
   refine⟨v',by rw[Array.getElem?_setIfInBounds,if_pos rfl,if_pos (by omega)],by simp,?_⟩
   simp only[if_true,List.length_append,List.length_singleton]
   rw[<-he]
   refine lI ho λ b cur' hb=>hoth b (λ e2=>?_)
   subst e2
   rw[g1'] at hb;injection hb with hb;injection hb with _ hb
   exact FG j hi (he ▸ hb.symm)
  ·obtain⟨u,q1,q2,q3⟩:=g3 j hj
   refine⟨u,by rw[Array.getElem?_setIfInBounds,if_neg (Ne.symm e)];exact q1,by simpa[e] using q2,?_⟩
   simp only[if_neg e]
   refine lI (lI q3 λ b cur' hb=>hkeep b cur' (tyB j) (λ e2=>e (tyB_inj j i hj hi e2)) hb) λ b cur' hb=>hoth b (λ e2=>?_)
   subst e2
   rw[g1'] at hb;injection hb with hb;injection hb with _ hb
   exact FG j hj hb.symm
 ·have h3:Below B0 w w2:=(hba.mono hB).trans hB2
  refine⟨⟨h3.os,h3.tape,h3.output,by simpa[World.setCell] using h3.size,λ b hb=>by rw[hoth b (by omega)];exact h3.block b hb⟩,λ b cur' e he1 he2 hb=>?_⟩
  have q1:W.heap[b]? = some (Obj.cells cur' e (0,0)):=by rw[hba.block b (bC hb)];exact hb
  have q2:=hkeep b cur' e (he2 i hi) q1
  rw[hoth b (λ e2=>by subst e2;rw[g1] at q1;injection q1 with q1;injection q1 with _ q1;exact he1 q1.symm),q2]
  exact q1
def OX(hi:Nat)(v:Value)(n:Nat)(C:Nat->Nat->Prop):Prop :=
 ∃(p:Option Addr) (c:Nat),v=.slice p n c/\n<=c/\c<=maxLen/\(0<n->∃b o,p=some ⟨b,o,none⟩/\b<hi/\C b o)
def GL(F:Mem)(hi:Nat)(v:Value)(us:List Value):Prop:=OX hi v us.length λ b o=>∀i u,us[i]? = some u->F b (o+i)=some u/\∃p n c,u=.slice p n c
inductive VT where
 | nil
 | cons (us:List Value) (vl vk:Value) (x r:VT)
namespace VT
def len:VT->Nat
 | nil=>0
 | cons _ _ _ _ r=>r.len+1
def app:VT->VT->VT
 | nil,y=>y
 | cons us vl vk x r,y=>cons us vl vk x (r.app y)
def size:VT->Nat
 | nil=>0
 | cons us _ _ x r=>us.length+x.size+r.size+2
def P:VT->List Value
 | nil=>[]
 | cons us _ _ x r=>us++(x.P++r.P)
def L:VT->List Value
 | nil=>[]
 | cons _ vl _ x r=>vl :: (x.L++r.L)
def T:VT->List Value
 | nil=>[]
 | cons _ _ vk x r=>vk :: (x.T++r.T)
theorem app_nil(x:VT):x.app nil=x:=by induction x with
 | nil=>rfl
 | cons us vl vk x r _ ih=>simp[app,ih]
theorem app_assoc(x y z:VT):(x.app y).app z=x.app (y.app z):=by induction x with
 | nil=>rfl
 | cons us vl vk x r _ ih=>simp[app,ih]
theorem app_len(x y:VT):(x.app y).len=x.len+y.len:=by induction x with
 | nil=>simp[app,len]
 | cons us vl vk x r _ ih=>simp[app,len,ih];omega
theorem app_size(x y:VT):(x.app y).size=x.size+y.size:=by induction x with
 | nil=>simp[app,size]
 | cons us vl vk x r _ ih=>simp[app,size,ih];omega
theorem app_P(x y:VT):(x.app y).P=x.P++y.P:=by induction x with
 | nil=>rfl
 | cons us vl vk x r _ ih=>simp[app,P,ih]
theorem app_L(x y:VT):(x.app y).L=x.L++y.L:=by induction x with
 | nil=>rfl
 | cons us vl vk x r _ ih=>simp[app,L,ih]
theorem app_T(x y:VT):(x.app y).T=x.T++y.T:=by induction x with
 | nil=>rfl
 | cons us vl vk x r _ ih=>simp[app,T,ih]
theorem len_le(x:VT):x.len<=x.size:=by induction x with
 | nil=>exact Nat.le_refl _
 | cons us vl vk x r _ ih=>simp only[len,size];omega
theorem lens(x:VT):x.P.length<=x.size/\x.L.length<=x.size/\x.T.length<=x.size:=by induction x with
 | nil=>exact⟨Nat.le_refl _,Nat.le_refl _,Nat.le_refl _⟩
 | cons us vl vk x r ihx ih=>simp only[P,L,T,size,List.length_append,List.length_cons];omega
end VT
def GTs(F:Mem)(hi:Nat):VT->Nat->Nat->Prop
 | .nil,_,_=>True
 | .cons us vl vk x r,b,o=>(∃n0 n1 n2,F b o=some (.int .i64 n0)/\F b (o+1)=some (.int .i64 n1)/\F b (o+2)=some (.int .i64 n2))/\F b (o+3)=some vl/\F b (o+4)=some vk/\GL F hi vl us /\
   OX hi vk x.len (λ b' o'=>GTs F hi x b' o')/\GTs F hi r b (o+5)
def GK(F:Mem)(hi:Nat)(v:Value)(x:VT):Prop:=OX hi v x.len λ b o=>GTs F hi x b o
theorem GTs.app{F:Mem}{hi:Nat}{x y:VT}:∀ {b o:Nat},GTs F hi (x.app y) b o↔GTs F hi x b o/\GTs F hi y b (o+x.len*5):=by
 induction x with
 | nil=>intro b o;simp[VT.app,GTs,VT.len]
 | cons us vl vk x r _ ih =>
  intro b o
  simp only[VT.app,GTs,ih,VT.len,and_assoc]
  rw[show o+5+r.len*5=o+(r.len+1)*5 by omega]
def eC(f:Nat->List Value)(p l t:List Value):Nat->List Value:=λ j=>if j=7 then f 7++p else if j=8 then f 8++l else if j=9 then f 9++t else f j
theorem TK(f:Nat->List Value):eC f [] [] []=f:=by
 funext j;unfold eC
 split
 ·subst_vars;simp
 ·split
  ·subst_vars;simp
  ·split
   ·subst_vars;simp
   ·rfl
theorem fadd7(f:Nat->List Value)(v:Value):(λ j=>if j=7 then f 7++[v] else f j)=eC f [v] [] []:=by
 funext j;unfold eC
 by_cases h7:j=7
 ·simp[h7]
 ·by_cases h8:j=8
  ·simp[h8]
  ·by_cases h9:j=9
   ·simp[h9]
   ·simp[h7,h8,h9]
theorem fadd8(f:Nat->List Value)(v:Value):(λ j=>if j=8 then f 8++[v] else f j)=eC f [] [v] []:=by
 funext j;unfold eC
 by_cases h7:j=7
 ·simp[h7]
 ·by_cases h8:j=8
  ·simp[h8]
  ·by_cases h9:j=9
   ·simp[h9]
   ·simp[h7,h8,h9]
theorem fadd9(f:Nat->List Value)(v:Value):(λ j=>if j=9 then f 9++[v] else f j)=eC f [] [] [v]:=by
 funext j;unfold eC
 by_cases h7:j=7
 ·simp[h7]
 ·by_cases h8:j=8
  ·simp[h8]
  ·by_cases h9:j=9
   ·simp[h9]
   ·simp[h7,h8,h9]
theorem pF(f:Nat->List Value)(p l t p' l' t':List Value):eC (eC f p l t) p' l' t'=eC f (p++p') (l++l') (t++t'):=by
 funext j;unfold eC
 simp only[if_true,List.append_assoc]
 split
 ·rfl
 ·split
  ·simp
  ·split
   ·simp
   ·rfl
end
section
def KP:Kd:={ e:=68,sz:=2,em:=0,cel:=λ _ M xs=>xs=[.int .i64 0,.int .i64 M] }
theorem KP_ok:KP.Ok:=⟨by decide,by decide,λ _ _ _ h=>by rw[show _=_ from h];rfl,λ _ _ _ h u hu=>by rw[show _=_ from h] at hu;simp at hu;rcases hu with rfl|rfl<;>rfl,λ _ _ _ _ _ h=>h⟩
theorem KP_sty:Sty prog KP 28:=by
 refine⟨underlying28,?_⟩
 have h:=TA
 cases hi:prog.info? 68 with
 | none=>rw[hi] at h;cases h
 | some i =>
  rw[hi] at h
  simp only[Option.map_some,Option.some.injEq,Prod.mk.injEq] at h
  exact⟨i,_,hi,h.1,h.2.1,rfl,by omega⟩
def KPS:Kd:={ e:=28,sz:=1,em:=0,cel:=λ _ _ _=>False }
theorem info41:(prog.info? 28).map (λ i=>(i.zero,i.size,i.bytes))=some (some (.slice none 0 0),1,24):=by kernel_rfl
theorem KPS_sty:Sty prog KPS 131:=by
 refine⟨underlying131,?_⟩
 have h:=info41
 cases hi:prog.info? 28 with
 | none=>rw[hi] at h;cases h
 | some i =>
  rw[hi] at h
  simp only[Option.map_some,Option.some.injEq,Prod.mk.injEq] at h
  exact⟨i,_,hi,h.1,h.2.1,rfl,by omega⟩
theorem KP_mark:BU prog KP 224:=λ k i w hk hi=>(pW k i w hk hi).mono λ _ _ h=>⟨_,h.1,rfl,h.2⟩
theorem EG(vs:List Value)(L:Nat)(ql:Option Addr)(cl:Nat)(w:World)(hvs:vs.length<=1000000000)(hcl:vs.length<=cl)(hcm:cl<=maxLen)(hL:∀(k:Nat) (v:Value),vs[k]? = some v->ql=some ⟨L,0,none⟩/\vn v<=1000000000)
  (hC:¬InV vs L/\∀W,Tn KP.em (InV vs) w W->∀(k:Nat) (v:Value),vs[k]? = some v->U W L k=some v) (hR:RowsG KP 0 w vs (λ _=>0)) (hD:BV vs) :
  Calls prog 181 #[.slice ql vs.length cl] w λ e w'=>e=.returned (.bool true)/\Tn KP.em (InV vs) w w':=by
 obtain⟨m,hm⟩:∃m,vs.length=m:=⟨_,rfl⟩
 have HM:=hid hm
 have HC:=hid hC
 have HL:=hid hL
 have HMK:=hid KP_mark
 have HIN:Hid (∀b,InV vs b->b<w.heap.size):=λ b hb=>by obtain⟨-,cur,e⟩:=hR.typed hb;exact bC e
 rw[hm] at hvs hcl ⊢
 clear hm hC hL
 unfold maxLen at hcm
 go_enter func181,ntmps181
 go_wp2_with fail
 go_loopw [3] (λ i wr=>∃k:Nat,k<=m/\i=.int .i64 k/\RowsG KP 0 wr vs (dF vs k 0)/\Tn KP.em (InV vs) w wr) (λ i _=>m-(intOf i).toNat)
 case atStart=>exact⟨0,Nat.zero_le _,rfl,hR.cong λ k v _=>by simp[dF],Tn.refl _ _ _⟩
 case round =>
  obtain⟨k,hk,rfl,hRk,hTk⟩:=hrel
  clear hR
  by_cases hlt:k<m
  ·have r1:decide ((k:Int)<(m:Int))=true:=decide_eq_true (by omega)
   obtain⟨v,hv⟩:∃v,vs[k]? = some v:=⟨_,List.getElem?_eq_getElem (by have:=HM.out;omega)⟩
   obtain⟨p,n,c,rfl,hnc,hcc⟩:=(hRk k v hv).isSlice
   unfold maxLen at hcc
   obtain⟨rfl,hn⟩:=HL.out k _ hv
   replace hn:n<=1000000000:=hn
   have HV:=hid hv
   have HRK:=hid hRk
   have HTK:=hid hTk
   clear hv hRk hTk
   go_wp2_with fail
   go_loopw [4] (λ i wr=>∃j:Nat,i=.int .i64 j/\j<=n/\RowsG KP 0 wr vs (dF vs k j)/\Tn KP.em (InV vs) w wr) (λ i _=>n-(intOf i).toNat)
   case atStart=>exact⟨0,rfl,Nat.zero_le _,HRK.out,HTK.out⟩
   case round =>
    clear HRK HTK
    obtain⟨j,rfl,hj,hRj,hTj⟩:=hrel
    have hu:=HC.out.2 _ hTj k _ HV.out
    have hc:=aD hu
    by_cases hjn:j<n
    ·have r2:decide ((j:Int)<(n:Int))=true:=decide_eq_true (by omega)
     obtain⟨g,rfl,hc0⟩:=(hRj k _ HV.out).lies (by omega)
     have e1:∀n':GrownX (InV vs) wr,n'.it.cell? ⟨L,k,none⟩=some (.slice (some ⟨g,0,none⟩) n c):=GrownX.cell hu HC.out.1
     have HRJ:=hid hRj
     have HTJ:=hid hTj
     clear hu hRj hTj
     go_wp2_with fail
     clear hc
     refine iZ (InV vs) [0,1,2,3,4,5,6] (by decide) (by kernel_rfl) (by kernel_rfl) (by kernel_rfl) (by kernel_rfl) (λ _ _ d _ _ h=>by cases d<;>exact h) ?_
     simp only[List.map_cons,List.map_nil,List.getD_cons_zero,List.getD_cons_succ,bar,bH,List.size_toArray,List.length_cons,List.length_nil,Nat.zero_add,Nat.reduceAdd,if_true,if_false,Bool.false_eq_true]
     repeat (go_big_quiet_step (fail))
     refine wpQuiet_nil ?_
     clear e1
     refine aP (i:=7) (fuel:=2) (by kernel_rfl) rfl (by rfl) (λ K' hK=>?_)
     go_simp
     refine (HMK.out k j _ (by omega) (by omega)).mono ?_
     rintro e wx ⟨xs,rfl,hcel,hbx⟩
     have hAx:Below wr.heap.size wr wx:=aB (aZ wr) hbx
     refine hK.out _ _ ⟨⟨wx,λ b hb _=>hAx.block b hb⟩,rfl⟩ (λ _=>?_)
     clear hK K'
     have hRx:=HRJ.out.below KP_ok hAx
     obtain⟨hth,hR',hT'⟩:=RowsG.setF KP_ok hD hRx HV.out hjn hcel
     refine aP (i:=8) (fuel:=1) (by kernel_rfl) rfl (by rfl) (λ K' hK=>?_)
     go_simp
     refine hK.out _ _ ⟨⟨wx,λ b hb _=>hAx.block b hb⟩,rfl⟩ (λ _=>?_)
     clear hK K'
     refine aP (i:=9) (fuel:=0) (by kernel_rfl) rfl (by rfl) (λ K' hK=>?_)
     refine wp_store_mid 68 _ _ rfl g (j*2) xs.toArray rfl rfl (by rw[List.size_toArray,KP_ok.len _ _ _ hcel];exact hth) (by rw[List.size_toArray,KP_ok.len _ _ _ hcel];exact KP_sty.size) (all_oneCell_toArray (KP_ok.one _ _ _ hcel)) ?_
     refine hK.out _ _ ⟨⟨wx.setCells g (j*2) xs,λ b hb hx=>(hT'.block b (Nat.lt_of_lt_of_le hb hAx.size) hx).trans (hAx.block b hb)⟩,rfl⟩ (λ _=>?_)
     clear hK K'
     refine wpAnyH_done (by kernel_rfl) ?_ _
     have HR':=hid hR'
     have HT':=hid (HTJ.out.trans ((Tn.of_below hAx).trans hT'))
     clear hth hR' hT' hRx hcel hAx hbx HRJ HTJ
     go_wp2_with fail
     go_roundw
     case rel=>exact⟨j+1,by go_num,by omega,HR'.out,HT'.out⟩
     case measure=>simp[intOf];omega
    ·have r2:decide ((j:Int)<(n:Int))=false:=decide_eq_false (by omega)
     obtain rfl:j=n:=by omega
     have HR':=hid (RowsG.dEnd HV.out hRj)
     have HT':=hid hTj
     clear hRj hTj hu
     go_wp2_with fail
     go_roundw
     case rel=>exact⟨k+1,by omega,by go_num,HR'.out,HT'.out⟩
     case measure=>simp[intOf];omega
  ·have r1:decide ((k:Int)<(m:Int))=false:=decide_eq_false (by omega)
   obtain rfl:k=m:=by omega
   have HF:=hid (RowsG.full HM.out hRk)
   have HT:=hid hTk
   clear hRk hTk
   obtain⟨arr,hmk,harr⟩:=KPS_sty.make k (by omega) wr
   have hmk':(Instr.makeSlice 131 (.int .i64 k) (.int .i64 k)).run prog wr=.ok (.slice (some ⟨wr.heap.size,0,none⟩) k k) (wr.alloc (.cells arr 28)):=hmk
   clear hmk
   go_wp2_with fail
   obtain⟨w1,hw1⟩:∃w1,wr.alloc (.cells arr 28)=w1:=⟨_,rfl⟩
   obtain⟨G,hG⟩:∃G,wr.heap.size=G:=⟨_,rfl⟩
   have HGW:Hid (w.heap.size<=G):=hid (by rw[<-hG];exact HT.out.size)
   have HB1:Below wr.heap.size wr w1:=by rw[<-hw1];exact aA _ _
   have HF1:=hid (HF.out.below KP_ok HB1)
   have HT1:=hid (HT.out.trans (Tn.of_below HB1))
   have HG1:Hid (Gsl KP 28 G w.heap.size w1 vs 64 64 0):=hid (by rw[<-hw1,<-hG];exact Gsl.new wr vs 64 64 (by rw[HM.out,harr];show k*1=k;omega))
   rw[hw1,hG]
   clear HF HT HB1 hw1 hmk' harr
   go_loopw [6] (λ i wr=>∃j:Nat,i=.int .i64 j/\j<=k/\Full KP 0 wr vs/\Gsl KP 28 G w.heap.size wr vs 64 64 j/\Tn KP.em (InV vs) w wr) (λ i _=>k-(intOf i).toNat)
   case atStart=>exact⟨0,rfl,Nat.zero_le _,HF1.out,HG1.out,HT1.out⟩
   case round =>
    clear HF1 HG1 HT1
    obtain⟨j,rfl,hj,hF,hGs,hT⟩:=hrel
    by_cases hlt:j<k
    ·have r1:decide ((j:Int)<(k:Int))=true:=decide_eq_true (by omega)
     obtain⟨v,hv⟩:∃v,vs[j]? = some v:=⟨_,List.getElem?_eq_getElem (by have:=HM.out;omega)⟩
     obtain⟨p,n,c,rfl,hnc,hcc⟩:=(hF j v hv).isSlice
     unfold maxLen at hcc
     obtain⟨rfl,hn⟩:=HL.out j _ hv
     replace hn:n<=1000000000:=hn
     have hc:=aD (HC.out.2 _ hT j _ hv)
     have HV:=hid hv
     have HF:=hid hF
     have HGS:=hid hGs
     have HT:=hid hT
     clear hv hF hGs hT
     go_wp2_with fail
     obtain⟨wk,hwk⟩:∃wk:World,wk=wr:=⟨_,rfl⟩
     subst hwk
     go_loopw [7,8] (λ g i wr=>∃t:Nat,i=.int .i64 t/\t<=64/\RowI KP 0 wr (.slice p n c) n j/\Cur KP wk.heap.size wr (.slice p n c) g t j/\Tn KP.em (λ b=>vb (.slice p n c)=some b) wk wr) (λ _ i _=>64-(intOf i).toNat)
     case atStart=>exact⟨0,rfl,by decide,HF.out j _ HV.out,.inl ⟨rfl,rfl⟩,Tn.refl _ _ _⟩
     case round =>
      obtain⟨t,rfl,ht,hRq,hCq,hTq⟩:=hrel
      have hTv:Tn KP.em (InV vs) w wr:=HT.out.trans (hTq.inV HV.out)
      have hcq:=aD (HC.out.2 _ hTv j _ HV.out)
      have HR:=hid hRq
      have HC1:=hid hCq
      have HTQ:=hid hTq
      have HTV:=hid hTv
      clear hRq hCq hTq hTv hc
      by_cases hlt64:t<64
      ·have r2:decide ((t:Int)<64)=true:=decide_eq_true (by omega)
       have HMJ:Hid (∀W,Calls prog 224 #[.int .i64 j,.int .i64 ((n:Int)+(t:Int))] W λ e w'=>∃xs,e=.returned (.agg xs.toArray)/\KP.cel w' (mk j (n+t)) xs/\Below W.heap.size W w'):=λ W=>by
        have:=HMK.out j (n+t) W (by omega) (by omega)
        rwa [Int.natCast_add] at this
       go_wp2_with fail
       refine (HMJ.out _).mono ?_
       rintro e wx ⟨xs,rfl,hcel,hbx⟩
       have hxs:xs=[.int .i64 0,.int .i64 (mk j (n+t))]:=hcel
       obtain⟨wy,hwy⟩:∃wy,wx.alloc (.cells xs.toArray 68)=wy:=⟨_,rfl⟩
       have hby:Below wr.heap.size wr wy:=by rw[<-hwy];exact aB hbx (aA _ _)
       have hnc:∀(i:Nat) (u:Value),xs[i]? = some u->wy.cell? ((⟨wx.heap.size,0,none⟩:Addr).add i)=some u:=by rw[<-hwy];exact gK wx xs 68
       obtain⟨g',wz,hrun,hRz,hCz,hTz⟩:=Cur.grow KP_ok KP_sty 28 (HR.out.on KP_ok (Tn.of_below (X:=λ _=>False) hby) λ _ _ _ _=>id) (λ b hb=>Nat.lt_of_lt_of_le (HIN.out b ⟨_,List.mem_of_getElem? HV.out,hb⟩) HT.out.size) (Nat.le_trans HTQ.out.size hby.size)
        (HC1.out.on KP_ok (Tn.of_below (X:=λ _=>False) hby) λ _ _ _ _=>id) (c:=1) (by rw[<-hwy];exact KP_ok.below hcel (aA _ _)) hnc (by show n+t+1<=_;omega)
       have HRZ:=hid hRz
       have HCZ:=hid hCz
       have HTZ:=hid (HTQ.out.trans' ((Tn.of_below hby).trans hTz) λ b hb h=>by
        rcases h with h|h
        ·exact h
        ·omega)
       clear hRz hCz hTz hcel hbx hby hnc HR HC1 HTQ HMJ
       subst hwy hxs
       go_wp2_with (at_builtin;refine aR rfl _ _ 28 rfl _ _ _ rfl rfl hrun ?_)
       go_roundw
       case rel=>exact⟨t+1,by go_num,by omega,HRZ.out,HCZ.out,HTZ.out⟩
       case measure=>simp[intOf];omega
      ·have r2:decide ((t:Int)<64)=false:=decide_eq_false (by omega)
       obtain rfl:t=64:=by omega
       have hFq:=Full.one KP_ok hD HF.out HV.out HTQ.out HR.out
       have hGq:=Gsl.one KP_ok hD HGS.out HIN.out HGW.out HV.out HTQ.out
       obtain⟨u,hgc,hgf⟩:=hGq.cell (k:=j) (by have:=HM.out;omega)
       obtain⟨-,hG',hT'⟩:=hGq.put KP_ok (by decide) (by decide) HV.out ((HC1.out.ent (by decide)).less (Nat.le_refl _) HT.out.size)
       obtain⟨h,cap,cur,e,-⟩:=HC1.out.ent (by decide)
       subst e
       have HG':=hid hG'
       have HF':=hid (hFq.put KP_ok HIN.out HGW.out hT')
       have HT':=hid (HTV.out.trans' hT' λ b hb e=>by have:=HGW.out;omega)
       clear hFq hGq hG' hT' HR HC1 HTQ HTV HF HGS HT hcq
       go_wp2_with fail
       go_roundw
       case rel=>exact⟨j+1,by go_num,by omega,HF'.out,HG'.out,HT'.out⟩
       case measure=>simp[intOf];omega
    ·have r1:decide ((j:Int)<(k:Int))=false:=decide_eq_false (by omega)
     obtain rfl:j=k:=by omega
     have HF:=hid hF
     have HGS:=hid hGs
     have HT:=hid hT
     clear hF hGs hT
     go_wp2_with fail
     obtain⟨w3,hw3⟩:∃w3:World,w3=wr:=⟨_,rfl⟩
     subst hw3
     obtain⟨m,hm⟩:∃m:Nat,m=j:=⟨_,rfl⟩
     subst hm
     clear hlt
     go_loopw [9] (λ i wr=>∃j:Nat,i=.int .i64 j/\j<=m/\Below w3.heap.size w3 wr) (λ i _=>m-(intOf i).toNat)
     case atStart=>exact⟨0,rfl,Nat.zero_le _,Below.refl _ _⟩
     case round =>
      obtain⟨j,rfl,hj,hB⟩:=hrel
      by_cases hlt:j<m
      ·have r1:decide ((j:Int)<(m:Int))=true:=decide_eq_true (by omega)
       obtain⟨v,hv⟩:∃v,vs[j]? = some v:=⟨_,List.getElem?_eq_getElem (by have:=HM.out;omega)⟩
       obtain⟨p,n,c,rfl,hnc,hcc⟩:=(HF.out j v hv).isSlice
       unfold maxLen at hcc
       obtain⟨rfl,hn⟩:=HL.out j _ hv
       replace hn:n<=1000000000:=hn
       have HV:=hid hv
       have HB:=hid hB
       clear hv hB
       obtain⟨u,hgc,hgf,hE⟩:=HGS.out.get hlt HV.out
       obtain⟨h,cap,cur,rfl,-,-,hq1,hq2,-⟩:=id hE
       unfold maxLen at hq2
       replace hq1:n+64<=cap:=hq1
       have HU:Hid (U w3 G j=some (.slice (some ⟨h,0,none⟩) (n+64) cap)):=hid (nJ hgc hgf)
       have HE:=hid hE
       clear hgc hgf hE
       go_wp2_with fail
       go_loopw [10] (λ i wr=>∃t:Nat,i=.int .i64 t/\t<=n+64/\Below w3.heap.size w3 wr) (λ i _=>n+64-(intOf i).toNat)
       case atStart=>exact⟨0,rfl,Nat.zero_le _,HB.out⟩
       case round =>
        clear HB
        obtain⟨t,rfl,ht,hB⟩:=hrel
        have hug:=aE hB _ _ _ (aL HU.out) HU.out
        have hgc:=aD hug
        have hul:=HC.out.2 _ (HT.out.trans (Tn.of_below hB)) j _ HV.out
        have HB:=hid hB
        clear hB
        by_cases htn:t<n+64
        ·have r2:decide ((t:Int)<(n:Int)+64)=true:=decide_eq_true (by omega)
         have q1:(0:Int)<=(t:Int):=by omega
         have q2:(t:Int)<(n:Int)+64:=by omega
         obtain⟨xs,hcel,hrg⟩:=HE.out.getU (show t<vn (.slice p n c)+64 from htn)
         have HCEL:=hid hcel
         have HRG:=hid hrg
         clear hcel hrg
         obtain⟨M,hM⟩:∃M,mk j t=M:=⟨_,rfl⟩
         have hxs:xs=[.int .i64 0,.int .i64 M]:=by rw[<-hM];exact HCEL.out
         subst hxs
         have c0:∀n':GrownB wr.heap.size wr,n'.it.cell? ⟨h,t*2,none⟩=some (.int .i64 0):=GrownB.cell (aE HB.out _ _ _ (aL (HRG.out 0 _ rfl)) (HRG.out 0 _ rfl)) (Nat.lt_of_lt_of_le (aL (HRG.out 0 _ rfl)) HB.out.size)
         have c1:∀n':GrownB wr.heap.size wr,n'.it.cell? ⟨h,t*2+1,none⟩=some (.int .i64 M):=GrownB.cell (aE HB.out _ _ _ (aL (HRG.out 1 _ rfl)) (HRG.out 1 _ rfl)) (Nat.lt_of_lt_of_le (aL (HRG.out 1 _ rfl)) HB.out.size)
         have hgB:=GrownB.cell hug (aL hug)
         have hlB:=GrownB.cell hul (aL hul)
         clear hug hul
         go_wp2_with fail
         refine cV wr.heap.size [0,1,2,3,4,5,6,7,8] (by decide) (by kernel_rfl) (by kernel_rfl) (by kernel_rfl) (by kernel_rfl) (λ _ _ d _ _ h=>by cases d<;>exact h) ?_
         simp only[List.map_cons,List.map_nil,List.getD_cons_zero,List.getD_cons_succ,bar,bH,List.size_toArray,List.length_cons,List.length_nil,Nat.zero_add,Nat.reduceAdd,if_true,if_false,Bool.false_eq_true]
         repeat (go_big_quiet_step (fail))
         refine wpQuiet_nil ?_
         refine aP (i:=9) (fuel:=25) (by kernel_rfl) rfl (by rfl) (λ K' hK=>?_)
         go_simp
         refine (HMK.out j t _ (by omega) (by omega)).mono ?_
         rintro e wx ⟨ys,rfl,hcy,hbx⟩
         have hAx:Below wr.heap.size wr wx:=aB (aZ wr) hbx
         refine hK.out _ _ ⟨⟨wx,hAx⟩,rfl⟩ (λ _=>?_)
         have hys:ys=[.int .i64 0,.int .i64 M]:=by rw[<-hM];exact hcy
         subst hys
         clear hK K' hcy hbx hgB c0 c1
         by_cases htk:t<n
         ·have r3:decide ((t:Int)<(n:Int))=true:=decide_eq_true (by omega)
          have q3:(t:Int)<(n:Int):=by omega
          obtain⟨g,rfl,-⟩:=(HF.out j _ HV.out).lies (by omega)
          obtain⟨xs,hcel,hrg⟩:=(HF.out j _ HV.out).getU (show t<vn (.slice (some ⟨g,0,none⟩) n c) from htk)
          have HCEL2:=hid hcel
          have HRG2:=hid hrg
          clear hcel hrg HCEL HRG
          have hxs:xs=[.int .i64 0,.int .i64 M]:=by rw[<-hM];exact HCEL2.out
          subst hxs
          have d0:∀n':GrownB wr.heap.size wr,n'.it.cell? ⟨g,t*2,none⟩=some (.int .i64 0):=GrownB.cell (aE HB.out _ _ _ (aL (HRG2.out 0 _ rfl)) (HRG2.out 0 _ rfl)) (Nat.lt_of_lt_of_le (aL (HRG2.out 0 _ rfl)) HB.out.size)
          have d1:∀n':GrownB wr.heap.size wr,n'.it.cell? ⟨g,t*2+1,none⟩=some (.int .i64 M):=GrownB.cell (aE HB.out _ _ _ (aL (HRG2.out 1 _ rfl)) (HRG2.out 1 _ rfl)) (Nat.lt_of_lt_of_le (aL (HRG2.out 1 _ rfl)) HB.out.size)
          refine bR (by kernel_rfl) (λ _ _ d _ _ h=>by cases d<;>exact h) ⟨⟨wx,hAx⟩,rfl⟩ 5 [10,11,12,13,14,15,16,17,18,19,20,21,22,23,24,25,26,27,28,29] _ _ (by kernel_rfl) (by kernel_rfl) ?_
          simp only[List.map_cons,List.map_nil,List.getD_cons_zero,List.getD_cons_succ,bar,bH,List.size_toArray,List.length_cons,List.length_nil,Nat.zero_add,Nat.reduceAdd,if_true,if_false,Bool.false_eq_true]
          repeat (go_big_quiet_step (fail))
          refine wpQuiet_nil ?_
          clear d0 d1
          refine aP (i:=30) (fuel:=4) (by kernel_rfl) rfl (by rfl) (λ K' hK=>?_)
          go_simp
          refine (HMK.out j t _ (by omega) (by omega)).mono ?_
          rintro e wz ⟨ys,rfl,hcy,hbz⟩
          have hAz:Below wr.heap.size wr wz:=aB hAx hbz
          refine hK.out _ _ ⟨⟨wz,hAz⟩,rfl⟩ (λ _=>?_)
          have hys:ys=[.int .i64 0,.int .i64 M]:=by rw[<-hM];exact hcy
          subst hys
          clear hK K' hcy hbz
          refine bR (by kernel_rfl) (λ _ _ d _ _ h=>by cases d<;>exact h) ⟨⟨wz,hAz⟩,rfl⟩ 0 [31,32,33,34] _ _ (by kernel_rfl) (by kernel_rfl) ?_
          simp only[List.map_cons,List.map_nil,List.getD_cons_zero,List.getD_cons_succ,bar,bH,List.size_toArray,List.length_cons,List.length_nil,Nat.zero_add,Nat.reduceAdd,if_true,if_false,Bool.false_eq_true]
          repeat (go_big_quiet_step (fail))
          refine wpQuiet_nil ?_
          refine wpAnyH_done (by kernel_rfl) ?_ _
          have HAV:=hid hAz
          clear hAz hAx
          go_wp2_with fail
          go_roundw
          case rel=>exact⟨t+1,by go_num,by omega,aB HB.out HAV.out⟩
          case measure=>simp[intOf];omega
         ·have r3:decide ((t:Int)<(n:Int))=false:=decide_eq_false (by omega)
          refine bR (by kernel_rfl) (λ _ _ d _ _ h=>by cases d<;>exact h) ⟨⟨wx,hAx⟩,rfl⟩ 0 [10,11,12,13,14,15,16,17,18,19,20,21,22,23,24,25,26,27,28,29,30,31,32,33,34] _ _ (by kernel_rfl) (by kernel_rfl) ?_
          simp only[List.map_cons,List.map_nil,List.getD_cons_zero,List.getD_cons_succ,bar,bH,List.size_toArray,List.length_cons,List.length_nil,Nat.zero_add,Nat.reduceAdd,if_true,if_false,Bool.false_eq_true]
          repeat (go_big_quiet_step (fail))
          refine wpQuiet_nil ?_
          refine wpAnyH_done (by kernel_rfl) ?_ _
          have HAY:=hid hAx
          clear hAx
          go_wp2_with fail
          go_roundw
          case rel=>exact⟨t+1,by go_num,by omega,aB HB.out HAY.out⟩
          case measure=>simp[intOf];omega
        ·have r2:decide ((t:Int)<(n:Int)+64)=false:=decide_eq_false (by omega)
         clear hug hul
         go_wp2_with fail
         go_roundw
         case rel=>exact⟨j+1,by go_num,by omega,HB.out⟩
         case measure=>simp[intOf];omega
      ·have r1:decide ((j:Int)<(m:Int))=false:=decide_eq_false (by omega)
       obtain rfl:j=m:=by omega
       go_wp2_with fail
       obtain⟨w4,hw4⟩:∃w4:World,w4=wr:=⟨_,rfl⟩
       subst hw4
       obtain⟨m,hm⟩:∃m:Nat,m=j:=⟨_,rfl⟩
       subst hm
       have HF4:=hid (HF.out.below KP_ok hB)
       have HG4:=hid ((HGS.out.start (d':=0) (x':=64)).below KP_ok hB)
       have HT4:=hid (HT.out.trans (Tn.of_below hB))
       clear HF HGS HT hB hlt
       go_loopw [11] (λ i wr=>∃j:Nat,i=.int .i64 j/\j<=m/\Full KP 0 wr vs/\Gsl KP 28 G w.heap.size wr vs 0 64 j/\Tn KP.em (InV vs) w wr) (λ i _=>m-(intOf i).toNat)
       case atStart=>exact⟨0,rfl,Nat.zero_le _,HF4.out,HG4.out,HT4.out⟩
       case round =>
        clear HF4 HG4 HT4
        obtain⟨j,rfl,hj,hF,hGs,hT⟩:=hrel
        by_cases hlt:j<m
        ·have r1:decide ((j:Int)<(m:Int))=true:=decide_eq_true (by omega)
         obtain⟨v,hv⟩:∃v,vs[j]? = some v:=⟨_,List.getElem?_eq_getElem (by have:=HM.out;omega)⟩
         obtain⟨p,n,c,rfl,hnc,hcc⟩:=(hF j v hv).isSlice
         unfold maxLen at hcc
         obtain⟨rfl,hn⟩:=HL.out j _ hv
         replace hn:n<=1000000000:=hn
         have HV:=hid hv
         have HF:=hid hF
         have HGS:=hid hGs
         have HT:=hid hT
         clear hv hF hGs hT
         obtain⟨arr2,hmk2,harr2⟩:=KP_sty.make 64 (by decide) wr
         have hmk2':(Instr.makeSlice 28 (.int .i64 64) (.int .i64 64)).run prog wr=.ok (.slice (some ⟨wr.heap.size,0,none⟩) 64 64) (wr.alloc (.cells arr2 68)):=hmk2
         clear hmk2
         go_wp2_with fail
         obtain⟨wk,hwk⟩:∃wk:World,wk=wr:=⟨_,rfl⟩
         subst hwk
         obtain⟨w5,hw5⟩:∃w5,wk.alloc (.cells arr2 68)=w5:=⟨_,rfl⟩
         obtain⟨B,hBq⟩:∃B,wk.heap.size=B:=⟨_,rfl⟩
         have HB5:Hid (Below wk.heap.size wk w5):=hid (by rw[<-hw5];exact aA _ _)
         have HR5:Hid (RowI KP B w5 (.slice (some ⟨B,0,none⟩) 64 64) 0 (j+m)):=hid (by rw[<-hw5,<-hBq];exact RowI.new wk 64 (j+m) harr2 (by decide) (by decide))
         have HBq:=hid hBq
         rw[hw5,hBq]
         clear hw5 hmk2' harr2 hBq
         go_loopw [13] (λ i wr=>∃t:Nat,i=.int .i64 t/\t<=64/\RowI KP B wr (.slice (some ⟨B,0,none⟩) 64 64) t (j+m)/\Below wk.heap.size wk wr) (λ i _=>64-(intOf i).toNat)
         case atStart=>exact⟨0,rfl,by decide,HR5.out,HB5.out⟩
         case round =>
          clear HR5 HB5
          obtain⟨t,rfl,ht,hR5,hB⟩:=hrel
          have HR5:=hid hR5
          have HB:=hid hB
          clear hR5 hB
          by_cases hlt64:t<64
          ·have r2:decide ((t:Int)<64)=true:=decide_eq_true (by omega)
           have HMJ:Hid (∀W,Calls prog 224 #[.int .i64 ((j:Int)+(m:Int)),.int .i64 t] W λ e w'=>∃xs,e=.returned (.agg xs.toArray)/\KP.cel w' (mk (j+m) t) xs/\Below W.heap.size W w'):=λ W=>by
            have:=HMK.out (j+m) t W (by omega) (by omega)
            rwa [Int.natCast_add] at this
           go_wp2_with fail
           refine (HMJ.out _).mono ?_
           rintro e wx ⟨xs,rfl,hcel,hbx⟩
           have hRx:=HR5.out.on KP_ok (Tn.of_below (X:=λ _=>False) hbx) λ _ _ _ _=>id
           obtain⟨hth,hR',hT'⟩:=hRx.set KP_ok hlt64 hcel
           have hth':wx.there B (t*2) xs.toArray.size:=by rw[List.size_toArray,KP_ok.len _ _ _ hcel];exact hth
           have hsz':(prog.info? 68).map (·.size)=some xs.toArray.size:=by rw[List.size_toArray,KP_ok.len _ _ _ hcel];exact KP_sty.size
           have hon':=all_oneCell_toArray (KP_ok.one _ _ _ hcel)
           have HR':=hid hR'
           have HB':Hid (Below wk.heap.size wk (wx.setCells B (t*2) xs)):=hid (oA HB.out hbx hT' HBq.out)
           clear hRx hth hR' hT' hcel hbx HR5 HB HMJ
           go_wp2_with (refine wpList_store_mid rfl 68 _ _ rfl B (t*2) xs.toArray rfl rfl hth' hsz' hon' ?_)
           go_roundw
           case rel=>exact⟨t+1,by go_num,by omega,HR'.out,HB'.out⟩
           case measure=>simp[intOf];omega
          ·have r2:decide ((t:Int)<64)=false:=decide_eq_false (by omega)
           obtain rfl:t=64:=by omega
           obtain⟨news,hl,hnews,hone⟩:=HR5.out.all KP_ok (by decide)
           have hc:=aD (HC.out.2 _ (HT.out.trans (Tn.of_below HB.out)) j _ HV.out)
           obtain⟨g',w6,hrun,hR6,hE6,hT6⟩:=((HF.out.below KP_ok HB.out) j _ HV.out).many KP_ok KP_sty 28 (c:=64) hl (by decide) hnews hone (by show n+64<=_;omega)
           have hF6:=Full.one KP_ok hD (HF.out.below KP_ok HB.out) HV.out hT6 hR6
           have hG6:=Gsl.one KP_ok hD (HGS.out.below KP_ok HB.out) HIN.out HGW.out HV.out hT6
           obtain⟨u,hgc,hgf⟩:=hG6.cell (k:=j) (by have:=HM.out;omega)
           obtain⟨-,hG',hT'⟩:=hG6.put KP_ok (by decide) (by decide) HV.out (hE6.less (Nat.le_refl _) (Nat.le_trans HT.out.size HB.out.size))
           obtain⟨h,cap,cur,e,-⟩:=hE6
           subst e
           have HG':=hid hG'
           have HF':=hid (hF6.put KP_ok HIN.out HGW.out hT')
           have HT':=hid ((((HT.out.trans (Tn.of_below HB.out)).trans (hT6.inV HV.out))).trans' hT' λ b hb e=>by have:=HGW.out;omega)
           clear hF6 hG6 hG' hT' hT6 hR6 HR5 HB HF HGS HT hl hnews hone
           go_wp2_with (at_builtin;refine aR rfl _ _ 28 rfl _ _ _ rfl rfl hrun ?_)
           go_roundw
           case rel=>exact⟨j+1,by go_num,by omega,HF'.out,HG'.out,HT'.out⟩
           case measure=>simp[intOf];omega
        ·have r1:decide ((j:Int)<(m:Int))=false:=decide_eq_false (by omega)
         obtain rfl:j=m:=by omega
         have HF:=hid hF
         have HGS:=hid hGs
         have HT:=hid hT
         clear hF hGs hT
         go_wp2_with fail
         obtain⟨w7,hw7⟩:∃w7:World,w7=wr:=⟨_,rfl⟩
         subst hw7
         obtain⟨m,hm⟩:∃m:Nat,m=j:=⟨_,rfl⟩
         subst hm
         clear hlt
         go_loopw [14] (λ i wr=>∃j:Nat,i=.int .i64 j/\j<=m/\Below w7.heap.size w7 wr) (λ i _=>m-(intOf i).toNat)
         case atStart=>exact⟨0,rfl,Nat.zero_le _,Below.refl _ _⟩
         case round =>
          obtain⟨j,rfl,hj,hB⟩:=hrel
          by_cases hlt:j<m
          ·have r1:decide ((j:Int)<(m:Int))=true:=decide_eq_true (by omega)
           obtain⟨v,hv⟩:∃v,vs[j]? = some v:=⟨_,List.getElem?_eq_getElem (by have:=HM.out;omega)⟩
           obtain⟨p,n,c,rfl,hnc,hcc⟩:=(HF.out j v hv).isSlice
           unfold maxLen at hcc
           obtain⟨rfl,hn⟩:=HL.out j _ hv
           replace hn:n<=1000000000:=hn
           have HV:=hid hv
           have HB:=hid hB
           clear hv hB
           obtain⟨u,hgc,hgf,hE⟩:=HGS.out.get hlt HV.out
           obtain⟨h,cap,cur,rfl,-,-,hq1,hq2,-⟩:=id hE
           unfold maxLen at hq2
           replace hq1:n+64<=cap:=hq1
           have HU:Hid (U w7 G j=some (.slice (some ⟨h,0,none⟩) (n+64) cap)):=hid (nJ hgc hgf)
           have HE:=hid hE
           clear hgc hgf hE
           go_wp2_with fail
           go_loopw [15] (λ i wr=>∃t:Nat,i=.int .i64 t/\t<=n/\Below w7.heap.size w7 wr) (λ i _=>n-(intOf i).toNat)
           case atStart=>exact⟨0,rfl,Nat.zero_le _,HB.out⟩
           case round =>
            clear HB
            obtain⟨t,rfl,ht,hB⟩:=hrel
            have hug:=aE hB _ _ _ (aL HU.out) HU.out
            have hul:=HC.out.2 _ (HT.out.trans (Tn.of_below hB)) j _ HV.out
            have hlc:=aD hul
            have HB:=hid hB
            clear hB
            by_cases htn:t<n
            ·have r2:decide ((t:Int)<(n:Int))=true:=decide_eq_true (by omega)
             have q1:(0:Int)<=(t:Int):=by omega
             have q2:(t:Int)<(n:Int)+64:=by omega
             have q3:(t:Int)<(n:Int):=by omega
             obtain⟨g,rfl,-⟩:=(HF.out j _ HV.out).lies (by omega)
             obtain⟨xs,hcel,hrg⟩:=(HF.out j _ HV.out).getU (show t<vn (.slice (some ⟨g,0,none⟩) n c) from htn)
             have HCEL:=hid hcel
             have HRG:=hid hrg
             clear hcel hrg
             obtain⟨M,hM⟩:∃M,mk j t=M:=⟨_,rfl⟩
             have hxs:xs=[.int .i64 0,.int .i64 M]:=by rw[<-hM];exact HCEL.out
             subst hxs
             have c0:∀n':GrownB wr.heap.size wr,n'.it.cell? ⟨g,t*2,none⟩=some (.int .i64 0):=GrownB.cell (aE HB.out _ _ _ (aL (HRG.out 0 _ rfl)) (HRG.out 0 _ rfl)) (Nat.lt_of_lt_of_le (aL (HRG.out 0 _ rfl)) HB.out.size)
             have c1:∀n':GrownB wr.heap.size wr,n'.it.cell? ⟨g,t*2+1,none⟩=some (.int .i64 M):=GrownB.cell (aE HB.out _ _ _ (aL (HRG.out 1 _ rfl)) (HRG.out 1 _ rfl)) (Nat.lt_of_lt_of_le (aL (HRG.out 1 _ rfl)) HB.out.size)
             obtain⟨xs,hcel,hrg⟩:=HE.out.getU (show t<vn (.slice (some ⟨g,0,none⟩) n c)+0 from htn)
             have HCEL2:=hid hcel
             have HRG2:=hid hrg
             clear hcel hrg
             have hxs:xs=[.int .i64 0,.int .i64 M]:=by rw[<-hM];exact HCEL2.out
             subst hxs
             have d0:∀n':GrownB wr.heap.size wr,n'.it.cell? ⟨h,t*2,none⟩=some (.int .i64 0):=GrownB.cell (aE HB.out _ _ _ (aL (HRG2.out 0 _ rfl)) (HRG2.out 0 _ rfl)) (Nat.lt_of_lt_of_le (aL (HRG2.out 0 _ rfl)) HB.out.size)
             have d1:∀n':GrownB wr.heap.size wr,n'.it.cell? ⟨h,t*2+1,none⟩=some (.int .i64 M):=GrownB.cell (aE HB.out _ _ _ (aL (HRG2.out 1 _ rfl)) (HRG2.out 1 _ rfl)) (Nat.lt_of_lt_of_le (aL (HRG2.out 1 _ rfl)) HB.out.size)
             have hgB:=GrownB.cell hug (aL hug)
             have hlB:=GrownB.cell hul (aL hul)
             clear hug hul
             go_wp2_with fail
             refine cV wr.heap.size [0,1,2,3,4,5,6,7,8] (by decide) (by kernel_rfl) (by kernel_rfl) (by kernel_rfl) (by kernel_rfl) (λ _ _ d _ _ h=>by cases d<;>exact h) ?_
             simp only[List.map_cons,List.map_nil,List.getD_cons_zero,List.getD_cons_succ,bar,bH,List.size_toArray,List.length_cons,List.length_nil,Nat.zero_add,Nat.reduceAdd,if_true,if_false,Bool.false_eq_true]
             repeat (go_big_quiet_step (fail))
             refine wpQuiet_nil ?_
             clear c0 c1
             refine aP (i:=9) (fuel:=16) (by kernel_rfl) rfl (by rfl) (λ K' hK=>?_)
             go_simp
             refine (HMK.out j t _ (by omega) (by omega)).mono ?_
             rintro e wx ⟨ys,rfl,hcy,hbx⟩
             have hAx:Below wr.heap.size wr wx:=aB (aZ wr) hbx
             refine hK.out _ _ ⟨⟨wx,hAx⟩,rfl⟩ (λ _=>?_)
             have hys:ys=[.int .i64 0,.int .i64 M]:=by rw[<-hM];exact hcy
             subst hys
             clear hK K' hcy hbx
             refine bR (by kernel_rfl) (λ _ _ d _ _ h=>by cases d<;>exact h) ⟨⟨wx,hAx⟩,rfl⟩ 4 [10,11,12,13,14,15,16,17,18,19,20,21] _ _ (by kernel_rfl) (by kernel_rfl) ?_
             simp only[List.map_cons,List.map_nil,List.getD_cons_zero,List.getD_cons_succ,bar,bH,List.size_toArray,List.length_cons,List.length_nil,Nat.zero_add,Nat.reduceAdd,if_true,if_false,Bool.false_eq_true]
             repeat (go_big_quiet_step (fail))
             refine wpQuiet_nil ?_
             clear d0 d1 hgB
             refine aP (i:=22) (fuel:=3) (by kernel_rfl) rfl (by rfl) (λ K' hK=>?_)
             go_simp
             refine (HMK.out j t _ (by omega) (by omega)).mono ?_
             rintro e wz ⟨ys,rfl,hcy,hbz⟩
             have hAz:Below wr.heap.size wr wz:=aB hAx hbz
             refine hK.out _ _ ⟨⟨wz,hAz⟩,rfl⟩ (λ _=>?_)
             have hys:ys=[.int .i64 0,.int .i64 M]:=by rw[<-hM];exact hcy
             subst hys
             clear hK K' hcy hbz
             refine bR (by kernel_rfl) (λ _ _ d _ _ h=>by cases d<;>exact h) ⟨⟨wz,hAz⟩,rfl⟩ 0 [23,24,25] _ _ (by kernel_rfl) (by kernel_rfl) ?_
             simp only[List.map_cons,List.map_nil,List.getD_cons_zero,List.getD_cons_succ,bar,bH,List.size_toArray,List.length_cons,List.length_nil,Nat.zero_add,Nat.reduceAdd,if_true,if_false,Bool.false_eq_true]
             repeat (go_big_quiet_step (fail))
             refine wpQuiet_nil ?_
             refine wpAnyH_done (by kernel_rfl) ?_ _
             have HAV:=hid hAz
             clear hAz hAx
             go_wp2_with fail
             go_roundw
             case rel=>exact⟨t+1,by go_num,by omega,aB HB.out HAV.out⟩
             case measure=>simp[intOf];omega
            ·have r2:decide ((t:Int)<(n:Int))=false:=decide_eq_false (by omega)
             clear hug hul
             go_wp2_with fail
             go_roundw
             case rel=>exact⟨j+1,by go_num,by omega,HB.out⟩
             case measure=>simp[intOf];omega
          ·have r1:decide ((j:Int)<(m:Int))=false:=decide_eq_false (by omega)
           have HB:=hid hB
           clear hB
           go_wp2_with fail
           go_ret
           exact⟨rfl,HT.out.trans (Tn.of_below HB.out)⟩
end
end Go.Proofs.YtlfnfiihfjggoaaGreatDoor
