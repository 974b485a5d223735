/-
  The program's walk by Lift's turn, and what follows. Conditions: as each lemma states them.
-/
import Derived.Test.YtkcmapimcgppmaaGreatDoorT03
import Derived.RangeFuncFrom
import Derived.RangeFuncLeaves
import Derived.Shelf.Abstract
import Derived.OwnWalkIn
import Derived.TacticsInMore
import Derived.BigFrameIn
import Derived.LoopNIn
import Derived.LoopIn
import Derived.RangeFuncNested
import Derived.Test.YtkcmapimcgppmaaGreatDoorT01
import Derived.WalkKit
import Derived.ProofKit
import Derived.OpenShut
import Derived.Below
import Derived.ChangeSame
import Derived.ChangeMaps5
import Derived.Carry
import Derived.Deep.DeepHandedRow
set_option linter.all false
set_option linter.unusedVariables false
set_option linter.unusedSimpArgs false
set_option linter.unnecessarySimpa false
set_option maxHeartbeats 8000000
set_option maxRecDepth 100000
namespace Go.Proofs.YtkcmapimcgppmaaGreatDoor
section
open Go.RowKit
theorem RowG.setCell{w:World}{base sz e n:Nat}{v:Value}{x:Ds}{S:List Nat}(h:RowG w base sz e v n x S){p:Addr}(hp:p.block<base)(u:Value):RowG (w.setCell p u) base sz e v n x S:=by
 obtain⟨xs,h1,h2,h3⟩:=h
 refine⟨xs,⟨h1.1,?_⟩,h2.setCell (h2.notMem hp) u,h3⟩
 rcases h1.2 with h6|⟨g,cap,cur,e1,h6,h7,h8⟩
 ·exact .inl h6
 ·have hne:g≠p.block:=by omega
  exact .inr ⟨g,cap,cur,e1,h6,(Below.heap_setCell _ _ _ _ hne).trans h7,h8⟩
theorem walk_of(h:Hd)(x:Ts)(va:Value)(n f:Int)(d bf bn:Nat)(w:World)(ha:RM ty w va h x)(hf:h.fits)(hs:aH h.l<=200000000)(hd:d<=200000000000)(hxl:x.len<=200000000)(hKA:KA w)(cf:U w bf 0=some (.int .i64 f))(cn:U w bn 0=some (.int .i64 n))
  (hk:∀(k:Nat) (W:World) (v:Value) (e:Nat),k<x.len->RM ty W v (x.hd k) (x.kd k)->e<=d+1->Below w.heap.size w W->Calls Tryz.prog 126 #[.agg #[.int .i64 e,.func (.func 123) #[] #[.pointer (some ⟨bf,0,none⟩),.pointer (some ⟨bn,0,none⟩)]],v] W (Makes (tDs ty (.cons ((x.hd k).lift n f e) ((x.kd k).lift n f (x.hd k).k 0 e) .nil)) W)) :
  Calls Tryz.prog 126 #[.agg #[.int .i64 d,.func (.func 123) #[] #[.pointer (some ⟨bf,0,none⟩),.pointer (some ⟨bn,0,none⟩)]],va] w (Makes (tDs ty (.cons (h.lift n f d) (x.lift n f h.k 0 d) .nil)) w):=by
 obtain⟨q,c,r,m,rfl,hc1,hc2,hc3,hc4,hl,hx⟩:=ha.agg
 unfold maxLen at hc2 hc4
 obtain⟨F,hF⟩:∃F,Value.func (.func 123) #[] #[.pointer (some ⟨bf,0,none⟩),.pointer (some ⟨bn,0,none⟩)]=F:=⟨_,rfl⟩
 obtain⟨nl,hnl⟩:∃nl,h.l.length=nl:=⟨_,rfl⟩
 rw[hnl] at hl hc1 ⊢
 obtain⟨w2,hw2⟩:∃w2,((w.alloc (.cells #[.int .i64 d,.func (.func 123) #[] #[.pointer (some ⟨bf,0,none⟩),.pointer (some ⟨bn,0,none⟩)]] 166)).alloc (.cells #[.int .i64 h.k,.int .i64 h.n,.int .i64 h.a,.slice q nl c,.slice r x.len m] 26)).alloc (.cells bI 26)=w2:=⟨_,rfl⟩
 have hb2:Below w.heap.size w w2:=by rw[<-hw2];exact aA (aA (aB _ _) (aB _ _)) (aB _ _)
 have hs2:w2.heap.size=w.heap.size+3:=by rw[<-hw2];simp
 have p0:∀o v,(#[.int .i64 d,F]:Array Value)[o]? = some v->U w2 w.heap.size o=some v:=λ o v hv=>by
  rw[<-hF] at hv
  rw[<-hw2];exact aD (aB _ _) _ _ _ (by first|(simp;done)|(simp;omega)) (aD (aB _ _) _ _ _ (by simp) (aL hv))
 have p1:∀o v,(#[.int .i64 h.k,.int .i64 h.n,.int .i64 h.a,.slice q nl c,.slice r x.len m]:Array Value)[o]? = some v->U w2 (w.heap.size+1) o=some v:=λ o v hv=>by
  have:=aL (w:=w.alloc (.cells #[.int .i64 d,.func (.func 123) #[] #[.pointer (some ⟨bf,0,none⟩),.pointer (some ⟨bn,0,none⟩)]] 166)) (ty:=26) hv
  rw[World.size_alloc] at this
  rw[<-hw2];exact aD (aB _ _) _ _ _ (by simp) this
 have p2:∀o v,bI[o]? = some v->U w2 (w.heap.size+1+1) o=some v:=λ o v hv=>by
  have:=aL (w:=(w.alloc (.cells #[.int .i64 d,.func (.func 123) #[] #[.pointer (some ⟨bf,0,none⟩),.pointer (some ⟨bn,0,none⟩)]] 166)).alloc (.cells #[.int .i64 h.k,.int .i64 h.n,.int .i64 h.a,.slice q nl c,.slice r x.len m] 26)) (ty:=26) hv
  rw[World.size_alloc,World.size_alloc,hw2] at this
  exact this
 have HT:=hid (FS h q r nl c x.len m n f d (.func 123) #[] #[.pointer (some ⟨bf,0,none⟩),.pointer (some ⟨bn,0,none⟩)] bf bn w2 (hl.on hb2) hs hf (by omega) (aD hb2 _ _ _ (aM cf) cf) (aD hb2 _ _ _ (aM cn) cn))
 have HX:=hid hx
 have HB2:=hid hb2
 have HS2:=hid hs2
 have HSW2:Hid (w.heap.size+3<=w2.heap.size):=hid (by omega)
 have P0:=hid p0
 have P1:=hid p1
 have P2:=hid p2
 have HK:=hid hk
 have HKA:=hid hKA
 have HF:=hid hF
 rw[hF] at HT HK hw2 ⊢
 have c0:=aC (p0 0 _ rfl)
 have c1:=aC (p0 1 _ rfl)
 have d0:=aC (p1 0 _ rfl)
 have d1:=aC (p1 1 _ rfl)
 have d2:=aC (p1 2 _ rfl)
 have d3:=aC (p1 3 _ rfl)
 have d4:=aC (p1 4 _ rfl)
 unfold bI at hw2
 clear hb2 hs2 p0 p1 p2 hl hx hs hf hk hKA cf cn ha hnl
 rw[<-hF] at hw2 HT HK c1 ⊢
 clear hF
 go_enter Tryz.func126,Tryz.ntmps126
 go_wp2_with fail
 clear c0 c1 d0 d1 d2 d3 d4 hw2
 refine HT.out.mono ?_
 rintro en w3 ⟨q',n',c',S1,rfl,hb3,ho3,hn3⟩
 obtain⟨k1,hk1⟩:∃z,(h.lift n f d).k=z:=⟨_,rfl⟩
 obtain⟨k2,hk2⟩:∃z,(h.lift n f d).n=z:=⟨_,rfl⟩
 obtain⟨k3,hk3⟩:∃z,(h.lift n f d).a=z:=⟨_,rfl⟩
 have HK1:=hid hk1
 have HK2:=hid hk2
 have HK3:=hid hk3
 have HO3:=hid ho3
 have HN3:=hid hn3
 have HB3:=hid (aA HB2.out hb3)
 have HS3:Hid (w.heap.size+3<=w3.heap.size):=hid (by have:=hb3.size;have:=HS2.out;omega)
 have P03:Hid (∀o v,(#[.int .i64 d,F]:Array Value)[o]? = some v->U w3 w.heap.size o=some v):=λ o v hv=>aD hb3 _ _ _ (by have:=HS2.out;omega) (P0.out o v hv)
 have P13:Hid (∀o v,(#[.int .i64 h.k,.int .i64 h.n,.int .i64 h.a,.slice q nl c,.slice r x.len m]:Array Value)[o]? = some v->U w3 (w.heap.size+1) o=some v):=λ o v hv=>aD hb3 _ _ _ (by have:=HS2.out;omega) (P1.out o v hv)
 have P23:Hid (∀o v,bI[o]? = some v->U w3 (w.heap.size+1+1) o=some v):=λ o v hv=>aD hb3 _ _ _ (by have:=HS2.out;omega) (P2.out o v hv)
 rw[hk1,hk2,hk3]
 clear hb3 ho3 hn3 hk1 hk2 hk3 P0 P1 P2 HT HB2 HS2
 go_wp2_with fail
 obtain⟨G,hG⟩:∃G,w3.heap.size=G:=⟨_,rfl⟩
 obtain⟨w5,hw5⟩:∃w5,w3.alloc (.cells #[.int .i64 k1,.int .i64 k2,.int .i64 k3,.slice q' n' c',.slice none 0 0] 26)=w5:=⟨_,rfl⟩
 rw[hw5,hG]
 have HB5:Hid (Below G w3 w5):=hid (by rw[<-hw5,<-hG];exact aB _ _)
 have HC5:Hid (∀o u,(#[.int .i64 k1,.int .i64 k2,.int .i64 k3,.slice q' n' c',.slice none 0 0]:Array Value)[o]? = some u->U w5 G o=some u):=λ o u hu=>by rw[<-hw5,<-hG];exact aL hu
 have HG:Hid (w.heap.size+3<=G):=hid (by rw[<-hG];exact HS3.out)
 have HSG:Hid (w5.heap.size=G+1):=hid (by rw[<-hw5,World.size_alloc,hG])
 have HO5:Hid (Own w5 w2.heap.size (.row 1 43 (bN ty (h.lift n f d).l) .nil .nil) [.slice q' n' c'] S1/\∀b∈S1,b<G):=hid ⟨by rw[<-hw5];exact HO3.out.below (aB _ _),λ b hb=>by rw[<-hG];exact (HO3.out.mem b hb).2⟩
 have HB35:Hid (Below w.heap.size w w5):=hid (HB3.out.trans (HB5.out.mono (by have:=HG.out;omega)))
 have P05:Hid (∀o v,(#[.int .i64 d,F]:Array Value)[o]? = some v->U w5 w.heap.size o=some v):=λ o v hv=>aD HB5.out _ _ _ (by have:=HG.out;omega) (P03.out o v hv)
 have P15:Hid (∀o v,(#[.int .i64 h.k,.int .i64 h.n,.int .i64 h.a,.slice q nl c,.slice r x.len m]:Array Value)[o]? = some v->U w5 (w.heap.size+1) o=some v):=λ o v hv=>aD HB5.out _ _ _ (by have:=HG.out;omega) (P13.out o v hv)
 have P25:Hid (∀o v,bI[o]? = some v->U w5 (w.heap.size+1+1) o=some v):=λ o v hv=>aD HB5.out _ _ _ (by have:=HG.out;omega) (P23.out o v hv)
 have HS25:Hid (w.heap.size+3<=w2.heap.size):=hid (HSW2.out)
 clear HB5 P03 P13 P23 HO3 HB3 HS3 hw5 hG HSW2
 go_loopw [25] (λ i wr=>∃(k:Nat) (v:Value) (S:List Nat),k<=x.len/\i=.int .i64 k/\Below G w5 wr/\(∀o u,(#[.int .i64 k1,.int .i64 k2,.int .i64 k3,.slice q' n' c',v]:Array Value)[o]? = some u->U wr G o=some u)/\RowG wr (G+1) 5 26 v k (tDs ty ((x.take k).lift n f h.k 0 d)) S) (λ i _=>x.len-(intOf i).toNat)
 case atStart=>exact⟨0,_,[],Nat.zero_le _,rfl,Below.refl _ _,HC5.out,by rw[show Ts.lift n f h.k 0 d (Ts.take 0 x)=.nil from rfl];exact RowG.nil _ _ _ _⟩
 case round =>
  obtain⟨k,v,S,hk,rfl,hB1,hC1,hR1⟩:=hrel
  have HB1:=hid hB1
  have HR1:=hid hR1
  obtain⟨p,cc,rfl,hcc1,hcc2⟩:=hR1.cap
  unfold maxLen at hcc2
  have HCE:=hid hC1
  have HGW:Hid (G+1<=wr.heap.size):=hid (by have:=hB1.size;rw[HSG.out] at this;exact this)
  clear hB1 hR1 hC1
  by_cases hlt:k<x.len
  ·have r1:decide ((k:Int)<(x.len:Int))=true:=decide_eq_true (by omega)
   have i1:(k:Int)<(x.len:Int):=by omega
   obtain⟨b,o,rfl,hb,hu1,hu2,hu3,⟨r2,d2,hu4,hd1,hd2,hRL⟩,⟨r3,d3,hu5,hd3,hd4,hRT⟩⟩:=HX.out.at_ hlt
   unfold maxLen at hd2 hd4
   have hwr:Below w.heap.size w wr:=HB35.out.trans (HB1.out.mono (by have:=HG.out;omega))
   have up:∀ {o:Nat} {v:Value},U w b o=some v->U wr b o=some v:=λ h=>aD hwr _ _ _ hb h
   have HRM:Hid (∀W,Below w.heap.size w W->RM ty W (.agg #[.int .i64 (x.hd k).k,.int .i64 (x.hd k).n,.int .i64 (x.hd k).a,.slice r2 (x.hd k).l.length d2,.slice r3 (x.kd k).len d3]) (x.hd k) (x.kd k)):=λ W hW=>⟨r2,_,d2,r3,_,d3,rfl,hRL.on hW,hRT.on hW⟩
   have e1:=aC (up hu1)
   have e2:=aC (up hu2)
   have e3:=aC (up hu3)
   have e4:=aC (up hu4)
   have e5:=aC (up hu5)
   obtain⟨z1,hz1⟩:∃z,(x.hd k).l.length=z:=⟨_,rfl⟩
   obtain⟨z2,hz2⟩:∃z,(x.kd k).len=z:=⟨_,rfl⟩
   rw[hz1] at e4 HRM hd1
   rw[hz2] at e5 HRM hd3
   obtain⟨wa,hwa⟩:∃wa,wr.alloc (.cells #[.int .i64 (x.hd k).k,.int .i64 (x.hd k).n,.int .i64 (x.hd k).a,.slice r2 z1 d2,.slice r3 z2 d3] 26)=wa:=⟨_,rfl⟩
   have HWA':Below wr.heap.size wr wa:=by rw[<-hwa];exact aB _ _
   have hWA:=hid HWA'
   have HBA:=hid (aA hwr HWA')
   have ec:∀o v,(#[.int .i64 (x.hd k).k,.int .i64 (x.hd k).n,.int .i64 (x.hd k).a,.slice r2 z1 d2,.slice r3 z2 d3]:Array Value)[o]? = some v->U wa wr.heap.size o=some v:=λ o v hv=>by rw[<-hwa];exact aL hv
   obtain⟨ex,hex⟩:∃ex:Nat->Prop,(λ b=>b=G∨(Value.slice p k cc).ownBlock=some b)=ex:=⟨_,rfl⟩
   have HEX:Hid (∀b,ex b↔(b=G∨(Value.slice p k cc).ownBlock=some b)):=λ b=>by rw[<-hex]
   have hge:∀b,ex b->G<=b/\b<wr.heap.size:=λ b hx=>by
    rcases (HEX.out b).1 hx with rfl|hx
    ·exact⟨Nat.le_refl _,by have:=HGW.out;omega⟩
    ·have:=HR1.out.mem b (by rw[hx];simp);omega
   have gr:∀ {b o:Nat} {v:Value},U w5 b o=some v->b<G->∀n:GrownX ex wa,n.it.cell? ⟨b,o,none⟩=some v:=λ h hb=>GrownX.cell (aD HWA' _ _ _ (by have:=HGW.out;omega) (aD HB1.out _ _ _ hb h)) (λ hx=>by have:=(hge _ hx).1;omega)
   have ge:∀ {o:Nat} {v:Value},U wa wr.heap.size o=some v->∀n:GrownX ex wa,n.it.cell? ⟨wr.heap.size,o,none⟩=some v:=λ h=>GrownX.cell h (λ hx=>by have:=(hge _ hx).2;omega)
   have HFF:=HF.out
   have g0:=gr (P05.out 0 _ rfl) (by have:=HG.out;omega)
   have g1:=gr (P05.out 1 _ rfl) (by have:=HG.out;omega)
   have g2:=gr (P15.out 0 _ rfl) (by have:=HG.out;omega)
   simp only[List.getElem_toArray,List.getElem_cons_succ,List.getElem_cons_zero] at g0 g1 g2
   rw[<-HFF] at g1
   have l0:=ge (ec 0 _ rfl)
   have l1:=ge (ec 1 _ rfl)
   have l2:=ge (ec 2 _ rfl)
   have l3:=ge (ec 3 _ rfl)
   have l4:=ge (ec 4 _ rfl)
   have KAf:Hid (KA wa.drew):=hid (HKA.out.on (aA HBA.out (aR wa)) HKA.out.1)
   have HLT:=hid (Ts.lift_take (n:=n) (from_:=f) (t:=x) (k:=k) h.k 0 d hlt)
   obtain⟨dd,hdd⟩:∃dd,aU h.k k d=dd:=⟨_,rfl⟩
   have HD1:Hid (dd<=d+1):=hid (by rw[<-hdd];unfold aU;split<;>omega)
   have HDD:=hid hdd
   clear hu1 hu2 hu3 hu4 hu5 hRL hRT up hwr hz1 hz2 HWA' ec hex hge gr ge HFF hdd
   go_wp2_with fail
   clear e1 e2 e3 e4 e5
   refine eG ex [0,2,3,4,5,7] (by decide) (by kernel_rfl) (by kernel_rfl) (by kernel_rfl) (by kernel_rfl) (λ _ _ d _ _ h=>by cases d<;>exact h) ?_
   simp only[List.map_cons,List.map_nil,List.getD_cons_zero,List.getD_cons_succ,bar,bD,List.size_toArray,List.length_cons,List.length_nil,Nat.zero_add,Nat.reduceAdd,if_true,if_false,Bool.false_eq_true]
   repeat (go_big_quiet_step (fail))
   refine wpQuiet_nil ?_
   clear g0 g1 g2 l0 l1 l2 l3 l4 hwa
   refine uX (i:=1) (j:=6) (fuel:=6) (by kernel_rfl) rfl rfl (by rfl) (by rfl) (λ K' hK=>?_) (λ K' hK=>?_)
   ·have hv0:=aC (aD (aA hWA.out (aR wa)) _ _ _ (by have:=HGW.out;omega) (HCE.out 4 _ rfl))
    simp only[List.getElem_toArray,List.getElem_cons_succ,List.getElem_cons_zero] at hv0
    go_simp
    refine hK.out _ _ ⟨⟨wa.drew,λ b hb _=>((aR wa)).block b hb⟩,rfl⟩ (λ _=>?_)
    clear hK K' hv0
    refine aJ (i:=6) (fuel:=5) (by kernel_rfl) rfl (by rfl) (λ K' hK=>?_)
    go_simp
    refine (tA d _ _ _ h.k k wa.drew KAf.out (by omega)).mono ?_
    rintro e wx ⟨rfl,hbx⟩
    have hAx:Below wa.heap.size wa wx:=aA (aR wa) hbx
    rw[HDD.out]
    refine hK.out _ _ ⟨⟨wx,λ b hb _=>hAx.block b hb⟩,rfl⟩ (λ _=>?_)
    clear hK K'
    refine aJ (i:=8) (fuel:=4) (by kernel_rfl) rfl (by rfl) (λ K' hK=>?_)
    go_simp
    refine ((HK.out k wx _ dd hlt (HRM.out wx (aA HBA.out hAx)) HD1.out (aA HBA.out hAx)).mono λ _ _ h=>Makes.tm h).mono ?_
    rintro e wy ⟨s1,m1,c1,s2,m2,c2,S2,rfl,hby,hown,hnd⟩
    have hAy:Below wa.heap.size wa wy:=aA hAx hby
    refine hK.out _ _ ⟨⟨wy,λ b hb _=>hAy.block b hb⟩,rfl⟩ (λ _=>?_)
    clear hK K'
    obtain⟨k1',hk1'⟩:∃z,((x.hd k).lift n f dd).k=z:=⟨_,rfl⟩
    obtain⟨k2',hk2'⟩:∃z,((x.hd k).lift n f dd).n=z:=⟨_,rfl⟩
    obtain⟨k3',hk3'⟩:∃z,((x.hd k).lift n f dd).a=z:=⟨_,rfl⟩
    obtain⟨cs,hcs⟩:∃cs:List Value,[.int .i64 k1',.int .i64 k2',.int .i64 k3',.slice s1 m1 c1,.slice s2 m2 c2]=cs:=⟨_,rfl⟩
    rw[hk1',hk2',hk3'] at hown ⊢
    rw[hcs] at hown
    obtain⟨wz,hwz⟩:∃wz,wy.alloc (.cells cs.toArray 26)=wz:=⟨_,rfl⟩
    have hBz:Below wr.heap.size wr wz:=by rw[<-hwz];exact aA (aA hWA.out hAy) (aB _ _)
    have hAz:Below wa.heap.size wa wz:=by rw[<-hwz];exact aA hAy (aB _ _)
    have hRz:=HR1.out.below hBz
    have hOz:=(hown.below (aB wy (.cells cs.toArray 26))).lower (base':=G+1) (by have:=HGW.out;have:=hWA.out.size;have:=hAx.size;omega)
    have hones:Ds.ones (.lit (.int .i64 k1') (.lit (.int .i64 k2') (.lit (.int .i64 k3') (.row 1 ty.l (bN ty ((x.hd k).lift n f dd).l) .nil (.row 5 ty.t (tDs ty ((x.kd k).lift n f (x.hd k).k 0 dd)) .nil .nil))))):=⟨rfl,rfl,rfl,trivial⟩
    obtain⟨v',w4,hrun4,hR5,hg,-⟩:=RowG.append (ty:=22) (k:=1) elT (by rw[hwz];exact hRz) HR1.out.lt_of hOz hnd (λ b hb=>by have:=(hown.mem b hb).1;have:=hAx.size;have:=hWA.out.size;omega) hones ⟨wy.heap.size,0,none⟩ 1 (by rw[<-hcs];rfl) (dO _ _ 26) (by omega) (by rw[hwz];have:=hBz.size;have:=HGW.out;omega)
    rw[hwz] at hrun4 hg
    have hGr:Below (G+1) wr w4:=(hBz.mono (by have:=HGW.out;omega)).grown hg (by have:=hBz.size;have:=HGW.out;omega) hRz.ge
    have HXK:Hid (∀b,b<wa.heap.size->¬ex b->w4.heap[b]? = wa.heap[b]?):=λ b hb hx=>(hg.block b (Nat.lt_of_lt_of_le hb hAz.size) (λ e=>hx ((HEX.out b).2 (.inr e.symm)))).trans (hAz.block b hb)
    have hGc:∀o u,(#[.int .i64 k1,.int .i64 k2,.int .i64 k3,.slice q' n' c',.slice p k cc]:Array Value)[o]? = some u->U w4 G o=some u:=λ o u hu=>aD hGr _ _ _ (Nat.lt_succ_self _) (HCE.out o u hu)
    have hg4:=aC (hGc 4 _ rfl)
    have hf4:=aG (hGc 4 _ rfl)
    have HGC:=hid hGc
    have HGR:=hid hGr
    have HR4:Hid (RowG w4 (G+1) 5 26 v' (k+1) (tDs ty ((x.take (k+1)).lift n f h.k 0 d)) (S++S2)):=hid (by
     rw[HLT.out,qS,show aU h.k (0+k) d=dd by rw[Nat.zero_add];exact HDD.out]
     have:tDs ty (.cons ((x.hd k).lift n f dd) ((x.kd k).lift n f (x.hd k).k 0 dd) .nil)=(.lit (.int .i64 k1') (.lit (.int .i64 k2') (.lit (.int .i64 k3') (.row 1 ty.l (bN ty ((x.hd k).lift n f dd).l) .nil (.row 5 ty.t (tDs ty ((x.kd k).lift n f (x.hd k).k 0 dd)) .nil .nil))))):=by
      rw[<-hk1',<-hk2',<-hk3'];rfl
     rw[this]
     exact hR5)
    have HAZ:=hid hAz
    obtain⟨p2,cc2,e2,-,-⟩:=HR4.out.cap
    subst e2
    rw[<-hcs] at hwz
    clear hcs hk1' hk2' hk3' hBz hRz hOz hones hR5 hg hGr hGc hown hnd hby hAz
    refine aJ (i:=9) (fuel:=3) (by kernel_rfl) rfl (by rfl) (λ K' hK=>?_)
    go_simp
    try rw[hwz]
    refine hK.out _ _ ⟨⟨wz,λ b hb _=>HAZ.out.block b hb⟩,rfl⟩ (λ _=>?_)
    clear hK K'
    refine aJ (i:=10) (fuel:=2) (by kernel_rfl) rfl (by rfl) (λ K' hK=>?_)
    refine iJ _ _ 22 rfl _ _ _ rfl rfl hrun4 ?_
    refine hK.out _ _ ⟨⟨w4,HXK.out⟩,rfl⟩ (λ _=>?_)
    clear hK K'
    refine aJ (i:=11) (fuel:=1) (by kernel_rfl) rfl (by rfl) (λ K' hK=>?_)
    go_simp
    refine hK.out _ _ ⟨⟨w4,HXK.out⟩,rfl⟩ (λ _=>?_)
    clear hK K'
    refine aJ (i:=12) (fuel:=0) (by kernel_rfl) rfl (by rfl) (λ K' hK=>?_)
    go_simp
    refine hK.out _ _ ⟨⟨w4.setCell ⟨G,4,none⟩ (.slice p2 (k+1) cc2),λ b hb hx=>(Below.heap_setCell _ _ _ _ (λ e=>hx ((HEX.out b).2 (.inl e)))).trans (HXK.out b hb hx)⟩,rfl⟩ (λ _=>?_)
    clear hK K'
    refine wpAnyH_done (by kernel_rfl) ?_ _
    have HC6:Hid (∀o u,(#[.int .i64 k1,.int .i64 k2,.int .i64 k3,.slice q' n' c',.slice p2 (k+1) cc2]:Array Value)[o]? = some u->U (w4.setCell ⟨G,4,none⟩ (.slice p2 (k+1) cc2)) G o=some u):=λ o u hu=>by
     by_cases h4:o=4
     ·subst h4
      have hv':Value.slice p2 (k+1) cc2=u:=by simpa using hu
      subst hv'
      exact cS (HGC.out 4 _ rfl)
     ·refine aX (HGC.out o u ?_) (sN (Ne.symm h4))
      have:o<5:=by have:=(Array.getElem?_eq_some_iff.1 hu).1;simpa using this
      have hall:o=0∨o=1∨o=2∨o=3:=by omega
      rcases hall with rfl|rfl|rfl|rfl<;>exact hu
    have HR6:=hid (HR4.out.setCell (p:=⟨G,4,none⟩) (Nat.lt_succ_self _) (.slice p2 (k+1) cc2))
    have HB6:=hid ((HB1.out.trans (HGR.out.mono (Nat.le_succ _))).setCell (p:=⟨G,4,none⟩) (Nat.le_refl _) (.slice p2 (k+1) cc2))
    obtain⟨w6,hw6⟩:∃w6,w4.setCell ⟨G,4,none⟩ (.slice p2 (k+1) cc2)=w6:=⟨_,rfl⟩
    rw[hw6] at HC6 HR6 HB6 ⊢
    clear hrun4 hg4 hf4 hw6 hwz
    go_wp2_with fail
    go_roundw
    case rel=>exact⟨k+1,_,_,by omega,by go_num,HB6.out,HC6.out,HR6.out⟩
    case measure=>simp[intOf];omega
   ·go_simp
    refine (tA d _ _ _ h.k k wa.drew KAf.out (by omega)).mono ?_
    rintro e wx ⟨rfl,hbx⟩
    have hAx:Below wa.heap.size wa wx:=aA (aR wa) hbx
    rw[HDD.out]
    refine hK.out _ _ ⟨⟨wx,λ b hb _=>hAx.block b hb⟩,rfl⟩ (λ _=>?_)
    clear hK K'
    refine uX (i:=1) (j:=8) (fuel:=5) (by kernel_rfl) rfl rfl (by rfl) (by rfl) (λ K' hK=>?_) (λ K' hK=>?_)
    ·have hv0:=aC (aD (aA hWA.out hAx) _ _ _ (by have:=HGW.out;omega) (HCE.out 4 _ rfl))
     simp only[List.getElem_toArray,List.getElem_cons_succ,List.getElem_cons_zero] at hv0
     go_simp
     refine hK.out _ _ ⟨⟨wx,λ b hb _=>(hAx).block b hb⟩,rfl⟩ (λ _=>?_)
     clear hK K' hv0
     refine aJ (i:=8) (fuel:=4) (by kernel_rfl) rfl (by rfl) (λ K' hK=>?_)
     go_simp
     refine ((HK.out k wx _ dd hlt (HRM.out wx (aA HBA.out hAx)) HD1.out (aA HBA.out hAx)).mono λ _ _ h=>Makes.tm h).mono ?_
     rintro e wy ⟨s1,m1,c1,s2,m2,c2,S2,rfl,hby,hown,hnd⟩
     have hAy:Below wa.heap.size wa wy:=aA hAx hby
     refine hK.out _ _ ⟨⟨wy,λ b hb _=>hAy.block b hb⟩,rfl⟩ (λ _=>?_)
     clear hK K'
     obtain⟨k1',hk1'⟩:∃z,((x.hd k).lift n f dd).k=z:=⟨_,rfl⟩
     obtain⟨k2',hk2'⟩:∃z,((x.hd k).lift n f dd).n=z:=⟨_,rfl⟩
     obtain⟨k3',hk3'⟩:∃z,((x.hd k).lift n f dd).a=z:=⟨_,rfl⟩
     obtain⟨cs,hcs⟩:∃cs:List Value,[.int .i64 k1',.int .i64 k2',.int .i64 k3',.slice s1 m1 c1,.slice s2 m2 c2]=cs:=⟨_,rfl⟩
     rw[hk1',hk2',hk3'] at hown ⊢
     rw[hcs] at hown
     obtain⟨wz,hwz⟩:∃wz,wy.alloc (.cells cs.toArray 26)=wz:=⟨_,rfl⟩
     have hBz:Below wr.heap.size wr wz:=by rw[<-hwz];exact aA (aA hWA.out hAy) (aB _ _)
     have hAz:Below wa.heap.size wa wz:=by rw[<-hwz];exact aA hAy (aB _ _)
     have hRz:=HR1.out.below hBz
     have hOz:=(hown.below (aB wy (.cells cs.toArray 26))).lower (base':=G+1) (by have:=HGW.out;have:=hWA.out.size;have:=hAx.size;omega)
     have hones:Ds.ones (.lit (.int .i64 k1') (.lit (.int .i64 k2') (.lit (.int .i64 k3') (.row 1 ty.l (bN ty ((x.hd k).lift n f dd).l) .nil (.row 5 ty.t (tDs ty ((x.kd k).lift n f (x.hd k).k 0 dd)) .nil .nil))))):=⟨rfl,rfl,rfl,trivial⟩
     obtain⟨v',w4,hrun4,hR5,hg,-⟩:=RowG.append (ty:=22) (k:=1) elT (by rw[hwz];exact hRz) HR1.out.lt_of hOz hnd (λ b hb=>by have:=(hown.mem b hb).1;have:=hAx.size;have:=hWA.out.size;omega) hones ⟨wy.heap.size,0,none⟩ 1 (by rw[<-hcs];rfl) (dO _ _ 26) (by omega) (by rw[hwz];have:=hBz.size;have:=HGW.out;omega)
     rw[hwz] at hrun4 hg
     have hGr:Below (G+1) wr w4:=(hBz.mono (by have:=HGW.out;omega)).grown hg (by have:=hBz.size;have:=HGW.out;omega) hRz.ge
     have HXK:Hid (∀b,b<wa.heap.size->¬ex b->w4.heap[b]? = wa.heap[b]?):=λ b hb hx=>(hg.block b (Nat.lt_of_lt_of_le hb hAz.size) (λ e=>hx ((HEX.out b).2 (.inr e.symm)))).trans (hAz.block b hb)
     have hGc:∀o u,(#[.int .i64 k1,.int .i64 k2,.int .i64 k3,.slice q' n' c',.slice p k cc]:Array Value)[o]? = some u->U w4 G o=some u:=λ o u hu=>aD hGr _ _ _ (Nat.lt_succ_self _) (HCE.out o u hu)
     have hg4:=aC (hGc 4 _ rfl)
     have hf4:=aG (hGc 4 _ rfl)
     have HGC:=hid hGc
     have HGR:=hid hGr
     have HR4:Hid (RowG w4 (G+1) 5 26 v' (k+1) (tDs ty ((x.take (k+1)).lift n f h.k 0 d)) (S++S2)):=hid (by
      rw[HLT.out,qS,show aU h.k (0+k) d=dd by rw[Nat.zero_add];exact HDD.out]
      have:tDs ty (.cons ((x.hd k).lift n f dd) ((x.kd k).lift n f (x.hd k).k 0 dd) .nil)=(.lit (.int .i64 k1') (.lit (.int .i64 k2') (.lit (.int .i64 k3') (.row 1 ty.l (bN ty ((x.hd k).lift n f dd).l) .nil (.row 5 ty.t (tDs ty ((x.kd k).lift n f (x.hd k).k 0 dd)) .nil .nil))))):=by
       rw[<-hk1',<-hk2',<-hk3'];rfl
      rw[this]
      exact hR5)
     have HAZ:=hid hAz
     obtain⟨p2,cc2,e2,-,-⟩:=HR4.out.cap
     subst e2
     rw[<-hcs] at hwz
     clear hcs hk1' hk2' hk3' hBz hRz hOz hones hR5 hg hGr hGc hown hnd hby hAz
     refine aJ (i:=9) (fuel:=3) (by kernel_rfl) rfl (by rfl) (λ K' hK=>?_)
     go_simp
     try rw[hwz]
     refine hK.out _ _ ⟨⟨wz,λ b hb _=>HAZ.out.block b hb⟩,rfl⟩ (λ _=>?_)
     clear hK K'
     refine aJ (i:=10) (fuel:=2) (by kernel_rfl) rfl (by rfl) (λ K' hK=>?_)
     refine iJ _ _ 22 rfl _ _ _ rfl rfl hrun4 ?_
     refine hK.out _ _ ⟨⟨w4,HXK.out⟩,rfl⟩ (λ _=>?_)
     clear hK K'
     refine aJ (i:=11) (fuel:=1) (by kernel_rfl) rfl (by rfl) (λ K' hK=>?_)
     go_simp
     refine hK.out _ _ ⟨⟨w4,HXK.out⟩,rfl⟩ (λ _=>?_)
     clear hK K'
     refine aJ (i:=12) (fuel:=0) (by kernel_rfl) rfl (by rfl) (λ K' hK=>?_)
     go_simp
     refine hK.out _ _ ⟨⟨w4.setCell ⟨G,4,none⟩ (.slice p2 (k+1) cc2),λ b hb hx=>(Below.heap_setCell _ _ _ _ (λ e=>hx ((HEX.out b).2 (.inl e)))).trans (HXK.out b hb hx)⟩,rfl⟩ (λ _=>?_)
     clear hK K'
     refine wpAnyH_done (by kernel_rfl) ?_ _
     have HC6:Hid (∀o u,(#[.int .i64 k1,.int .i64 k2,.int .i64 k3,.slice q' n' c',.slice p2 (k+1) cc2]:Array Value)[o]? = some u->U (w4.setCell ⟨G,4,none⟩ (.slice p2 (k+1) cc2)) G o=some u):=λ o u hu=>by
      by_cases h4:o=4
      ·subst h4
       have hv':Value.slice p2 (k+1) cc2=u:=by simpa using hu
       subst hv'
       exact cS (HGC.out 4 _ rfl)
      ·refine aX (HGC.out o u ?_) (sN (Ne.symm h4))
       have:o<5:=by have:=(Array.getElem?_eq_some_iff.1 hu).1;simpa using this
       have hall:o=0∨o=1∨o=2∨o=3:=by omega
       rcases hall with rfl|rfl|rfl|rfl<;>exact hu
     have HR6:=hid (HR4.out.setCell (p:=⟨G,4,none⟩) (Nat.lt_succ_self _) (.slice p2 (k+1) cc2))
     have HB6:=hid ((HB1.out.trans (HGR.out.mono (Nat.le_succ _))).setCell (p:=⟨G,4,none⟩) (Nat.le_refl _) (.slice p2 (k+1) cc2))
     obtain⟨w6,hw6⟩:∃w6,w4.setCell ⟨G,4,none⟩ (.slice p2 (k+1) cc2)=w6:=⟨_,rfl⟩
     rw[hw6] at HC6 HR6 HB6 ⊢
     clear hrun4 hg4 hf4 hw6 hwz
     go_wp2_with fail
     go_roundw
     case rel=>exact⟨k+1,_,_,by omega,by go_num,HB6.out,HC6.out,HR6.out⟩
     case measure=>simp[intOf];omega
    ·go_simp
     refine ((HK.out k wx _ dd hlt (HRM.out wx (aA HBA.out hAx)) HD1.out (aA HBA.out hAx)).mono λ _ _ h=>Makes.tm h).mono ?_
     rintro e wy ⟨s1,m1,c1,s2,m2,c2,S2,rfl,hby,hown,hnd⟩
     have hAy:Below wa.heap.size wa wy:=aA hAx hby
     refine hK.out _ _ ⟨⟨wy,λ b hb _=>hAy.block b hb⟩,rfl⟩ (λ _=>?_)
     clear hK K'
     obtain⟨k1',hk1'⟩:∃z,((x.hd k).lift n f dd).k=z:=⟨_,rfl⟩
     obtain⟨k2',hk2'⟩:∃z,((x.hd k).lift n f dd).n=z:=⟨_,rfl⟩
     obtain⟨k3',hk3'⟩:∃z,((x.hd k).lift n f dd).a=z:=⟨_,rfl⟩
     obtain⟨cs,hcs⟩:∃cs:List Value,[.int .i64 k1',.int .i64 k2',.int .i64 k3',.slice s1 m1 c1,.slice s2 m2 c2]=cs:=⟨_,rfl⟩
     rw[hk1',hk2',hk3'] at hown ⊢
     rw[hcs] at hown
     obtain⟨wz,hwz⟩:∃wz,wy.alloc (.cells cs.toArray 26)=wz:=⟨_,rfl⟩
     have hBz:Below wr.heap.size wr wz:=by rw[<-hwz];exact aA (aA hWA.out hAy) (aB _ _)
     have hAz:Below wa.heap.size wa wz:=by rw[<-hwz];exact aA hAy (aB _ _)
     have hRz:=HR1.out.below hBz
     have hOz:=(hown.below (aB wy (.cells cs.toArray 26))).lower (base':=G+1) (by have:=HGW.out;have:=hWA.out.size;have:=hAx.size;omega)
     have hones:Ds.ones (.lit (.int .i64 k1') (.lit (.int .i64 k2') (.lit (.int .i64 k3') (.row 1 ty.l (bN ty ((x.hd k).lift n f dd).l) .nil (.row 5 ty.t (tDs ty ((x.kd k).lift n f (x.hd k).k 0 dd)) .nil .nil))))):=⟨rfl,rfl,rfl,trivial⟩
     obtain⟨v',w4,hrun4,hR5,hg,-⟩:=RowG.append (ty:=22) (k:=1) elT (by rw[hwz];exact hRz) HR1.out.lt_of hOz hnd (λ b hb=>by have:=(hown.mem b hb).1;have:=hAx.size;have:=hWA.out.size;omega) hones ⟨wy.heap.size,0,none⟩ 1 (by rw[<-hcs];rfl) (dO _ _ 26) (by omega) (by rw[hwz];have:=hBz.size;have:=HGW.out;omega)
     rw[hwz] at hrun4 hg
     have hGr:Below (G+1) wr w4:=(hBz.mono (by have:=HGW.out;omega)).grown hg (by have:=hBz.size;have:=HGW.out;omega) hRz.ge
     have HXK:Hid (∀b,b<wa.heap.size->¬ex b->w4.heap[b]? = wa.heap[b]?):=λ b hb hx=>(hg.block b (Nat.lt_of_lt_of_le hb hAz.size) (λ e=>hx ((HEX.out b).2 (.inr e.symm)))).trans (hAz.block b hb)
     have hGc:∀o u,(#[.int .i64 k1,.int .i64 k2,.int .i64 k3,.slice q' n' c',.slice p k cc]:Array Value)[o]? = some u->U w4 G o=some u:=λ o u hu=>aD hGr _ _ _ (Nat.lt_succ_self _) (HCE.out o u hu)
     have hg4:=aC (hGc 4 _ rfl)
     have hf4:=aG (hGc 4 _ rfl)
     have HGC:=hid hGc
     have HGR:=hid hGr
     have HR4:Hid (RowG w4 (G+1) 5 26 v' (k+1) (tDs ty ((x.take (k+1)).lift n f h.k 0 d)) (S++S2)):=hid (by
      rw[HLT.out,qS,show aU h.k (0+k) d=dd by rw[Nat.zero_add];exact HDD.out]
      have:tDs ty (.cons ((x.hd k).lift n f dd) ((x.kd k).lift n f (x.hd k).k 0 dd) .nil)=(.lit (.int .i64 k1') (.lit (.int .i64 k2') (.lit (.int .i64 k3') (.row 1 ty.l (bN ty ((x.hd k).lift n f dd).l) .nil (.row 5 ty.t (tDs ty ((x.kd k).lift n f (x.hd k).k 0 dd)) .nil .nil))))):=by
       rw[<-hk1',<-hk2',<-hk3'];rfl
      rw[this]
      exact hR5)
     have HAZ:=hid hAz
     obtain⟨p2,cc2,e2,-,-⟩:=HR4.out.cap
     subst e2
     rw[<-hcs] at hwz
     clear hcs hk1' hk2' hk3' hBz hRz hOz hones hR5 hg hGr hGc hown hnd hby hAz
     refine uX (i:=1) (j:=9) (fuel:=4) (by kernel_rfl) rfl rfl (by rfl) (by rfl) (λ K' hK=>?_) (λ K' hK=>?_)
     ·have hv0:=aC (aD (aA hWA.out hAy) _ _ _ (by have:=HGW.out;omega) (HCE.out 4 _ rfl))
      simp only[List.getElem_toArray,List.getElem_cons_succ,List.getElem_cons_zero] at hv0
      go_simp
      refine hK.out _ _ ⟨⟨wy,λ b hb _=>(hAy).block b hb⟩,rfl⟩ (λ _=>?_)
      clear hK K' hv0
      refine aJ (i:=9) (fuel:=3) (by kernel_rfl) rfl (by rfl) (λ K' hK=>?_)
      go_simp
      try rw[hwz]
      refine hK.out _ _ ⟨⟨wz,λ b hb _=>HAZ.out.block b hb⟩,rfl⟩ (λ _=>?_)
      clear hK K'
      refine aJ (i:=10) (fuel:=2) (by kernel_rfl) rfl (by rfl) (λ K' hK=>?_)
      refine iJ _ _ 22 rfl _ _ _ rfl rfl hrun4 ?_
      refine hK.out _ _ ⟨⟨w4,HXK.out⟩,rfl⟩ (λ _=>?_)
      clear hK K'
      refine aJ (i:=11) (fuel:=1) (by kernel_rfl) rfl (by rfl) (λ K' hK=>?_)
      go_simp
      refine hK.out _ _ ⟨⟨w4,HXK.out⟩,rfl⟩ (λ _=>?_)
      clear hK K'
      refine aJ (i:=12) (fuel:=0) (by kernel_rfl) rfl (by rfl) (λ K' hK=>?_)
      go_simp
      refine hK.out _ _ ⟨⟨w4.setCell ⟨G,4,none⟩ (.slice p2 (k+1) cc2),λ b hb hx=>(Below.heap_setCell _ _ _ _ (λ e=>hx ((HEX.out b).2 (.inl e)))).trans (HXK.out b hb hx)⟩,rfl⟩ (λ _=>?_)
      clear hK K'
      refine wpAnyH_done (by kernel_rfl) ?_ _
      have HC6:Hid (∀o u,(#[.int .i64 k1,.int .i64 k2,.int .i64 k3,.slice q' n' c',.slice p2 (k+1) cc2]:Array Value)[o]? = some u->U (w4.setCell ⟨G,4,none⟩ (.slice p2 (k+1) cc2)) G o=some u):=λ o u hu=>by
       by_cases h4:o=4
       ·subst h4
        have hv':Value.slice p2 (k+1) cc2=u:=by simpa using hu
        subst hv'
        exact cS (HGC.out 4 _ rfl)
       ·refine aX (HGC.out o u ?_) (sN (Ne.symm h4))
        have:o<5:=by have:=(Array.getElem?_eq_some_iff.1 hu).1;simpa using this
        have hall:o=0∨o=1∨o=2∨o=3:=by omega
        rcases hall with rfl|rfl|rfl|rfl<;>exact hu
      have HR6:=hid (HR4.out.setCell (p:=⟨G,4,none⟩) (Nat.lt_succ_self _) (.slice p2 (k+1) cc2))
      have HB6:=hid ((HB1.out.trans (HGR.out.mono (Nat.le_succ _))).setCell (p:=⟨G,4,none⟩) (Nat.le_refl _) (.slice p2 (k+1) cc2))
      obtain⟨w6,hw6⟩:∃w6,w4.setCell ⟨G,4,none⟩ (.slice p2 (k+1) cc2)=w6:=⟨_,rfl⟩
      rw[hw6] at HC6 HR6 HB6 ⊢
      clear hrun4 hg4 hf4 hw6 hwz
      go_wp2_with fail
      go_roundw
      case rel=>exact⟨k+1,_,_,by omega,by go_num,HB6.out,HC6.out,HR6.out⟩
      case measure=>simp[intOf];omega
     ·go_simp
      try rw[hwz]
      refine hK.out _ _ ⟨⟨wz,λ b hb _=>HAZ.out.block b hb⟩,rfl⟩ (λ _=>?_)
      clear hK K'
      refine aJ (i:=1) (fuel:=3) (by kernel_rfl) rfl (by rfl) (λ K' hK=>?_)
      have hv0:=aC (aD (aA hWA.out HAZ.out) _ _ _ (by have:=HGW.out;omega) (HCE.out 4 _ rfl))
      simp only[List.getElem_toArray,List.getElem_cons_succ,List.getElem_cons_zero] at hv0
      go_simp
      refine hK.out _ _ ⟨⟨wz,λ b hb _=>(HAZ.out).block b hb⟩,rfl⟩ (λ _=>?_)
      clear hK K' hv0
      refine aJ (i:=10) (fuel:=2) (by kernel_rfl) rfl (by rfl) (λ K' hK=>?_)
      refine iJ _ _ 22 rfl _ _ _ rfl rfl hrun4 ?_
      refine hK.out _ _ ⟨⟨w4,HXK.out⟩,rfl⟩ (λ _=>?_)
      clear hK K'
      refine aJ (i:=11) (fuel:=1) (by kernel_rfl) rfl (by rfl) (λ K' hK=>?_)
      go_simp
      refine hK.out _ _ ⟨⟨w4,HXK.out⟩,rfl⟩ (λ _=>?_)
      clear hK K'
      refine aJ (i:=12) (fuel:=0) (by kernel_rfl) rfl (by rfl) (λ K' hK=>?_)
      go_simp
      refine hK.out _ _ ⟨⟨w4.setCell ⟨G,4,none⟩ (.slice p2 (k+1) cc2),λ b hb hx=>(Below.heap_setCell _ _ _ _ (λ e=>hx ((HEX.out b).2 (.inl e)))).trans (HXK.out b hb hx)⟩,rfl⟩ (λ _=>?_)
      clear hK K'
      refine wpAnyH_done (by kernel_rfl) ?_ _
      have HC6:Hid (∀o u,(#[.int .i64 k1,.int .i64 k2,.int .i64 k3,.slice q' n' c',.slice p2 (k+1) cc2]:Array Value)[o]? = some u->U (w4.setCell ⟨G,4,none⟩ (.slice p2 (k+1) cc2)) G o=some u):=λ o u hu=>by
       by_cases h4:o=4
       ·subst h4
        have hv':Value.slice p2 (k+1) cc2=u:=by simpa using hu
        subst hv'
        exact cS (HGC.out 4 _ rfl)
       ·refine aX (HGC.out o u ?_) (sN (Ne.symm h4))
        have:o<5:=by have:=(Array.getElem?_eq_some_iff.1 hu).1;simpa using this
        have hall:o=0∨o=1∨o=2∨o=3:=by omega
        rcases hall with rfl|rfl|rfl|rfl<;>exact hu
      have HR6:=hid (HR4.out.setCell (p:=⟨G,4,none⟩) (Nat.lt_succ_self _) (.slice p2 (k+1) cc2))
      have HB6:=hid ((HB1.out.trans (HGR.out.mono (Nat.le_succ _))).setCell (p:=⟨G,4,none⟩) (Nat.le_refl _) (.slice p2 (k+1) cc2))
      obtain⟨w6,hw6⟩:∃w6,w4.setCell ⟨G,4,none⟩ (.slice p2 (k+1) cc2)=w6:=⟨_,rfl⟩
      rw[hw6] at HC6 HR6 HB6 ⊢
      clear hrun4 hg4 hf4 hw6 hwz
      go_wp2_with fail
      go_roundw
      case rel=>exact⟨k+1,_,_,by omega,by go_num,HB6.out,HC6.out,HR6.out⟩
      case measure=>simp[intOf];omega
  ·obtain rfl:k=x.len:=by omega
   have r1:decide ((x.len:Int)<(x.len:Int))=false:=decide_eq_false (by omega)
   have HR2:Hid (RowG wr (G+1) 5 26 (.slice p x.len cc) x.len (tDs ty (x.lift n f h.k 0 d)) S):=hid (by have:=HR1.out;rw[Ts.take_len] at this;exact this)
   have Z:Hid (∀o v,bI[o]? = some v->U wr (w.heap.size+1+1) o=some v):=λ o v hv=>aD HB1.out _ _ _ (by have:=HG.out;omega) (P25.out o v hv)
   have HBW:Hid (Below w.heap.size w wr):=hid (HB35.out.trans (HB1.out.mono (by have:=HG.out;omega)))
   have HOW:Hid (Own wr w2.heap.size (.row 1 43 (bN ty (h.lift n f d).l) .nil .nil) [.slice q' n' c'] S1):=hid (HO5.out.1.kept λ b hb=>HB1.out.block b (HO5.out.2 b hb))
   have e1:=aC (HCE.out 0 _ rfl)
   have e2:=aC (HCE.out 1 _ rfl)
   have e3:=aC (HCE.out 2 _ rfl)
   have e4:=aC (HCE.out 3 _ rfl)
   have e5:=aC (HCE.out 4 _ rfl)
   have m0:=aC (Z.out 0 _ rfl)
   have m1:=aC (Z.out 1 _ rfl)
   have m2:=aC (Z.out 2 _ rfl)
   have m3:=aC (Z.out 3 _ rfl)
   have m4:=aC (Z.out 4 _ rfl)
   have o0:=aG (Z.out 0 _ rfl)
   have o1:=aG (Z.out 1 _ rfl)
   have o2:=aG (Z.out 2 _ rfl)
   have o3:=aG (Z.out 3 _ rfl)
   have o4:=aG (Z.out 4 _ rfl)
   clear HR1
   go_wp2_with fail
   obtain⟨W,hW⟩:∃W,((((wr.setCell ⟨w.heap.size+1+1,0,none⟩ (.int .i64 k1)).setCell ⟨w.heap.size+1+1,1,none⟩ (.int .i64 k2)).setCell ⟨w.heap.size+1+1,2,none⟩ (.int .i64 k3)).setCell ⟨w.heap.size+1+1,3,none⟩ (.slice q' n' c')).setCell ⟨w.heap.size+1+1,4,none⟩ (.slice p x.len cc)=W:=⟨_,rfl⟩
   obtain⟨⟨y0,y1,y2,y3,y4⟩,hBF,hkW⟩:=pM Z.out HBW.out (by omega) hW
   rw[hW]
   have hown:Own wr w.heap.size (.lit (.int .i64 k1) (.lit (.int .i64 k2) (.lit (.int .i64 k3) (.row 1 43 (bN ty (h.lift n f d).l) .nil (.row 5 26 (tDs ty (x.lift n f h.k 0 d)) .nil .nil))))) [.int .i64 k1,.int .i64 k2,.int .i64 k3,.slice q' n' c',.slice p x.len cc] (S1++((Value.slice p x.len cc).ownBlock.toList++S)) :=
    ⟨_,rfl,_,rfl,_,rfl,Own.app (HR2.out.own.lower (by have:=HG.out;omega)) (HOW.out.lower (by have:=HS25.out;omega))⟩
   have hge:∀b∈S1++((Value.slice p x.len cc).ownBlock.toList++S),w.heap.size+3<=b:=by
    intro b hb
    rcases List.mem_append.1 hb with hb|hb
    ·have:=(HO5.out.1.mem b hb).1;have:=HS25.out;omega
    ·have:=(HR2.out.mem b hb).1;have:=HG.out;omega
   have hd0:tDs ty (.cons (h.lift n f d) (x.lift n f h.k 0 d) .nil)=.lit (.int .i64 k1) (.lit (.int .i64 k2) (.lit (.int .i64 k3) (.row 1 43 (bN ty (h.lift n f d).l) .nil (.row 5 26 (tDs ty (x.lift n f h.k 0 d)) .nil .nil)))):=by
    rw[<-HK1.out,<-HK2.out,<-HK3.out];rfl
   rw[hd0]
   refine bodyPost_ret (v:=.agg #[.int .i64 k1,.int .i64 k2,.int .i64 k3,.slice q' n' c',.slice p x.len cc]) (by simp[results,Tryz.results126,go_sem,y0,y1,y2,y3,y4]) rfl ⟨[.int .i64 k1,.int .i64 k2,.int .i64 k3,.slice q' n' c',.slice p x.len cc],_,rfl,hBF,hown.kept (λ b hb=>hkW b (by have:=hge b hb;omega)),?_⟩
   refine List.nodup_append.2 ⟨HN3.out,HR2.out.nodup,λ a ha b hb e1=>?_⟩
   have h1:=HO5.out.2 a ha
   have h2:=(HR2.out.mem b hb).1
   omega
end
section
open Go.RowKit
theorem FQ(M:Nat):∀(h:Hd) (x:Ts) (va:Value) (n f:Int) (d bf bn:Nat) (w:World),x.count<M->RM ty w va h x->h.fits->x.fits->aH h.l+x.size<=200000000->d+x.count<=100000000000->KA w->U w bf 0=some (.int .i64 f)->U w bn 0=some (.int .i64 n) ->
  Calls Tryz.prog 126 #[.agg #[.int .i64 d,.func (.func 123) #[] #[.pointer (some ⟨bf,0,none⟩),.pointer (some ⟨bn,0,none⟩)]],va] w (Makes (tDs ty (.cons (h.lift n f d) (x.lift n f h.k 0 d) .nil)) w):=by
 induction M with
 | zero=>intro h x va n f d bf bn w hm;omega
 | succ M ih =>
  intro h x va n f d bf bn w hm ha hf hxf hs hd hKA cf cn
  have h1:=Ts.len_le_size x
  refine walk_of h x va n f d bf bn w ha hf (by omega) (by omega) (by omega) hKA cf cn λ k W v e hk hv he hb=>?_
  have h2:=Ts.size_kd hk
  have h3:=Ts.count_kd hk
  have h4:=Ts.fits_hd hxf hk
  exact ih (x.hd k) (x.kd k) v n f e bf bn W (by omega) hv h4.1 h4.2 (by omega) (by omega) (hKA.on hb hKA.1) (aD hb _ _ _ (aM cf) cf) (aD hb _ _ _ (aM cn) cn)
theorem yS(h:Hd)(x:Ts)(va:Value)(n f:Int)(w:World)(ha:RM ty w va h x)(hf:h.fits)(hxf:x.fits)(hs:aH h.l+x.size<=200000000)(hKA:KA w) :
  Calls Tryz.prog 60 #[va,.int .i64 n,.int .i64 f] w (MakesT (h.lift n f 0) (x.lift n f h.k 0 0) w):=by
 obtain⟨q,c,r,m,rfl,-,-,-,-,hl,hx⟩:=ha.agg
 obtain⟨w2,hw2⟩:∃w2,(((w.alloc (.cells #[.int .i64 h.k,.int .i64 h.n,.int .i64 h.a,.slice q h.l.length c,.slice r x.len m] 26)).alloc (.cells #[.int .i64 n] 3)).alloc (.cells #[.int .i64 f] 3)).alloc (.cells bI 26)=w2:=⟨_,rfl⟩
 have hb2:Below w.heap.size w w2:=by rw[<-hw2];exact aA (aA (aA (aB _ _) (aB _ _)) (aB _ _)) (aB _ _)
 have hs2:w2.heap.size=w.heap.size+4:=by rw[<-hw2];simp
 have p1:∀o v,(#[.int .i64 h.k,.int .i64 h.n,.int .i64 h.a,.slice q h.l.length c,.slice r x.len m]:Array Value)[o]? = some v->U w2 w.heap.size o=some v:=λ o v hv=>by
  rw[<-hw2]
  exact aD (aB _ _) _ _ _ (by first|(simp;done)|(simp;omega)) (aD (aB _ _) _ _ _ (by first|(simp;done)|(simp;omega)) (aD (aB _ _) _ _ _ (by first|(simp;done)|(simp;omega)) (aL hv)))
 have pn:U w2 (w.heap.size+1) 0=some (.int .i64 n):=by
  have:=aL (w:=w.alloc (.cells #[.int .i64 h.k,.int .i64 h.n,.int .i64 h.a,.slice q h.l.length c,.slice r x.len m] 26)) (cs:=#[.int .i64 n]) (ty:=3) (o:=0) rfl
  rw[World.size_alloc] at this
  rw[<-hw2]
  exact aD (aB _ _) _ _ _ (by first|(simp;done)|(simp;omega)) (aD (aB _ _) _ _ _ (by first|(simp;done)|(simp;omega)) this)
 have pf:U w2 (w.heap.size+1+1) 0=some (.int .i64 f):=by
  have:=aL (w:=(w.alloc (.cells #[.int .i64 h.k,.int .i64 h.n,.int .i64 h.a,.slice q h.l.length c,.slice r x.len m] 26)).alloc (.cells #[.int .i64 n] 3)) (cs:=#[.int .i64 f]) (ty:=3) (o:=0) rfl
  rw[World.size_alloc,World.size_alloc] at this
  rw[<-hw2]
  exact aD (aB _ _) _ _ _ (by first|(simp;done)|(simp;omega)) this
 have p2:∀o v,bI[o]? = some v->U w2 (w.heap.size+1+1+1) o=some v:=λ o v hv=>by
  have:=aL (w:=((w.alloc (.cells #[.int .i64 h.k,.int .i64 h.n,.int .i64 h.a,.slice q h.l.length c,.slice r x.len m] 26)).alloc (.cells #[.int .i64 n] 3)).alloc (.cells #[.int .i64 f] 3)) (ty:=26) hv
  rw[World.size_alloc,World.size_alloc,World.size_alloc,hw2] at this
  exact this
 have c0:=aC (p1 0 _ rfl)
 have c1:=aC (p1 1 _ rfl)
 have c2:=aC (p1 2 _ rfl)
 have c3:=aC (p1 3 _ rfl)
 have c4:=aC (p1 4 _ rfl)
 have hcs:=Ts.count_le_size x
 have HC:=hid ((FQ _ h x _ n f 0 _ _ w2 (Nat.lt_succ_self _) (ha.on hb2) hf hxf hs (by omega) (hKA.on hb2 hKA.1) pf pn).mono λ _ _ h=>MakesT.of h)
 have HB2:=hid hb2
 have HS2:=hid hs2
 have P2:=hid p2
 unfold bI at hw2
 clear hl hx ha hf hxf hs hb2 hs2 p1 p2 hcs pn pf hKA
 go_enter Tryz.func60,Tryz.ntmps60
 go_wp2_with fail
 refine HC.out.mono ?_
 rintro e wy ⟨s1,n1,d1,s2,n2,d2,S,rfl,hby,ho,hn⟩
 have hlt:w.heap.size+1+1+1<w2.heap.size:=by have:=HS2.out;omega
 have z2:∀o v,bI[o]? = some v->U wy (w.heap.size+1+1+1) o=some v:=λ o v hv=>aD hby _ _ _ hlt (P2.out o v hv)
 have m0:=aC (z2 0 _ rfl)
 have m1:=aC (z2 1 _ rfl)
 have m2:=aC (z2 2 _ rfl)
 have m3:=aC (z2 3 _ rfl)
 have m4:=aC (z2 4 _ rfl)
 have o0:=aG (z2 0 _ rfl)
 have o1:=aG (z2 1 _ rfl)
 have o2:=aG (z2 2 _ rfl)
 have o3:=aG (z2 3 _ rfl)
 have o4:=aG (z2 4 _ rfl)
 have HBY:=hid (aA HB2.out hby)
 have HO:=hid ho
 have HN:=hid hn
 have Z2:=hid z2
 obtain⟨k1,hk1⟩:∃z,(h.lift n f 0).k=z:=⟨_,rfl⟩
 obtain⟨k2,hk2⟩:∃z,(h.lift n f 0).n=z:=⟨_,rfl⟩
 obtain⟨k3,hk3⟩:∃z,(h.lift n f 0).a=z:=⟨_,rfl⟩
 have HK1:=hid hk1
 have HK2:=hid hk2
 have HK3:=hid hk3
 rw[hk1,hk2,hk3] at HO ⊢
 clear hby ho hn z2 c0 c1 c2 c3 c4 hk1 hk2 hk3 hlt hw2
 go_wp2_with fail
 obtain⟨W,hW⟩:∃W,((((wy.setCell ⟨w.heap.size+1+1+1,0,none⟩ (.int .i64 k1)).setCell ⟨w.heap.size+1+1+1,1,none⟩ (.int .i64 k2)).setCell ⟨w.heap.size+1+1+1,2,none⟩ (.int .i64 k3)).setCell ⟨w.heap.size+1+1+1,3,none⟩ (.slice s1 n1 d1)).setCell ⟨w.heap.size+1+1+1,4,none⟩ (.slice s2 n2 d2)=W:=⟨_,rfl⟩
 obtain⟨⟨x0,x1,x2,x3,x4⟩,hBF,hkW⟩:=pM Z2.out HBY.out (by omega) hW
 rw[hW]
 refine bodyPost_ret (v:=.agg #[.int .i64 k1,.int .i64 k2,.int .i64 k3,.slice s1 n1 d1,.slice s2 n2 d2]) (by simp[results,Tryz.results60,go_sem,x0,x1,x2,x3,x4]) rfl ⟨s1,n1,d1,s2,n2,d2,S,by rw[HK1.out,HK2.out,HK3.out],hBF,?_,HN.out⟩
 rw[HK1.out,HK2.out,HK3.out]
 exact (HO.out.lower (by have:=HS2.out;omega)).kept λ b hb=>hkW b (by have:=(HO.out.mem b hb).1;have:=HS2.out;omega)
end
section
open Go.RowKit Go.Shelf
attribute [local go_sem] Oper.semAt_some
theorem zI(p:Option Addr)(n c:Nat)(w:World):Calls Tryz.prog 122 #[.slice p n c] w λ e w'=>e=.returned (.func (.func 200) #[] #[.pointer (some ⟨w.heap.size,0,none⟩)])/\w'=w.alloc (.cells #[.slice p n c] 22):=by
 go_enter Tryz.func122,Tryz.ntmps122
 go_wp2_with fail
 go_ret
 exact⟨rfl,rfl⟩
def BkD(B:Nat)(p:Option Addr)(n c:Nat)(vs:Nat->Nat->Value)(W:World):Prop :=
 W.cell? ⟨B,0,none⟩=some (.slice p n c)/\∀k,k<n->∃b o,p=some ⟨b,o,none⟩/\∀i,i<5->W.cell? ⟨b,o+k*5+i,none⟩=some (vs k i)
def el(vs:Nat->Nat->Value)(k:Nat):Value:=.agg #[vs k 0,vs k 1,vs k 2,vs k 3,vs k 4]
def dn(n j:Nat):List Nat:=(List.range j).map λ t=>n-1-t
theorem G5(n j:Nat):dn n (j+1)=dn n j++[n-1-j]:=by simp[dn,List.range_succ]
theorem back_in(l B n c m:Nat)(p:Option Addr)(vs:Nat->Nat->Value)(hn:n<=c)(hc:c<=maxLen)(J Jx:List (Fin n)->World->Prop)
  (hY:∀pre x W,J pre W->pre.length<n->YieldAt Fence.wide (m-1) Tryz.prog l #[.int .i64 (x.val:Int),el vs x.val] W λ e W' =>
   (e=.returned (.bool true)/\J (pre++[x]) W'/\(BkD B p n c vs W->BkD B p n c vs W'))∨(e=.returned (.bool false)/\Jx (pre++[x]) W'))
  (w:World) (hD:BkD B p n c vs w) (h0:J [] w) :
  CallsIn Fence.wide m Tryz.prog 200 #[.func (.yield l) #[] #[],.pointer (some ⟨B,0,none⟩)] w λ e W'=>(∃v,e=.returned v)/\((∃xs,xs.map (·.val)=dn n n/\J xs W')∨(∃pre,True/\Jx pre W')):=by
 have HY:=hid hY
 have H0:=hid h0
 have HD:=hid hD
 unfold maxLen at hc
 have hb:=hD.1
 clear hY h0 hD
 refine callsIn_of_wp Tryz.func200 rfl trivial ?_ rfl
 simp only[Tryz.ntmps200,List.size_toArray,List.length_cons,List.length_nil,Nat.reduceAdd,Nat.reduceSub,Array.replicate_succ,Array.replicate_zero,List.push_toArray,List.append_toArray,List.nil_append,List.cons_append]
 gi_wp2_with fail
 clear hb
 gi_loopw [3] (λ i wr=>∃(j:Nat) (pre:List (Fin n)),j<=n/\i=.int .i64 ((n:Int)-1-j)/\pre.map (·.val)=dn n j/\J pre wr/\BkD B p n c vs wr) (λ i _=>(intOf i+1).toNat)
 case atStart=>exact⟨0,[],Nat.zero_le _,by simp,rfl,H0.out,HD.out⟩
 case round =>
  obtain⟨j,pre,hj,rfl,hpre,hJ,hD⟩:=hrel
  have HJ:=hid hJ
  have HPRE:=hid hpre
  have hb:=hD.1
  have HDr:=hid hD
  clear hJ hpre HD H0
  by_cases hlt:j<n
  ·have r1:decide ((0:Int)<=(n:Int)-1-j)=true:=decide_eq_true (by omega)
   have i1:(0:Int)<=(n:Int)-1-j:=by omega
   have i2:(n:Int)-1-j<n:=by omega
   obtain⟨b,o,rfl,hcs⟩:=hD.2 (n-1-j) (by omega)
   have hk:((n:Int)-1-j).toNat=n-1-j:=by omega
   have e0:=hcs 0 (by decide)
   have e1:=hcs 1 (by decide)
   have e2:=hcs 2 (by decide)
   have e3:=hcs 3 (by decide)
   have e4:=hcs 4 (by decide)
   obtain⟨kk,hkk⟩:∃kk,n-1-j=kk:=⟨_,rfl⟩
   have hkn:kk<n:=by omega
   have hkI:(n:Int)-1-j=(kk:Int):=by omega
   rw[hkI] at r1 i1 i2 ⊢
   rw[hkk] at e0 e1 e2 e3 e4
   rw[Nat.add_zero] at e0
   obtain⟨fn,tmps,assign,body,hy,hR⟩:=HY.out pre ⟨kk,hkn⟩ wr HJ.out (by have:=congrArg List.length HPRE.out;simp[dn] at this;omega)
   have HR:=hid hR
   unfold el at hy
   clear hR hcs hk hD
   gi_wp2_with fail
   refine⟨fun h=>(by cases h),HR.out.mono ?_⟩
   rintro e W3 (⟨rfl,hJ3,hK3⟩|⟨rfl,hJ3⟩)
   ·have HJ3:=hid hJ3
    have HK3:=hid (hK3 HDr.out)
    have HP3:Hid ((pre++[(⟨kk,hkn⟩:Fin n)]).map (λ x:Fin n=>x.val)=dn n (j+1)):=hid (by rw[List.map_append,HPRE.out,G5,hkk];rfl)
    have hkj:(kk:Int)-1=(n:Int)-1-((j+1:Nat):Int):=by omega
    clear hJ3 hK3 e0 e1 e2 e3 e4
    gi_wp2_with fail
    go_roundw
    case rel=>exact⟨j+1,_,by omega,by go_num,HP3.out,HJ3.out,HK3.out⟩
    case measure=>simp[intOf];omega
   ·have HJ3:=hid hJ3
    clear hJ3 e0 e1 e2 e3 e4
    gi_wp2_with fail
    exact bodyPost_ret (v:=.tuple #[]) (by simp[results,Tryz.results200,go_sem]) rfl ⟨⟨_,rfl⟩,.inr ⟨_,trivial,HJ3.out⟩⟩
  ·obtain rfl:j=n:=by omega
   have r1:decide ((0:Int)<=(j:Int)-1-j)=false:=decide_eq_false (by omega)
   clear hD hb
   gi_wp2_with fail
   go_end0
   exact⟨⟨_,rfl⟩,.inl ⟨pre,HPRE.out,HJ.out⟩⟩
theorem xA(B n c:Nat)(p:Option Addr)(vs:Nat->Nat->Value)(hn:n<=c)(hc:c<=maxLen)(m:Nat)(w:World)(hkeep:∀W,Below w.heap.size w W->BkD B p n c vs W) :
  SeqStopsK Fence.wide m Tryz.prog 200 #[.pointer (some ⟨B,0,none⟩)] (λ x:Fin n=>#[.int .i64 (x.val:Int),el vs x.val]) (λ A B'=>BkD B p n c vs A->BkD B p n c vs B') (λ xs=>xs.map (·.val)=dn n n) (λ _=>True) n w:=λ l J Jx W hW _ _ hY h0 =>
 back_in l B n c m p vs hn hc J Jx hY W (hkeep W hW) h0
end
section
open Go.RowKit Go.Shelf
def Fx(g:Nat)(w:World)(b o:Nat):Option Value:=if b=g then none else U w b o
theorem MK{g:Nat}{w:World}{b o:Nat}{v:Value}(h:Fx g w b o=some v):U w b o=some v:=by
 unfold Fx at h;split at h
 ·cases h
 ·exact h
theorem Fx_ne{g:Nat}{w:World}{b o:Nat}{v:Value}(h:Fx g w b o=some v):b≠g:=by
 unfold Fx at h;split at h
 ·cases h
 ·assumption
theorem MJ{g:Nat}{w:World}{b o:Nat}{v:Value}(h:U w b o=some v)(hb:b≠g):Fx g w b o=some v:=by
 unfold Fx;rw[if_neg hb];exact h
theorem Fx_on{g:Nat}{w w':World}(h:∀b,b<w.heap.size->b≠g->(∃o v,U w b o=some v)->w'.heap[b]? = w.heap[b]?)(b o:Nat)(v:Value)(hv:Fx g w b o=some v):Fx g w' b o=some v :=
 MJ ((dK (h b (aM (MK hv)) (Fx_ne hv) ⟨o,v,MK hv⟩) o).trans (MK hv)) (Fx_ne hv)
structure BelowX (g:Nat) (w w':World):Prop where
 os:w'.os=w.os
 tape:w'.tape=w.tape
 output:w'.output=w.output
 size:w.heap.size<=w'.heap.size
 block:∀b,b<w.heap.size->b≠g->w'.heap[b]? = w.heap[b]?
theorem BelowX.below{g:Nat}{w w':World}{B:Nat}(h:BelowX g w w')(hB:B<=g)(hw:B<=w.heap.size):Below B w w':=⟨h.os,h.tape,h.output,h.size,λ b hb=>h.block b (by omega) (by omega)⟩
theorem BelowX.refl(g:Nat)(w:World):BelowX g w w:=⟨rfl,rfl,rfl,Nat.le_refl _,λ _ _ _=>rfl⟩
theorem BelowX.of_below{g:Nat}{w w':World}(h:Below w.heap.size w w'):BelowX g w w':=⟨h.os,h.tape,h.output,h.size,λ b hb _=>h.block b hb⟩
theorem BelowX.trans{g:Nat}{a b c:World}(h:BelowX g a b)(k:BelowX g b c):BelowX g a c:=⟨k.os.trans h.os,k.tape.trans h.tape,k.output.trans h.output,Nat.le_trans h.size k.size,λ i hi hn=>(k.block i (Nat.lt_of_lt_of_le hi h.size) hn).trans (h.block i hi hn)⟩
theorem BelowX.U{g:Nat}{w w':World}(h:BelowX g w w'){b o:Nat}{v:Value}(hv:U w b o=some v)(hb:b≠g):U w' b o=some v:=(dK (h.block b (aM hv) hb) o).trans hv
theorem BelowX.grown{g:Nat}{w a b:World}{row:Option Nat}(h:BelowX g w a)(hg:a.grownBy b row)(hr:∀r,row=some r->w.heap.size<=r):BelowX g w b :=
 ⟨hg.os.trans h.os,hg.tape.trans h.tape,hg.output.trans h.output,Nat.le_trans h.size hg.size,λ i hi hn=>(hg.block i (Nat.lt_of_lt_of_le hi h.size) (λ e=>by have:=hr i e.symm;omega)).trans (h.block i hi hn)⟩
def RMx(F:Nat->Nat->Option Value)(hi:Nat)(v:Value)(h:Hd)(x:Ts):Prop :=
 ∃q n c r m d,v=.agg #[.int .i64 h.k,.int .i64 h.n,.int .i64 h.a,.slice q n c,.slice r m d]/\Rd F hi (.slice q n c) 1 (bN ty h.l) .nil/\Rd F hi (.slice r m d) 5 (tDs ty x) .nil
theorem RMx.of{w:World}{v:Value}{h:Hd}{x:Ts}(hm:RM ty w v h x):RMx (U w) w.heap.size v h x:=hm
theorem RMx.mono{F F':Nat->Nat->Option Value}{hi hi':Nat}{v:Value}{h:Hd}{x:Ts}(hm:RMx F hi v h x)(hF:∀b o v,b<hi->F b o=some v->F' b o=some v)(hh:hi<=hi'):RMx F' hi' v h x:=by
 obtain⟨q,n,c,r,m,d,e,h1,h2⟩:=hm
 exact⟨q,n,c,r,m,d,e,h1.mono hF hh,h2.mono hF hh⟩
theorem RMx.cells{F:Nat->Nat->Option Value}{hi:Nat}{v:Value}{h:Hd}{x:Ts}(hm:RMx F hi v h x):∃v3 v4,v=.agg #[.int .i64 h.k,.int .i64 h.n,.int .i64 h.a,v3,v4]/\Vs F hi (tDs ty (.cons h x .nil)) [.int .i64 h.k,.int .i64 h.n,.int .i64 h.a,v3,v4]:=by
 obtain⟨q,n,c,r,m,d,e,h1,h2⟩:=hm
 exact⟨_,_,e,_,rfl,_,rfl,_,rfl,_,_,rfl,h1,_,_,rfl,h2,rfl⟩
def acc(kk:Int)(t:Ts)(t0:Tm)(pre:List Nat):Tm:=pre.foldl (λ tm k=>⟨kH kk,.cons (t.hd k) (t.kd k) tm.ts⟩) t0
theorem oP(kk:Int)(t:Ts)(t0:Tm)(pre:List Nat)(k:Nat):acc kk t t0 (pre++[k])=⟨kH kk,.cons (t.hd k) (t.kd k) (acc kk t t0 pre).ts⟩:=by simp[acc]
def FoldI(t:Ts)(kk:Int)(g:Nat)(t0:Tm)(wS:World)(pre:List Nat)(W:World):Prop :=
 BelowX g wS W/\g<wS.heap.size/\∃v,RMx (Fx g W) W.heap.size v (acc kk t t0 pre).h (acc kk t t0 pre).x/\∀cs,v=.agg cs->∀o u,cs[o]? = some u->U W g o=some u
theorem FoldI.on{t:Ts}{kk:Int}{g:Nat}{t0:Tm}{wS W W':World}{pre:List Nat}{row:Option Nat}(h:FoldI t kk g t0 wS pre W)(hg:W.grownBy W' row)(hr:∀r,row=some r->wS.heap.size<=r/\∃o:Obj,W.heap[r]? = some o/\o.isCells=false):FoldI t kk g t0 wS pre W':=by
 obtain⟨h1,h2,v,h3,h4⟩:=h
 have hne:∀b o u,U W b o=some u->some b≠row:=λ b o u hu e=>by
  obtain⟨-,ob,ho,hc⟩:=hr b e.symm
  obtain⟨ob',ho',hc'⟩:=cells_of_cell (aC hu)
  rw[ho] at ho'
  cases ho'
  rw[hc] at hc'
  cases hc'
 refine⟨h1.grown hg (λ r e=>(hr r e).1),h2,v,h3.mono (λ b o u _ hu=>Fx_on (λ b hb hbg ⟨o,v,hv⟩=>hg.block b hb (hne b o v hv)) b o u hu) hg.size,λ cs e o u hu=>?_⟩
 have:=h4 cs e o u hu
 exact (dK (hg.block g (aM this) (hne g o u this)) o).trans this
theorem FoldI.own{t:Ts}{kk:Int}{g:Nat}{t0:Tm}{wS:World}{n:Nat}:OwnFrom wS.heap.size (λ (pre:List (Fin n)) W=>FoldI t kk g t0 wS (pre.map (·.val)) W):=λ _ _ _ _ h hg hr=>h.on hg hr
theorem FoldI.below{t:Ts}{kk:Int}{g:Nat}{t0:Tm}{wS W W':World}{pre:List Nat}(h:FoldI t kk g t0 wS pre W)(hb:Below W.heap.size W W'):FoldI t kk g t0 wS pre W':=h.on (row:=none) ⟨hb.os,hb.tape,hb.output,hb.size,λ k hk _=>hb.block k hk⟩ (λ r e=>by cases e)
theorem FoldI.step{t:Ts}{kk:Int}{g k:Nat}{t0:Tm}{wS W W':World}{pre:List Nat}(h:FoldI t kk g t0 wS pre W){e0 e1 e2 e3 e4 a0 a1 a2 a3 a4:Value}(hE:RMx (Fx g W) W.heap.size (.agg #[e0,e1,e2,e3,e4]) (t.hd k) (t.kd k))
  (hA:∀o u,(#[a0,a1,a2,a3,a4]:Array Value)[o]? = some u->U W g o=some u)
  (hW:(((((W.alloc (.cells #[e0,e1,e2,e3,e4,a0,a1,a2,a3,a4] 26)).setCell ⟨g,0,none⟩ (.int .i64 kk)).setCell ⟨g,1,none⟩ (.int .i64 0)).setCell ⟨g,2,none⟩ (.int .i64 0)).setCell ⟨g,3,none⟩ (.slice none 0 0)).setCell ⟨g,4,none⟩ (.slice (some ⟨W.heap.size,0,none⟩) 2 2)=W') :
  FoldI t kk g t0 wS (pre++[k]) W'/\KeepsFrom wS.heap.size W W':=by
 obtain⟨h1,h2,v,h3,h4⟩:=h
 obtain⟨Wb,hWb⟩:∃Wb,W.alloc (.cells #[e0,e1,e2,e3,e4,a0,a1,a2,a3,a4] 26)=Wb:=⟨_,rfl⟩
 rw[hWb] at hW
 have hb:Below W.heap.size W Wb:=by rw[<-hWb];exact aB _ _
 have hsb:Wb.heap.size=W.heap.size+1:=by rw[<-hWb];simp
 have hgW:g<W.heap.size:=Nat.lt_of_lt_of_le h2 h1.size
 have ub:∀o u,(#[a0,a1,a2,a3,a4]:Array Value)[o]? = some u->U Wb g o=some u:=λ o u hu=>aD hb _ _ _ hgW (hA o u hu)
 obtain⟨x0,x1,x2,x3,x4,hk⟩:=oF (ub 0 _ rfl) (ub 1 _ rfl) (ub 2 _ rfl) (ub 3 _ rfl) (ub 4 _ rfl) hW
 have hs':W'.heap.size=W.heap.size+1:=by rw[<-hW];simpa using hsb
 have hbg:Below g W W':=by
  rw[<-hW]
  exact (((((hb.mono (Nat.le_of_lt hgW)).setCell (p:=⟨g,0,none⟩) (Nat.le_refl _) _).setCell (p:=⟨g,1,none⟩) (Nat.le_refl _) _).setCell (p:=⟨g,2,none⟩) (Nat.le_refl _) _).setCell (p:=⟨g,3,none⟩) (Nat.le_refl _) _).setCell (p:=⟨g,4,none⟩) (Nat.le_refl _) _
 have hn:∀j u,(#[e0,e1,e2,e3,e4,a0,a1,a2,a3,a4]:Array Value)[j]? = some u->Fx g W' W.heap.size j=some u:=λ j u hu=>by
  have h5:U Wb W.heap.size j=some u:=by rw[<-hWb];exact aL hu
  exact MJ ((dK (hk _ (by omega)) j).trans h5) (by omega)
 have hF:∀b o u,b<W.heap.size->Fx g W b o=some u->Fx g W' b o=some u:=λ b o u _ hu=>Fx_on (λ b hb' hbg _=>(hk b hbg).trans (hb.block b hb')) b o u hu
 obtain⟨e3',e4',e1',hEV⟩:=(hE.mono hF (by omega:W.heap.size<=W'.heap.size)).cells
 obtain⟨a3',a4',a1',hAV⟩:=(h3.mono hF (by omega:W.heap.size<=W'.heap.size)).cells
 have hva:=h4 _ a1'
 have qa:∀o u u',(#[a0,a1,a2,a3,a4]:Array Value)[o]? = some u->(#[.int .i64 (acc kk t t0 pre).h.k,.int .i64 (acc kk t t0 pre).h.n,.int .i64 (acc kk t t0 pre).h.a,a3',a4']:Array Value)[o]? = some u'->u=u':=λ o u u' hu hu'=>by
  have z1:=hA o u hu
  rw[hva o u' hu'] at z1
  exact (Option.some.inj z1).symm
 have b0:a0=.int .i64 (acc kk t t0 pre).h.k:=qa 0 _ _ rfl rfl
 have b1:a1=.int .i64 (acc kk t t0 pre).h.n:=qa 1 _ _ rfl rfl
 have b2:a2=.int .i64 (acc kk t t0 pre).h.a:=qa 2 _ _ rfl rfl
 have b3:a3=a3':=qa 3 _ _ rfl rfl
 have b4:a4=a4':=qa 4 _ _ rfl rfl
 injection e1' with e1'
 have d0:=congrArg (λ a:Array Value=>a[0]?) e1'
 have d1:=congrArg (λ a:Array Value=>a[1]?) e1'
 have d2:=congrArg (λ a:Array Value=>a[2]?) e1'
 have d3:=congrArg (λ a:Array Value=>a[3]?) e1'
 have d4:=congrArg (λ a:Array Value=>a[4]?) e1'
 simp at d0 d1 d2 d3 d4
 subst d0 d1 d2 d3 d4 b0 b1 b2 b3 b4
 have hAt:At (Fx g W') W'.heap.size (tDs ty (.cons (t.hd k) (t.kd k) (acc kk t t0 pre).ts)) W.heap.size 0:=by
  refine (At.app (x:=tDs ty (.cons (t.hd k) (t.kd k) .nil)) (y:=tDs ty (acc kk t t0 pre).ts)).2 ⟨hEV.at_ (λ j u hu=>?_),hAV.at_ (λ j u hu=>?_)⟩
  ·rw[Nat.zero_add]
   refine hn j u ?_
   have hj:j<5:=by have:=(List.getElem?_eq_some_iff.1 hu).1;simpa using this
   have hall:j=0∨j=1∨j=2∨j=3∨j=4:=by omega
   rcases hall with rfl|rfl|rfl|rfl|rfl<;>exact hu
  ·rw[show (0:Nat)+(tDs ty (.cons (t.hd k) (t.kd k) .nil)).len+j=5+j by rw[aF];simp[Ts.len]]
   refine hn (5+j) u ?_
   have hj:j<5:=by have:=(List.getElem?_eq_some_iff.1 hu).1;simpa using this
   have hall:j=0∨j=1∨j=2∨j=3∨j=4:=by omega
   rcases hall with rfl|rfl|rfl|rfl|rfl<;>exact hu
 refine⟨⟨h1.trans ⟨?_,?_,?_,by omega,λ b hb' hbg=>(hk b hbg).trans (hb.block b hb')⟩,h2,.agg #[.int .i64 kk,.int .i64 0,.int .i64 0,.slice none 0 0,.slice (some ⟨W.heap.size,0,none⟩) 2 2],?_,λ cs e o u hu=>?_⟩,⟨by omega,λ b o hB ho _=>?_⟩⟩
 ·exact hbg.os
 ·exact hbg.tape
 ·exact hbg.output
 ·rw[oP]
  exact⟨none,0,0,some ⟨W.heap.size,0,none⟩,2,2,rfl,Rd.none_ _ _ _,_,_,_,rfl,by rw[aF];rfl,Nat.le_refl _,by decide,by rw[aF];simp[Ts.len,Ds.len,Tm.ts],.inr (.inr ⟨_,_,rfl,by omega,hAt,trivial⟩)⟩
 ·injection e with e
  subst e
  have ho:o<5:=by have:=(Array.getElem?_eq_some_iff.1 hu).1;simpa using this
  have hall:o=0∨o=1∨o=2∨o=3∨o=4:=by omega
  rcases hall with rfl|rfl|rfl|rfl|rfl
  ·cases hu;exact x0
  ·cases hu;exact x1
  ·cases hu;exact x2
  ·cases hu;exact x3
  ·cases hu;exact x4
 ·exact ((hk b (by omega)).trans (hb.block b (Array.getElem?_eq_some_iff.1 ho).1)).trans ho
theorem dE{w w':World}{b:Nat}(h:w'.heap[b]? = w.heap[b]?)(o:Nat):w'.cell? ⟨b,o,none⟩=w.cell? ⟨b,o,none⟩:=by
 unfold World.cell?;simp only[h]
theorem BkD.on{B n c g:Nat}{p:Option Addr}{vs:Nat->Nat->Value}{w W:World}(h:BkD B p n c vs w)(hb:BelowX g w W)(hB:B≠g)(hp:∀b o,p=some ⟨b,o,none⟩->b≠g):BkD B p n c vs W:=by
 refine⟨(dE (hb.block B (World.block_lt_of_cell? _ _ h.1) hB) 0).trans h.1,λ k hk=>?_⟩
 obtain⟨b,o,e,hc⟩:=h.2 k hk
 exact⟨b,o,e,λ i hi=>(dE (hb.block b (World.block_lt_of_cell? _ _ (hc i hi)) (hp b o e)) _).trans (hc i hi)⟩
theorem RT.elems{w:World}{b o n c:Nat}{t:Ts}(h:RT ty w (.slice (some ⟨b,o,none⟩) n c) t):∃vs:Nat->Nat->Value,(∀k,k<t.len->∀i,i<5->w.cell? ⟨b,o+k*5+i,none⟩=some (vs k i))/\∀k,k<t.len->RM ty w (el vs k) (t.hd k) (t.kd k):=by
 refine⟨fun k i=>(w.cell? ⟨b,o+k*5+i,none⟩).getD undef,λ k hk i hi=>?_,λ k hk=>?_⟩
 ·obtain⟨b',o',e,hb,h1,h2,h3,⟨r,d,h4,-⟩,⟨r',d',h5,-⟩⟩:=h.at_ hk
  cases e
  have hall:i=0∨i=1∨i=2∨i=3∨i=4:=by omega
  show w.cell? _=some ((w.cell? ⟨b,o+k*5+i,none⟩).getD undef)
  rcases hall with rfl|rfl|rfl|rfl|rfl
  ·rw[Nat.add_zero,aC h1];rfl
  ·rw[aC h2];rfl
  ·rw[aC h3];rfl
  ·rw[aC h4];rfl
  ·rw[aC h5];rfl
 ·obtain⟨b',o',e,hb,h1,h2,h3,⟨r,d,h4,-,-,hl⟩,⟨r',d',h5,-,-,hx⟩⟩:=h.at_ hk
  cases e
  refine⟨r,_,d,r',_,d',?_,hl,hx⟩
  unfold el
  simp only[Nat.add_zero,aC h1,aC h2,aC h3,aC h4,aC h5,Option.getD_some]
theorem MC(kk:Int)(z:Hd)(t:Ts)(m:Nat)(hm:t.len=m+1):∀j,j<=m->acc kk t ⟨t.hd m,t.kd m⟩ (dn m j)=jN kk z (t.drop (m-j)):=by
 intro j
 induction j with
 | zero =>
  intro _
  rw[Nat.sub_zero,Ts.drop_step (by omega:m<t.len),<-hm,Ts.drop_len]
  rfl
 | succ j ih =>
  intro hj
  rw[G5,oP,ih (by omega),Ts.drop_step (by omega:m-(j+1)<t.len),show m-(j+1)+1=m-j by omega,show m-1-j=m-(j+1) by omega,jT]
  rw[Ts.drop_step (by omega:m-j<t.len)]
  simp[Ts.len]
end
section
open Go.RowKit
theorem DJ(w:World)(B:Nat)(k n a:Int):Own w B (tDs ty (.cons ⟨k,n,a,[]⟩ .nil .nil)) [.int .i64 k,.int .i64 n,.int .i64 a,.slice none 0 0,.slice none 0 0] [] :=
 ⟨_,rfl,_,rfl,_,rfl,_,_,[],[],[],[],[],[],rfl,.inl ⟨none,rfl,rfl,rfl,rfl⟩,⟨rfl,rfl⟩,⟨rfl,rfl⟩,⟨_,_,[],[],[],[],[],[],rfl,.inl ⟨none,rfl,rfl,rfl,rfl⟩,⟨rfl,rfl⟩,⟨rfl,rfl⟩,⟨rfl,rfl⟩,rfl⟩,rfl⟩
end
section
open Go.RowKit Go.Shelf
attribute [local go_sem] Oper.semAt_some
theorem BkD.putObj{B n c:Nat}{p:Option Addr}{vs:Nat->Nat->Value}{W:World}(h:BkD B p n c vs W){l:Nat}{o:Obj}(o':Obj)(hl:W.heap[l]? = some o)(ho:o.isCells=false):BkD B p n c vs (W.putObj l o') :=
 ⟨cell_kept h.1 (grownBy_putObj' W l o') (λ r e=>by cases e;exact⟨o,hl,ho⟩),λ k hk=>by
  obtain⟨b,q,e,hc⟩:=h.2 k hk
  exact⟨b,q,e,λ i hi=>cell_kept (hc i hi) (grownBy_putObj' W l o') (λ r e=>by cases e;exact⟨o,hl,ho⟩)⟩⟩
theorem ME{W W':World}{row:Option Nat}{b o:Nat}{v:Value}(h:U W b o=some v)(hg:W.grownBy W' row)(hr:∀r,row=some r->∃o:Obj,W.heap[r]? = some o/\o.isCells=false):U W' b o=some v:=by
 refine (dK (hg.block b (aM h) λ e=>?_) o).trans h
 obtain⟨ob,ho,hc⟩:=hr b e.symm
 obtain⟨ob',ho',hc'⟩:=cells_of_cell (aC h)
 rw[ho] at ho'
 cases ho'
 rw[hc] at hc'
 cases hc'
theorem yZ{kk:Int}{z:Hd}(hk:0<=kk/\kk<=100)(hz:z.fits):∀ {t:Ts},t.fits->(jN kk z t).h.fits/\(jN kk z t).x.fits
 | .nil,_=>⟨hz,trivial⟩
 | .cons h x .nil,hf=>⟨hf.1,hf.2.1⟩
 | .cons h x (.cons h' x' r),hf=>by
  obtain⟨h1,h2⟩:=yZ hk hz hf.2.2
  rw[jT kk z h x _ (by simp[Ts.len])]
  exact⟨⟨⟨by show -9223372036854775808<=kk;omega,by show kk<=9223372036854775807;omega⟩,⟨by show (-9223372036854775808:Int)<=0;decide,by show (0:Int)<=9223372036854775807;decide⟩,⟨by show (-9223372036854775808:Int)<=0;decide,by show (0:Int)<=9223372036854775807;decide⟩,λ p hp=>by cases hp⟩,hf.1,hf.2.1,h1,h2,trivial⟩
theorem yY(kk:Int){z:Hd}(hz:z.l=[]):∀t:Ts,aH (jN kk z t).h.l+(jN kk z t).x.size<=t.size+t.len
 | .nil=>by show aH z.l+0<=_;rw[hz];simp[aH]
 | .cons h x .nil=>by show aH h.l+x.size<=_;simp only[Ts.size,Ts.len];omega
 | .cons h x (.cons h' x' r)=>by
  have h1:=yY kk hz (.cons h' x' r)
  rw[jT kk z h x _ (by simp[Ts.len])]
  show aH []+(1+aH h.l+x.size+(1+aH (jN kk z (.cons h' x' r)).h.l+(jN kk z (.cons h' x' r)).x.size+0))<=_
  simp only[Ts.size,Ts.len,aH] at h1 ⊢
  omega
theorem wN(kk zk zn za:Int)(va:Value)(t:Ts)(w:World)(ha:RT ty w va t)(hf:t.fits)(hzf:Hd.fits ⟨zk,zn,za,[]⟩)(hs:t.size<=100000000)(hKA:KA w)(hkk:0<=kk/\kk<=100):Calls Tryz.prog 56 #[.int .i64 kk,.agg #[.int .i64 zk,.int .i64 zn,.int .i64 za,.slice none 0 0,.slice none 0 0],va] w (MakesT (jN kk ⟨zk,zn,za,[]⟩ t).h (jN kk ⟨zk,zn,za,[]⟩ t).x w):=by
 refine (callsIn_wide (n:=3)).1 ?_
 refine callsIn_of_wp_marks Tryz.func56 rfl trivial ?_ rfl
 simp only[Tryz.ntmps56,List.size_toArray,List.length_cons,List.length_nil,Nat.reduceAdd,Nat.reduceSub,Array.replicate_succ,Array.replicate_zero,List.push_toArray,List.append_toArray,List.nil_append,List.cons_append]
 obtain⟨q,c,rfl,hc1,hc2,hc3⟩:=ha.slice
 unfold maxLen at hc2
 by_cases h0:t.len=0
 ·have ht:t=.nil:=by cases t<;>simp[Ts.len] at h0 ⊢
  subst ht
  have r1:(((Ts.nil.len:Nat):Int) == 0)=true:=rfl
  obtain⟨w2,hw2⟩:∃w2,((w.alloc (.cells #[.int .i64 kk] 23)).alloc (.cells #[.int .i64 zk,.int .i64 zn,.int .i64 za,.slice none 0 0,.slice none 0 0] 26)).alloc (.cells bI 26)=w2:=⟨_,rfl⟩
  have hb2:Below w.heap.size w w2:=by rw[<-hw2];exact aA (aA (aB _ _) (aB _ _)) (aB _ _)
  have p1:∀o v,(#[.int .i64 zk,.int .i64 zn,.int .i64 za,.slice none 0 0,.slice none 0 0]:Array Value)[o]? = some v->U w2 (w.heap.size+1) o=some v:=λ o v hv=>by
   have:=aL (w:=w.alloc (.cells #[.int .i64 kk] 23)) (ty:=26) hv
   rw[World.size_alloc] at this
   rw[<-hw2];exact aD (aB _ _) _ _ _ (by simp) this
  have Z:Hid (∀o v,bI[o]? = some v->U w2 (w.heap.size+1+1) o=some v):=λ o v hv=>by
   have:=aL (w:=(w.alloc (.cells #[.int .i64 kk] 23)).alloc (.cells #[.int .i64 zk,.int .i64 zn,.int .i64 za,.slice none 0 0,.slice none 0 0] 26)) (ty:=26) hv
   rw[World.size_alloc,World.size_alloc,hw2] at this
   exact this
  have HB:=hid hb2
  have e0:=aC (p1 0 _ rfl)
  have e1:=aC (p1 1 _ rfl)
  have e2:=aC (p1 2 _ rfl)
  have e3:=aC (p1 3 _ rfl)
  have e4:=aC (p1 4 _ rfl)
  have m0:=aC (Z.out 0 _ rfl)
  have m1:=aC (Z.out 1 _ rfl)
  have m2:=aC (Z.out 2 _ rfl)
  have m3:=aC (Z.out 3 _ rfl)
  have m4:=aC (Z.out 4 _ rfl)
  have o0:=aG (Z.out 0 _ rfl)
  have o1:=aG (Z.out 1 _ rfl)
  have o2:=aG (Z.out 2 _ rfl)
  have o3:=aG (Z.out 3 _ rfl)
  have o4:=aG (Z.out 4 _ rfl)
  unfold bI at hw2
  clear ha hf hs hKA hb2 p1
  gi_wp2_with fail
  obtain⟨W,hW⟩:∃W,((((w2.setCell ⟨w.heap.size+1+1,0,none⟩ (.int .i64 zk)).setCell ⟨w.heap.size+1+1,1,none⟩ (.int .i64 zn)).setCell ⟨w.heap.size+1+1,2,none⟩ (.int .i64 za)).setCell ⟨w.heap.size+1+1,3,none⟩ (.slice none 0 0)).setCell ⟨w.heap.size+1+1,4,none⟩ (.slice none 0 0)=W:=⟨_,rfl⟩
  obtain⟨⟨x0,x1,x2,x3,x4⟩,hBF,hkW⟩:=pM Z.out HB.out (by omega) hW
  rw[hW]
  refine⟨.agg #[.int .i64 zk,.int .i64 zn,.int .i64 za,.slice none 0 0,.slice none 0 0],by simp[results,Tryz.results56,go_sem,x0,x1,x2,x3,x4],_,_,_,_,_,_,[],rfl,hBF,DJ _ _ _ _ _,by simp⟩
 ·obtain⟨m,hm⟩:∃m,t.len=m+1:=⟨t.len-1,by omega⟩
  obtain⟨b,o,rfl,hb,-,-⟩:=Rd.lies ha (by omega)
  obtain⟨vs,hvs,hel⟩:=ha.elems
  rw[hm] at hc1 hvs hel ⊢
  have r1:((m:Int)+1 == 0)=false:=by simp;omega
  have i1:(0:Int)<=(m:Int):=by omega
  obtain⟨w2,hw2⟩:∃w2,((w.alloc (.cells #[.int .i64 kk] 23)).alloc (.cells #[.int .i64 zk,.int .i64 zn,.int .i64 za,.slice none 0 0,.slice none 0 0] 26)).alloc (.cells bI 26)=w2:=⟨_,rfl⟩
  have hb2:Below w.heap.size w w2:=by rw[<-hw2];exact aA (aA (aB _ _) (aB _ _)) (aB _ _)
  have ce:∀i,i<5->w2.cell? ⟨b,o+m*5+i,none⟩=some (vs m i):=λ i hi=>(hb2.cell (p:=⟨b,o+m*5+i,none⟩) hb).trans (hvs m (by omega) i hi)
  have e0:=ce 0 (by decide)
  have e1:=ce 1 (by decide)
  have e2:=ce 2 (by decide)
  have e3:=ce 3 (by decide)
  have e4:=ce 4 (by decide)
  rw[Nat.add_zero] at e0
  obtain⟨q1,n1,c1,q2,n2,c2,hm0,hml,hmx⟩:=hel m (by omega)
  unfold el at hm0
  injection hm0 with hm0
  have d0:=congrArg (λ a:Array Value=>a[0]?) hm0
  have d1:=congrArg (λ a:Array Value=>a[1]?) hm0
  have d2:=congrArg (λ a:Array Value=>a[2]?) hm0
  have d3:=congrArg (λ a:Array Value=>a[3]?) hm0
  have d4:=congrArg (λ a:Array Value=>a[4]?) hm0
  simp at d0 d1 d2 d3 d4
  rw[d0] at e0
  rw[d1] at e1
  rw[d2] at e2
  rw[d3] at e3
  rw[d4] at e4
  unfold bI at hw2
  have HA:=hid ha
  have HEL:=hid hel
  have HVS:=hid hvs
  have HF:=hid hf
  have HS:=hid hs
  have HKA:=hid hKA
  have HZF:=hid hzf
  have HML:=hid hml
  have HMX:=hid hmx
  have HM:=hid hm
  clear hzf ha hf hs hKA hel hvs hml hmx d0 d1 d2 d3 d4 hm0 ce h0 hc3 hm
  obtain⟨w3,hw3⟩:∃w3,w2.alloc (.cells #[.int .i64 (t.hd m).k,.int .i64 (t.hd m).n,.int .i64 (t.hd m).a,.slice q1 n1 c1,.slice q2 n2 c2] 26)=w3:=⟨_,rfl⟩
  have hs2:w2.heap.size=w.heap.size+3:=by rw[<-hw2];simp
  have hb3:Below w.heap.size w w3:=by rw[<-hw3];exact aA hb2 (aB _ _)
  have hs3:w3.heap.size=w2.heap.size+1:=by rw[<-hw3];simp
  have hg3:∀o u,(#[.int .i64 (t.hd m).k,.int .i64 (t.hd m).n,.int .i64 (t.hd m).a,.slice q1 n1 c1,.slice q2 n2 c2]:Array Value)[o]? = some u->U w3 w2.heap.size o=some u:=λ o u hu=>by rw[<-hw3];exact aL hu
  have hk3:U w3 w.heap.size 0=some (.int .i64 kk):=by
   rw[<-hw3];refine aD (aB _ _) _ _ _ (by omega) ?_
   rw[<-hw2];exact aD (aB _ _) _ _ _ (by first|(simp;done)|(simp;omega)) (aD (aB _ _) _ _ _ (by simp) (aL rfl))
  have hz3:∀o v,bI[o]? = some v->U w3 (w.heap.size+1+1) o=some v:=λ o v hv=>by
   rw[<-hw3];refine aD (aB _ _) _ _ _ (by omega) ?_
   have:=aL (w:=(w.alloc (.cells #[.int .i64 kk] 23)).alloc (.cells #[.int .i64 zk,.int .i64 zn,.int .i64 za,.slice none 0 0,.slice none 0 0] 26)) (ty:=26) hv
   unfold bI at this
   rw[World.size_alloc,World.size_alloc,hw2] at this
   exact this
  have HS2:=hid hs2
  have HS3:=hid hs3
  clear hs2 hs3
  obtain⟨wS,hwS⟩:∃wS,w3.alloc (.cells #[.slice (some ⟨b,o,none⟩) m c] 22)=wS:=⟨_,rfl⟩
  gi_wp2_with fail
  refine⟨trivial,(callsIn_wide.2 (zI _ _ _ _)).mono ?_⟩
  rintro e w' ⟨rfl,rfl⟩
  rw[hwS]
  have hs2:=HS2.out
  have hs3:=HS3.out
  obtain⟨g,hg⟩:∃g,w2.heap.size=g:=⟨_,rfl⟩
  have hbS:Below w3.heap.size w3 wS:=by rw[<-hwS];exact aB _ _
  have hbS0:Below w.heap.size w wS:=aA hb3 hbS
  have hsS:wS.heap.size=g+2:=by rw[<-hwS];simp;omega
  have hgw:g=w.heap.size+3:=by omega
  rw[hg] at hg3 hs3 hs2 ⊢
  rw[hs3]
  have hgS:∀o u,(#[.int .i64 (t.hd m).k,.int .i64 (t.hd m).n,.int .i64 (t.hd m).a,.slice q1 n1 c1,.slice q2 n2 c2]:Array Value)[o]? = some u->U wS g o=some u:=λ o u hu=>aD hbS _ _ _ (by omega) (hg3 o u hu)
  have hkS:U wS w.heap.size 0=some (.int .i64 kk):=aD hbS _ _ _ (by omega) hk3
  have hzS:∀o v,bI[o]? = some v->U wS (w.heap.size+1+1) o=some v:=λ o v hv=>aD hbS _ _ _ (by omega) (hz3 o v hv)
  have hboxS:wS.cell? ⟨g+1,0,none⟩=some (.slice (some ⟨b,o,none⟩) m c):=by
   have:=aL (w:=w3) (cs:=#[.slice (some ⟨b,o,none⟩) m c]) (ty:=22) (o:=0) rfl
   rw[hwS,hs3] at this
   exact aC this
  have hBk:BkD (g+1) (some ⟨b,o,none⟩) m c vs wS:=⟨hboxS,λ k hk=>⟨b,o,rfl,λ i hi=>(hbS0.cell (p:=⟨b,o+k*5+i,none⟩) hb).trans (HVS.out k (by omega) i hi)⟩⟩
  have hF0:∀(W:World),BelowX g wS W->∀b o v,b<w.heap.size->U w b o=some v->Fx g W b o=some v:=λ W hW b o v hb hu=>MJ (hW.U (aD hbS0 _ _ _ hb hu) (by omega)) (by omega)
  have hI0:FoldI t kk g ⟨t.hd m,t.kd m⟩ wS [] wS :=
   ⟨BelowX.refl _ _,by omega,.agg #[.int .i64 (t.hd m).k,.int .i64 (t.hd m).n,.int .i64 (t.hd m).a,.slice q1 n1 c1,.slice q2 n2 c2],⟨_,_,_,_,_,_,rfl,HML.out.mono (hF0 wS (BelowX.refl _ _)) hbS0.size,HMX.out.mono (hF0 wS (BelowX.refl _ _)) hbS0.size⟩,λ cs e o u hu=>by cases e;exact hgS o u hu⟩
  have HI0:=hid hI0
  have HBK:=hid hBk
  have HF0:=hid hF0
  have HKS:=hid hkS
  have HZS:=hid hzS
  have HBS:=hid hbS0
  have HSS:=hid hsS
  have HGW:=hid hgw
  have HBW:=hid hb
  clear hgw HS2 HS3 hbS hbS0 hsS hgS hkS hzS hboxS hBk hF0 hI0 hg hs2 hb3 hs3 hg3 hk3 hz3 hwS hw3 hw2 hb2 e0 e1 e2 e3 e4
  gi_wp2_with fail
  refine wpIn_rangeFunc_ownH rfl (by decide) (gf:=200) (lb:=#[.pointer (some ⟨g+1,0,none⟩)]) rfl trivial (enters_of Tryz.func200 (by kernel_rfl) rfl)
   (xA (g+1) m c (some ⟨b,o,none⟩) vs (by omega) (by unfold maxLen;omega) 2 wS (λ W hW=>HBK.out.on (BelowX.of_below (g:=g) hW) (by omega) (λ b' o' e=>by cases e;have:=HBW.out;have:=HGW.out;omega)))
   (λ h k x=>k (h x)) (λ W l o o' _ hl ho _ h=>h.putObj o' hl ho) (Below.refl _ _) (λ _=>rfl)
   (λ pre W=>FoldI t kk g ⟨t.hd m,t.kd m⟩ wS (pre.map (·.val)) W) (λ _ _ _=>False) FoldI.own (λ _ _ _ _ _ hs _ _=>hs) HI0.out
   (λ x a' W=>∃b9,a' = { tmps:=#[.int .i64 kk,.agg #[.int .i64 zk,.int .i64 zn,.int .i64 za,.slice none 0 0,.slice none 0 0],.slice (some ⟨b,o,none⟩) (m+1) c,.pointer (some ⟨w.heap.size,0,none⟩),.pointer (some ⟨w.heap.size+1,0,none⟩),undef,.pointer (some ⟨w.heap.size+1+1,0,none⟩),.pointer (some ⟨g,0,none⟩),undef,.pointer (some ⟨b9,0,none⟩),.slice (some ⟨b,o,none⟩) (m+1) c,.int .i64 ((m:Int)+1),.bool false,undef,.slice (some ⟨b,o,none⟩) (m+1) c,.slice (some ⟨b,o,none⟩) (m+1) c,.int .i64 ((m:Int)+1),.int .i64 m,.pointer (some ⟨b,o+m*5,none⟩),.agg #[.int .i64 (t.hd m).k,.int .i64 (t.hd m).n,.int .i64 (t.hd m).a,.slice q1 n1 c1,.slice q2 n2 c2],.slice (some ⟨b,o,none⟩) (m+1) c,.slice (some ⟨b,o,none⟩) (m+1) c,.int .i64 ((m:Int)+1),.int .i64 m,.slice (some ⟨b,o,none⟩) m c,.func (.func 200) #[] #[.pointer (some ⟨g+1,0,none⟩)],.int .i64 (x.val:Int),el vs x.val,undef,undef,undef,undef,undef,undef,undef],defers:=[] }/\∀cs,el vs x.val=.agg cs->∀i u,cs[i]? = some u->U W b9 i=some u)
   (λ x a' _ _ _ _ h hg hr=>by obtain⟨b9,e,h⟩:=h;exact⟨b9,e,λ cs e2 i u hu=>ME (h cs e2 i u hu) hg (λ r e3=>(hr r e3).2)⟩) ?assign ?body ?done ?stop
  case assign =>
   intro l pre x W K hI hK
   obtain⟨y1,z1,x1,y2,z2,x2,hE,-,-⟩:=HEL.out x.val (by omega)
   rw[hE]
   have hsz:wS.heap.size<=W.heap.size:=hI.1.size
   have hb9:=aB W (.cells #[.int .i64 (t.hd x.val).k,.int .i64 (t.hd x.val).n,.int .i64 (t.hd x.val).a,.slice y1 z1 x1,.slice y2 z2 x2] 26)
   have hK2:=hK { tmps:=#[.int .i64 kk,.agg #[.int .i64 zk,.int .i64 zn,.int .i64 za,.slice none 0 0,.slice none 0 0],.slice (some ⟨b,o,none⟩) (m+1) c,.pointer (some ⟨w.heap.size,0,none⟩),.pointer (some ⟨w.heap.size+1,0,none⟩),undef,.pointer (some ⟨w.heap.size+1+1,0,none⟩),.pointer (some ⟨g,0,none⟩),undef,.pointer (some ⟨W.heap.size,0,none⟩),.slice (some ⟨b,o,none⟩) (m+1) c,.int .i64 ((m:Int)+1),.bool false,undef,.slice (some ⟨b,o,none⟩) (m+1) c,.slice (some ⟨b,o,none⟩) (m+1) c,.int .i64 ((m:Int)+1),.int .i64 m,.pointer (some ⟨b,o+m*5,none⟩),.agg #[.int .i64 (t.hd m).k,.int .i64 (t.hd m).n,.int .i64 (t.hd m).a,.slice q1 n1 c1,.slice q2 n2 c2],.slice (some ⟨b,o,none⟩) (m+1) c,.slice (some ⟨b,o,none⟩) (m+1) c,.int .i64 ((m:Int)+1),.int .i64 m,.slice (some ⟨b,o,none⟩) m c,.func (.func 200) #[] #[.pointer (some ⟨g+1,0,none⟩)],.int .i64 (x.val:Int),.agg #[.int .i64 (t.hd x.val).k,.int .i64 (t.hd x.val).n,.int .i64 (t.hd x.val).a,.slice y1 z1 x1,.slice y2 z2 x2],undef,undef,undef,undef,undef,undef,undef],defers:=[] } _
    (KeepsOthers.from (KeepsOthers.alloc _ _) _) (λ h=>h.on (BelowX.of_below (g:=g) hb9) (by omega) (λ b' o' e=>by cases e;have:=HBW.out;have:=HGW.out;omega)) (hI.below hb9)
    ⟨W.heap.size,by rw[hE],λ cs e2 i u hu=>by rw[hE] at e2;cases e2;exact aL hu⟩
   clear hK hI hE
   gi_wp2_with fail
   exact hK2
  case body =>
   rintro l pre x a' W hl hr hI ⟨b9,rfl,hc9⟩ hlen
   obtain⟨y1,z1,x1,y2,z2,x2,hE,hE1,hE2⟩:=HEL.out x.val (by omega)
   have hu9:=hc9 _ hE
   have hI':=hI
   obtain⟨hX,hgl,v,⟨u1,v1,w1,u2,v2,w2',rfl,hR1,hR2⟩,hcs⟩:=hI'
   have hcg:=hcs _ rfl
   have k0:=aC (hX.U HKS.out (by have:=HGW.out;omega))
   have f0:=aC (hu9 0 _ rfl)
   have f1:=aC (hu9 1 _ rfl)
   have f2:=aC (hu9 2 _ rfl)
   have f3:=aC (hu9 3 _ rfl)
   have f4:=aC (hu9 4 _ rfl)
   have c0:=aC (hcg 0 _ rfl)
   have c1:=aC (hcg 1 _ rfl)
   have c2:=aC (hcg 2 _ rfl)
   have c3:=aC (hcg 3 _ rfl)
   have c4:=aC (hcg 4 _ rfl)
   have o0:=aG (hcg 0 _ rfl)
   have o1:=aG (hcg 1 _ rfl)
   have o2:=aG (hcg 2 _ rfl)
   have o3:=aG (hcg 3 _ rfl)
   have o4:=aG (hcg 4 _ rfl)
   have hgW:g<W.heap.size:=aM (hcg 0 _ rfl)
   obtain⟨Wb,hWb⟩:∃Wb,W.alloc (.cells #[.int .i64 (t.hd x.val).k,.int .i64 (t.hd x.val).n,.int .i64 (t.hd x.val).a,.slice y1 z1 x1,.slice y2 z2 x2,.int .i64 (acc kk t ⟨t.hd m,t.kd m⟩ (pre.map (·.val))).h.k,.int .i64 (acc kk t ⟨t.hd m,t.kd m⟩ (pre.map (·.val))).h.n,.int .i64 (acc kk t ⟨t.hd m,t.kd m⟩ (pre.map (·.val))).h.a,.slice u1 v1 w1,.slice u2 v2 w2'] 26)=Wb:=⟨_,rfl⟩
   obtain⟨W',hW'⟩:∃W',((((Wb.setCell ⟨g,0,none⟩ (.int .i64 kk)).setCell ⟨g,1,none⟩ (.int .i64 0)).setCell ⟨g,2,none⟩ (.int .i64 0)).setCell ⟨g,3,none⟩ (.slice none 0 0)).setCell ⟨g,4,none⟩ (.slice (some ⟨W.heap.size,0,none⟩) 2 2)=W':=⟨_,rfl⟩
   have hst:=hI.step (W':=W') (k:=x.val) (e0:=.int .i64 (t.hd x.val).k) (e1:=.int .i64 (t.hd x.val).n) (e2:=.int .i64 (t.hd x.val).a) (e3:=.slice y1 z1 x1) (e4:=.slice y2 z2 x2) ⟨_,_,_,_,_,_,rfl,Rd.mono hE1 (HF0.out W hX) (by have:=HBS.out.size;have:=hX.size;omega),Rd.mono hE2 (HF0.out W hX) (by have:=HBS.out.size;have:=hX.size;omega)⟩ hcg (by rw[hWb];exact hW')
   have HST:=hid hst
   have ub:∀o u,(#[.int .i64 (acc kk t ⟨t.hd m,t.kd m⟩ (pre.map (·.val))).h.k,.int .i64 (acc kk t ⟨t.hd m,t.kd m⟩ (pre.map (·.val))).h.n,.int .i64 (acc kk t ⟨t.hd m,t.kd m⟩ (pre.map (·.val))).h.a,.slice u1 v1 w1,.slice u2 v2 w2']:Array Value)[o]? = some u->U Wb g o=some u:=λ o u hu=>by rw[<-hWb];exact aD (aB _ _) _ _ _ hgW (hcg o u hu)
   have b0:=aC (ub 0 _ rfl)
   have b1:=aC (ub 1 _ rfl)
   have b2:=aC (ub 2 _ rfl)
   have b3:=aC (ub 3 _ rfl)
   have b4:=aC (ub 4 _ rfl)
   have j0:=aG (ub 0 _ rfl)
   have j1:=aG (ub 1 _ rfl)
   have j2:=aG (ub 2 _ rfl)
   have j3:=aG (ub 3 _ rfl)
   have j4:=aG (ub 4 _ rfl)
   clear ub o0 o1 o2 o3 o4
   have HKP:Hid (BkD (g+1) (some ⟨b,o,none⟩) m c vs W'):=hid (HBK.out.on (g:=g) hst.1.1 (by omega) (λ b' o' e=>by cases e;have:=HBW.out;have:=HGW.out;omega))
   have HW:=hid hW'
   clear hI hE hE1 hE2 hu9 hcg hcs hX hR1 hR2 hst hW' hc9 hr hlen hl
   gi_wp2_with fail
   rw[HW.out]
   refine⟨HST.out.2,λ _=>HKP.out,?_⟩
   have:=HST.out.1
   rw[show pre.map (·.val)++[x.val]=(pre++[x]).map (·.val) by simp] at this
   exact this
  case done =>
   intro D xs W hD hS hI hK
   rw[hS] at hI
   unfold FoldI at hI
   rw[MC kk ⟨zk,zn,za,[]⟩ t m HM.out m (Nat.le_refl _),Nat.sub_self] at hI
   have hft:=yZ (kk:=kk) (z:=⟨zk,zn,za,[]⟩) hkk HZF.out HF.out
   have hsz:=yY kk (z:=⟨zk,zn,za,[]⟩) rfl t
   have hlz:=Ts.len_le_size t
   obtain⟨T,hT⟩:∃T,jN kk ⟨zk,zn,za,[]⟩ t=T:=⟨_,rfl⟩
   rw[show t.drop 0=t from rfl,hT] at hI
   rw[hT] at hft hsz ⊢
   obtain⟨hX,hgl,v,⟨u1,v1,w1,u2,v2,w2',rfl,hR1,hR2⟩,hcs⟩:=hI
   have hcg:=hcs _ rfl
   have c0:=aC (hcg 0 _ rfl)
   have c1:=aC (hcg 1 _ rfl)
   have c2:=aC (hcg 2 _ rfl)
   have c3:=aC (hcg 3 _ rfl)
   have c4:=aC (hcg 4 _ rfl)
   have hBW:Below w.heap.size w W:=HBS.out.trans (hX.below (by have:=HGW.out;omega) (by have:=HSS.out;have:=HGW.out;omega))
   have HL:=hid (yS T.h T.x (.agg #[.int .i64 T.h.k,.int .i64 T.h.n,.int .i64 T.h.a,.slice u1 v1 w1,.slice u2 v2 w2']) 0 0 W ⟨_,_,_,_,_,_,rfl,hR1.mono (λ b o u _ hu=>MK hu) (Nat.le_refl _),hR2.mono (λ b o u _ hu=>MK hu) (Nat.le_refl _)⟩ hft.1 hft.2 (by have:=HS.out;omega) (HKA.out.on hBW HKA.out.1))
   rw[Hd.lift_zero hft.1,Ts.lift_zero hft.2] at HL
   have HBW2:=hid hBW
   have Z:Hid (∀o v,bI[o]? = some v->U W (w.heap.size+1+1) o=some v):=λ o v hv=>hX.U (HZS.out o v hv) (by have:=HGW.out;omega)
   have HK:=hid hK
   have HDW:Hid (wS.heap.size<=D/\D<W.heap.size):=hid ⟨hD,(Array.getElem?_eq_some_iff.1 hK).1⟩
   have HSW:Hid (w.heap.size+5<=W.heap.size):=hid (by have h1:=hX.size;have h2:=HSS.out;have h3:=HGW.out;rw[h2,h3] at h1;omega)
   have HD5:Hid (w.heap.size+5<=D):=hid (by have:=HSS.out;have:=HGW.out;omega)
   have HT:=hid hT
   clear hX hgl hR1 hR2 hcs hcg hBW hK hft hsz hlz hD hS hT
   gi_wp2_with fail
   refine⟨trivial,(callsIn_wide.2 HL.out).mono ?_⟩
   rintro e wy ⟨s1,n1,d1,s2,n2,d2,S,rfl,hby,ho,hn⟩
   have z2:∀o v,bI[o]? = some v->U wy (w.heap.size+1+1) o=some v:=λ o v hv=>aD hby _ _ _ (by have:=HSW.out;omega) (Z.out o v hv)
   have Z2:=hid z2
   have m0:=aC (z2 0 _ rfl)
   have m1:=aC (z2 1 _ rfl)
   have m2:=aC (z2 2 _ rfl)
   have m3:=aC (z2 3 _ rfl)
   have m4:=aC (z2 4 _ rfl)
   have o0:=aG (z2 0 _ rfl)
   have o1:=aG (z2 1 _ rfl)
   have o2:=aG (z2 2 _ rfl)
   have o3:=aG (z2 3 _ rfl)
   have o4:=aG (z2 4 _ rfl)
   have HKY:Hid (wy.heap[D]? = some (.deferred (some []))):=hid ((hby.block D HDW.out.2).trans HK.out)
   have HBY:=hid (aA HBW2.out hby)
   have HO:=hid ho
   have HN:=hid hn
   clear hby ho hn z2 c0 c1 c2 c3 c4 HK
   gi_wp2_with fail
   obtain⟨W2,hW2⟩:∃W2,((((wy.setCell ⟨w.heap.size+1+1,0,none⟩ (.int .i64 T.h.k)).setCell ⟨w.heap.size+1+1,1,none⟩ (.int .i64 T.h.n)).setCell ⟨w.heap.size+1+1,2,none⟩ (.int .i64 T.h.a)).setCell ⟨w.heap.size+1+1,3,none⟩ (.slice s1 n1 d1)).setCell ⟨w.heap.size+1+1,4,none⟩ (.slice s2 n2 d2)=W2:=⟨_,rfl⟩
   obtain⟨⟨x0,x1,x2,x3,x4⟩,hBF,hkW⟩:=pM Z2.out HBY.out (by omega) hW2
   rw[hW2]
   refine⟨by simp,.inl ⟨_,_,rfl,run_takeDeferred ((hkW D (by have:=HD5.out;omega)).trans HKY.out),?_⟩⟩
   have hD5:=HD5.out
   have hkP:∀(o:Obj) (k:Nat),k≠D->(W2.putObj D o).heap[k]? = W2.heap[k]?:=λ o k hk=>World.putObj_heap_other hk
   have y0:∀o,(W2.putObj D o).cell? ⟨w.heap.size+1+1,0,none⟩=some (.int .i64 T.h.k):=λ o=>(dE (hkP o _ (by omega)) 0).trans x0
   have y1:∀o,(W2.putObj D o).cell? ⟨w.heap.size+1+1,1,none⟩=some (.int .i64 T.h.n):=λ o=>(dE (hkP o _ (by omega)) 1).trans x1
   have y2:∀o,(W2.putObj D o).cell? ⟨w.heap.size+1+1,2,none⟩=some (.int .i64 T.h.a):=λ o=>(dE (hkP o _ (by omega)) 2).trans x2
   have y3:∀o,(W2.putObj D o).cell? ⟨w.heap.size+1+1,3,none⟩=some (.slice s1 n1 d1):=λ o=>(dE (hkP o _ (by omega)) 3).trans x3
   have y4:∀o,(W2.putObj D o).cell? ⟨w.heap.size+1+1,4,none⟩=some (.slice s2 n2 d2):=λ o=>(dE (hkP o _ (by omega)) 4).trans x4
   refine⟨.agg #[.int .i64 T.h.k,.int .i64 T.h.n,.int .i64 T.h.a,.slice s1 n1 d1,.slice s2 n2 d2],by simp[results,Tryz.results56,go_sem,y0,y1,y2,y3,y4],s1,n1,d1,s2,n2,d2,S,by rw[HT.out],hBF.trans ⟨rfl,rfl,rfl,by simp[World.putObj],λ k hk=>hkP _ k (by omega)⟩,?_,HN.out⟩
   rw[HT.out]
   have hW5:=HSW.out
   exact ((HO.out.lower (by omega)).kept λ b hb=>hkW b (by have:=(HO.out.mem b hb).1;omega)).kept λ b hb=>hkP _ b (by have:=(HO.out.mem b hb).1;have:=HDW.out;omega)
  case stop =>
   rintro D c pre W _ _ h _
   exact h.elim
end
section
open Go.RowKit
theorem fin_any(n:Int)(w:World):Calls Tryz.prog 57 #[.int .i64 n] w λ e w'=>e=.returned (.agg #[.int .i64 22,.int .i64 n,.int .i64 0,.slice none 0 0,.slice none 0 0])/\Below w.heap.size w w':=by
 go_enter Tryz.func57,Tryz.ntmps57
 go_wp2_with fail
 refine bodyPost_ret (v:=.agg #[.int .i64 22,.int .i64 n,.int .i64 0,.slice none 0 0,.slice none 0 0]) (by simp[results,Tryz.results57,go_sem]) rfl ⟨rfl,aB _ _⟩
theorem KY(k n:Int)(w:World):Calls Tryz.prog 58 #[.int .i64 k,.int .i64 n] w λ e w'=>e=.returned (.agg #[.int .i64 23,.int .i64 k,.int .i64 n,.slice none 0 0,.slice none 0 0])/\Below w.heap.size w w':=by
 go_enter Tryz.func58,Tryz.ntmps58
 go_wp2_with fail
 refine bodyPost_ret (v:=.agg #[.int .i64 23,.int .i64 k,.int .i64 n,.slice none 0 0,.slice none 0 0]) (by simp[results,Tryz.results58,go_sem]) rfl ⟨rfl,aB _ _⟩
theorem R4(w:World):∀o v,bI[o]? = some v->U (w.alloc (.cells bI 26)) w.heap.size o=some v:=λ o v hv=>aL hv
theorem eZ{k:Int}(hk:0<=k/\k<=100):(kH k).fits:=⟨⟨by show -9223372036854775808<=k;omega,by show k<=9223372036854775807;omega⟩,⟨by show (-9223372036854775808:Int)<=0;decide,by show (0:Int)<=9223372036854775807;decide⟩,⟨by show (-9223372036854775808:Int)<=0;decide,by show (0:Int)<=9223372036854775807;decide⟩,λ p hp=>by cases hp⟩
theorem dV{k n a:Int}(hk:0<=k/\k<=100)(hn:0<=n/\n<=100000000000)(ha:0<=a/\a<=100000000000):Hd.fits ⟨k,n,a,[]⟩:=⟨⟨by show -9223372036854775808<=k;omega,by show k<=9223372036854775807;omega⟩,⟨by show -9223372036854775808<=n;omega,by show n<=9223372036854775807;omega⟩,⟨by show -9223372036854775808<=a;omega,by show a<=9223372036854775807;omega⟩,λ p hp=>by cases hp⟩
theorem tup_any(t:Ts)(va:Value)(w:World)(ha:RT ty w va t)(hf:t.fits)(hs:t.size<=100000000)(hKA:KA w):Calls Tryz.prog 12 #[va] w (MakesT (tup t).h (tup t).x w):=by
 obtain⟨q,c,rfl,-,hc,-⟩:=ha.slice
 unfold maxLen at hc
 obtain⟨w2,hw2⟩:∃w2,w.alloc (.cells bI 26)=w2:=⟨_,rfl⟩
 have hb2:Below w.heap.size w w2:=by rw[<-hw2];exact aB _ _
 have hs2:w2.heap.size=w.heap.size+1:=by rw[<-hw2];simp
 have hz2:∀o v,bI[o]? = some v->U w2 w.heap.size o=some v:=by rw[<-hw2];exact R4 w
 have HB2:=hid hb2
 have HS2:=hid hs2
 have HZ2:=hid hz2
 have HFO:Hid (∀W,Below w.heap.size w W->Calls Tryz.prog 56 #[.int .i64 12,.agg #[.int .i64 22,.int .i64 1,.int .i64 0,.slice none 0 0,.slice none 0 0],.slice q t.len c] W (MakesT (tup t).h (tup t).x W)):=λ W hW=>wN 12 22 1 0 _ t W (RT.on ha hW) hf (dV (by decide) (by decide) (by decide)) hs (hKA.on hW hKA.1) (by decide)
 obtain⟨T,hT⟩:∃T,tup t=T:=⟨_,rfl⟩
 rw[hT] at HFO ⊢
 unfold bI at hw2
 clear ha hf hs hKA hb2 hs2 hz2 hT
 go_enter Tryz.func12,Tryz.ntmps12
 go_wp2_with fail
 refine (fin_any 1 _).mono ?_
 rintro e w3 ⟨rfl,hb3⟩
 have HB3:=hid hb3
 clear hb3 hw2
 go_wp2_with fail
 refine (HFO.out _ (aA HB2.out HB3.out)).mono ?_
 rintro e wy ⟨s1,n1,d1,s2,n2,d2,S,rfl,hby,ho,hn⟩
 have hs3:=HB3.out.size
 have Z2:Hid (∀o v,bI[o]? = some v->U wy w.heap.size o=some v):=λ o v hv=>aD hby _ _ _ (by have:=HS2.out;omega) (aD HB3.out _ _ _ (by have:=HS2.out;omega) (HZ2.out o v hv))
 have HBY:=hid (aA (aA HB2.out HB3.out) hby)
 have HGE:Hid (∀b∈S,w.heap.size+1<=b):=λ b hb=>by have:=(ho.mem b hb).1;have:=HS2.out;omega
 have HO:=hid (ho.lower (base':=w.heap.size) (by have:=HS2.out;omega))
 have HN:=hid hn
 clear hby ho hn hs3
 have m0:=aC (Z2.out 0 _ rfl)
 have m1:=aC (Z2.out 1 _ rfl)
 have m2:=aC (Z2.out 2 _ rfl)
 have m3:=aC (Z2.out 3 _ rfl)
 have m4:=aC (Z2.out 4 _ rfl)
 have o0:=aG (Z2.out 0 _ rfl)
 have o1:=aG (Z2.out 1 _ rfl)
 have o2:=aG (Z2.out 2 _ rfl)
 have o3:=aG (Z2.out 3 _ rfl)
 have o4:=aG (Z2.out 4 _ rfl)
 go_wp2_with fail
 obtain⟨W,hW⟩:∃W,((((wy.setCell ⟨w.heap.size,0,none⟩ (.int .i64 T.h.k)).setCell ⟨w.heap.size,1,none⟩ (.int .i64 T.h.n)).setCell ⟨w.heap.size,2,none⟩ (.int .i64 T.h.a)).setCell ⟨w.heap.size,3,none⟩ (.slice s1 n1 d1)).setCell ⟨w.heap.size,4,none⟩ (.slice s2 n2 d2)=W:=⟨_,rfl⟩
 obtain⟨⟨x0,x1,x2,x3,x4⟩,hBF,hkW⟩:=pM Z2.out HBY.out (by omega) hW
 rw[hW]
 refine bodyPost_ret (v:=.agg #[.int .i64 T.h.k,.int .i64 T.h.n,.int .i64 T.h.a,.slice s1 n1 d1,.slice s2 n2 d2]) (by simp[results,Tryz.results12,go_sem,x0,x1,x2,x3,x4]) rfl ⟨s1,n1,d1,s2,n2,d2,S,rfl,hBF,?_,HN.out⟩
 exact HO.out.kept λ b hb=>hkW b (by have:=HGE.out b hb;omega)
theorem IZ(t:Ts)(va:Value)(w:World)(ha:RT ty w va t)(hf:t.fits)(hs:t.size<=100000000)(hKA:KA w):Calls Tryz.prog 13 #[va] w (MakesT (sG t).h (sG t).x w):=by
 obtain⟨q,c,rfl,-,hc,-⟩:=ha.slice
 unfold maxLen at hc
 obtain⟨w2,hw2⟩:∃w2,w.alloc (.cells bI 26)=w2:=⟨_,rfl⟩
 have hb2:Below w.heap.size w w2:=by rw[<-hw2];exact aB _ _
 have hs2:w2.heap.size=w.heap.size+1:=by rw[<-hw2];simp
 have hz2:∀o v,bI[o]? = some v->U w2 w.heap.size o=some v:=by rw[<-hw2];exact R4 w
 have HB2:=hid hb2
 have HS2:=hid hs2
 have HZ2:=hid hz2
 have HFO:Hid (∀W,Below w.heap.size w W->Calls Tryz.prog 56 #[.int .i64 13,.agg #[.int .i64 23,.int .i64 0,.int .i64 1,.slice none 0 0,.slice none 0 0],.slice q t.len c] W (MakesT (sG t).h (sG t).x W)):=λ W hW=>wN 13 23 0 1 _ t W (RT.on ha hW) hf (dV (by decide) (by decide) (by decide)) hs (hKA.on hW hKA.1) (by decide)
 obtain⟨T,hT⟩:∃T,sG t=T:=⟨_,rfl⟩
 rw[hT] at HFO ⊢
 unfold bI at hw2
 clear ha hf hs hKA hb2 hs2 hz2 hT
 go_enter Tryz.func13,Tryz.ntmps13
 go_wp2_with fail
 refine (KY 0 1 _).mono ?_
 rintro e w3 ⟨rfl,hb3⟩
 have HB3:=hid hb3
 clear hb3 hw2
 go_wp2_with fail
 refine (HFO.out _ (aA HB2.out HB3.out)).mono ?_
 rintro e wy ⟨s1,n1,d1,s2,n2,d2,S,rfl,hby,ho,hn⟩
 have hs3:=HB3.out.size
 have Z2:Hid (∀o v,bI[o]? = some v->U wy w.heap.size o=some v):=λ o v hv=>aD hby _ _ _ (by have:=HS2.out;omega) (aD HB3.out _ _ _ (by have:=HS2.out;omega) (HZ2.out o v hv))
 have HBY:=hid (aA (aA HB2.out HB3.out) hby)
 have HGE:Hid (∀b∈S,w.heap.size+1<=b):=λ b hb=>by have:=(ho.mem b hb).1;have:=HS2.out;omega
 have HO:=hid (ho.lower (base':=w.heap.size) (by have:=HS2.out;omega))
 have HN:=hid hn
 clear hby ho hn hs3
 have m0:=aC (Z2.out 0 _ rfl)
 have m1:=aC (Z2.out 1 _ rfl)
 have m2:=aC (Z2.out 2 _ rfl)
 have m3:=aC (Z2.out 3 _ rfl)
 have m4:=aC (Z2.out 4 _ rfl)
 have o0:=aG (Z2.out 0 _ rfl)
 have o1:=aG (Z2.out 1 _ rfl)
 have o2:=aG (Z2.out 2 _ rfl)
 have o3:=aG (Z2.out 3 _ rfl)
 have o4:=aG (Z2.out 4 _ rfl)
 go_wp2_with fail
 obtain⟨W,hW⟩:∃W,((((wy.setCell ⟨w.heap.size,0,none⟩ (.int .i64 T.h.k)).setCell ⟨w.heap.size,1,none⟩ (.int .i64 T.h.n)).setCell ⟨w.heap.size,2,none⟩ (.int .i64 T.h.a)).setCell ⟨w.heap.size,3,none⟩ (.slice s1 n1 d1)).setCell ⟨w.heap.size,4,none⟩ (.slice s2 n2 d2)=W:=⟨_,rfl⟩
 obtain⟨⟨x0,x1,x2,x3,x4⟩,hBF,hkW⟩:=pM Z2.out HBY.out (by omega) hW
 rw[hW]
 refine bodyPost_ret (v:=.agg #[.int .i64 T.h.k,.int .i64 T.h.n,.int .i64 T.h.a,.slice s1 n1 d1,.slice s2 n2 d2]) (by simp[results,Tryz.results13,go_sem,x0,x1,x2,x3,x4]) rfl ⟨s1,n1,d1,s2,n2,d2,S,rfl,hBF,?_,HN.out⟩
 exact HO.out.kept λ b hb=>hkW b (by have:=HGE.out b hb;omega)
end
section
open Go.RowKit
theorem RT.block{W:World}{nb n:Nat}{cs:List Value}{x:Ts}(hb:∀j u,cs[j]? = some u->U W nb j=some u)(hW:nb<W.heap.size)(hv:Vs (U W) W.heap.size (tDs ty x) cs)(hn:x.len=n)(hn2:n<=100000000):RT ty W (.slice (some ⟨nb,0,none⟩) n n) x :=
 ⟨_,n,n,rfl,by rw[aF,hn],Nat.le_refl _,by unfold maxLen;omega,by rw[aF,hn];simp[Ds.len],.inr (.inr ⟨nb,0,rfl,hW,hv.at_ (λ j u hu=>by rw[Nat.zero_add];exact hb j u hu),trivial⟩)⟩
theorem Own.vsx{F:Nat->Nat->Option Value}{w:World}{base:Nat}(hF:∀b o v,base<=b->U w b o=some v->F b o=some v){x:Ds}:∀ {xs:List Value} {S:List Nat},Own w base x xs S->Vs F w.heap.size x xs:=by
 induction x with
 | nil=>rintro xs S ⟨rfl,-⟩;rfl
 | lit v r ih=>rintro xs S ⟨ys,e,h⟩;exact⟨ys,e,ih h⟩
 | row sz e x s r ihx ihs ihr =>
  rintro xs S ⟨v,ys,zs,us,B,S1,S2,S3,e1,h1,h2,h3,h4,rfl⟩
  refine⟨v,ys,e1,?_,ihr h4⟩
  have hv:=ihx h2
  have hl:=h2.len
  have hu:=ihs h3
  have hul:=h3.len
  rcases h1 with ⟨p,rfl,h5,h6,rfl⟩|⟨g,n,cap,cur,rfl,rfl,h4,h5,h6,h7,h8,h9,h10,h11,h12⟩
  ·obtain⟨rfl,rfl⟩:=List.append_eq_nil_iff.1 h6
   have hs:s.len=0:=by simpa using hul.symm
   refine⟨p,0,0,rfl,by omega,Nat.le_refl _,Nat.zero_le _,by omega,?_⟩
   by_cases hp:p=none
   ·exact .inl ⟨hp,rfl⟩
   ·exact .inr (.inl ⟨rfl,hs,hp⟩)
  ·have hc:=eH h5 h12
   refine⟨_,n,cap,rfl,by omega,h6,h7,by rw[<-hl,<-hul,<-List.length_append];exact h11,.inr (.inr ⟨g,0,rfl,(Array.getElem?_eq_some_iff.1 h5).1,hv.at_ (λ j u hj=>hF _ _ _ h4 (hc j u ?_)),hu.at_ (λ j u hj=>?_)⟩)⟩
   ·rw[List.getElem?_append_left (List.getElem?_eq_some_iff.1 hj).1];exact hj
   ·have:=hc (x.len+j) u (by rw[<-hl,List.getElem?_append_right (by omega)];simpa using hj)
    rw[<-Nat.add_assoc] at this;exact hF _ _ _ h4 this
theorem RowG.keep{w w':World}{base sz e n:Nat}{v:Value}{x:Ds}{S:List Nat}(h:RowG w base sz e v n x S)(hk:∀b,base<=b->b<w.heap.size->w'.heap[b]? = w.heap[b]?):RowG w' base sz e v n x S:=by
 obtain⟨xs,h1,h2,h3⟩:=h
 refine⟨xs,⟨h1.1,?_⟩,h2.kept λ b hb=>hk b (h2.mem b hb).1 (h2.mem b hb).2,h3⟩
 rcases h1.2 with h6|⟨g,cap,cur,e1,h6,h7,h8⟩
 ·exact .inl h6
 ·exact .inr ⟨g,cap,cur,e1,h6,(hk g h6 (Array.getElem?_eq_some_iff.1 h7).1).trans h7,h8⟩
end
section
open Go.RowKit
section
variable {P:Program} {G:World->Prop} {tb:TB} {N:Nat} {Q:Exit->St->Prop} {st:St}
def seqK(P:Program)(G:World->Prop)(tb:TB)(N:Nat)(y:Code)(Q:Exit->St->Prop):Exit->St->Prop:=tE (dI P G tb N y Q) Q
theorem seqK_n{y:Code}:seqK P G tb N y Q .normal st=dI P G tb N y Q st:=rfl
theorem seqK_r{y:Code}:seqK P G tb N y Q .ret st=Q .ret st:=rfl
theorem seqK_e{y:Code}{i:Nat}:seqK P G tb N y Q (.exit i) st=Q (.exit i) st:=rfl
def AskO(P:Program)(G:World->Prop)(tb:TB)(N:Nat)(ops:Array Oper)(os:List Oper)(K:Exit->St->Prop)(o:Oper)(f:Nat)(args:AV)(st:St):Prop:=Ask P G o f args (lH P G tb N ops os K) st
theorem aE{ops:Array Oper}{os:List Oper}{K:Exit->St->Prop}{o:Oper}{f:Nat}{args ps res:AV}(h:Holds P G f ps res)(ha:args.arg st.bx ps)(hn:st.τ (fF o)=none)(k:lH P G tb N ops os K (st.out o { av:=res.ren (fF o),tu:=some (fF o,0) })):AskO P G tb N ops os K o f args st:=ask h ha hn k
theorem ac_skip:dI P G tb N .skip Q st=Q .normal st:=rfl
theorem ac_label{l:Nat}:dI P G tb N (.label l) Q st=Q .normal st:=rfl
theorem ac_region{i:Nat}{ops:Array Oper}{d:Bool}:dI P G tb N (.region i ops d) Q st=((d=true->yN ops=true)/\lH P G tb N ops ops.toList Q st):=rfl
theorem ac_seq{x y:Code}:dI P G tb N (.seq x y) Q st=dI P G tb N x (seqK P G tb N y Q) st:=rfl
theorem ac_cond{c:Operand}{x y:Code}:dI P G tb N (.cond c x y) Q st=match ev st N c with
  | .v (.bool b)=>if b=true then dI P G tb N x Q st else dI P G tb N y Q st
  | _=>False:=rfl
theorem ac_block{i:Nat}{c:Code}:dI P G tb N (.block i c) Q st=dI P G tb N c (blkK i Q) st:=rfl
theorem ac_loop{c:Code}:dI P G tb N (.loop c) Q st=zL P G N c Q st:=rfl
theorem ac_exit{i:Nat}:dI P G tb N (.exit i) Q st=Q (.exit i) st:=rfl
theorem ac_ret:dI P G tb N .ret Q st=Q .ret st:=rfl
theorem vo_nil{ops:Array Oper}:lH P G tb N ops [] Q st=Q .normal st:=rfl
theorem vo_cons{ops:Array Oper}{o:Oper}{os:List Oper}:lH P G tb N ops (o :: os) Q st =
  let go:=match oN o.op with
   | some (fo,xs)=>match dY (ev st N fo) with
    | some (f,x,y)=>(x.isLL=true/\y.isLL=true)/\AskO P G tb N ops os Q o f (x.app ((AV.list (xs.map (ev st N))).app y)) st
    | none=>False
   | none=>match I8 tb N o st with
    | some (c,r)=>c/\lH P G tb N ops os Q (st.out o r)
    | none=>False
  match o.guard with
  | none=>go
  | some (j,want)=>match (ops[j]?).bind (·.dst) with
   | some d=>match ev st N (.tmp d) with
    | .v (.bool b)=>if b=want then go else lH P G tb N ops os Q (st.out o { av:=.v undef })
    | _=>False
   | none=>False:=rfl
end
theorem iD:jG KA:=λ _ _ hb h=>⟨Nat.lt_of_lt_of_le h.1 hb.size,λ k hk=>(hb.cell (p:=⟨0,k*5+4,none⟩) h.1).trans (h.2 k hk)⟩
def Dc.bare:Dc->Bool
 | .nil=>true
 | .lit _ r=>r.bare
 | .nilr _ _ r=>r.bare
 | .row _ _ _ _ r=>r.bare
 | .seg _ _ r=>r.bare
 | .blk _ _ _ _ _ _=>false
def AV.bare:AV->Bool
 | .c d=>d.bare
 | .agg d=>d.bare
 | .bx _ _=>false
 | .cons a r=>a.bare && r.bare
 | .tup l=>l.bare
 | .fn _ a b=>a.bare && b.bare
 | _=>true
theorem Dc.bare_ok{d:Dc}(h:d.bare=true)(τ:Nat->Option Nat):d.ok τ:=by
 induction d with
 | nil=>trivial
 | lit v r ih=>exact ih h
 | nilr sz e r ih=>exact ih h
 | row k sz e x r ih=>exact ih h
 | seg k d r ih=>exact ih h
 | blk k v sz e x r _ _=>cases h
theorem AV.bare_ok{a:AV}(h:a.bare=true)(bx:Nat->Option (Nat×Dc))(τ:Nat->Option Nat):a.ok bx τ:=by
 induction a with
 | c d=>exact Dc.bare_ok h τ
 | agg d=>exact Dc.bare_ok h τ
 | bx k o=>cases h
 | cons a r iha ihr=>simp only[AV.bare,Bool.and_eq_true] at h;exact⟨iha h.1,ihr h.2⟩
 | tup l ih=>exact ih h
 | fn f a b iha ihb=>simp only[AV.bare,Bool.and_eq_true] at h;exact⟨iha h.1,ihb h.2⟩
 | _=>trivial
abbrev HH(f:Nat)(ps:List AV)(r:AV):Prop:=Holds Tryz.prog KA f (.list ps) r
theorem ab {f : Nat} {fn : Func} {c : Code} {l : List AV} {r : AV} {N : Nat} {rs : Array ResultVar} (hf : Tryz.prog.funcs[f]? = some fn) (hN : fn.ntmps = N) (hrs : fn.results = rs) (hb : fn.body = some c) (hname : fn.name ≠ "runtime.NumGoroutine")
  (hl:l.length<=N) (ho:(l.all AV.bare)=true) (hr:(r.plain && r.still && r.flat)=true) (h:dI Tryz.prog KA tb N c (DE tb N rs.toList r) (gU l)):HH f l r:=by
 subst hN hrs
 simp only[Bool.and_eq_true] at hr
 exact wH qA iD mixed hf hb hname hl (λ a ha=>AV.bare_ok (List.all_eq_true.1 ho a ha) _ _) hr.1.1 hr.1.2 hr.2 h
theorem lp{α:Type}(I:α->St)(μ:α->Nat)(x0:α){c:Code}{Q:Exit->St->Prop}{st:St}{N:Nat}(h0:Le KA N st (I x0))(hr:∀x,dI Tryz.prog KA tb N c (JP KA N I μ x Q) (I x)):zL Tryz.prog KA N c Q st:=aloop qA iD mixed I μ x0 h0 hr
theorem ty_p:ty.p=77:=rfl
theorem ty_l:ty.l=43:=rfl
theorem ty_t:ty.t=26:=rfl
def tmC(k j:Option Tk)(h:Hd)(x:Ts):Dc:=.lit (.int .i64 h.k) (.lit (.int .i64 h.n) (.lit (.int .i64 h.a) (.row k 1 43 (bN ty h.l) (.row j 5 26 (tDs ty x) .nil))))
def tmA(k j:Option Tk)(t:Tm):AV:=.agg (tmC k j t.h t.x)
def tsA(k:Option Tk)(t:Ts):AV:=.c (.row k 5 26 (tDs ty t) .nil)
def iA(n:Int):AV:=.v (.int .i64 n)
abbrev tmO(t:Tm):AV:=tmA (some (0,0)) (some (0,1)) t
abbrev tmL(t:Tm):AV:=tmA none none t
theorem kZ{F:Mem}{w:World}{t:Tm}{v:Value}(hF:∀b o v,F b o=some v->U w b o=some v)(h:RepV (bE F w) (tmL t) [v]):RM ty w v t.h t.x:=by
 obtain⟨ys,e,h⟩:=h
 obtain⟨-,_,rfl,-,_,rfl,-,_,rfl,-,v1,_,rfl,h1,-,-,v2,_,rfl,h2,-,rfl⟩:=h
 cases e
 obtain⟨p,n,c,rfl,-⟩:=id h1
 obtain⟨p',n',c',rfl,-⟩:=id h2
 exact⟨p,n,c,p',n',c',rfl,h1.mono (λ b o v _ hv=>hF b o v hv) (Nat.le_refl _),h2.mono (λ b o v _ hv=>hF b o v hv) (Nat.le_refl _)⟩
theorem kY{F:Mem}{w:World}{t:Ts}{v:Value}(hF:∀b o v,F b o=some v->U w b o=some v)(h:RepV (bE F w) (tsA none t) [v]):RT ty w v t:=by
 obtain⟨-,v1,_,e,h1,-⟩:=h
 cases e
 exact h1.mono (λ b o v _ hv=>hF b o v hv) (Nat.le_refl _)
theorem cT(l:List Lv):(bN ty l).good:=by
 have hp:∀p:Lv,(bR p).good:=λ p=>by
  induction p with
  | nil=>trivial
  | cons a r ih=>exact⟨rfl,rfl,ih⟩
 induction l with
 | nil=>trivial
 | cons a r ih=>exact⟨hp a,trivial,ih⟩
theorem bQ(t:Ts):(tDs ty t).good:=by
 induction t with
 | nil=>trivial
 | cons h x r ihx ih=>exact⟨rfl,rfl,rfl,cT _,trivial,ihx,trivial,ih⟩
theorem Vs.res{F:Mem}{w w':World}{fp:Tk->List Nat}{base:Nat}(hbs:w.heap.size<=base){x:Ds}{xs:List Value}{S:List Nat}(h:Own w' base x xs S):Vs (fP F w w' fp).F w'.heap.size x xs:=by
 have key:∀(x:Ds) (xs:List Value) (S:List Nat),Own w' base x xs S->Vs (fP F w w' fp).F w'.heap.size x xs:=by
  intro x
  induction x with
  | nil=>rintro xs S ⟨rfl,-⟩;rfl
  | lit v r ih=>rintro xs S ⟨ys,e,h⟩;exact⟨ys,e,ih _ _ h⟩
  | row sz e x s r ihx ihs ihr =>
   rintro xs S ⟨v,ys,zs,us,B,S1,S2,S3,e1,h1,h2,h3,h4,rfl⟩
   refine⟨v,ys,e1,?_,ihr _ _ h4⟩
   have hv:=ihx _ _ h2
   have hl:=h2.len
   have hu:=ihs _ _ h3
   have hul:=h3.len
   rcases h1 with ⟨p,rfl,h5,h6,rfl⟩|⟨g,n,cap,cur,rfl,rfl,hbg,h5,h6,h7,h8,h9,h10,h11,h12⟩
   ·obtain⟨rfl,rfl⟩:=List.append_eq_nil_iff.1 h6
    have hs:s.len=0:=by simpa using hul.symm
    refine⟨p,0,0,rfl,by omega,Nat.le_refl _,Nat.zero_le _,by omega,?_⟩
    by_cases hp:p=none
    ·exact .inl ⟨hp,rfl⟩
    ·exact .inr (.inl ⟨rfl,hs,hp⟩)
   ·have hc:∀j u,(zs++us)[j]? = some u->(fP F w w' fp).F g (0+j)=some u:=λ j u hu=>by
     show (if g<w.heap.size then F g (0+j) else U w' g (0+j))=some u
     rw[if_neg (by omega)]
     exact eH h5 h12 j u hu
    refine⟨_,n,cap,rfl,by omega,h6,h7,by rw[<-hl,<-hul,<-List.length_append];exact h11,.inr (.inr ⟨g,0,rfl,(Array.getElem?_eq_some_iff.1 h5).1,hv.at_ (λ j u hj=>hc j u ?_),hu.at_ (λ j u hj=>?_)⟩)⟩
    ·rw[List.getElem?_append_left (List.getElem?_eq_some_iff.1 hj).1];exact hj
    ·have:=hc (x.len+j) u (by rw[<-hl,List.getElem?_append_right (by omega)];simpa using hj)
     rw[<-Nat.add_assoc] at this;exact this
 exact key x xs S h
theorem kF{f:Nat}{ps:List AV}{t:Tm}(hc:qN Tryz.prog f)(h:∀(F:Mem) (w:World) (vs:List Value),(∀b o v,F b o=some v->U w b o=some v)->KA w->RepV (bE F w) (.list ps) vs->Calls Tryz.prog f vs.toArray w (MakesT t.h t.x w)):HH f ps (tmO t):=by
 refine⟨hc,rfl,λ F w vs hF hG hv=>(h F w vs hF hG hv).mono ?_⟩
 rintro e w' ⟨r,m,d,r',m',d',S,rfl,hb,ho,hn⟩
 obtain⟨_,e0,_,e1,_,e2,v1,_,z1,u1,B1,S1,S2,S3,e3,ho1,ho2,ho3,⟨v2,_,z2,u2,B2,T1,T2,T3,e4,hp1,hp2,hp3,hp4,rfl⟩,rfl⟩:=ho
 cases e0
 cases e1
 cases e2
 cases e3
 cases e4
 have hl:Own w' w.heap.size (.row 1 43 (bN ty t.h.l) .nil .nil) [.slice r m d] (B1++(S1++(S2++[]))):=⟨_,[],z1,u1,B1,S1,S2,[],rfl,ho1,ho2,ho3,⟨rfl,rfl⟩,rfl⟩
 have hx:Own w' w.heap.size (.row 5 26 (tDs ty t.x) .nil .nil) [.slice r' m' d'] (B2++(T1++(T2++[]))):=⟨_,[],z2,u2,B2,T1,T2,[],rfl,hp1,hp2,hp3,⟨rfl,rfl⟩,rfl⟩
 have hS3:T3=[]:=hp4.2
 subst hS3
 have hn':((B1++(S1++(S2++[])))++(B2++(T1++(T2++[])))).Nodup:=by simpa[List.append_assoc] using hn
 obtain⟨n1,n2,n3⟩:=List.nodup_append.1 hn'
 let fp:Tk->List Nat:=λ k=>if k=(0,0) then B1++(S1++(S2++[])) else if k=(0,1) then B2++(T1++(T2++[])) else []
 refine⟨_,fp,rfl,hb,⟨_,rfl,rfl,_,rfl,rfl,_,rfl,rfl,_,rfl,cT _,_,_,rfl,?_,?_,bQ _,_,_,rfl,?_,?_,rfl⟩,λ k b hb'=>?_,λ k k' b h1 h2=>?_⟩
 ·obtain⟨_,_,e,h1,-⟩:=Vs.res (F:=F) (fp:=fp) (Nat.le_refl _) hl
  cases e;exact h1
 ·intro j e
  cases e
  exact⟨rfl,_,hl,n1,λ b hb=>hb⟩
 ·obtain⟨_,_,e,h1,-⟩:=Vs.res (F:=F) (fp:=fp) (Nat.le_refl _) hx
  cases e;exact h1
 ·intro j e
  cases e
  exact⟨rfl,_,hx,n2,λ b hb=>hb⟩
 ·have:b∈fp k:=hb'
  simp only[fp] at this
  split at this
  ·exact hl.mem b this
  ·split at this
   ·exact hx.mem b this
   ·cases this
 ·have two:∀(x:Nat) (k:Tk),x∈fp k->(k=(0,0)/\x∈B1++(S1++(S2++[])))∨(k=(0,1)/\x∈B2++(T1++(T2++[]))):=λ x k hx=>by
   simp only[fp] at hx
   split at hx
   ·exact .inl ⟨by assumption,hx⟩
   ·split at hx
    ·exact .inr ⟨by assumption,hx⟩
    ·cases hx
  rcases two b k h1 with ⟨rfl,m1⟩|⟨rfl,m1⟩<;>rcases two b k' h2 with ⟨rfl,m2⟩|⟨rfl,m2⟩
  ·rfl
  ·exact absurd rfl (n3 b m1 b m2)
  ·exact absurd rfl (n3 b m2 b m1)
  ·rfl
theorem kD{g:Gh}{a:AV}{vs:List Value}(h:RepV g (.list [a]) vs):∃v,vs=[v]/\RepV g a [v]:=by
 obtain⟨y,ys,rfl,h1,rfl⟩:=h
 exact⟨y,rfl,h1⟩
theorem lN{g:Gh}{a b:AV}{vs:List Value}(h:RepV g (.list [a,b]) vs):∃u v,vs=[u,v]/\RepV g a [u]/\RepV g b [v]:=by
 obtain⟨y,ys,rfl,h1,z,_,rfl,h2,rfl⟩:=h
 exact⟨y,z,rfl,h1,h2⟩
theorem M6{g:Gh}{a b c:AV}{vs:List Value}(h:RepV g (.list [a,b,c]) vs):∃u v w,vs=[u,v,w]/\RepV g a [u]/\RepV g b [v]/\RepV g c [w]:=by
 obtain⟨y,ys,rfl,h1,z,_,rfl,h2,x,_,rfl,h3,rfl⟩:=h
 exact⟨y,z,x,rfl,h1,h2,h3⟩
theorem lQ{g:Gh}{n:Int}{v:Value}(h:RepV g (iA n) [v]):v=.int .i64 n:=by simpa[RepV,iA] using h
theorem bO {f : Nat} {fn : Func} (hf : Tryz.prog.funcs[f]? = some fn) (h1 : fn.name ≠ "runtime.NumGoroutine") (h2 : fn.body.isNone = false) : qN Tryz.prog f := ⟨fn, hf, h1, fun e => by rw [e] at h2; cases h2⟩
def Tm.fits(t:Tm):Prop:=t.h.fits/\t.x.fits
def Tm.size(t:Tm):Nat:=aH t.h.l+t.x.size
def Tm.lift(t:Tm)(n f:Int):Tm:=⟨t.h.lift n f 0,t.x.lift n f t.h.k 0 0⟩
theorem h60(t:Tm)(n f:Int)(hf:t.fits)(hs:t.size<=100000000):HH 60 [tmL t,iA n,iA f] (tmO (t.lift n f)) :=
 kF (bO Tryz.func60 (by decide) rfl) λ F w vs hF hG hv=>by
  obtain⟨u,v,z,rfl,h1,h2,h3⟩:=M6 hv
  rw[lQ h2,lQ h3]
  exact yS t.h t.x u n f w (kZ hF h1) hf.1 hf.2 (Nat.le_trans hs (by decide)) hG
theorem Tm.lift0{t:Tm}(h:t.fits):t.lift 0 0=t:=by
 obtain⟨a,b⟩:=t
 show Tm.mk _ _=Tm.mk _ _
 rw[Hd.lift_zero h.1,Ts.lift_zero h.2]
theorem h60'(t:Tm)(hf:t.fits)(hs:t.size<=100000000):HH 60 [tmL t,iA 0,iA 0] (tmO t):=by
 have:=h60 t 0 0 hf hs
 rwa [Tm.lift0 hf] at this
theorem h12(t:Ts)(hf:t.fits)(hs:t.size<=100000000):HH 12 [tsA none t] (tmO (tup t)) :=
 kF (bO Tryz.func12 (by decide) rfl) λ F w vs hF hG hv=>by
  obtain⟨u,rfl,h1⟩:=kD hv
  exact tup_any t u w (kY hF h1) hf hs hG
theorem h13(t:Ts)(hf:t.fits)(hs:t.size<=100000000):HH 13 [tsA none t] (tmO (sG t)) :=
 kF (bO Tryz.func13 (by decide) rfl) λ F w vs hF hG hv=>by
  obtain⟨u,rfl,h1⟩:=kD hv
  exact IZ t u w (kY hF h1) hf hs hG
end
section
open Go.RowKit
def xU(q:Int×Int):Prop:=inW q.1/\inW q.2
theorem IX:∀ {ys:List ((Int×Int)×Ds×Nat)},(∀y∈ys,y.2.1=.lit (.int .i64 y.1.1) (.lit (.int .i64 y.1.2) .nil)/\xU y.1/\y.2.2=3) ->
  lE (ys.map λ y=>y.2.1)=bR (ys.map (·.1))/\(∀q∈ys.map (·.1),xU q)/\(ys.map λ y=>y.2.2).sum=3*(ys.map (·.1)).length
 | [],_=>⟨rfl,λ q hq=>by simp at hq,rfl⟩
 | y :: ys,h=>by
  obtain⟨h1,h2,h3⟩:=IX (ys:=ys) λ z hz=>h z (List.mem_cons.2 (.inr hz))
  obtain⟨k1,k2,k3⟩:=h y (List.mem_cons.2 (.inl rfl))
  refine⟨?_,λ q hq=>?_,?_⟩
  ·simp only[List.map_cons,lE,bR,k1,h1,Ds.app]
  ·rcases List.mem_cons.1 hq with rfl|hq
   ·exact k2
   ·exact h2 q hq
  ·simp only[List.map_cons,List.sum_cons,List.length_cons,k3,h3] at *
   omega
theorem JO:∀ {ys:List (Lv×Ds×Nat)},(∀y∈ys,y.2.1=.row 2 77 (bR y.1) .nil .nil/\(∀q∈y.1,xU q)/\1+y.1.length<=y.2.2) ->
  lE (ys.map λ y=>y.2.1)=bN ty (ys.map (·.1))/\(∀p∈ys.map (·.1),∀q∈p,xU q)/\aH (ys.map (·.1))<=(ys.map λ y=>y.2.2).sum
 | [],_=>⟨rfl,λ q hq=>by simp at hq,Nat.zero_le _⟩
 | y :: ys,h=>by
  obtain⟨h1,h2,h3⟩:=JO (ys:=ys) λ z hz=>h z (List.mem_cons.2 (.inr hz))
  obtain⟨k1,k2,k3⟩:=h y (List.mem_cons.2 (.inl rfl))
  refine⟨?_,λ q hq=>?_,?_⟩
  ·simp only[List.map_cons,lE,bN,k1,h1,Ds.app];rfl
  ·rcases List.mem_cons.1 hq with rfl|hq
   ·exact k2
   ·exact h2 q hq
  ·simp only[List.map_cons,List.sum_cons,aH] at *
   omega
theorem FY:∀ {ys:List ((Hd×Ts)×Ds×Nat)},(∀y∈ys,y.2.1=tDs ty (.cons y.1.1 y.1.2 .nil)/\(y.1.1.fits/\y.1.2.fits)/\1+aH y.1.1.l+y.1.2.size<=y.2.2) ->
  ∃t:Ts,lE (ys.map λ y=>y.2.1)=tDs ty t/\t.fits/\t.size<=(ys.map λ y=>y.2.2).sum
 | [],_=>⟨.nil,rfl,trivial,Nat.zero_le _⟩
 | y :: ys,h=>by
  obtain⟨t,h1,h2,h3⟩:=FY (ys:=ys) λ z hz=>h z (List.mem_cons.2 (.inr hz))
  obtain⟨k1,k2,k3⟩:=h y (List.mem_cons.2 (.inl rfl))
  refine⟨.cons y.1.1 y.1.2 t,?_,⟨k2.1,k2.2,h2⟩,?_⟩
  ·simp only[List.map_cons,lE,tDs,k1,h1,Ds.app]
  ·simp only[List.map_cons,List.sum_cons,Ts.size] at *
   omega
section
variable {H:Type} {enc:TypeId×Value->H} {W:World} {held:Bool}
theorem fC{ps qs:List MemPlace}(h:gS W (ps++qs)):gS W ps/\gS W qs:=⟨fun b o hp=>h b o (List.mem_append.2 (.inl hp)),λ b o hp=>h b o (List.mem_append.2 (.inr hp))⟩
theorem W4{n:Nat}{cs:List Value}{x:DataW H×List MemPlace}(h:DataW.trod enc Tryz.prog W 0 (λ _=>true) held n 41 cs=some x)(hz:gS W x.2) :
  ∃v,cs=[v]/\∃p:Lv,(∀q∈p,xU q)/\1+p.length<=Rows.uptoBulk x.1/\Rd (U W) W.heap.size v 2 (bR p) .nil:=by
 obtain⟨v,hv,ys,h1,h2,h3⟩:=gE (α:=Int×Int) Tryz.underlying41 Q0 (by decide) (λ y d s=>d=.lit (.int .i64 y.1) (.lit (.int .i64 y.2) .nil)/\xU y/\s=3) h hz (λ n' cs' x' _ h' _=>by
  obtain⟨a,b,rfl,hb,ga,gb⟩:=MP h'
  exact⟨(a,b),_,3,⟨rfl,⟨ga,gb⟩,rfl⟩,by omega,_,rfl,_,rfl,rfl⟩)
 obtain⟨e1,e2,e3⟩:=IX h1
 refine⟨v,hv,ys.map (·.1),e2,by omega,?_⟩
 rw[<-e1];exact h3
theorem vL{n:Nat}{cs:List Value}{x:DataW H×List MemPlace}(h:DataW.trod enc Tryz.prog W 0 (λ _=>true) held n 43 cs=some x)(hz:gS W x.2) :
  ∃v,cs=[v]/\∃p:Lv,(∀q∈p,xU q)/\1+p.length<=Rows.uptoBulk x.1/\Rd (U W) W.heap.size v 2 (bR p) .nil:=by
 obtain⟨xs,n',rfl,rfl,hl,hxs,hf⟩:=DataW.trod_struct Tryz.underlying43 h
 rw[wW] at hl
 obtain⟨c0,rfl⟩:=one_of hl
 obtain⟨x0,rfl⟩:=one_of hxs
 have h0:DataW.trod enc Tryz.prog W 0 (λ _=>true) held n' 41 (([c0].drop 0).take (Tryz.prog.cellsOf 41))=some x0:=hf 0 _ rfl
 rw[LO] at h0
 obtain⟨v,hv,p,h1,h2,h3⟩:=W4 h0 (by simpa using hz)
 cases hv
 exact⟨_,rfl,p,h1,by simp[Rows.uptoBulk,Rows.uptoBulkAll];omega,h3⟩
theorem L0{n:Nat}{cs:List Value}{x:DataW H×List MemPlace}(h:DataW.trod enc Tryz.prog W 0 (λ _=>true) held n 24 cs=some x)(hz:gS W x.2) :
  ∃v,cs=[v]/\∃l:List Lv,(∀p∈l,∀q∈p,xU q)/\1+aH l<=Rows.uptoBulk x.1/\RL ty W v l:=by
 obtain⟨v,hv,ys,h1,h2,h3⟩:=gE (α:=Lv) Tryz.underlying24 wW (by decide) (λ y d s=>d=.row 2 77 (bR y) .nil .nil/\(∀q∈y,xU q)/\1+y.length<=s) h hz (λ n' cs' x' _ h' hz'=>by
  obtain⟨v,rfl,p,g1,g2,g3⟩:=vL h' hz'
  exact⟨p,_,_,⟨rfl,g1,g2⟩,Nat.le_refl _,v,[],rfl,g3,rfl⟩)
 obtain⟨e1,e2,e3⟩:=JO h1
 refine⟨v,hv,ys.map (·.1),e2,by omega,?_⟩
 show Rd _ _ _ _ _ _
 rw[<-e1];exact h3
theorem gW{n:Nat}{cs:List Value}{x:DataW H×List MemPlace}(h:DataW.trod enc Tryz.prog W 0 (λ _=>true) held n 26 cs=some x)(hz:gS W x.2)
  (kids:∀(n':Nat) (cs:List Value) (x:DataW H×List MemPlace),n'<n->DataW.trod enc Tryz.prog W 0 (λ _=>true) held n' 22 cs=some x->gS W x.2->∃v,cs=[v]/\∃t:Ts,t.fits/\1+t.size<=Rows.uptoBulk x.1/\RT ty W v t) :
  ∃k n a v w,cs=[.int .i64 k,.int .i64 n,.int .i64 a,v,w]/\∃(l:List Lv) (t:Ts),Hd.fits ⟨k,n,a,l⟩/\t.fits/\1+aH l+t.size<=Rows.uptoBulk x.1/\RL ty W v l/\RT ty W w t:=by
 obtain⟨xs,n',rfl,rfl,hl,hxs,hf⟩:=DataW.trod_struct Tryz.underlying26 h
 rw[oL] at hl
 obtain⟨c0,c1,c2,c3,c4,rfl⟩:=mP hl
 obtain⟨x0,x1,x2,x3,x4,rfl⟩:=mP hxs
 have h0:DataW.trod enc Tryz.prog W 0 (λ _=>true) held n' 23 (([c0,c1,c2,c3,c4].drop 0).take (Tryz.prog.cellsOf 23))=some x0:=hf 0 _ rfl
 have h1:DataW.trod enc Tryz.prog W 0 (λ _=>true) held n' 3 (([c0,c1,c2,c3,c4].drop 1).take (Tryz.prog.cellsOf 3))=some x1:=hf 1 _ rfl
 have h2:DataW.trod enc Tryz.prog W 0 (λ _=>true) held n' 3 (([c0,c1,c2,c3,c4].drop 2).take (Tryz.prog.cellsOf 3))=some x2:=hf 2 _ rfl
 have h3:DataW.trod enc Tryz.prog W 0 (λ _=>true) held n' 24 (([c0,c1,c2,c3,c4].drop 3).take (Tryz.prog.cellsOf 24))=some x3:=hf 3 _ rfl
 have h4:DataW.trod enc Tryz.prog W 0 (λ _=>true) held n' 22 (([c0,c1,c2,c3,c4].drop 4).take (Tryz.prog.cellsOf 22))=some x4:=hf 4 _ rfl
 rw[LR] at h0
 rw[mR] at h1 h2
 rw[LQ] at h3
 rw[oM] at h4
 obtain⟨k,e0,rfl,g0⟩:=open_int Tryz.underlying23 h0
 obtain⟨n,e1,rfl,g1⟩:=open_int Tryz.underlying3 h1
 obtain⟨a,e2,rfl,g2⟩:=open_int Tryz.underlying3 h2
 have hz':gS W (x3.2++x4.2):=by simpa using hz
 obtain⟨z3,z4⟩:=fC hz'
 obtain⟨v,e3,l,f3,s3,r3⟩:=L0 h3 z3
 obtain⟨w,e4,t,f4,s4,r4⟩:=kids n' _ _ (Nat.lt_succ_self _) h4 z4
 cases e0
 cases e1
 cases e2
 cases e3
 cases e4
 refine⟨k,n,a,_,_,rfl,l,t,⟨g0,g1,g2,f3⟩,f4,?_,r3,r4⟩
 simp[Rows.uptoBulk,Rows.uptoBulkAll]
 omega
theorem eU:∀(n:Nat) (cs:List Value) (x:DataW H×List MemPlace),DataW.trod enc Tryz.prog W 0 (λ _=>true) held n 22 cs=some x->gS W x.2->∃v,cs=[v]/\∃t:Ts,t.fits/\1+t.size<=Rows.uptoBulk x.1/\RT ty W v t:=by
 intro n
 induction n using Nat.strongRecOn with
 | _ n ih =>
  intro cs x h hz
  obtain⟨v,hv,ys,h1,h2,h3⟩:=gE (α:=Hd×Ts) Tryz.underlying22 oL (by decide) (λ y d s=>d=tDs ty (.cons y.1 y.2 .nil)/\(y.1.fits/\y.2.fits)/\1+aH y.1.l+y.2.size<=s) h hz (λ n' cs' x' hlt h' hz'=>by
   obtain⟨k,n,a,v,w,rfl,l,t,g1,g2,g3,g4,g5⟩:=gW h' hz' λ n2 cs2 x2 hlt2 h2 hz2=>ih n2 (Nat.lt_trans hlt2 hlt) cs2 x2 h2 hz2
   exact⟨(⟨k,n,a,l⟩,t),_,_,⟨rfl,⟨g1,g2⟩,g3⟩,Nat.le_refl _,_,rfl,_,rfl,_,rfl,v,_,rfl,g4,w,_,rfl,g5,rfl⟩)
  obtain⟨t,e1,e2,e3⟩:=FY h1
  refine⟨v,hv,t,e2,by omega,?_⟩
  show Rd _ _ _ _ _ _
  rw[<-e1];exact h3
end
end
section
open Go.RowKit
theorem zF:Tryz.prog.cellsOf 265=5:=by kernel_rfl
theorem gTab : Tryz.prog.globalNamed "spandrel/term.kinds" = some 0 := by kernel_rfl
theorem gTabType:(Tryz.prog.globals[0]?).map (·.type)=some 266:=by kernel_rfl
theorem LU{H:Type}{enc:TypeId×Value->H}{P:Program}{w:World}{base:Nat}{sp:Nat->Bool}{held:Bool}{fuel:Nat}{t e:TypeId}{n sz:Nat}{cs:List Value}{x:DataW H×List MemPlace}
  (ht:P.underlying t=some (.array n e)) (hce:P.cellsOf e=sz) (h:DataW.trod enc P w base sp held fuel t cs=some x) :
  ∃xs:List (DataW H×List MemPlace),x.1=.agg (xs.map (·.1))/\∀i,i<n->∃y fuel',xs[i]? = some y/\DataW.trod enc P w base sp held fuel' e ((cs.drop (i*sz)).take sz)=some y:=by
 cases fuel with
 | zero=>simp[DataW.trod] at h
 | succ fuel =>
  simp only[DataW.trod,ht,hce] at h
  split at h
  ·obtain⟨xs,hm,rfl⟩:=Option.map_eq_some_iff.1 h
   refine⟨xs,rfl,λ i hi=>?_⟩
   obtain⟨b,hb,hf⟩:=Lib.mapM_at hm i i (by simp[hi])
   exact⟨b,fuel,hb,hf⟩
  ·cases h
def eE(a b:Bool)(x y z:Int):DataW Unit:=.agg [.lit (.bool a),.lit (.bool b),.lit (.int .i64 x),.lit (.int .i64 y),.lit (.int .i64 z)]
theorem DD{w:World}{fuel:Nat}{cs:List Value}{x:DataW Unit×List MemPlace}{a b:Bool}{i j k:Int}(h:DataW.trod (λ _=>()) Tryz.prog w 0 (λ _=>true) false fuel 265 cs=some x)(hx:x.1=eE a b i j k):cs[4]? = some (.int .i64 k):=by
 obtain⟨xs,n',rfl,rfl,hl,hxs,hf⟩:=DataW.trod_struct Tryz.underlying265 h
 rw[zF] at hl
 obtain⟨c0,c1,c2,c3,c4,rfl⟩:=mP hl
 obtain⟨x0,x1,x2,x3,x4,rfl⟩:=mP hxs
 have h4:DataW.trod (λ _=>()) Tryz.prog w 0 (λ _=>true) false n' 3 (([c0,c1,c2,c3,c4].drop 4).take (Tryz.prog.cellsOf 3))=some x4:=hf 4 _ rfl
 rw[mR] at h4
 obtain⟨k',e0,rfl,-⟩:=DataW.trod_int Tryz.underlying3 h4
 cases e0
 simp[eE] at hx
 simp[hx]
theorem ka_of{W:World}(h:laidMetH Tryz.prog Rows.codesTuplesUptoRow.laid W):KA W:=by
 have h' : laidMet Tryz.prog [("spandrel/term.kinds", Rows.laid_spandrel_term_kinds)] W := h
 obtain⟨ps,⟨g',t',cs,fuel,p,q,hg',ht',hvar,hd,_,_⟩,_⟩:=h'
 obtain rfl:=Option.some.inj (gTab.symm.trans hg')
 obtain rfl:=Option.some.inj (gTabType.symm.trans ht')
 obtain⟨xs,hx,hat⟩:=LU Tryz.underlying266 zF hd
 have hcell:∀k:Nat,k<25->cs[k*5+4]? = some (.int .i64 (bounds.getD k 0)):=by
  have hxs:xs.map (·.1)=[eE false false 0 0 0,eE true false 0 0 (-1),eE false false 1 0 (-1),eE true false (-1) 0 (-1),eE false false 0 2 1,eE false false 0 2 1,eE false false 0 2 (-1),eE false false 0 3 2,eE true true (-1) 0 (-1),eE true true (-1) 0 (-1),eE true true (-1) 0 (-1),eE false true 0 0 (-1),eE false false 0 2 1,eE false false 0 2 (-1),eE false false 0 1 (-1),eE false false 0 1 (-1),eE false false 0 2 1,eE false false 0 2 (-1),eE false false 0 5 1,eE false false 0 3 (-1),eE false false 0 0 (-1),eE false false 0 6 (-1),eE true false 0 0 (-1),eE true true 0 0 (-1),eE false true 0 2 (-1)]:=by
   have:Rows.laid_spandrel_term_kinds=DataW.agg (xs.map (·.1)):=hx
   unfold Rows.laid_spandrel_term_kinds at this
   exact (DataW.agg.inj this).symm
  have one:∀(k:Nat) (a b:Bool) (i j z:Int),k<25->(xs.map (·.1))[k]? = some (eE a b i j z)->cs[k*5+4]? = some (.int .i64 z):=λ k a b i j z hk he=>by
   obtain⟨y,fuel',h1,h2⟩:=hat k hk
   simp only[List.getElem?_map,h1,Option.map_some,Option.some.injEq] at he
   have:=DD h2 he
   rw[List.getElem?_take,if_pos (by decide),List.getElem?_drop,Array.getElem?_toList] at this
   exact this
  intro k hk
  rw[hxs] at one
  have hall:k=0∨k=1∨k=2∨k=3∨k=4∨k=5∨k=6∨k=7∨k=8∨k=9∨k=10∨k=11∨k=12∨k=13∨k=14∨k=15∨k=16∨k=17∨k=18∨k=19∨k=20∨k=21∨k=22∨k=23∨k=24:=by omega
  rcases hall with rfl|rfl|rfl|rfl|rfl|rfl|rfl|rfl|rfl|rfl|rfl|rfl|rfl|rfl|rfl|rfl|rfl|rfl|rfl|rfl|rfl|rfl|rfl|rfl|rfl<;>exact one _ _ _ _ _ _ hk rfl
 have hc:∀k:Nat,k<25->W.cell? ⟨0,k*5+4,none⟩=some (.int .i64 (bounds.getD k 0)):=λ k hk=>by
  rw[World.var?_cell gTab hvar];exact hcell k hk
 exact⟨World.block_lt_of_cell? W ⟨0,0*5+4,none⟩ (hc 0 (by decide)),hc⟩
end
section
open Go.ChangeShapes Go.WideShapes Go.ChangeAt Go.RowKit
theorem JA:ownKnob Tryz.prog.godebug=none:=by kernel_rfl
section
variable {H:Type} {enc:TypeId×Value->H} {P:Program}
theorem JS{f:Func}{s:ChangeSpec}{oE handsOn again:Bool}{W W':World}{args:Array Value}{v:Value}{ds gs:List (DataW H)}{before:List MemPlace}
  (hW:DataW.Whole enc P f.params.toList s.vars false W args.toList ds gs before) (hb:Below W.heap.size W W')
  (hres:∀(b:Nat) (sp:Nat->Bool) (hd:Bool),DataW.TrodAll enc P W' b sp hd f.resultTypes.toList (v.resultList f.resultTypes.size) (s.fn H (ds++gs)).results [])
  (hargs:∀sp:Nat->Bool,(∀p∈before,sp p.block=true)->DataW.TrodAll enc P W' 0 sp true f.params.toList args.toList (s.fn H (ds++gs)).args before)
  (hvars:∀sp:Nat->Bool,DataW.TrodVars enc P W' sp s.vars (s.fn H (ds++gs)).vars [])
  (hok:∀(j:Nat) (t:TypeId) (r:Value),f.resultTypes[j]? = some t->(v.resultList f.resultTypes.size)[j]? = some r->Value.okWide P W' .any 0 t r) :
  s.post enc P f false oE handsOn again W args v W':=by
 have hlt:∀p∈before,p.block<W.heap.size:=λ p hp=>hW.lt p hp
 have hz:=hW
 obtain⟨_,_,_,_,_,hz,_⟩:=hz
 refine⟨ds,gs,before,[],before,[],hW,hres _ _ _,hargs (λ b=>decide (b<W.heap.size)) (λ p hp=>by simpa using hlt p hp),hvars _,World.keptBut_mono (λ p hp=>⟨hp,?_⟩) (hb.frame (·∈before)),λ _=>⟨hok,_,_,[]++before++[],⟨[]++before,[],trodAll_append (hargs _ (λ _ _=>rfl)) (hres _ _ _),hvars _,rfl,λ b off hp=>?_,λ h=>(by cases h)⟩,λ p hp _=>by simpa using hp⟩⟩
 ·simpa using hp
 ·have hin:MemPlace.cell b off∈before:=by simpa using hp
  rw[hb.frozen (hlt _ hin)]
  exact hz b off hin
end
def relaid(h:Array Obj)(b:Nat)(vs:Array Value):Array Obj:=h.modify b fun
 | .cells _ t frozen=>.cells vs t frozen
 | o=>o
def cQ(a b:Bool)(x y z:Int):List Value:=[.bool a,.bool b,.int .i64 x,.int .i64 y,.int .i64 z]
def EC:Array Value:=(cQ false false 0 0 0++cQ true false 0 0 (-1)++cQ false false 1 0 (-1)++cQ true false (-1) 0 (-1)++cQ false false 0 2 1++cQ false false 0 2 1++cQ false false 0 2 (-1)++cQ false false 0 3 2++cQ true true (-1) 0 (-1)++cQ true true (-1) 0 (-1)++cQ true true (-1) 0 (-1)++cQ false true 0 0 (-1)++cQ false false 0 2 1++cQ false false 0 2 (-1)++cQ false false 0 1 (-1)++cQ false false 0 1 (-1)++cQ false false 0 2 1++cQ false false 0 2 (-1)++cQ false false 0 5 1++cQ false false 0 3 (-1)++cQ false false 0 0 (-1)++cQ false false 0 6 (-1)++cQ true false 0 0 (-1)++cQ true true 0 0 (-1)++cQ false true 0 2 (-1)).toArray
noncomputable def sQ(os:Os):World :=
 { World.holding Tryz.prog os ⟨#[],#[],[]⟩ with heap:=relaid (World.holding Tryz.prog os ⟨#[],#[],[]⟩).heap 0 EC }
set_option maxRecDepth 100000
theorem BR:laidOutB Tryz.prog=true:=by kernel_rfl
section
variable {H:Type} {enc:TypeId×Value->H} {W W':World}
end
end
section
open Go.RowKit
def isNil:Value->Bool
 | .slice none 0 0=>true
 | _=>false
def Rb{α:Type}(p:Option (Bool×α))(q:Option (Prop×α)):Prop:=∀r,p=some (true,r)->∃c,q=some (c,r)/\c
theorem Rb.nil{α:Type}{q:Option (Prop×α)}:Rb none q:=λ _ h=>by cases h
theorem Rb.one{α:Type}{b:Bool}{c:Prop}{r:α}(h:b=true->c):Rb (some (b,r)) (some (c,r)):=λ r' e=>by
 cases e
 exact⟨c,rfl,h rfl⟩
theorem Rb.map{α β:Type}{p:Option (Bool×α)}{q:Option (Prop×α)}{f:Bool->Bool}{g:Prop->Prop}{u:α->β}(h:Rb p q)(hf:∀b,f b=true->b=true)(hg:∀b c,f b=true->c->g c):Rb (p.map λ r=>(f r.1,u r.2)) (q.map λ r=>(g r.1,u r.2)):=λ r e=>by
 obtain⟨⟨b,x⟩,e1,e2⟩:=Option.map_eq_some_iff.1 e
 cases e2':f b
 ·simp[e2'] at e2
 ·simp only[Prod.mk.injEq] at e2
  obtain⟨-,rfl⟩:=e2
  have:=hf b e2'
  subst this
  obtain⟨c,h1,h2⟩:=h x e1
  exact⟨g c,by rw[h1];rfl,hg true c e2' h2⟩
def asB(tb:TB)(T:Nat):AV->Option (Bool×Dc)
 | .v x=>match tb T with
  | some { sh:=.sl e,.. }=>match tb e with
   | some y=>match x with
    | .slice none 0 0=>some (true,.nilr y.size e .nil)
    | .slice (some a) n c=>some (true,.lit (.slice (some a) n c) .nil)
    | _=>none
   | none=>none
  | _=>some (x.oneCell',.lit x .nil)
 | .c d=>some (true,d)
 | .agg d=>some (true,d)
 | _=>none
theorem asB_ok{tb:TB}{T:Nat}{a:AV}:Rb (asB tb T a) (asC tb T a):=by
 cases a<;>simp only[asB,asC]
 case c=>exact .one λ _=>trivial
 case agg=>exact .one λ _=>trivial
 case v =>
  cases hT:tb T with
  | none=>exact .one id
  | some y =>
   obtain⟨sh,_,_,_,_⟩:=y
   cases sh
   case sl e =>
    simp only
    cases tb e with
    | none=>exact .nil
    | some y=>simp only;split<;>first | exact .one λ _=>trivial | exact .nil
   all_goals exact .one id
 all_goals exact .nil
def BY(tb:TB)(S:Nat)(ρ:Operand->AV):List (Nat×Operand)->Dc->Option (Bool×Dc)
 | [],d=>some (true,d)
 | (f,x) :: ps,d=>match jO tb S f with
  | some (o,T,y)=>match asB tb T (ρ x) with
   | some (c,p)=>match d.over o p with
    | some d'=>(BY tb S ρ ps d').map λ r=>((c && p.ln == y.size) && r.1,r.2)
    | none=>none
   | none=>none
  | none=>none
theorem fillB_ok{tb:TB}{S:Nat}{ρ:Operand->AV}:∀ {ps:List (Nat×Operand)} {d:Dc},Rb (BY tb S ρ ps d) (oH tb S ρ ps d)
 | [],d=>.one λ _=>trivial
 | (f,x) :: ps,d=>by
  intro r h
  simp only[BY] at h
  split at h
  ·rename_i o T y hf
   split at h
   ·rename_i c p hp
    split at h
    ·rename_i d' hd
     obtain⟨⟨b,r'⟩,e1,e2⟩:=Option.map_eq_some_iff.1 h
     simp only[Prod.mk.injEq,Bool.and_eq_true,beq_iff_eq] at e2
     obtain⟨⟨⟨rfl,h1⟩,rfl⟩,rfl⟩:=e2
     obtain⟨c1,h2,h3⟩:=asB_ok _ hp
     obtain⟨c2,h4,h5⟩:=fillB_ok _ e1
     refine⟨_,by simp only[oH,hf,h2,hd,h4,Option.map_some];rfl,?_⟩
     exact⟨⟨h3,h1⟩,h5⟩
    ·cases h
   ·cases h
  ·cases h
def rowB(tb:TB)(e sz:Nat)(ρ:Operand->AV):Nat->List (Nat×Operand)->Option (Bool×Dc)
 | _,[]=>some (true,.nil)
 | i,(j,x) :: ps=>if i=j then match asB tb e (ρ x) with
   | some (c,p)=>(rowB tb e sz ρ (i+1) ps).map λ r=>((c && p.ln == sz) && r.1,p.app r.2)
   | none=>none
  else none
theorem rowB_ok{tb:TB}{e sz:Nat}{ρ:Operand->AV}:∀ {ps:List (Nat×Operand)} {i:Nat},Rb (rowB tb e sz ρ i ps) (tY tb e sz ρ i ps)
 | [],i=>.one λ _=>trivial
 | (j,x) :: ps,i=>by
  intro r h
  simp only[rowB] at h
  split at h
  ·rename_i hij
   split at h
   ·rename_i c p hp
    obtain⟨⟨b,r'⟩,e1,e2⟩:=Option.map_eq_some_iff.1 h
    simp only[Prod.mk.injEq,Bool.and_eq_true,beq_iff_eq] at e2
    obtain⟨⟨⟨rfl,h1⟩,rfl⟩,rfl⟩:=e2
    obtain⟨c1,h2,h3⟩:=asB_ok _ hp
    obtain⟨c2,h4,h5⟩:=rowB_ok _ e1
    refine⟨_,by simp only[tY,if_pos hij,h2,h4,Option.map_some];rfl,?_⟩
    exact⟨⟨h3,h1⟩,h5⟩
   ·cases h
  ·cases h
def loB:Option AV->Option Nat->Option (Bool×Nat)
 | none,some d=>some (true,d)
 | some (.v (.int _ n)),_=>some (decide (0<=n),n.toNat)
 | _,_=>none
theorem X4{a:Option AV}{d:Option Nat}:Rb (loB a d) (lo? a d):=by
 unfold loB lo?
 split
 ·exact .one λ _=>trivial
 ·exact .one λ h=>by simpa using h
 ·exact .nil
def sliceB(tb:TB)(ρ:Operand->AV)(T:Nat)(x:Operand)(lo hi mx:Option Operand):Option (Bool×Out) :=
 match mx with
 | some _=>none
 | none=>match tb T with
  | some { sh:=.sl e,.. }=>match tb e with
   | some y=>match lo,(ρ x).room with
    | none,some (sz,d,s)=>match loB (hi.map ρ) (some (d.len / sz)) with
     | some (c,h)=>some (c && (sz == y.size && (decide (0<sz) && decide (h*sz<=d.len+s.len))),{ av:=.c (.seg none (.row sz e ((d.app s).tk (h*sz)) ((d.app s).dp (h*sz)) .nil) .nil) })
     | none=>none
    | lo,_=>match (ρ x).cont with
     | some (sz,d)=>match loB (lo.map ρ) (some 0),loB (hi.map ρ) (some (d.len / sz)) with
      | some (c1,l),some (c2,h)=>some (c1 && (c2 && (sz == y.size && (decide (0<sz) && (decide (l<=h) && decide (h*sz<=d.len))))),{ av:=.c (.row none sz e ((d.dp (l*sz)).tk ((h-l)*sz)) .nil) })
      | _,_=>none
     | none=>none
   | none=>none
  | _=>none
theorem DB{tb:TB}{ρ:Operand->AV}{T:Nat}{x:Operand}{lo hi mx:Option Operand}:Rb (sliceB tb ρ T x lo hi mx) (lG tb ρ T x lo hi mx):=by
 intro r h
 unfold sliceB at h
 split at h
 ·cases h
 ·split at h
  ·rename_i e _ _ _ _ hT
   split at h
   ·rename_i y hy
    split at h
    ·rename_i sz d s hc
     split at h
     ·rename_i c k h2
      simp only[Option.some.injEq,Prod.mk.injEq,Bool.and_eq_true,beq_iff_eq,decide_eq_true_eq] at h
      obtain⟨⟨rfl,h3⟩,rfl⟩:=h
      obtain⟨p2,h6,h7⟩:=X4 _ h2
      refine⟨_,by simp only[lG,hT,hy,hc,h6];rfl,?_⟩
      exact⟨h7,h3⟩
     ·cases h
    ·rename_i lo _ _ hno
     split at h
     ·rename_i sz d hc
      split at h
      ·rename_i c1 l c2 k h1 h2
       simp only[Option.some.injEq,Prod.mk.injEq,Bool.and_eq_true,beq_iff_eq,decide_eq_true_eq] at h
       obtain⟨⟨rfl,rfl,h3⟩,rfl⟩:=h
       obtain⟨p1,h4,h5⟩:=X4 _ h1
       obtain⟨p2,h6,h7⟩:=X4 _ h2
       have e0:lG tb ρ T x lo hi none=some (p1/\p2/\sz=y.size/\0<sz/\l<=k/\k*sz<=d.len,{ av:=.c (.row none sz e ((d.dp (l*sz)).tk ((k-l)*sz)) .nil) }):=by
        cases lo with
        | none =>
         cases hr:(ρ x).room with
         | none=>simp only[lG,hT,hy,hr,hc,h4,h6]
         | some r=>obtain⟨_,_,_⟩:=r;exact (hno _ _ _ rfl hr).elim
        | some l=>simp only[lG,hT,hy,hc,h4,h6]
       exact⟨_,e0,h5,h7,h3⟩
      ·cases h
     ·cases h
   ·cases h
  ·cases h
def Z7(tb:TB)(ρ:Operand->AV)(c:Call):Option (Bool×Out) :=
 match c.callee with
 | .builtin .len=>match c.args.toList,c.argTypes.toList with
  | [x],[T]=>match tb T with
   | some { sh:=.sl _,.. }=>match ρ x with
    | .v (.slice none 0 0)=>some (true,{ av:=.v (.int .i64 0) })
    | .v (.slice (some _) n _)=>some (true,{ av:=.v (.int .i64 n) })
    | .c d=>match d.cont with
     | some (sz,d)=>some (decide (0<sz),{ av:=.v (.int .i64 ((d.len / sz:Nat):Int)) })
     | none=>none
    | _=>none
   | _=>none
  | _,_=>none
 | .builtin .max=>match c.args.toList with
  | [x,y]=>match ρ x,ρ y with
   | .v (.int k a),.v (.int _ b)=>some (true,{ av:=.v (.int k (if b>a then b else a)) })
   | _,_=>none
  | _=>none
 | _=>none
theorem FD{tb:TB}{ρ:Operand->AV}{c:Call}:Rb (Z7 tb ρ c) (gB tb ρ c):=by
 intro r h
 unfold Z7 at h
 repeat' split at h
 all_goals first
  | cases h;done
  | skip
 ·cases h
  exact⟨_,by simp only[gB, *],trivial⟩
 ·cases h
  exact⟨_,by simp only[gB, *],trivial⟩
 ·simp only[Option.some.injEq,Prod.mk.injEq,decide_eq_true_eq] at h
  obtain⟨h1,rfl⟩:=h
  exact⟨_,by simp only[gB, *],h1⟩
 all_goals (cases h;exact⟨True,by simp[gB, *],trivial⟩)
def JC(tb:TB)(ρ:Operand->AV)(cont:Option (Nat×Dc))(nm:Nat):Op->Option (Bool×Out)
 | .move x=>some (true,{ av:=ρ x })
 | .assign x=>some (true,{ av:=ρ x })
 | .pick c a b=>match ρ c with
  | .v (.bool t)=>some (true,{ av:=if t then ρ a else ρ b })
  | _=>none
 | .alloc T=>(tb T).map λ y=>(true,{ av:=.bx nm 0,bu:=some (nm,T,y.zero) })
 | .box T x=>(asB tb T (ρ x)).map λ r=>(r.1,{ av:=.bx nm 0,bu:=some (nm,T,r.2) })
 | .build T ps=>match tb T with
  | some { sh:=.st fs,zero:=z,.. }=>(BY tb T ρ ps.toList z).map λ r=>((fs.all λ f=>(tb f.2).isSome) && r.1,{ av:=.agg r.2 })
  | _=>none
 | .buildSlice T n ps=>match tb T with
  | some { sh:=.sl e,.. }=>match tb e with
   | some y=>(rowB tb e y.size ρ 0 ps.toList).map λ r=>((decide (0<y.size) && (decide (n*y.size<=10000) && n == ps.toList.length)) && r.1,{ av:=.c (.blk nm 1 y.size e r.2 .nil),tu:=some (nm,1) })
   | none=>none
  | _=>none
 | .load T a=>match tb T with
  | some y=>match ρ a with
   | .bx _ off=>match cont with
    | some (_,d)=>match d.dp off with
     | some d1=>match d1.tk y.size with
      | some d2=>match y.sh with
       | .st _=>some (true,{ av:=.agg d2 })
       | .arr=>none
       | _=>some (y.size == 1,{ av:=d2.sing })
      | none=>none
     | none=>none
    | none=>none
   | .el x=>match x.hd y.size with
    | some d2=>match y.sh with
     | .st _=>some (true,{ av:=.agg d2 })
     | .arr=>none
     | _=>some (y.size == 1,{ av:=d2.sing })
    | none=>none
   | _=>none
  | none=>none
 | .nilCheck x=>match ρ x with
  | .bx k o=>some (true,{ av:=.bx k o })
  | .el x=>some (true,{ av:=.el x })
  | _=>none
 | .fieldAddr S x f=>match jO tb S f with
  | some (o,_,y)=>match ρ x with
   | .bx k off=>some (y.size != 0,{ av:=.bx k (off+o) })
   | .el x=>some (y.size != 0,{ av:=.el (x.dp o) })
   | _=>none
  | none=>none
 | .field S x f=>match jO tb S f with
  | some (o,_,y)=>match ρ x with
   | .agg d=>match d.dp o with
    | some d1=>match d1.tk y.size with
     | some d2=>match y.sh with
      | .st _=>some (true,{ av:=.agg d2 })
      | .arr=>none
      | _=>some (y.size == 1,{ av:=d2.sing })
     | none=>none
    | none=>none
   | _=>none
  | none=>none
 | .indexAddr T x i=>match tb T with
  | some { sh:=.sl e,.. }=>match tb e with
   | some y=>match (ρ x).cont,ρ i with
    | some (sz,d),.v (.int _ n)=>some (sz == y.size && (decide (0<sz) && (decide (0<=n) && decide ((n.toNat+1)*sz<=d.len))),{ av:=.el (d.dp (n.toNat*sz)) })
    | _,_=>none
   | none=>none
  | _=>none
 | .extract t i=>match ρ t with
  | .tup l=>(l.nth i).map λ a=>(true,{ av:=a })
  | _=>none
 | .binOp op T x y _=>match ρ x,ρ y with
  | .v a,.v b=>match abin op a b with
   | some v=>some (true,{ av:=.v v })
   | none=>match aboolV op a b,tb T with
    | some t,some { sh:=.bo,.. }=>some (true,{ av:=.v (.bool t) })
    | _,_=>none
  | _,_=>none
 | .unOp op _ x=>match op,ρ x with
  | .not,.v (.bool t)=>some (true,{ av:=.v (.bool (!t)) })
  | .neg,.v (.int k n)=>some (true,{ av:=.v (.int k (k.wrap (-n))) })
  | _,_=>none
 | .convert s t x=>match tb t with
  | some { sh:=.int k,.. }=>match ρ x with
   | .v (.int _ n)=>some ((tb s).isSome,{ av:=.v (.int k (k.wrap n)) })
   | _=>none
  | _=>none
 | .makeFunc f a c=>some (true,{ av:=.fn f (.list (a.toList.map ρ)) (.list (c.toList.map ρ)) })
 | .slice T x lo hi mx=>sliceB tb ρ T x lo hi mx
 | .call c=>Z7 tb ρ c
 | _=>none
theorem Rb.mp{α β:Type}{p:Option (Bool×α)}{q:Option (Prop×α)}{f:Bool×α->Bool×β}{g:Prop×α->Prop×β}(h:Rb p q)(hf:∀b x r,f (b,x)=(true,r)->b=true/\∀c,c->∃c',g (c,x)=(c',r)/\c'):Rb (p.map f) (q.map g):=λ r e=>by
 obtain⟨⟨b,x⟩,e1,e2⟩:=Option.map_eq_some_iff.1 e
 obtain⟨rfl,h1⟩:=hf b x r e2
 obtain⟨c,h2,h3⟩:=h x e1
 obtain⟨c',h4,h5⟩:=h1 c h3
 exact⟨c',by rw[h2,Option.map_some,h4],h5⟩
theorem outB_ok{tb:TB}{ρ:Operand->AV}{cont:Option (Nat×Dc)}{nm:Nat}{op:Op}:Rb (JC tb ρ cont nm op) (gA tb ρ cont nm op):=by
 intro r h
 cases op<;>simp only[JC] at h<;>first
  | exact DB _ h
  | exact FD _ h
  | skip
 case box=>exact asB_ok.mp (λ b x r e=>by cases e;exact⟨rfl,λ c hc=>⟨_,rfl,hc⟩⟩) _ h
 case build =>
  split at h
  ·rename_i hT
   simp only[gA,hT]
   refine fillB_ok.mp (λ b x r e=>?_) _ h
   simp only[Prod.mk.injEq,Bool.and_eq_true] at e
   obtain⟨⟨h1,rfl⟩,rfl⟩:=e
   exact⟨rfl,λ c hc=>⟨_,rfl,h1,hc⟩⟩
  ·cases h
 case buildSlice =>
  split at h
  ·rename_i hT
   split at h
   ·rename_i hy
    simp only[gA,hT,hy]
    refine rowB_ok.mp (λ b x r e=>?_) _ h
    simp only[Prod.mk.injEq,Bool.and_eq_true,decide_eq_true_eq,beq_iff_eq] at e
    obtain⟨⟨h1,rfl⟩,rfl⟩:=e
    exact⟨rfl,λ c hc=>⟨_,rfl,h1,hc⟩⟩
   ·cases h
  ·cases h
 case alloc =>
  obtain⟨x,e1,e2⟩:=Option.map_eq_some_iff.1 h
  cases e2
  exact⟨True,by simp only[gA,e1];rfl,trivial⟩
 case extract =>
  split at h
  ·rename_i hT
   obtain⟨x,e1,e2⟩:=Option.map_eq_some_iff.1 h
   cases e2
   exact⟨True,by simp only[gA,hT,e1];rfl,trivial⟩
  ·cases h
 case binOp =>
  split at h
  ·rename_i h1 h2
   split at h
   ·rename_i h3
    cases h
    exact⟨True,by simp only[gA,h1,h2,h3],trivial⟩
   ·rename_i h3
    split at h
    ·rename_i h4 h5
     cases h
     exact⟨True,by simp only[gA,h1,h2,h3,abool,h4,h5],trivial⟩
    ·cases h
  ·cases h
 case indexAddr =>
  split at h
  ·rename_i hT
   split at h
   ·rename_i hy
    split at h
    ·rename_i hc hi
     simp only[Option.some.injEq,Prod.mk.injEq,Bool.and_eq_true,decide_eq_true_eq,beq_iff_eq] at h
     obtain⟨h1,rfl⟩:=h
     exact⟨_,by simp only[gA,hT,hy,hc,hi],h1⟩
    ·cases h
   ·cases h
  ·cases h
 all_goals (repeat' split at h)<;>first
  | cases h;done
  | (simp only[Option.some.injEq,Prod.mk.injEq,Bool.and_eq_true,decide_eq_true_eq,beq_iff_eq,bne_iff_ne,ne_eq,true_and] at h;obtain⟨h1,rfl⟩:=h;exact⟨_,by simp only[gA, *];rfl,by simpa using h1⟩)
  | (cases h;exact⟨_,by simp only[gA, *];rfl,trivial⟩)
  | skip
 all_goals (simp only[Option.some.injEq,Prod.mk.injEq,beq_iff_eq] at h;obtain⟨h1,rfl⟩:=h;refine⟨_,?_,h1⟩;simp only[gA, *];split<;>simp_all)
def T8(tb:TB)(ρ:Operand->AV)(cont:Option (Nat×Dc)):Op->Option (Bool×Out)
 | .store T ad x=>match ρ ad,cont,asB tb T (ρ x),tb T with
  | .bx k off,some (T0,d),some (c,p),some y=>match d.over off p with
   | some d'=>some (c && p.ln == y.size,{ av:=.v undef,bu:=some (k,T0,d') })
   | none=>none
  | _,_,_,_=>none
 | _=>none
theorem CX{tb:TB}{ρ:Operand->AV}{cont:Option (Nat×Dc)}{op:Op}:Rb (T8 tb ρ cont op) (lF tb ρ cont op):=by
 intro r h
 unfold T8 at h
 split at h
 ·split at h
  ·rename_i h1 h2 h3
   split at h
   ·rename_i h4
    simp only[Option.some.injEq,Prod.mk.injEq,Bool.and_eq_true,beq_iff_eq] at h
    obtain⟨⟨rfl,h5⟩,rfl⟩:=h
    obtain⟨c,h6,h7⟩:=asB_ok _ h2
    refine⟨_,by simp only[lF,h1,h6,h3,h4];rfl,?_⟩
    exact⟨h7,h5⟩
   ·cases h
  ·cases h
 ·cases h
def elsB(τ:Nat->Option Nat)(sz:Nat):AV->Option (Bool×Dc)
 | .v (.slice none 0 0)=>some (true,.nil)
 | .c (.nilr _ _ .nil)=>some (true,.nil)
 | .c (.row k s _ d .nil)=>some (s == sz,.seg k d .nil)
 | .c (.blk k ver s _ x .nil)=>some (s == sz && τ k == some ver,x)
 | _=>none
theorem BZ{τ:Nat->Option Nat}{sz:Nat}{a:AV}:Rb (elsB τ sz a) (pV τ sz a):=by
 intro r h
 unfold elsB at h
 split at h
 ·cases h;exact⟨_,rfl,trivial⟩
 ·cases h;exact⟨_,rfl,trivial⟩
 ·simp only[Option.some.injEq,Prod.mk.injEq,beq_iff_eq] at h
  obtain⟨h1,rfl⟩:=h
  exact⟨_,rfl,h1⟩
 ·simp only[Option.some.injEq,Prod.mk.injEq,beq_iff_eq,Bool.and_eq_true] at h
  obtain⟨h1,rfl⟩:=h
  exact⟨_,rfl,h1⟩
 ·cases h
def appB(tb:TB)(ρ:Operand->AV)(τ:Nat->Option Nat)(nm:Nat)(c:Call):Option (Bool×Out) :=
 match c.args.toList,c.argTypes.toList with
 | [s,x],[T,T']=>match tb T with
  | some { sh:=.sl e,.. }=>match tb e with
   | some y=>match qU (ρ s),elsB τ y.size (ρ x) with
    | some (none,d),some (c,p)=>some (T == T' && (decide (0<y.size) && (c && (decide (d.ln+p.ln<=100000000000) && τ nm == none))),{ av:=.c (.blk nm 1 y.size e (d.app p) .nil),tu:=some (nm,1) })
    | some (some (k,ver,sz,e'),d),some (c,p)=>some (T == T' && (decide (0<y.size) && (c && (decide (d.ln+p.ln<=100000000000) && (τ k == some ver && (sz == y.size && (e' == e && ver != 0)))))),{ av:=.c (.blk k (ver+1) y.size e (d.app p) .nil),tu:=some (k,ver+1) })
    | _,_=>none
   | none=>none
  | _=>none
 | _,_=>none
theorem appB_ok{tb:TB}{ρ:Operand->AV}{τ:Nat->Option Nat}{nm:Nat}{c:Call}:Rb (appB tb ρ τ nm c) (tD tb ρ τ nm c):=by
 intro r h
 unfold appB at h
 split at h
 ·rename_i ha ht
  split at h
  ·rename_i hT
   split at h
   ·rename_i hy
    split at h
    ·rename_i hs he
     simp only[Option.some.injEq,Prod.mk.injEq,beq_iff_eq,Bool.and_eq_true,decide_eq_true_eq] at h
     obtain⟨⟨h1,h2,rfl,h3⟩,rfl⟩:=h
     obtain⟨c,h6,h7⟩:=BZ _ he
     refine⟨_,by simp only[tD,ha,ht,hT,hy,hs,h6];rfl,?_⟩
     exact⟨h1,h2,h7,h3⟩
    ·rename_i hs he
     simp only[Option.some.injEq,Prod.mk.injEq,beq_iff_eq,Bool.and_eq_true,decide_eq_true_eq,bne_iff_ne] at h
     obtain⟨⟨h1,h2,rfl,h3⟩,rfl⟩:=h
     obtain⟨c,h6,h7⟩:=BZ _ he
     refine⟨_,by simp only[tD,ha,ht,hT,hy,hs,h6];rfl,?_⟩
     exact⟨h1,h2,h7,h3⟩
    ·cases h
   ·cases h
  ·cases h
 ·cases h
def wK(st:St)(r:Out):Bool:=(match r.bu with
 | some (k,_)=>(st.bx k).isNone && decide (k<K0)
 | none=>true) && match r.tu with
 | some (k,_)=>(st.τ k).isNone
 | none=>true
theorem EJ{st:St}{r:Out}(h:wK st r=true):sU st r:=by
 unfold wK at h
 simp only[Bool.and_eq_true] at h
 refine⟨?_,?_⟩
 ·have:=h.1
  split at this
  ·simp only[*];simpa using this
  ·simp only[*]
 ·have:=h.2
  split at this
  ·simp only[*];simpa using this
  ·simp only[*]
def AN(tb:TB)(N:Nat)(o:Oper)(st:St):Option (Bool×Out) :=
 match o.op with
 | .store _ _ _=>T8 tb (ev st N) (dD st N o.op) o.op
 | .call cl=>match cl.callee with
  | .builtin .append=>appB tb (ev st N) st.τ (fF o) cl
  | .value _=>none
  | _=>(JC tb (ev st N) (dD st N o.op) (fF o) o.op).map λ q=>(q.1 && wK st q.2,q.2)
 | _=>(JC tb (ev st N) (dD st N o.op) (fF o) o.op).map λ q=>(q.1 && wK st q.2,q.2)
theorem GI{tb:TB}{N:Nat}{o:Oper}{st:St}:Rb (AN tb N o st) (I8 tb N o st):=by
 have calm:Rb ((JC tb (ev st N) (dD st N o.op) (fF o) o.op).map λ q=>(q.1 && wK st q.2,q.2)) ((gA tb (ev st N) (dD st N o.op) (fF o) o.op).map λ q=>(q.1/\sU st q.2,q.2)):=outB_ok.mp λ b x r e=>by
  simp only[Prod.mk.injEq,Bool.and_eq_true] at e
  obtain⟨⟨rfl,h1⟩,rfl⟩:=e
  exact⟨rfl,λ c hc=>⟨_,rfl,hc,EJ h1⟩⟩
 obtain⟨dst,op,ty,pos,after,guard⟩:=o
 unfold AN I8
 cases op<;>simp only at calm ⊢<;>try (exact calm)
 case store T ad x=>exact CX
 case call cl =>
  obtain⟨callee,xs,ts⟩:=cl
  cases callee with
  | value f=>exact .nil
  | invoke r m=>exact calm
  | builtin b =>
   cases b<;>simp only at calm ⊢<;>try (exact calm)
   case append=>exact appB_ok
end
section
open Go.RowKit
def Dc.frz:Dc->Dc
 | .nil=>.nil
 | .lit v r=>.lit v r.frz
 | .nilr sz e r=>.nilr sz e r.frz
 | .row _ sz e x r=>.row none sz e x r.frz
 | .seg _ d r=>.seg none (d.app r.ds) .nil
 | .blk _ _ sz e x r=>.row none sz e x.ds r.frz
theorem Dc.frz_imp{τ τ':Nat->Option Nat}{φ:Tk->List Tk}(d:Dc):Dc.imp τ φ τ' d.frz d:=by
 induction d with
 | nil=>rfl
 | lit v r ih=>exact⟨rfl,ih⟩
 | nilr sz e r ih=>exact ih
 | row k sz e x r ih=>exact⟨⟨rfl,rfl⟩,ih⟩
 | seg k d r _=>exact (rfl:(Dc.seg k d r).ds=_)
 | blk k ver sz e x r _ ih=>exact⟨⟨rfl,rfl⟩,ih⟩
theorem Dc.frz_noblk(d:Dc):d.frz.noblk=true:=by
 induction d with
 | seg k d r _=>rfl
 | nil=>rfl
 | lit v r ih=>exact ih
 | nilr sz e r ih=>exact ih
 | row k sz e x r ih=>exact ih
 | blk k ver sz e x r _ ih=>exact ih
theorem Dc.frz_still(d:Dc):d.frz.still=true:=by
 induction d with
 | seg k d r _=>rfl
 | nil=>rfl
 | lit v r ih=>exact ih
 | nilr sz e r ih=>exact ih
 | row k sz e x r ih=>exact ih
 | blk k ver sz e x r _ ih=>exact ih
theorem Dc.frz_ok{τ:Nat->Option Nat}(d:Dc):d.frz.ok τ:=by
 induction d with
 | seg k d r _=>trivial
 | nil=>trivial
 | lit v r ih=>exact ih
 | nilr sz e r ih=>exact ih
 | row k sz e x r ih=>exact ih
 | blk k ver sz e x r _ ih=>exact ih
def Dc.lend:Dc->Dc
 | .nil=>.nil
 | .lit v r=>.lit v r.lend
 | .nilr sz e r=>.row none sz e .nil r.lend
 | .row _ sz e x r=>.row none sz e x r.lend
 | .seg _ d r=>.seg none d r.lend
 | .blk _ _ sz e x r=>.row none sz e x.ds r.lend
theorem Dc.lend_lent(d:Dc):d.lend.lent=true:=by
 induction d with
 | nil=>rfl
 | lit v r ih=>exact ih
 | nilr sz e r ih=>exact ih
 | row k sz e x r ih=>exact ih
 | seg k d r ih=>exact ih
 | blk k ver sz e x r _ ih=>exact ih
theorem Dc.lend_ds(d:Dc):d.ds=d.lend.ds:=by
 induction d with
 | nil=>rfl
 | lit v r ih=>simp[Dc.ds,Dc.lend,<-ih]
 | nilr sz e r ih=>simp[Dc.ds,Dc.lend,<-ih]
 | row k sz e x r ih=>simp[Dc.ds,Dc.lend,<-ih]
 | seg k d r ih=>simp[Dc.ds,Dc.lend,<-ih]
 | blk k ver sz e x r _ ih=>simp[Dc.ds,Dc.lend,<-ih]
def AV.frz:AV->AV
 | .v x=>.v x
 | .c d=>.c d.frz
 | .agg d=>.agg d.frz
 | .nil=>.nil
 | .cons a r=>.cons a.frz r.frz
 | .tup l=>.tup l.frz
 | .fn f a b=>.fn f a.frz b.frz
 | _=>.junk
theorem AV.frz_imp{bx:Nat->Option (Nat×Dc)}{τ τ':Nat->Option Nat}{φ:Tk->List Tk}(a:AV):AV.imp bx τ φ τ' a.frz a:=by
 induction a with
 | v x=>rfl
 | c d=>exact d.frz_imp
 | agg d=>exact d.frz_imp
 | nil=>rfl
 | cons a r iha ihr=>exact⟨iha,ihr⟩
 | tup l ih=>exact ih
 | fn f a b iha ihb=>exact⟨rfl,iha,ihb⟩
 | _=>trivial
theorem AV.frz_plain(a:AV):a.frz.plain=true/\a.frz.still=true/\a.frz.flat=true:=by
 induction a with
 | c d=>exact⟨d.frz_noblk,d.frz_still,rfl⟩
 | agg d=>exact⟨d.frz_noblk,d.frz_still,rfl⟩
 | cons a r iha ihr=>simp[AV.frz,AV.plain,AV.still,AV.flat,iha,ihr]
 | tup l ih=>exact ih
 | fn f a b iha ihb=>simp[AV.frz,AV.plain,AV.still,AV.flat,iha,ihb]
 | _=>exact⟨rfl,rfl,rfl⟩
def AV.lend(bx:Nat->Option (Nat×Dc)):AV->Option AV
 | .junk=>some .junk
 | .v x=>some (.v x)
 | .c d=>some (.c d.lend)
 | .agg d=>some (.agg d.lend)
 | .bx k off=>match bx k with
  | some (_,d)=>match d.dp off with
   | some d1=>some (.el d1.ds)
   | none=>none
  | none=>none
 | .el x=>some (.el x)
 | .nil=>some .nil
 | .cons a r=>if r.isL then match a.lend bx,r.lend bx with
   | some b,some s=>some (.cons b s)
   | _,_=>none
  else none
 | .tup a=>if a.isL then (a.lend bx).map .tup else none
 | .fn f a p=>if a.isL && p.isL then match a.lend bx,p.lend bx with
   | some b,some q=>some (.fn f b q)
   | _,_=>none
  else none
 | .ev _ _ _=>none
theorem AV.lend_arg{bx:Nat->Option (Nat×Dc)}{a:AV}:∀ {b:AV},a.lend bx=some b->a.arg bx b:=by
 induction a with
 | junk=>intro b h;cases h;trivial
 | v x=>intro b h;cases h;rfl
 | c d=>intro b h;cases h;exact⟨d.lend_lent,.inl d.lend_ds⟩
 | agg d=>intro b h;cases h;exact⟨d.lend_lent,.inl d.lend_ds⟩
 | bx k off =>
  intro b h
  simp only[AV.lend] at h
  split at h
  ·rename_i T d hk
   split at h
   ·rename_i d1 h1
    cases h
    exact⟨T,d,d1,hk,h1,rfl⟩
   ·cases h
  ·cases h
 | el x=>intro b h;cases h;rfl
 | nil=>intro b h;cases h;trivial
 | cons a r iha ihr =>
  intro b h
  simp only[AV.lend] at h
  split at h
  ·rename_i hr
   split at h
   ·rename_i b' s h1 h2
    cases h
    exact⟨iha h1,hr,ihr h2⟩
   ·cases h
  ·cases h
 | tup l ih =>
  intro b h
  simp only[AV.lend] at h
  split at h
  ·rename_i hr
   obtain⟨x,h1,rfl⟩:=Option.map_eq_some_iff.1 h
   exact⟨hr,ih h1⟩
  ·cases h
 | fn f a p iha ihp =>
  intro b h
  simp only[AV.lend] at h
  split at h
  ·rename_i hr
   simp only[Bool.and_eq_true] at hr
   split at h
   ·rename_i b' s h1 h2
    cases h
    exact⟨rfl,⟨hr.1,iha h1⟩,hr.2,ihp h2⟩
   ·cases h
  ·cases h
 | ev b o x=>intro b h;cases h
def Dc.soft(keep:Nat->Nat->Bool):Dc->Dc
 | .nil=>.nil
 | .lit v r=>.lit v (r.soft keep)
 | .nilr sz e r=>.nilr sz e (r.soft keep)
 | .row _ sz e x r=>.row none sz e x (r.soft keep)
 | .seg _ d r=>.seg none (d.app r.ds) .nil
 | .blk k ver sz e x r=>if keep k ver then .blk k ver sz e x.frz (r.soft keep) else .row none sz e x.ds (r.soft keep)
def AV.soft(keep:Nat->Nat->Bool)(has:Nat->Bool):AV->AV
 | .c d=>.c (d.soft keep)
 | .agg d=>.agg (d.soft keep)
 | .bx k o=>if has k then .bx k o else .junk
 | .cons a r=>.cons (a.soft keep has) (r.soft keep has)
 | .tup l=>.tup (l.soft keep has)
 | .fn f a b=>.fn f (a.soft keep has) (b.soft keep has)
 | a=>a
theorem Dc.soft_imp{τ τ':Nat->Option Nat}{φ:Tk->List Tk}{keep:Nat->Nat->Bool}(hk:∀k v,keep k v=true->τ' k=some v/\v≠0/\τ k=some v/\(k,0)∈φ (k,0))(d:Dc):Dc.imp τ φ τ' (d.soft keep) d/\(d.soft keep).ok τ':=by
 induction d with
 | nil=>exact⟨rfl,trivial⟩
 | lit v r ih=>exact⟨⟨rfl,ih.1⟩,ih.2⟩
 | nilr sz e r ih=>exact ih
 | row k sz e x r ih=>exact⟨⟨⟨rfl,rfl⟩,ih.1⟩,ih.2⟩
 | seg k d r _=>exact⟨(rfl:(Dc.seg k d r).ds=_),trivial⟩
 | blk k ver sz e x r _ ih =>
  simp only[Dc.soft]
  split
  ·rename_i h
   obtain⟨h1,h2,h3,h4⟩:=hk k ver h
   exact⟨⟨⟨h1,h2⟩,⟨rfl,rfl,h3,h4,x.frz_imp⟩,ih.1⟩,⟨by rw[h1];simp,x.frz_ok,ih.2⟩⟩
  ·exact⟨⟨⟨rfl,rfl⟩,ih.1⟩,ih.2⟩
theorem AV.soft_imp{bx:Nat->Option (Nat×Dc)}{τ τ':Nat->Option Nat}{φ:Tk->List Tk}{keep:Nat->Nat->Bool}{has:Nat->Bool}(hk:∀k v,keep k v=true->τ' k=some v/\v≠0/\τ k=some v/\(k,0)∈φ (k,0))(hb:∀k,has k=true->bx k≠none)(a:AV):AV.imp bx τ φ τ' (a.soft keep has) a/\(a.soft keep has).ok bx τ':=by
 induction a with
 | junk=>exact⟨trivial,trivial⟩
 | v x=>exact⟨rfl,trivial⟩
 | c d=>exact d.soft_imp hk
 | agg d=>exact d.soft_imp hk
 | bx k o =>
  simp only[AV.soft]
  split
  ·rename_i h;exact⟨⟨rfl,hb k h⟩,hb k h⟩
  ·exact⟨trivial,trivial⟩
 | el x=>exact⟨rfl,trivial⟩
 | nil=>exact⟨rfl,trivial⟩
 | cons a r iha ihr=>exact⟨⟨iha.1,ihr.1⟩,iha.2,ihr.2⟩
 | tup l ih=>exact ih
 | fn f a b iha ihb=>exact⟨⟨rfl,iha.1,ihb.1⟩,iha.2,ihb.2⟩
 | ev b o x=>exact⟨rfl,trivial⟩
def Dc.has(k:Nat):Dc->Bool
 | .nil=>false
 | .lit _ r=>r.has k
 | .nilr _ _ r=>r.has k
 | .row _ _ _ _ r=>r.has k
 | .seg _ _ r=>r.has k
 | .blk k' _ _ _ _ r=>k' == k || r.has k
def AV.has(k:Nat):AV->Bool
 | .c d=>d.has k
 | .agg d=>d.has k
 | .cons a r=>a.has k || r.has k
 | .tup l=>l.has k
 | .fn _ a b=>a.has k || b.has k
 | _=>false
def gcOf(N:Nat)(loc dropB dropT:Nat->Bool)(st:St):Option St :=
 let t:List (Nat×Nat):=(List.range (N+2)).filterMap λ k=>match st.τ k with
  | some (v+1)=>if dropT k then none else if (List.range N).any (λ n=>!loc n && (st.env n).has k) || (List.range (N+2)).any (λ n=>!dropB n && match st.bx n with
   | some (_,d)=>d.has k
   | none=>false) then some (k,v+1) else none
  | _=>none
 let q:List (Tk×List Tk):=t.map λ p=>((p.1,0),[(p.1,0)])
 let keep:=λ k ver=>τOf t k == some ver && (ver != 0 && (st.τ k == some ver && (φOf q (k,0)).contains (k,0)))
 let b:List (Nat×Nat×Dc):=(List.range (N+2)).filterMap λ k=>if dropB k then none else match st.bx k with
  | some (T,d)=>some (k,T,d.soft keep)
  | none=>none
 let l:List (Nat×AV):=(List.range N).filterMap λ n=>if loc n then none else match st.env n with
  | .junk=>none
  | a=>some (n,a.soft keep λ k=>(Z6 b k).isSome)
 if List.Nodup (q.flatMap λ p:Tk×List Tk=>p.2) then some (bP l b t) else none
theorem gc_le{G:World->Prop}{N:Nat}{loc dropB dropT:Nat->Bool}{st s:St}(h:gcOf N loc dropB dropT st=some s):Le G N st s:=by
 simp only[gcOf] at h
 split at h
 ·rename_i hq
  cases h
  refine aI _ (λ p hp=>?_) (λ p hp=>?_) hq
  ·obtain⟨n,-,h1⟩:=List.mem_filterMap.1 hp
   split at h1
   ·cases h1
   ·split at h1
    ·cases h1
    ·cases h1
     exact AV.soft_imp (λ k v hk=>by simpa[Bool.and_eq_true] using hk) (λ k hk=>by simpa[Option.isSome_iff_ne_none] using hk) _
  ·obtain⟨n,-,h1⟩:=List.mem_filterMap.1 hp
   split at h1
   ·cases h1
   ·split at h1
    ·rename_i T d hd
     cases h1
     simp only[hd]
     exact⟨trivial,Dc.soft_imp (λ k v hk=>by simpa[Bool.and_eq_true] using hk) _⟩
    ·cases h1
 ·cases h
end
end Go.Proofs.YtkcmapimcgppmaaGreatDoor
