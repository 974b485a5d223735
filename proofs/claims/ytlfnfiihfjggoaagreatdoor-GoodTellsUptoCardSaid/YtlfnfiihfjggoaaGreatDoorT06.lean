/-
  Lists of the core's declarations, and the lists within them, are put into the bag; they are found apart, and what follows. Conditions: as each lemma states them.
-/
import Derived.Test.YtlfnfiihfjggoaaGreatDoorT05
import Derived.Test.YtlfnfiihfjggoaaGreatDoorT04
import Derived.Test.YtlfnfiihfjggoaaGreatDoorT03
import Derived.RangeFuncFrom
import Derived.RangeFuncLeaves
import Derived.Shelf.Abstract
import Derived.OwnWalkIn
import Derived.TacticsInMore
import Derived.BigFrameIn
import Derived.LoopNIn
import Derived.LoopIn
import Derived.RangeFuncNested
import Derived.Test.YtlfnfiihfjggoaaGreatDoorT01
import Derived.WalkKit
import Derived.ProofKit
import Derived.OpenShut
import Derived.Below
import Derived.ChangeSame
import Derived.ChangeMaps5
import Derived.Carry
import Derived.Deep.DeepHandedRow
import Derived.Recover
import Derived.Defers
set_option linter.all false
set_option linter.unusedVariables false
set_option linter.unusedSimpArgs false
set_option linter.unnecessarySimpa false
set_option maxHeartbeats 8000000
set_option maxRecDepth 100000
namespace Go.Proofs.YtlfnfiihfjggoaaGreatDoor
open Go.RowKit Go.Proofs.Tryz
section
def qH(f:Nat->List Value)(c:List Value):Nat->List Value:=λ j=>if j=15 then f 15++c else f j
theorem NV(f:Nat->List Value)(p l t c p' l' t':List Value):eC (qH (eC f p l t) c) p' l' t'=eC (qH f c) (p++p') (l++l') (t++t'):=by
 funext j
 unfold eC qH
 by_cases h7:j=7
 ·simp[h7]
 ·by_cases h8:j=8
  ·simp[h8]
  ·by_cases h9:j=9
   ·simp[h9]
   ·simp[h7,h8,h9]
theorem NW(f:Nat->List Value)(c d:List Value):qH (qH f c) d=qH f (c++d):=by
 funext j
 unfold qH
 by_cases h:j=15
 ·simp[h]
 ·simp[h]
structure VC where
 us:List Value
 vl:Value
 vk:Value
 x:VT
 us':List Value
 vl':Value
 vk':Value
 x':VT
def VC.P(c:VC):List Value:=(c.us++c.x.P)++(c.us'++c.x'.P)
def VC.L(c:VC):List Value:=(c.vl :: c.x.L)++(c.vl' :: c.x'.L)
def VC.T(c:VC):List Value:=(c.vk :: c.x.T)++(c.vk' :: c.x'.T)
def VC.size(c:VC):Nat:=c.us.length+c.x.size+c.us'.length+c.x'.size+4
theorem VC.lens(c:VC):c.P.length<=c.size/\c.L.length<=c.size/\c.T.length<=c.size:=by
 have h1:=c.x.lens
 have h2:=c.x'.lens
 simp only[VC.P,VC.L,VC.T,VC.size,List.length_append,List.length_cons]
 omega
structure VC.At (F:Mem) (hi:Nat) (c:VC) (b o:Nat):Prop where
 n:∃n0 n1 n2 n3,F b o=some (.int .i64 n0)/\F b (o+1)=some (.int .i64 n1)/\F b (o+2)=some (.int .i64 n2)/\F b (o+3)=some (.int .i64 n3)
 vl:F b (o+4)=some c.vl
 vk:F b (o+5)=some c.vk
 m:∃n0 n1 n2 n3,F b (o+6)=some (.bool n0)/\F b (o+7)=some (.int .i64 n1)/\F b (o+8)=some (.int .i64 n2)/\F b (o+9)=some (.int .i64 n3)
 vl':F b (o+10)=some c.vl'
 vk':F b (o+11)=some c.vk'
 l:GL F hi c.vl c.us
 k:GK F hi c.vk c.x
 l':GL F hi c.vl' c.us'
 k':GK F hi c.vk' c.x'
def CsP(l:List VC):List Value:=l.flatMap VC.P
def CsL(l:List VC):List Value:=l.flatMap VC.L
def CsT(l:List VC):List Value:=l.flatMap VC.T
def CsS(l:List VC):Nat:=(l.map VC.size).sum
theorem BJ(l:List VC):l.length<=CsS l/\(CsP l).length<=CsS l/\(CsL l).length<=CsS l/\(CsT l).length<=CsS l:=by
 induction l with
 | nil=>exact⟨Nat.le_refl _,Nat.le_refl _,Nat.le_refl _,Nat.le_refl _⟩
 | cons a l ih =>
  have:=a.lens
  have h:1<=a.size:=by unfold VC.size;omega
  simp only[CsP,CsL,CsT,CsS,List.flatMap_cons,List.map_cons,List.sum_cons,List.length_append,List.length_cons] at ih ⊢
  omega
def GCs(F:Mem)(hi:Nat)(l:List VC)(b o:Nat):Prop:=∀(i:Nat) (c:VC),l[i]? = some c->c.At F hi b (o+i*12)
theorem xN(β B0:Nat)(F:Mem)(f:Nat->List Value)(n0 n1 n2:Int)(us:List Value)(p q:Option Addr)(n c m d:Nat)(y:VT)(w:World)(h:BagAt w β B0 f)(hF:Lies F B0 w)(hB:B0<=w.heap.size)(hl:GL F B0 (.slice p n c) us)(hk:GK F B0 (.slice q m d) y)
  (hn7:(f 7).length+us.length+y.size<=1000000000) (hn8:(f 8).length+1+y.size<=1000000000) (hn9:(f 9).length+y.size+1<=1000000000) :
  Calls prog 218 #[.pointer (some ⟨β,0,none⟩),.agg #[.int .i64 n0,.int .i64 n1,.int .i64 n2,.slice p n c,.slice q m d]] w λ e w'=>e=.returned (.tuple #[])/\BagAt w' β B0 (eC f (us++y.P) (.slice p n c :: y.L) (.slice q m d :: y.T))/\PF B0 w w' :=
 E6 β B0 F f n0 n1 n2 us p q n c m d y w h hF hB hl (by omega) (by omega) λ w' g1 g2 g3=>Z3 β B0 F (y.size+1) y _ _ w' (Nat.lt_succ_self _) g1 g2 g3 hk (by simp[eC];omega) (by simp[eC];omega) (by simp[eC];omega)
theorem MD:(84:Nat)≠140/\∀i,i<17->(84:Nat)≠tyB i:=by decide
theorem DA(β B0:Nat)(F:Mem)(f:Nat->List Value)(lv n0 n1 n2 m0 m1 m2:Int)(hh:Bool)(us us':List Value)(p q p' q':Option Addr)(n c m d n' c' m' d':Nat)(y y':VT)(w:World)(h:BagAt w β B0 f)(hF:Lies F B0 w)(hB:B0<=w.heap.size)
  (hl:GL F B0 (.slice p n c) us) (hk:GK F B0 (.slice q m d) y) (hl':GL F B0 (.slice p' n' c') us') (hk':GK F B0 (.slice q' m' d') y')
  (hn7:(f 7).length+(us.length+y.size+us'.length+y'.size+4)<=1000000000) (hn8:(f 8).length+(us.length+y.size+us'.length+y'.size+4)<=1000000000) (hn9:(f 9).length+(us.length+y.size+us'.length+y'.size+4)<=1000000000) :
  Calls prog 173 #[.pointer (some ⟨β,0,none⟩),.agg #[.int .i64 lv,.int .i64 n0,.int .i64 n1,.int .i64 n2,.slice p n c,.slice q m d,.bool hh,.int .i64 m0,.int .i64 m1,.int .i64 m2,.slice p' n' c',.slice q' m' d']] w λ e w'=>e=.returned (.tuple #[]) /\
   BagAt w' β B0 (eC f ((us++y.P)++(us'++y'.P)) ((.slice p n c :: y.L)++(.slice p' n' c' :: y'.L)) ((.slice q m d :: y.T)++(.slice q' m' d' :: y'.T)))/\PF B0 w w':=by
 obtain⟨cs,hcs⟩:∃cs:Array Value,cs=#[.int .i64 lv,.int .i64 n0,.int .i64 n1,.int .i64 n2,.slice p n c,.slice q m d,.bool hh,.int .i64 m0,.int .i64 m1,.int .i64 m2,.slice p' n' c',.slice q' m' d']:=⟨_,rfl⟩
 have hb:=aA w (.cells cs 84)
 have hg:=heap_alloc_new w (.cells cs 84)
 obtain⟨W,hW⟩:∃W,w.alloc (.cells cs 84)=W:=⟨_,rfl⟩
 obtain⟨g,hgs⟩:∃g,w.heap.size=g:=⟨_,rfl⟩
 rw[hW] at hb hg
 rw[hgs] at hg
 have HP:=hid (xN β B0 F f n0 n1 n2 us p q n c m d y W (h.below hb) (hF.on (hb.mono hB)) (Nat.le_trans hB hb.size) hl hk (by omega) (by omega) (by omega))
 have HK:Hid (∀w',BagAt w' β B0 (eC f (us++y.P) (.slice p n c :: y.L) (.slice q m d :: y.T))->Lies F B0 w'->B0<=w'.heap.size->Calls prog 218 #[.pointer (some ⟨β,0,none⟩),.agg #[.int .i64 m0,.int .i64 m1,.int .i64 m2,.slice p' n' c',.slice q' m' d']] w' λ e w2=>e=.returned (.tuple #[])/\BagAt w2 β B0 (eC (eC f (us++y.P) (.slice p n c :: y.L) (.slice q m d :: y.T)) (us'++y'.P) (.slice p' n' c' :: y'.L) (.slice q' m' d' :: y'.T))/\PF B0 w' w2):=hid λ w' g1 g2 g3=>by
  have e1:=y.lens
  exact xN β B0 F _ m0 m1 m2 us' p' q' n' c' m' d' y' w' g1 g2 g3 hl' hk' (by simp[eC];omega) (by simp[eC];omega) (by simp[eC];omega)
 have HB:=hid (PF.of_below hb hB)
 have HG:=hid hg
 have HF:=hid hF
 have HBS:=hid hB
 have HCS:=hid hcs
 subst hcs
 have HW:=hid hW
 have x1:W.cell? ⟨g,1,none⟩=some (.int .i64 n0):=by simp[World.cell?,hg]
 have x2:W.cell? ⟨g,2,none⟩=some (.int .i64 n1):=by simp[World.cell?,hg]
 have x3:W.cell? ⟨g,3,none⟩=some (.int .i64 n2):=by simp[World.cell?,hg]
 have x4:W.cell? ⟨g,4,none⟩=some (.slice p n c):=by simp[World.cell?,hg]
 have x5:W.cell? ⟨g,5,none⟩=some (.slice q m d):=by simp[World.cell?,hg]
 clear h hb hg hl hF hk hl' hk' hB hn7 hn8 hn9
 go_enter func173,ntmps173
 go_wp2_with fail
 refine HP.out.mono ?_
 rintro e w1 ⟨rfl,h1,h2⟩
 have z7:w1.cell? ⟨g,7,none⟩=some (.int .i64 m0):=by rw[h2.cell MD HG.out];rfl
 have z8:w1.cell? ⟨g,8,none⟩=some (.int .i64 m1):=by rw[h2.cell MD HG.out];rfl
 have z9:w1.cell? ⟨g,9,none⟩=some (.int .i64 m2):=by rw[h2.cell MD HG.out];rfl
 have z10:w1.cell? ⟨g,10,none⟩=some (.slice p' n' c'):=by rw[h2.cell MD HG.out];rfl
 have z11:w1.cell? ⟨g,11,none⟩=some (.slice q' m' d'):=by rw[h2.cell MD HG.out];rfl
 have H2:=HB.out.trans h2
 have HKK:=hid (HK.out w1 h1 (HF.out.on H2.below) (Nat.le_trans HBS.out H2.below.size))
 have HH2:=hid H2
 clear h1 h2 H2 x1 x2 x3 x4 x5
 go_wp2_with fail
 refine HKK.out.mono ?_
 rintro e w3 ⟨rfl,h3,h4⟩
 rw[pF] at h3
 have H3:=hid h3
 have H4:=hid (HH2.out.trans h4)
 clear h3 h4
 go_wp2_with fail
 go_end0
 exact⟨rfl,H3.out,H4.out⟩
theorem Z6(β B0:Nat)(F:Mem)(f:Nat->List Value)(v:Value)(x:List VC)(w:World)(h:BagAt w β B0 f)(hF:Lies F B0 w)(hB:B0<=w.heap.size)(hv:OX B0 v x.length λ b o=>GCs F B0 x b o)(hn15:(f 15).length+1<=1000000000)
  (hn7:(f 7).length+CsS x<=1000000000) (hn8:(f 8).length+CsS x<=1000000000) (hn9:(f 9).length+CsS x<=1000000000) :
  Calls prog 102 #[.pointer (some ⟨β,0,none⟩),v] w λ e w'=>e=.returned (.tuple #[])/\BagAt w' β B0 (eC (qH f [v]) (CsP x) (CsL x) (CsT x))/\PF B0 w w':=by
 obtain⟨p,c,rfl,hc1,hc2,hlie⟩:=hv
 unfold maxLen at hc2
 have hxs:=BJ x
 obtain⟨v,v',w2,hc3,hc4,hr,⟨a,m,d,rfl⟩,⟨u,hc5⟩,hf3,hbag,hbel⟩:=h.put (P:=prog) (i:=15) KCS_sty rfl rfl 50 (by decide) (.slice p x.length c) rfl (by omega) hB
 obtain⟨n,hus⟩:∃n,x.length=n:=⟨_,rfl⟩
 have HN:=hid hus
 rw[hus] at hr hbag hlie hc1 hxs ⊢
 have hbag':BagAt (w2.setCell ⟨β,15,none⟩ (.slice a m d)) β B0 (qH f [.slice p n c]):=hbag
 obtain⟨G,hG⟩:∃G,qH f [.slice p n c]=G:=⟨_,rfl⟩
 have hG7:G 7=f 7/\G 8=f 8/\G 9=f 9:=by rw[<-hG];exact⟨rfl,rfl,rfl⟩
 rw[hG] at hbag' ⊢
 obtain⟨g7,g8,g9⟩:=hG7
 rw[<-g7] at hn7
 rw[<-g8] at hn8
 rw[<-g9] at hn9
 have HBAG:=hid hbag'
 have HBEL:=hid hbel
 have HLIE:=hid hlie
 have HF:=hid (hF.on hbel.below)
 clear hbag hbag' hbel h hlie hF hus hG g7 g8 g9
 obtain⟨wb,hwb⟩:∃wb,w2.setCell ⟨β,15,none⟩ (.slice a m d)=wb:=⟨_,rfl⟩
 rw[hwb] at HBAG HBEL HF
 go_enter func102,ntmps102
 go_wp2_with (at_builtin;refine aR rfl _ _ 50 rfl _ _ _ rfl rfl hr ?_)
 clear hwb hc3 hc4 hr hc5 hf3
 go_loopw [4] (λ i wr=>∃x1 x2:List VC,x1++x2=x/\i=.int .i64 x1.length/\BagAt wr β B0 (eC G (CsP x1) (CsL x1) (CsT x1))/\PF B0 wb wr) (λ i _=>n-(intOf i).toNat)
 case atStart=>exact⟨[],x,rfl,rfl,by rw[show eC G (CsP []) (CsL []) (CsT [])=G from TK G];exact HBAG.out,PF.refl _ _⟩
 case round =>
  clear HBAG
  obtain⟨x1,x2,hxx,rfl,hG,hL⟩:=hrel
  obtain⟨j,hj⟩:∃j,x1.length=j:=⟨_,rfl⟩
  rw[hj]
  have hlen:x1.length+x2.length=n:=by rw[<-List.length_append,hxx];exact HN.out
  have HJ:=hid hj
  cases x2 with
  | nil =>
   obtain rfl:j=n:=by rw[<-hj];simpa using hlen
   have r1:decide ((j:Int)<(j:Int))=false:=decide_eq_false (by omega)
   have HG:=hid hG
   have HL:=hid hL
   rw[show x1=x from by rw[<-hxx];simp] at HG
   clear hG hL hxx hj hlen
   go_wp2_with fail
   go_end0
   exact⟨rfl,HG.out,HBEL.out.trans HL.out⟩
  | cons cc r =>
   have hlt:j<n:=by rw[<-hj];simp at hlen;omega
   have r1:decide ((j:Int)<(n:Int))=true:=decide_eq_true (by omega)
   obtain⟨b,o,rfl,hb0,hGC⟩:=HLIE.out (by omega)
   have hcc:x[j]? = some cc:=by rw[<-hxx,List.getElem?_append_right (by omega)];simp[hj]
   have hAt:=hGC j cc hcc
   have hsz:CsS x1+(cc.size+CsS r)=CsS x:=by rw[<-hxx];simp[CsS]
   have hln:=BJ x1
   have hcl:=cc.lens
   obtain⟨us,vl,vk,y,us',vl',vk',y'⟩:=cc
   obtain⟨⟨lv,n0,n1,n2,k0,k1,k2,k3⟩,k4,k5,⟨hh,m0,m1,m2,k6,k7,k8,k9⟩,k10,k11,gl,gk,gl',gk'⟩:=hAt
   simp only at k4 k5 k10 k11 gl gk gl' gk'
   obtain⟨p1,c1,rfl,-⟩:=id gl
   obtain⟨q1,d1,rfl,-⟩:=id gk
   obtain⟨p2,c2,rfl,-⟩:=id gl'
   obtain⟨q2,d2,rfl,-⟩:=id gk'
   have hFl:=HF.out.on hL.below
   have e0:=aD (hFl _ _ _ hb0 k0)
   have e1:=aD (hFl _ _ _ hb0 k1)
   have e2:=aD (hFl _ _ _ hb0 k2)
   have e3:=aD (hFl _ _ _ hb0 k3)
   have e4:=aD (hFl _ _ _ hb0 k4)
   have e5:=aD (hFl _ _ _ hb0 k5)
   have e6:=aD (hFl _ _ _ hb0 k6)
   have e7:=aD (hFl _ _ _ hb0 k7)
   have e8:=aD (hFl _ _ _ hb0 k8)
   have e9:=aD (hFl _ _ _ hb0 k9)
   have e10:=aD (hFl _ _ _ hb0 k10)
   have e11:=aD (hFl _ _ _ hb0 k11)
   have hBr:B0<=wr.heap.size:=Nat.le_trans hB (Nat.le_trans HBEL.out.below.size hL.below.size)
   have hszc:us.length+y.size+us'.length+y'.size+4+CsS x1<=CsS x:=by simp only[VC.size] at hsz;omega
   have HO:=hid (DA β B0 F _ lv n0 n1 n2 m0 m1 m2 hh us us' p1 q1 p2 q2 us.length c1 y.len d1 us'.length c2 y'.len d2 y y' wr hG hFl hBr gl gk gl' gk' (by simp[eC];omega) (by simp[eC];omega) (by simp[eC];omega))
   rw[pF] at HO
   obtain⟨z,hz⟩:∃z,x1++[(⟨us,.slice p1 us.length c1,.slice q1 y.len d1,y,us',.slice p2 us'.length c2,.slice q2 y'.len d2,y'⟩:VC)]=z:=⟨_,rfl⟩
   have eP:CsP x1++((us++y.P)++(us'++y'.P))=CsP z:=by rw[<-hz];simp[CsP,VC.P]
   have eL:CsL x1++((.slice p1 us.length c1 :: y.L)++(.slice p2 us'.length c2 :: y'.L))=CsL z:=by rw[<-hz];simp[CsL,VC.L]
   have eT:CsT x1++((.slice q1 y.len d1 :: y.T)++(.slice q2 y'.len d2 :: y'.T))=CsT z:=by rw[<-hz];simp[CsT,VC.T]
   rw[eP,eL,eT] at HO
   have HJ1:Hid (z.length=j+1):=hid (by rw[<-hz];simp[hj])
   have HX2:Hid (z++r=x):=hid (by rw[<-hz,List.append_assoc];exact hxx)
   have HLL:=hid hL
   obtain⟨u1,hu1⟩:∃u1,us.length=u1:=⟨_,rfl⟩
   obtain⟨u2,hu2⟩:∃u2,y.len=u2:=⟨_,rfl⟩
   obtain⟨u3,hu3⟩:∃u3,us'.length=u3:=⟨_,rfl⟩
   obtain⟨u4,hu4⟩:∃u4,y'.len=u4:=⟨_,rfl⟩
   rw[hu1,hu2,hu3,hu4] at HO
   rw[hu1] at e4
   rw[hu2] at e5
   rw[hu3] at e10
   rw[hu4] at e11
   clear k0 k1 k2 k3 k4 k5 k6 k7 k8 k9 k10 k11 gl gk gl' gk' hFl hBr eP eL eT hL hG hxx hsz hln hz hj HJ hszc hcl hcc hGC hu1 hu2 hu3 hu4 hlen
   go_wp2_with fail
   refine HO.out.mono ?_
   rintro e w3 ⟨rfl,h1,h2⟩
   have H1:=hid h1
   have H2:=hid (HLL.out.trans h2)
   clear h1 h2 HO HLL e0 e1 e2 e3 e4 e5 e6 e7 e8 e9 e10 e11
   go_wp2_with fail
   go_roundw
   case rel=>exact⟨z,r,HX2.out,by rw[HJ1.out];go_num,H1.out,H2.out⟩
   case measure=>simp[intOf];omega
theorem JK(β B0 N:Nat)(f:Nat->List Value)(BP BL BT BC:List Nat)(w:World)(h:BagAt w β B0 f)(hf:∀i,i≠7->i≠8->i≠9->i≠15->f i=[])(hN:N<=1000000000)(hP:Ows w 0 2 68 N (f 7) BP)(hL:Ows w 0 1 30 N (f 8) BL)(hT:Ows w 0 5 27 N (f 9) BT)(hC:Ows w 0 12 84 N (f 15) BC)
  (nP:BP.Nodup) (nL:BL.Nodup) (nT:BT.Nodup) (nC:BC.Nodup) (l7:(f 7).length<=1000000000) (l8:(f 8).length<=1000000000) (l9:(f 9).length<=1000000000) (l15:(f 15).length<=1000000000) :
  Calls prog 103 #[.pointer (some ⟨β,0,none⟩)] w λ e w'=>e=.returned (.bool true)/\Tb (λ b=>b∈BP++(BL++(BT++BC))) w w':=by
 have HFN:=hid hf
 have HG0:=hid h
 have HP0:=hid hP
 have HL0:=hid hL
 have HT0:=hid hT
 have HC0:=hid hC
 have HX0:Hid (Tb (λ b=>b∈BP++(BL++(BT++BC))) w w):=hid (Tb.of_below (Below.refl _ _))
 clear h hf hP hL hT hC
 have c0:=HG0.out.none_ (i:=0) (by decide) (HFN.out 0 (by decide) (by decide) (by decide) (by decide))
 go_enter func103,ntmps103
 go_wp2_with fail
 refine (fK 174 _ (by decide)).mono ?_
 rintro e w1 ⟨rfl,hb⟩
 have HG1:=hid (HG0.out.below hb)
 have HP1:=hid (HP0.out.kept λ b hm=>hb.block b (by obtain⟨-,cur,q⟩:=HP0.out.typed b hm;exact bC q))
 have HL1:=hid (HL0.out.kept λ b hm=>hb.block b (by obtain⟨-,cur,q⟩:=HL0.out.typed b hm;exact bC q))
 have HT1:=hid (HT0.out.kept λ b hm=>hb.block b (by obtain⟨-,cur,q⟩:=HT0.out.typed b hm;exact bC q))
 have HC1:=hid (HC0.out.kept λ b hm=>hb.block b (by obtain⟨-,cur,q⟩:=HC0.out.typed b hm;exact bC q))
 have HX1:Hid (Tb (λ b=>b∈BP++(BL++(BT++BC))) w w1):=hid (HX0.out.trans (Tb.of_below hb))
 clear hb c0 HG0 HX0 HP0 HL0 HT0 HC0
 have c1:=HG1.out.none_ (i:=1) (by decide) (HFN.out 1 (by decide) (by decide) (by decide) (by decide))
 go_wp2_with fail
 refine (fK 175 _ (by decide)).mono ?_
 rintro e w2 ⟨rfl,hb⟩
 have HG2:=hid (HG1.out.below hb)
 have HP2:=hid (HP1.out.kept λ b hm=>hb.block b (by obtain⟨-,cur,q⟩:=HP1.out.typed b hm;exact bC q))
 have HL2:=hid (HL1.out.kept λ b hm=>hb.block b (by obtain⟨-,cur,q⟩:=HL1.out.typed b hm;exact bC q))
 have HT2:=hid (HT1.out.kept λ b hm=>hb.block b (by obtain⟨-,cur,q⟩:=HT1.out.typed b hm;exact bC q))
 have HC2:=hid (HC1.out.kept λ b hm=>hb.block b (by obtain⟨-,cur,q⟩:=HC1.out.typed b hm;exact bC q))
 have HX2:Hid (Tb (λ b=>b∈BP++(BL++(BT++BC))) w w2):=hid (HX1.out.trans (Tb.of_below hb))
 clear hb c1 HG1 HX1 HP1 HL1 HT1 HC1
 have c2:=HG2.out.none_ (i:=2) (by decide) (HFN.out 2 (by decide) (by decide) (by decide) (by decide))
 go_wp2_with fail
 refine (fK 176 _ (by decide)).mono ?_
 rintro e w3 ⟨rfl,hb⟩
 have HG3:=hid (HG2.out.below hb)
 have HP3:=hid (HP2.out.kept λ b hm=>hb.block b (by obtain⟨-,cur,q⟩:=HP2.out.typed b hm;exact bC q))
 have HL3:=hid (HL2.out.kept λ b hm=>hb.block b (by obtain⟨-,cur,q⟩:=HL2.out.typed b hm;exact bC q))
 have HT3:=hid (HT2.out.kept λ b hm=>hb.block b (by obtain⟨-,cur,q⟩:=HT2.out.typed b hm;exact bC q))
 have HC3:=hid (HC2.out.kept λ b hm=>hb.block b (by obtain⟨-,cur,q⟩:=HC2.out.typed b hm;exact bC q))
 have HX3:Hid (Tb (λ b=>b∈BP++(BL++(BT++BC))) w w3):=hid (HX2.out.trans (Tb.of_below hb))
 clear hb c2 HG2 HX2 HP2 HL2 HT2 HC2
 have c3:=HG3.out.none_ (i:=3) (by decide) (HFN.out 3 (by decide) (by decide) (by decide) (by decide))
 go_wp2_with fail
 refine (fK 177 _ (by decide)).mono ?_
 rintro e w4 ⟨rfl,hb⟩
 have HG4:=hid (HG3.out.below hb)
 have HP4:=hid (HP3.out.kept λ b hm=>hb.block b (by obtain⟨-,cur,q⟩:=HP3.out.typed b hm;exact bC q))
 have HL4:=hid (HL3.out.kept λ b hm=>hb.block b (by obtain⟨-,cur,q⟩:=HL3.out.typed b hm;exact bC q))
 have HT4:=hid (HT3.out.kept λ b hm=>hb.block b (by obtain⟨-,cur,q⟩:=HT3.out.typed b hm;exact bC q))
 have HC4:=hid (HC3.out.kept λ b hm=>hb.block b (by obtain⟨-,cur,q⟩:=HC3.out.typed b hm;exact bC q))
 have HX4:Hid (Tb (λ b=>b∈BP++(BL++(BT++BC))) w w4):=hid (HX3.out.trans (Tb.of_below hb))
 clear hb c3 HG3 HX3 HP3 HL3 HT3 HC3
 have c4:=HG4.out.none_ (i:=4) (by decide) (HFN.out 4 (by decide) (by decide) (by decide) (by decide))
 go_wp2_with fail
 refine (fK 178 _ (by decide)).mono ?_
 rintro e w5 ⟨rfl,hb⟩
 have HG5:=hid (HG4.out.below hb)
 have HP5:=hid (HP4.out.kept λ b hm=>hb.block b (by obtain⟨-,cur,q⟩:=HP4.out.typed b hm;exact bC q))
 have HL5:=hid (HL4.out.kept λ b hm=>hb.block b (by obtain⟨-,cur,q⟩:=HL4.out.typed b hm;exact bC q))
 have HT5:=hid (HT4.out.kept λ b hm=>hb.block b (by obtain⟨-,cur,q⟩:=HT4.out.typed b hm;exact bC q))
 have HC5:=hid (HC4.out.kept λ b hm=>hb.block b (by obtain⟨-,cur,q⟩:=HC4.out.typed b hm;exact bC q))
 have HX5:Hid (Tb (λ b=>b∈BP++(BL++(BT++BC))) w w5):=hid (HX4.out.trans (Tb.of_below hb))
 clear hb c4 HG4 HX4 HP4 HL4 HT4 HC4
 have c5:=HG5.out.none_ (i:=5) (by decide) (HFN.out 5 (by decide) (by decide) (by decide) (by decide))
 go_wp2_with fail
 refine (fK 179 _ (by decide)).mono ?_
 rintro e w6 ⟨rfl,hb⟩
 have HG6:=hid (HG5.out.below hb)
 have HP6:=hid (HP5.out.kept λ b hm=>hb.block b (by obtain⟨-,cur,q⟩:=HP5.out.typed b hm;exact bC q))
 have HL6:=hid (HL5.out.kept λ b hm=>hb.block b (by obtain⟨-,cur,q⟩:=HL5.out.typed b hm;exact bC q))
 have HT6:=hid (HT5.out.kept λ b hm=>hb.block b (by obtain⟨-,cur,q⟩:=HT5.out.typed b hm;exact bC q))
 have HC6:=hid (HC5.out.kept λ b hm=>hb.block b (by obtain⟨-,cur,q⟩:=HC5.out.typed b hm;exact bC q))
 have HX6:Hid (Tb (λ b=>b∈BP++(BL++(BT++BC))) w w6):=hid (HX5.out.trans (Tb.of_below hb))
 clear hb c5 HG5 HX5 HP5 HL5 HT5 HC5
 have c6:=HG6.out.none_ (i:=6) (by decide) (HFN.out 6 (by decide) (by decide) (by decide) (by decide))
 go_wp2_with fail
 refine (fK 180 _ (by decide)).mono ?_
 rintro e w7 ⟨rfl,hb⟩
 have HG7:=hid (HG6.out.below hb)
 have HP7:=hid (HP6.out.kept λ b hm=>hb.block b (by obtain⟨-,cur,q⟩:=HP6.out.typed b hm;exact bC q))
 have HL7:=hid (HL6.out.kept λ b hm=>hb.block b (by obtain⟨-,cur,q⟩:=HL6.out.typed b hm;exact bC q))
 have HT7:=hid (HT6.out.kept λ b hm=>hb.block b (by obtain⟨-,cur,q⟩:=HT6.out.typed b hm;exact bC q))
 have HC7:=hid (HC6.out.kept λ b hm=>hb.block b (by obtain⟨-,cur,q⟩:=HC6.out.typed b hm;exact bC q))
 have HX7:Hid (Tb (λ b=>b∈BP++(BL++(BT++BC))) w w7):=hid (HX6.out.trans (Tb.of_below hb))
 clear hb c6 HG6 HX6 HP6 HL6 HT6 HC6
 obtain⟨L7,q7,d7,c7,g7,m7,a7,b7⟩:=HG7.out.list (i:=7) (by decide) (K:=KP) (by decide) (by decide) HP7.out KP.em
 have HF7:=hid (EG (f 7) L7 q7 d7 w7 l7 g7 m7 (λ k v hv=>⟨(a7 k v hv).1,Nat.le_trans (a7 k v hv).2 hN⟩) b7 (HP7.out.rows (K:=KP) (by decide)) (HP7.out.dist nP))
 clear g7 m7 a7 b7
 go_wp2_with fail
 refine HF7.out.mono ?_
 rintro e w8 ⟨rfl,hb⟩
 have hty:∀b,InV (f 7) b->∃cur,w7.heap[b]? = some (Obj.cells cur 68 (0,0)):=λ b hm=>(HP7.out.typed b (HP7.out.inV hm)).2
 have HG8:=hid (HG7.out.tb hb.tb ty77 hty)
 have HL8:=hid (HL7.out.kept λ b hm=>by obtain⟨-,cur,q⟩:=HL7.out.typed b hm;rw[hb.tb.other hty q (by decide)];exact q.symm)
 have HT8:=hid (HT7.out.kept λ b hm=>by obtain⟨-,cur,q⟩:=HT7.out.typed b hm;rw[hb.tb.other hty q (by decide)];exact q.symm)
 have HC8:=hid (HC7.out.kept λ b hm=>by obtain⟨-,cur,q⟩:=HC7.out.typed b hm;rw[hb.tb.other hty q (by decide)];exact q.symm)
 have HX8:=hid (HX7.out.trans (hb.tb.mono λ b _ hm=>List.mem_append_left _ (HP7.out.inV hm)))
 clear hb hty c7 HG7 HX7 HF7 HP7 HL7 HT7 HC7
 obtain⟨L8,q8,d8,c8,g8,m8,a8,b8⟩:=HG8.out.list (i:=8) (by decide) (K:=KL) (by decide) (by decide) HL8.out KL.em
 have HF8:=hid (EF (f 8) L8 q8 d8 w8 l8 g8 m8 (λ k v hv=>⟨(a8 k v hv).1,Nat.le_trans (a8 k v hv).2 hN⟩) b8 (HL8.out.rows (K:=KL) (by decide)) (HL8.out.dist nL))
 clear g8 m8 a8 b8
 go_wp2_with fail
 refine HF8.out.mono ?_
 rintro e w9 ⟨rfl,hb⟩
 have hty:∀b,InV (f 8) b->∃cur,w8.heap[b]? = some (Obj.cells cur 30 (0,0)):=λ b hm=>(HL8.out.typed b (HL8.out.inV hm)).2
 have HG9:=hid (HG8.out.tb hb.tb ty43 hty)
 have HT9:=hid (HT8.out.kept λ b hm=>by obtain⟨-,cur,q⟩:=HT8.out.typed b hm;rw[hb.tb.other hty q (by decide)];exact q.symm)
 have HC9:=hid (HC8.out.kept λ b hm=>by obtain⟨-,cur,q⟩:=HC8.out.typed b hm;rw[hb.tb.other hty q (by decide)];exact q.symm)
 have HX9:=hid (HX8.out.trans (hb.tb.mono λ b _ hm=>List.mem_append_right _ (List.mem_append_left _ (HL8.out.inV hm))))
 clear hb hty c8 HG8 HX8 HF8 HL8 HT8 HC8
 obtain⟨L9,q9,d9,c9,g9,m9,a9,b9⟩:=HG9.out.list (i:=9) (by decide) (K:=KT) (by decide) (by decide) HT9.out KT.em
 have HF9:=hid (EE (f 9) L9 q9 d9 w9 l9 g9 m9 (λ k v hv=>⟨(a9 k v hv).1,Nat.le_trans (a9 k v hv).2 hN⟩) b9 (HT9.out.rows (K:=KT) (by decide)) (HT9.out.dist nT))
 clear g9 m9 a9 b9
 go_wp2_with fail
 refine HF9.out.mono ?_
 rintro e w10 ⟨rfl,hb⟩
 have hty:∀b,InV (f 9) b->∃cur,w9.heap[b]? = some (Obj.cells cur 27 (0,0)):=λ b hm=>(HT9.out.typed b (HT9.out.inV hm)).2
 have HG10:=hid (HG9.out.tb hb.tb ty26 hty)
 have HC10:=hid (HC9.out.kept λ b hm=>by obtain⟨-,cur,q⟩:=HC9.out.typed b hm;rw[hb.tb.other hty q (by decide)];exact q.symm)
 have HX10:=hid (HX9.out.trans (hb.tb.mono λ b _ hm=>List.mem_append_right _ (List.mem_append_right _ (List.mem_append_left _ (HT9.out.inV hm)))))
 clear hb hty c9 HG9 HX9 HF9 HT9 HC9
 have c10:=HG10.out.none_ (i:=10) (by decide) (HFN.out 10 (by decide) (by decide) (by decide) (by decide))
 go_wp2_with fail
 refine (fK 184 _ (by decide)).mono ?_
 rintro e w11 ⟨rfl,hb⟩
 have HG11:=hid (HG10.out.below hb)
 have HC11:=hid (HC10.out.kept λ b hm=>hb.block b (by obtain⟨-,cur,q⟩:=HC10.out.typed b hm;exact bC q))
 have HX11:Hid (Tb (λ b=>b∈BP++(BL++(BT++BC))) w w11):=hid (HX10.out.trans (Tb.of_below hb))
 clear hb c10 HG10 HX10 HC10
 have c11:=HG11.out.none_ (i:=11) (by decide) (HFN.out 11 (by decide) (by decide) (by decide) (by decide))
 go_wp2_with fail
 refine (fK 185 _ (by decide)).mono ?_
 rintro e w12 ⟨rfl,hb⟩
 have HG12:=hid (HG11.out.below hb)
 have HC12:=hid (HC11.out.kept λ b hm=>hb.block b (by obtain⟨-,cur,q⟩:=HC11.out.typed b hm;exact bC q))
 have HX12:Hid (Tb (λ b=>b∈BP++(BL++(BT++BC))) w w12):=hid (HX11.out.trans (Tb.of_below hb))
 clear hb c11 HG11 HX11 HC11
 have c12:=HG12.out.none_ (i:=12) (by decide) (HFN.out 12 (by decide) (by decide) (by decide) (by decide))
 go_wp2_with fail
 refine (fK 186 _ (by decide)).mono ?_
 rintro e w13 ⟨rfl,hb⟩
 have HG13:=hid (HG12.out.below hb)
 have HC13:=hid (HC12.out.kept λ b hm=>hb.block b (by obtain⟨-,cur,q⟩:=HC12.out.typed b hm;exact bC q))
 have HX13:Hid (Tb (λ b=>b∈BP++(BL++(BT++BC))) w w13):=hid (HX12.out.trans (Tb.of_below hb))
 clear hb c12 HG12 HX12 HC12
 have c13:=HG13.out.none_ (i:=13) (by decide) (HFN.out 13 (by decide) (by decide) (by decide) (by decide))
 go_wp2_with fail
 refine (fK 187 _ (by decide)).mono ?_
 rintro e w14 ⟨rfl,hb⟩
 have HG14:=hid (HG13.out.below hb)
 have HC14:=hid (HC13.out.kept λ b hm=>hb.block b (by obtain⟨-,cur,q⟩:=HC13.out.typed b hm;exact bC q))
 have HX14:Hid (Tb (λ b=>b∈BP++(BL++(BT++BC))) w w14):=hid (HX13.out.trans (Tb.of_below hb))
 clear hb c13 HG13 HX13 HC13
 have c14:=HG14.out.none_ (i:=14) (by decide) (HFN.out 14 (by decide) (by decide) (by decide) (by decide))
 go_wp2_with fail
 refine (fK 188 _ (by decide)).mono ?_
 rintro e w15 ⟨rfl,hb⟩
 have HG15:=hid (HG14.out.below hb)
 have HC15:=hid (HC14.out.kept λ b hm=>hb.block b (by obtain⟨-,cur,q⟩:=HC14.out.typed b hm;exact bC q))
 have HX15:Hid (Tb (λ b=>b∈BP++(BL++(BT++BC))) w w15):=hid (HX14.out.trans (Tb.of_below hb))
 clear hb c14 HG14 HX14 HC14
 obtain⟨L15,q15,d15,c15,g15,m15,a15,b15⟩:=HG15.out.list (i:=15) (by decide) (K:=KC) (by decide) (by decide) HC15.out KC.em
 have HF15:=hid (ED (f 15) L15 q15 d15 w15 l15 g15 m15 (λ k v hv=>⟨(a15 k v hv).1,Nat.le_trans (a15 k v hv).2 hN⟩) b15 (HC15.out.rows (K:=KC) (by decide)) (HC15.out.dist nC))
 clear g15 m15 a15 b15
 go_wp2_with fail
 refine HF15.out.mono ?_
 rintro e w16 ⟨rfl,hb⟩
 have hty:∀b,InV (f 15) b->∃cur,w15.heap[b]? = some (Obj.cells cur 84 (0,0)):=λ b hm=>(HC15.out.typed b (HC15.out.inV hm)).2
 have HG16:=hid (HG15.out.tb hb.tb MD hty)
 have HX16:=hid (HX15.out.trans (hb.tb.mono λ b _ hm=>List.mem_append_right _ (List.mem_append_right _ (List.mem_append_right _ (HC15.out.inV hm)))))
 clear hb hty c15 HG15 HX15 HF15 HC15
 have c16:=HG16.out.none_ (i:=16) (by decide) (HFN.out 16 (by decide) (by decide) (by decide) (by decide))
 go_wp2_with fail
 refine (fK 190 _ (by decide)).mono ?_
 rintro e w17 ⟨rfl,hb⟩
 have HG17:=hid (HG16.out.below hb)
 have HX17:Hid (Tb (λ b=>b∈BP++(BL++(BT++BC))) w w17):=hid (HX16.out.trans (Tb.of_below hb))
 clear hb c16 HG16 HX16
 go_wp2_with fail
 go_ret
 exact⟨rfl,HX17.out⟩
end
section
variable {P:Program} {G:World->Prop} {tb:TB} {N:Nat} {F0:Mem} {w0:World} {ops:Array Oper}
def gR(n k:Nat):Array Bool:=((List.range n).map λ i=>decide (i<k)).toArray
theorem kE(n k:Nat):(gR n k).size=n:=by simp[gR]
theorem vO{n k i:Nat}(h:i<n)(b:Bool):(gR n k).getD i b=decide (i<k):=by
 simp[gR,Array.getD,h]
theorem xA(k:Nat):left ops (gR ops.size k)=(List.range ops.size).filter λ i=>decide (k<=i):=by
 unfold left
 refine List.filter_congr λ i hi=>?_
 rw[vO (List.mem_range.1 hi)]
 by_cases h:i<k
 ·simp[h]
 ·simp[h];omega
theorem LP{listed:Array Bool}{k:Nat}(hs:listed.size=ops.size)(h:∀i,i<ops.size->(listed.getD i true=true↔i<k)):listed=gR ops.size k:=by
 apply Array.ext
 ·rw[hs,kE]
 ·intro i h1 h2
  have h3:=h i (by omega)
  have h4:=vO (n:=ops.size) (k:=k) (i:=i) (by omega) true
  have e1:listed.getD i true=listed[i]:=by simp[Array.getD,h1]
  have e2:(gR ops.size k).getD i true=(gR ops.size k)[i]:=by simp[Array.getD,h2]
  rw[e1] at h3
  rw[e2] at h4
  rw[h4]
  cases hb:listed[i] with
  | true=>exact (decide_eq_true (h3.1 hb)).symm
  | false=>exact (decide_eq_false λ hk=>by rw[h3.2 hk] at hb;cases hb).symm
theorem UE{n k:Nat}(h:k<n):(gR n k).setIfInBounds k true=gR n (k+1):=by
 apply Array.ext
 ·simp[kE]
 ·intro i h1 h2
  rw[kE] at h2
  have e:(gR n (k+1))[i]=decide (i<k+1):=by simp[gR]
  have e2:(gR n k)[i]'(by rw[kE];exact h2)=decide (i<k):=by simp[gR]
  rw[Array.getElem_setIfInBounds (by rw[kE];exact h2),e,e2]
  by_cases hk:k=i
  ·subst hk;simp
  ·rw[if_neg hk]
   congr 1
   exact propext ⟨fun h=>by omega,λ h=>by omega⟩
def cutOk(ops:Array Oper)(k:Nat):Bool :=
 let M:=Region.before ops
 (List.range ops.size).all λ i=>decide (i<k) || (List.range k).all λ j=>(M.getD i 0).testBit j
theorem run_cut(hT:jE P tb)(hS:iU G)(hO:OrdOk ops (Region.before ops)){k:Nat}(hkn:k<=ops.size)(hcut:∀i,k<=i->i<ops.size->∀j,j<k->((Region.before ops).getD i 0).testBit j=true){st':St}{Q:Exit->Act->World->Prop}
  (hQ:∀a w,Sat G F0 w0 N st' a w->wpAny P .any ops Q (ops.size-k) (gR ops.size k) a w) :
  ∀(fuel:Nat) (listed:Array Bool) {pre:List Nat} {st:St} {a:Act} {w:World},listed.size=ops.size->fuel=pre.length+(ops.size-k) ->
   (∀i o,listed.getD i true=true->ops[i]? = some o->∀e∈o.after,Region.binds .any e=true->listed.getD e.on true=true) ->
   left ops listed=pre++List.range' k (ops.size-k)->(∀j∈pre,j<k)->Run P G tb N ops pre st st'->Sat G F0 w0 N st a w->wpAny P .any ops Q fuel listed a w:=by
 intro fuel
 induction fuel with
 | zero =>
  intro listed pre st a w hsz hf _ hl hpk hrun hs
  obtain rfl:pre=[]:=List.eq_nil_of_length_eq_zero (by omega)
  cases hrun
  have hn:ops.size-k=0:=by simp at hf;omega
  have:=hQ a w hs
  rw[hn] at this
  have e:listed=gR ops.size k:=LP hsz λ i hi=>⟨fun _=>by omega,λ _=>by
   cases hb:listed.getD i true with
   | true=>rfl
   | false =>
    have h1:=mem_left.2 ⟨hi,hb⟩
    rw[hl,hn] at h1
    cases h1⟩
  rw[e]
  exact this
 | succ fuel ih =>
  intro listed pre st a w hsz hlen hcl hl hpk hrun hs
  by_cases hp:pre=[]
  ·subst hp
   cases hrun
   have:=hQ a w hs
   have hf:fuel+1=ops.size-k:=by simpa using hlen
   rw[<-hf] at this
   have e:listed=gR ops.size k:=LP hsz λ i hi=>by
    have h1:i∈left ops listed↔k<=i:=by
     rw[hl]
     simp only[List.nil_append,List.mem_range'_1]
     omega
    rw[mem_left] at h1
    constructor
    ·intro h2
     refine Nat.lt_of_not_le λ h3=>?_
     have:=(h1.2 h3).2
     rw[h2] at this
     cases this
    ·intro h2
     cases hb:listed.getD i true with
     | true=>rfl
     | false=>exact absurd (h1.1 ⟨hi,hb⟩) (by omega)
   rw[e]
   exact this
  ·obtain⟨j0,hj0⟩:=List.exists_mem_of_ne_nil _ hp
   have hj0k:=hpk j0 hj0
   have hj0l:j0∈left ops listed:=by rw[hl];simp[hj0]
   refine⟨fun hr=>?_,λ i hi=>?_⟩
   ·exfalso
    have hnil:left ops listed=[]:=by
     refine List.eq_nil_iff_forall_not_mem.2 λ i=>?_
     induction i using Nat.strongRecOn with
     | _ i ih =>
      intro hi
      have:i∈Region.ready .any ops listed:=CJ hi λ o ho e he hb=>by
       have hon:=hO.on i o ho e he hb
       have hi2:=(mem_left.1 hi).1
       have hnot:=ih e.on hon
       rw[<-pE (by omega)]
       cases hg:listed.getD e.on true with
       | true=>rfl
       | false=>exact absurd (mem_left.2 ⟨by omega,hg⟩) hnot
      rw[hr] at this
      cases this
    rw[hnil] at hj0l
    cases hj0l
   ·obtain⟨hil,hpre⟩:=uA hi
    have hisz:=(mem_left.1 hil).1
    have hoi:ops[i]? = some ops[i]:=by simp[hisz]
    have before:∀j,j<i->((Region.before ops).getD i 0).testBit j=true->listed.getD j true=true:=λ j hj hb =>
     L5 hO (D:=λ k=>listed.getD k true=true) hcl i ops[i] j hoi (λ e he hbd=>by
      have hon:=hO.on i _ hoi e he hbd
      rw[pE (by omega)]
      exact hpre _ hoi e he hbd) hj hb
    have hip:i∈pre:=by
     rw[hl] at hil
     rcases List.mem_append.1 hil with h|h
     ·exact h
     ·exfalso
      have hki:k<=i:=by simp only[List.mem_range'_1] at h;omega
      have:=before j0 (by omega) (hcut i hki hisz j0 hj0k)
      rw[(mem_left.1 hj0l).2] at this
      cases this
    obtain⟨p1,p2,rfl⟩:=List.append_of_mem hip
    have hsorted:=xS (ops:=ops) listed
    have hl':left ops listed=p1++i :: (p2++List.range' k (ops.size-k)):=by rw[hl];simp
    rw[hl'] at hsorted
    have hlt:∀j∈p1,j<i:=λ j hj=>(List.pairwise_append.1 hsorted).2.2 j hj i (by simp)
    have hgt:∀j∈p2++List.range' k (ops.size-k),i<j:=λ j hj=>(List.pairwise_cons.1 (List.pairwise_append.1 hsorted).2.1).1 j hj
    have hind:∀j∈p1,∀oj,ops[j]? = some oj->I9 ops oj ops[i]=true:=λ j hj oj hoj=>by
     have hjl:j∈left ops listed:=by rw[hl'];simp[hj]
     have hjn:=(mem_left.1 hjl).2
     cases hb:((Region.before ops).getD i 0).testBit j with
     | false=>exact hO.ind i _ j oj hoi (hlt j hj) hoj hb
     | true =>
      have:=before j (hlt j hj) hb
      rw[this] at hjn
      cases hjn
    obtain⟨r,hd,hrun'⟩:=C0 hT hoi hs.ok hind hrun
    have hleft:left ops (listed.setIfInBounds i true)=(p1++p2)++List.range' k (ops.size-k):=by
     rw[DK (by omega),hl',List.append_assoc]
     rw[List.filter_append,List.filter_cons_of_neg (by simp)]
     congr 1
     ·exact List.filter_eq_self.2 λ j hj=>by have:=hlt j hj;simp;omega
     ·exact List.filter_eq_self.2 λ j hj=>by have:=hgt j hj;simp;omega
    refine uJ hT hS hs hoi hd λ a' w' hs'=>ih _ (by simp[hsz]) ?_ ?_ hleft (λ j hj=>hpk j (by simp at hj ⊢;rcases hj with h|h<;>simp[h])) hrun' hs'
    ·simp at hlen ⊢
     omega
    ·intro q o hk ho e he hb
     have hks:q<ops.size:=(Array.getElem?_eq_some_iff.1 ho).1
     have hon:=hO.on q o ho e he hb
     rw[J9 (by omega)] at hk ⊢
     split
     ·rfl
     ·by_cases hki:q=i
      ·subst hki
       rw[pE (by omega)]
       exact hpre o ho e he hb
      ·rw[if_neg hki] at hk
       exact hcl q o hk ho e he hb
theorem yA(hO:OrdOk ops (Region.before ops))(k:Nat):∀i o,(gR ops.size k).getD i true=true->ops[i]? = some o->∀e∈o.after,Region.binds .any e=true->(gR ops.size k).getD e.on true=true:=λ i o hi ho e he hb=>by
 have hlt:i<ops.size:=(Array.getElem?_eq_some_iff.1 ho).1
 have hon:=hO.on i o ho e he hb
 rw[vO hlt] at hi
 rw[vO (by omega)]
 simp at hi ⊢
 omega
theorem wC{n k:Nat}(h:k<=n):((List.range n).filter λ i=>decide (k<=i))=List.range' k (n-k):=by
 obtain⟨m,rfl⟩:=Nat.exists_eq_add_of_le h
 rw[Nat.add_sub_cancel_left,List.range_eq_range',<-List.range'_append_1,List.filter_append]
 rw[List.filter_eq_nil_iff.2 λ i hi=>by simp only[List.mem_range'_1] at hi;simp;omega]
 rw[List.nil_append,Nat.zero_add]
 exact List.filter_eq_self.2 λ i hi=>by simp only[List.mem_range'_1] at hi;simp;omega
theorem UY(hT:jE P tb)(hS:iU G)(hO:tP ops=true){k m:Nat}(hk:k+m<=ops.size)(hc:cutOk ops (k+m)=true){st st':St}{a:Act}{w:World}{Q:Exit->Act->World->Prop}(hs:Sat G F0 w0 N st a w)
  (h:lZ P G tb N ops ((ops.toList.drop k).take m) (toK G N st') st) (hQ:∀a w,Sat G F0 w0 N st' a w->wpAny P .any ops Q (ops.size-(k+m)) (gR ops.size (k+m)) a w):wpAny P .any ops Q (ops.size-k) (gR ops.size k) a w:=by
 have hO':=uC hO
 obtain⟨s,h1,-,h2⟩:∃s,Run P G tb N ops (List.range' k m) st s/\Exit.normal=Exit.normal/\Le G N s st':=by
  obtain⟨s,h1,h2⟩:=oL (rest:=(ops.toList.drop k).drop m) (n:=k) (List.take_append_drop _ _).symm h
  rw[List.length_take,List.length_drop,Array.length_toList,Nat.min_eq_left (by omega)] at h1
  exact⟨s,h1,h2⟩
 refine run_cut hT hS hO' (k:=k+m) hk (λ i hi hn j hj=>?_) (st':=s) (λ a w hs'=>hQ a w (h2 F0 w0 a w hs')) _ _ (pre:=List.range' k m) (kE _ _) (by rw[List.length_range'];omega) (yA hO' k) ?_ (λ j hj=>by simp only[List.mem_range'_1] at hj;omega) h1 hs
 ·have:=List.all_eq_true.1 hc i (List.mem_range.2 hn)
  rw[Bool.or_eq_true] at this
  rcases this with h3|h3
  ·have:=of_decide_eq_true h3;omega
  ·exact List.all_eq_true.1 h3 j (List.mem_range.2 hj)
 ·rw[xA,wC (by omega)]
  rw[show ops.size-k=m+(ops.size-(k+m)) by omega,<-List.range'_append_1]
theorem UZ{k:Nat}{o:Oper}{a:Act}{w:World}{Q:Exit->Act->World->Prop}(hi:ops[k]? = some o)(hr:Region.ready .any ops (gR ops.size k)=[k])(hw:Region.wanted o (yielded ops a.tmps)=true)
  (h:o.wp P a w (wpAny P .any ops Q (ops.size-(k+1)) (gR ops.size (k+1))) Q):wpAny P .any ops Q (ops.size-k) (gR ops.size k) a w:=by
 have hlt:k<ops.size:=(Array.getElem?_eq_some_iff.1 hi).1
 rw[show ops.size-k=(ops.size-(k+1))+1 by omega]
 refine⟨fun h1=>(by rw[hr] at h1;cases h1),λ j hj=>?_⟩
 rw[hr] at hj
 obtain rfl:=List.mem_singleton.1 hj
 unfold wpOp
 rw[hi,UE hlt]
 simp only[hw,if_true]
 exact .inl h
theorem any_end(hT:jE P tb)(hS:iU G)(hO:tP ops=true){k:Nat}(hk:k<=ops.size){st:St}{a:Act}{w:World}{K:Exit->St->Prop}{Q:Exit->Act->World->Prop}(hs:Sat G F0 w0 N st a w)
  (h:lZ P G tb N ops (ops.toList.drop k) K st) (hQ:∀s a w,K .normal s->Sat G F0 w0 N s a w->Q .normal a w):wpAny P .any ops Q (ops.size-k) (gR ops.size k) a w:=by
 have hO':=uC hO
 obtain⟨s,h1,h2⟩:=oL (rest:=[]) (n:=k) (by simp) h
 rw[List.length_drop,Array.length_toList] at h1
 refine KQ hT hS hO' (st':=s) (λ a w hs'=>hQ s a w h2 hs') _ _ (kE _ _) (by rw[xA,wC hk,List.length_range'];exact Nat.le_refl _) (yA hO' k) ?_ hs
 rw[xA,wC hk]
 exact h1
theorem GF(hm:P.follows .mixedOrders=true){id:Nat}{st:St}{a:Act}{w:World}{Q:Exit->Act->World->Prop}(hs:Sat G F0 w0 N st a w)(h:∀w',Sat G F0 w0 N st a w'->wpAny P .any ops Q (ops.size-0) (gR ops.size 0) a w'):(Code.region id ops true).wp P Q a w:=by
 have e:gR ops.size 0=Array.replicate ops.size false:=by
  apply Array.ext
  ·simp[kE]
  ·intro i h1 h2;simp[gR]
 rw[e] at h
 refine wp_region_any hm (h _ ?_)
 obtain⟨g,rfl,hI,hbx,hτ,hbase,hF0,hsl⟩:=hs.gh
 have ht:Tr g { g with w:={ g.w with drawn:=g.w.drawn+1 } }:=⟨fun _ _ _ _ h=>h,Nat.le_refl _,rfl,λ _ _=>rfl,λ _ _ _=>rfl,λ k hk=>⟨hk,rfl⟩,λ k ver hv=>.inl ⟨hv,λ j b hb=>⟨hb,rfl,λ _ h=>h⟩⟩⟩
 exact⟨hs.ok,⟨{ g with w:={ g.w with drawn:=g.w.drawn+1 } },rfl,⟨hI.F,hI.base,λ k T d e=>⟨(hI.box k T d e).1,(hI.box k T d e).2.1,(hI.box k T d e).2.2.imp λ xs h=>⟨h.1,h.2.tr ht⟩⟩,hI.inj,hI.fpb,hI.fpd⟩,hbx,hτ,hbase,hF0,λ t ht'=>(hsl t ht').tr ht⟩,hs.below.drew,hs.G,hs.size,hs.defers,hs.fix⟩
end
section
attribute [local simp] ty_p ty_l ty_t kH tDs cB Tm.ts rN gI ac_skip ac_label ac_region ac_seq ac_cond ac_block ac_loop ac_exit ac_ret seqK_n seqK_r seqK_e vo_nil vo_cons blkK LC rU BZ jO jP oK ev jQ gF St.out Z5 oC upd eD wV K0 asC rO mI yF oJ xE uR tU tb Dc.tk Dc.dp Dc.over Dc.app Dc.ln Dc.ds Dc.sing Dc.cont AV.cont Ds.hd Value.oneCell' GA tO AB AV.imp Dc.imp φOf eR AV.isLL AV.list AV.app AV.arg AV.isL AV.ren Dc.ren Dc.lent tmC tmA tsA iA lo? abin AV.nth Dc.own Dc.toks bV pG JD τOf
attribute [local simp] AV.room FB Ds.len Ds.dp
theorem Gh.Ow_none{g:Gh}{d:Ds}{xs:List Value}:g.Ow none d xs:=λ j e=>by cases e
def fp1(S:List Nat):Tk->List Nat:=λ k=>if k=(0,0) then S else []
theorem mem_fp1{S:List Nat}{k:Tk}{b:Nat}:b∈fp1 S k↔k=(0,0)/\b∈S:=by
 unfold fp1
 by_cases h:k=(0,0)
 ·rw[if_pos h];simp[h]
 ·rw[if_neg h];simp[h]
theorem Holds.under{P:Program}{G G':World->Prop}(h:∀w,G' w->G w){f:Nat}{a r:AV}(hh:Holds P G f a r):Holds P G' f a r :=
 ⟨hh.1,hh.2.1,λ F w vs hF hG hv=>hh.2.2 F w vs hF (h w hG) hv⟩
theorem k124(d n:Int):HH 227 [.agg (.lit (.int .i64 d) .nil),iA n] (.tup (AV.list [iA (wrap64 (n-d)),.v (.bool (decide (d<=n)))])):=by
 refine⟨bT func227 (by decide) rfl,rfl,λ F w vs hF hG hv=>?_⟩
 obtain⟨u,v,rfl,h1,h2⟩:=oZ hv
 rw[qG h2]
 obtain⟨ys,e,-,zs,rfl,rfl⟩:=h1
 cases e
 refine (NA d n w).mono ?_
 rintro e w' ⟨rfl,h5⟩
 exact⟨_,λ _=>[],rfl,h5,⟨_,rfl,_,_,rfl,rfl,_,_,rfl,rfl,rfl⟩,λ k b hb=>(by cases hb),λ k k' b hb=>(by cases hb)⟩
def KX(h:Hd)(x:Ts):AV:=.agg (tmC (some (0,0)) none h x)
def wkA(d:Nat)(FV:Value):AV:=.agg (.lit (.int .i64 d) (.lit FV .nil))
theorem k203(fn:Fn)(fi cp:Array Value)(d:Nat)(k:Int)(i:Nat)(hd:d<=400000000000):HH 256 [wkA d (.func fn fi cp),iA k,iA i] (wkA (aX k i d) (.func fn fi cp)):=by
 refine⟨bT func256 (by decide) rfl,rfl,λ F w vs hF hG hv=>?_⟩
 obtain⟨u,v,z,rfl,h1,h2,h3⟩:=xO hv
 rw[qG h2,qG h3]
 obtain⟨ys,e,-,_,rfl,-,_,rfl,rfl⟩:=h1
 cases e
 refine (OL d fn fi cp k i w hG hd).mono ?_
 rintro e w' ⟨rfl,h5⟩
 exact⟨_,λ _=>[],rfl,h5,⟨_,rfl,rfl,_,rfl,rfl,_,rfl,rfl⟩,λ k b hb=>(by cases hb),λ k k' b hb=>(by cases hb)⟩
def oY(j:Option Tk)(h:Hd)(S:Value):Dc:=.lit (.int .i64 h.k) (.lit (.int .i64 h.n) (.lit (.int .i64 h.a) (.row j 1 30 (cB ty h.l) (.lit S .nil))))
theorem I6(h:Hd)(r:Option Addr)(m d:Nat)(hs:aH h.l<=200000000):HH 228 [.agg (oY none h (.slice r m d))] (.agg (oY (some (0,0)) h (.slice r m d))):=by
 refine⟨bT func228 (by decide) rfl,rfl,λ F w vs hF hG hv=>?_⟩
 obtain⟨u,rfl,h1⟩:=qF hv
 obtain⟨ys,e,h1⟩:=h1
 obtain⟨-,_,rfl,-,_,rfl,-,_,rfl,-,v1,_,rfl,q1,-,-,_,rfl,rfl⟩:=h1
 cases e
 obtain⟨p,n,c,rfl,-⟩:=id q1
 refine (own_any h.k h.n h.a h.l p r n c m d w (q1.mono (λ b o v _ hv=>hF b o v hv) (Nat.le_refl _)) hs).mono ?_
 rintro e w' ⟨r',m',d',S,rfl,h5,h6,h7⟩
 obtain⟨_,_,e3,q3,-⟩:=Vs.res (F:=F) (fp:=fp1 S) (Nat.le_refl _) h6
 cases e3
 refine⟨_,fp1 S,rfl,h5,⟨_,rfl,rfl,_,rfl,rfl,_,rfl,rfl,_,rfl,eU _,_,_,rfl,q3,(λ j e=>?_),rfl,_,rfl,rfl⟩,λ k b hb=>?_,λ k k' b h1 h2=>?_⟩
 ·cases e
  exact⟨rfl,S,h6,h7,λ b hb=>mem_fp1.2 ⟨rfl,hb⟩⟩
 ·exact h6.mem b (mem_fp1.1 hb).2
 ·rw[(mem_fp1.1 h1).1,(mem_fp1.1 h2).1]
def Dc.ownd:Dc->Bool
 | .nil=>true
 | .lit _ r=>r.ownd
 | .nilr _ _ r=>r.ownd
 | .row (some _) _ _ _ r=>r.ownd
 | _=>false
theorem RepC.conv{F F':Mem}{w w':World}{fp:Tk->List Nat}:∀ {d:Dc} {xs:List Value},d.ownd=true->RepC (jF F' w w' fp) d xs->RepC (jF F w w' fp) d xs:=by
 intro d
 induction d with
 | nil=>intro xs _ h;exact h
 | lit v r ih=>rintro xs ho ⟨h0,ys,e,h⟩;exact⟨h0,ys,e,ih ho h⟩
 | nilr sz e r ih=>rintro xs ho ⟨ys,e,h⟩;exact⟨ys,e,ih ho h⟩
 | row k sz e x r ih =>
  cases k with
  | none=>intro xs ho;cases ho
  | some k =>
   rintro xs ho ⟨h0,v,ys,e,-,how,h⟩
   obtain⟨h1,S,h2,h3,h4⟩:=how k rfl
   obtain⟨_,_,e2,h5,-⟩:=Vs.res (F:=F) (fp:=fp) (Nat.le_refl _) h2
   cases e2
   refine⟨h0,v,ys,e,h5,λ j e3=>?_,ih ho h⟩
   cases e3
   exact⟨h1,S,h2,h3,h4⟩
 | seg k d r _=>intro xs ho;cases ho
 | blk k v sz e x r _ _=>intro xs ho;cases ho
def RMx(F:Nat->Nat->Option Value)(hi:Nat)(v:Value)(h:Hd)(x:Ts):Prop :=
 ∃q n c r m d,v=.agg #[.int .i64 h.k,.int .i64 h.n,.int .i64 h.a,.slice q n c,.slice r m d]/\Rd F hi (.slice q n c) 1 (cB ty h.l) .nil/\Rd F hi (.slice r m d) 5 (tDs ty x) .nil
theorem FM{g:Gh}{t:Tm}{v:Value}(h:RMx g.F g.w.heap.size v t.h t.x):RepV g (tmL t) [v]:=by
 obtain⟨p,n,c,p',n',c',rfl,h1,h2⟩:=h
 exact⟨_,rfl,rfl,_,rfl,rfl,_,rfl,rfl,_,rfl,eU _,_,_,rfl,h1,Gh.Ow_none,cY _,_,_,rfl,h2,Gh.Ow_none,rfl⟩
theorem Ds.dp_app(x y:Ds):(x.app y).dp x.len=y:=by
 induction x with
 | nil=>rfl
 | lit v r ih=>exact ih
 | row sz e x s r _ _ ih=>exact ih
theorem fH(a r:Ts):(tDs ty (a.app r)).dp (a.len*5)=tDs ty r:=by
 rw[bG,<-aF ty,Ds.dp_app]
theorem dS{h:Hd}{y r:Ts}:∀ {a:Ts},(a.app (.cons h y r)).fits->h.fits/\y.fits
 | .nil,hf=>⟨hf.1,hf.2.1⟩
 | .cons _ _ _,hf=>dS hf.2.2
theorem app_size{h:Hd}{y r:Ts}:∀ {a:Ts},aH h.l+y.size+1<=(a.app (.cons h y r)).size
 | .nil=>by simp only[Ts.app,Ts.size];omega
 | .cons _ _ a=>by have:=app_size (h:=h) (y:=y) (r:=r) (a:=a);simp only[Ts.app,Ts.size];omega
def GLf(bf bn:Nat)(f n:Int)(w:World):Prop:=KA w/\U w bf 0=some (.int .i64 f)/\U w bn 0=some (.int .i64 n)
theorem stGLf(bf bn:Nat)(f n:Int):iU (GLf bf bn f n):=λ w w' hb ⟨h1,h2,h3⟩=>⟨lQ w w' hb h1,aE hb _ _ _ (aL h2) h2,aE hb _ _ _ (aL h3) h3⟩
abbrev HLf(bf bn:Nat)(f n:Int)(g:Nat)(ps:List AV)(r:AV):Prop:=Holds prog (GLf bf bn f n) g (.list ps) r
abbrev inEl(n:Int):AV:=.el (.lit (.int .i64 n) .nil)
theorem k123(FV:Value)(h:Hd)(r:Option Addr)(m c:Nat)(d:Nat)(f n:Int)(hd:d<=100000000000)(hn:h.n<=9223372036854775807)(hls:aH h.l<=200000000) :
  HH 226 [wkA d FV,.agg (oY none h (.slice r m c)),inEl f,inEl n] (.tup (AV.list [.agg (oY (some (0,0)) (h.lift n f d) (.slice r m c)),.v (.bool false)])):=by
 have q1:=k124 d h.n
 obtain⟨hk,hn',ha,hl⟩:=h
 simp only at hn hls q1
 by_cases c1:hk=1
 ·subst c1
  by_cases c2:(d:Int)<=hn'
  ·have w1:wrap64 (hn'-d)=hn'-d:=by unfold wrap64;omega
   rw[w1,decide_eq_true c2] at q1
   by_cases c3:f<=hn'-d
   ·have e:(⟨1,hn',ha,hl⟩:Hd).lift n f d=⟨1,IntKind.i64.wrap (hn'+n),ha,hl⟩:=by simp[Hd.lift,c2,c3]
    rw[e]
    refine ab0 func226 ntmps226 results226 ?_
    simp[wkA,oY]
    apply aC q1<;>simp[c3]
    apply aC (I6 ⟨1,IntKind.i64.wrap (hn'+n),ha,hl⟩ r m c hls)<;>simp[oY]
    exact⟨[((0,0),[(36,0)])],by simp⟩
   ·have e:(⟨1,hn',ha,hl⟩:Hd).lift n f d=⟨1,hn',ha,hl⟩:=by simp[Hd.lift,c3]
    rw[e]
    refine ab0 func226 ntmps226 results226 ?_
    simp[wkA,oY]
    apply aC q1<;>simp[c3]
    apply aC (I6 ⟨1,hn',ha,hl⟩ r m c hls)<;>simp[oY]
    exact⟨[((0,0),[(36,0)])],by simp⟩
  ·have e:(⟨1,hn',ha,hl⟩:Hd).lift n f d=⟨1,hn',ha,hl⟩:=by simp[Hd.lift,c2]
   rw[e]
   rw[decide_eq_false c2] at q1
   refine ab0 func226 ntmps226 results226 ?_
   simp[wkA,oY]
   apply aC q1<;>simp
   apply aC (I6 ⟨1,hn',ha,hl⟩ r m c hls)<;>simp[oY]
   exact⟨[((0,0),[(36,0)])],by simp⟩
 ·have e:(⟨hk,hn',ha,hl⟩:Hd).lift n f d=⟨hk,hn',ha,hl⟩:=by simp[Hd.lift,c1]
  rw[e]
  refine ab0 func226 ntmps226 results226 ?_
  simp[wkA,oY]
  apply aC q1<;>simp[c1]
  apply aC (I6 ⟨hk,hn',ha,hl⟩ r m c hls)<;>simp[oY]
  exact⟨[((0,0),[(36,0)])],by simp⟩
theorem in_el{b:Nat}{n:Int}{w:World}(h1:U w b 0=some (.int .i64 n)):RepV (bJ (U w) w) (inEl n) [.pointer (some ⟨b,0,none⟩)]:=by
 refine⟨⟨rfl,trivial⟩,b,0,[.int .i64 n],rfl,aL h1,⟨[],rfl,rfl⟩,λ j u hj=>?_⟩
 cases j with
 | zero =>
  simp at hj
  subst hj
  show (if b<w.heap.size then _ else _)=_
  rw[if_pos (aL h1)]
  exact h1
 | succ j=>simp at hj
abbrev U9(bf bn:Nat):Value:=.func (.func 226) #[] #[.pointer (some ⟨bf,0,none⟩),.pointer (some ⟨bn,0,none⟩)]
abbrev ptA(b:Nat):AV:=.v (.pointer (some ⟨b,0,none⟩))
theorem g123(bf bn:Nat)(f n:Int)(h:Hd)(x:Ts)(d:Nat)(hd:d<=100000000000)(hn:h.n<=9223372036854775807)(hls:aH h.l<=200000000) :
  HLf bf bn f n 226 [wkA d (U9 bf bn),tmL ⟨h,x⟩,ptA bf,ptA bn] (.tup (AV.list [KX (h.lift n f d) x,.v (.bool false)])):=by
 refine⟨bT func226 (by decide) rfl,rfl,λ F w vs hF hG hv=>?_⟩
 obtain⟨u1,_,rfl,h1,v,_,rfl,h2,z,_,rfl,h3,z2,_,rfl,h4,rfl⟩:=hv
 obtain rfl:z=.pointer (some ⟨bf,0,none⟩):=by simpa[RepV] using h3
 obtain rfl:z2=.pointer (some ⟨bn,0,none⟩):=by simpa[RepV] using h4
 obtain⟨ys,e,-,_,rfl,-,_,rfl,-,_,rfl,-,v1,_,rfl,q1,-,-,v2,_,rfl,q2,-,rfl⟩:=h2
 cases e
 obtain⟨p',n',c',rfl,-⟩:=id q2
 have hk:=(k123 (U9 bf bn) h p' n' c' d f n hd hn hls).2.2 (U w) w [u1,.agg #[.int .i64 h.k,.int .i64 h.n,.int .i64 h.a,v1,.slice p' n' c'],.pointer (some ⟨bf,0,none⟩),.pointer (some ⟨bn,0,none⟩)] (λ _ _ _ h=>h) hG.1
  ⟨_,_,rfl,h1,_,_,rfl,⟨_,rfl,rfl,_,rfl,rfl,_,rfl,rfl,_,rfl,eU _,_,_,rfl,q1.mono (λ b o v _ hv=>hF b o v hv) (Nat.le_refl _),Gh.Ow_none,rfl,_,rfl,rfl⟩,_,_,rfl,in_el hG.2.1,_,_,rfl,in_el hG.2.2,rfl⟩
 refine hk.mono ?_
 generalize h.lift n f d=h'
 rintro e w' ⟨v',fp,rfl,hb,⟨zs,e,a1,_,rfl,⟨ys,e2,g1,_,rfl,g2,_,rfl,g3,_,rfl,g4,l1,_,rfl,g5,g6,g7,_,rfl,rfl⟩,r1⟩,m1,m2⟩
 obtain⟨j0,_,_,e3,j2,j3,-⟩:=RepC.conv (F:=F) (F':=U w) (d:=.row (some (0,0)) 1 30 (cB ty h'.l) .nil) (xs:=[l1]) rfl ⟨g4,_,_,rfl,g5,g6,rfl⟩
 cases e3
 have q4:Rd (jF F w w' fp).F w'.heap.size (.slice p' n' c') 5 (tDs ty x) .nil:=q2.mono (λ b o v hb' hv=>by
  show (if b<w.heap.size then F b o else _)=_
  exact (if_pos (show b<w.heap.size from hb')).trans hv) hb.size
 exact⟨v',fp,rfl,hb,⟨_,e,a1,_,rfl,⟨_,e2,g1,_,rfl,g2,_,rfl,g3,_,rfl,j0,_,_,rfl,j2,j3,cY _,_,_,rfl,q4,Gh.Ow_none,rfl⟩,r1⟩,m1,m2⟩
@[simp] theorem calleeOf_lift (bf bn:Nat):eR (.v (.func (.func 226) #[] #[.pointer (some ⟨bf,0,none⟩),.pointer (some ⟨bn,0,none⟩)]))=some (226,.nil,.cons (.v (.pointer (some ⟨bf,0,none⟩))) (.cons (.v (.pointer (some ⟨bn,0,none⟩))) .nil)):=rfl
theorem lift_app(n f:Int):∀(a b:Ts) (pk:Int) (i d:Nat),(a.app b).lift n f pk i d=(a.lift n f pk i d).app (b.lift n f pk (i+a.len) d)
 | .nil,b,pk,i,d=>by simp[Ts.app,Ts.lift,Ts.len]
 | .cons h x r,b,pk,i,d=>by
  simp only[Ts.app,Ts.lift,lift_app n f r b,Ts.len]
  rw[show i+1+r.len=i+(r.len+1) by omega]
def stLw(bf bn:Nat)(n f:Int)(d:Nat)(h:Hd)(x a:Ts):St:=bV [(2,.bx 3 0),(3,.bx 4 0),(4,.bx 5 0),(5,.bx 6 0),(23,tsA none x),(24,iA x.len),(25,iA a.len)]
 [(3,222,.lit (.int .i64 d) (.lit (U9 bf bn) .nil)),(4,27,tmC none none h x),(5,27,.lit (.int .i64 0) (.lit (.int .i64 0) (.lit (.int .i64 0) (.nilr 1 30 (.nilr 5 27 .nil))))),(6,27,.lit (.int .i64 (h.lift n f d).k) (.lit (.int .i64 (h.lift n f d).n) (.lit (.int .i64 (h.lift n f d).a) (.row (some (16,0)) 1 30 (cB ty (h.lift n f d).l) (.blk 41 (a.len+1) 5 27 (.seg (some (100,0)) (tDs ty (a.lift n f h.k 0 d)) .nil) .nil)))))]
 [(41,a.len+1),(16,0),(100,0)]
theorem HH.gl{g:Nat}{ps:List AV}{r:AV}(h:HH g ps r)(bf bn:Nat)(f n:Int):HLf bf bn f n g ps r:=Holds.under (λ _ h=>h.1) h
theorem k126w(bf bn:Nat)(f n:Int):∀(M:Nat) (t:Tm) (d:Nat),t.size<M->t.fits->t.size<=200000000->t.size+d<=400000000->HLf bf bn f n 229 [wkA d (U9 bf bn),tmL t] (tmO ⟨t.h.lift n f d,t.x.lift n f t.h.k 0 d⟩):=by
 intro M
 induction M with
 | zero=>intro t d h;omega
 | succ M ih =>
  rintro⟨h,x⟩ d hM hf hss hs
  have dx:x.len*5 / 5=x.len:=by omega
  have hsz:x.size<=(⟨h,x⟩:Tm).size:=by unfold Tm.size;simp only;omega
  have hxl:x.len<=200000000:=by have:=Ts.len_le_size x;omega
  have q1:=g123 bf bn f n h x d (by omega) hf.1.2.1.2 (by unfold Tm.size at hss;simp only at hss;omega)
  simp only
  refine rD oE (stGLf bf bn f n) mixed (fn:=Tryz.f229) func229 rfl (by decide) (by simp) (λ a ha=>AV.bare_ok (by simp at ha;rcases ha with rfl|rfl<;>rfl) _ _) rfl rfl rfl ?_
  rw[ntmps229,results229]
  simp[wkA]
  apply aC q1<;>simp[wkA,KX]
  refine LZ oE (stGLf bf bn f n) mixed (α:={ q:Ts×Ts // q.1.app q.2=x }) (λ q=>stLw bf bn n f d h x q.1.1) (λ q=>q.1.2.len) ⟨(.nil,x),rfl⟩ ?_ ?_
  ·apply aK [((16,0),[(16,0)]),((41,0),[(41,0)])]<;>simp[Ts.lift,Ts.len,AV.ok,Dc.ok,aF]
  ·rintro⟨⟨a,r⟩,hq⟩
   simp only at hq
   cases r with
   | nil =>
    have e:a=x:=by rw[<-hq];exact (Ts.app_nil a).symm
    subst e
    simp[stLw,Ds.app_nil]
    exact⟨[((0,0),[(16,0)]),((0,1),[(41,0),(100,0)])],by simp⟩
   | cons hh hx r =>
    have h1:a.len<x.len:=by rw[<-hq];simp[Ts.app_len,Ts.len]
    have h2:(tDs ty x).dp (a.len*5)=tDs ty (.cons hh hx r):=by rw[<-hq];exact fH a _
    have h3:hh.fits/\hx.fits:=dS (a:=a) (by rw[hq];exact hf.2)
    have h4:aH hh.l+hx.size+1<=x.size:=by rw[<-hq];exact app_size
    have hw:=wr1 (k:=a.len) (by omega)
    have hdp:aX h.k a.len d<=d+1:=by unfold aX;split<;>omega
    have hne:tDs ty ((a.app (.cons hh hx .nil)).lift n f h.k 0 d)=(tDs ty (a.lift n f h.k 0 d)).app (tDs ty (.cons (hh.lift n f (aX h.k a.len d)) (hx.lift n f hh.k 0 (aX h.k a.len d)) .nil)):=by
     rw[lift_app,bG,Nat.zero_add];rfl
    have hsz2:(⟨hh,hx⟩:Tm).size+1<=x.size:=h4
    have ihh:=ih ⟨hh,hx⟩ (aX h.k a.len d) (by omega) h3 (by omega) (by omega)
    simp only at ihh
    generalize hh.lift n f (aX h.k a.len d)=ph at *
    generalize hx.lift n f hh.k 0 (aX h.k a.len d)=px at *
    simp[stLw,h1,h2]
    refine⟨by rw[aF];omega,by kernel_rfl,?_⟩
    apply aC ((k203 (.func 226) #[] #[.pointer (some ⟨bf,0,none⟩),.pointer (some ⟨bn,0,none⟩)] d h.k a.len (by omega)).gl bf bn f n)<;>simp[wkA]
    apply aC ihh<;>simp[wkA]
    refine⟨by rw[aF,Ts.lift_len];omega,a.app (.cons hh hx .nil),r,by simp[Ts.len],by rw[Ts.app_assoc];exact hq,?_⟩
    apply aK [((16,0),[(16,0)]),((41,0),[(41,0)]),((100,0),[(100,0),(39,0),(39,1)])]<;>simp[Ts.len,Ts.app_len,AV.ok,Dc.ok,hw,hne]
theorem J6{G:World->Prop}{f:Nat}{ps:List AV}{t:Tm}(h:Holds prog G f (.list ps) (tmO t)){w:World}{vs:List Value}(hG:G w)(hv:RepV (bJ (U w) w) (.list ps) vs):Calls prog f vs.toArray w (MakesT t.h t.x w) :=
 (h.2.2 (U w) w vs (λ _ _ _ h=>h) hG hv).mono λ e w' ⟨v,fp,h1,h2,h3,h6,h7⟩=>by
  obtain⟨ys,e,h⟩:=h3
  obtain⟨-,_,rfl,-,_,rfl,-,_,rfl,-,v1,_,rfl,h4,o1,-,v2,_,rfl,h5,o2,rfl⟩:=h
  cases e
  obtain⟨p,n,c,rfl,-⟩:=id h4
  obtain⟨p',n',c',rfl,-⟩:=id h5
  obtain⟨-,S1,w1,n1,m1⟩:=o1 (0,0) rfl
  obtain⟨-,S2,w2,n2,m2⟩:=o2 (0,1) rfl
  obtain⟨_,_,z1,u1,B1,A1,A2,A3,e1,a1,a2,a3,⟨e5,rfl⟩,rfl⟩:=w1
  cases e1
  have hS:∀x,x∈B1++(A1++(A2++[]))->x ∉ S2:=λ x hx hy=>by
   have:=h7 _ _ x (m1 x hx) (m2 x hy)
   cases this
  refine⟨p,n,c,p',n',c',B1++(A1++(A2++S2)),h1,h2,⟨_,rfl,_,rfl,_,rfl,_,_,z1,u1,B1,A1,A2,S2,rfl,a1,a2,a3,w2,rfl⟩,?_⟩
  have e:B1++(A1++(A2++S2))=(B1++(A1++(A2++[])))++S2:=by simp[List.append_assoc]
  rw[e]
  exact List.nodup_append.2 ⟨n1,n2,λ x hx y hy e=>by subst e;exact hS x hx hy⟩
end
section
theorem PA(h:Hd)(x:Ts)(va:Value)(n f:Int)(bf bn:Nat)(w:World)(ha:RM ty w va h x)(hf:h.fits)(hxf:x.fits)(hs:aH h.l+x.size<=200000000)(hKA:KA w)(cf:U w bf 0=some (.int .i64 f))(cn:U w bn 0=some (.int .i64 n)) :
  Calls prog 229 #[.agg #[.int .i64 ((0:Nat):Int),U9 bf bn],va] w (MakesT (h.lift n f 0) (x.lift n f h.k 0 0) w) :=
 J6 (vs:=[.agg #[.int .i64 ((0:Nat):Int),U9 bf bn],va]) (k126w bf bn f n _ ⟨h,x⟩ 0 (Nat.lt_succ_self _) ⟨hf,hxf⟩ hs (by unfold Tm.size;simp only;omega)) ⟨hKA,cf,cn⟩ ⟨_,_,rfl,⟨_,rfl,rfl,_,rfl,rfl,_,rfl,rfl⟩,_,_,rfl,FM (t:=⟨h,x⟩) ha,rfl⟩
theorem U7(h:Hd)(x:Ts)(va:Value)(n f:Int)(w:World)(ha:RM ty w va h x)(hf:h.fits)(hxf:x.fits)(hs:aH h.l+x.size<=200000000)(hKA:KA w) :
  Calls prog 147 #[va,.int .i64 n,.int .i64 f] w (MakesT (h.lift n f 0) (x.lift n f h.k 0 0) w):=by
 obtain⟨q,c,r,m,rfl,-,-,-,-,hl,hx⟩:=ha.agg
 obtain⟨w2,hw2⟩:∃w2,(((w.alloc (.cells #[.int .i64 h.k,.int .i64 h.n,.int .i64 h.a,.slice q h.l.length c,.slice r x.len m] 27)).alloc (.cells #[.int .i64 n] 3)).alloc (.cells #[.int .i64 f] 3)).alloc (.cells cE 27)=w2:=⟨_,rfl⟩
 have hb2:Below w.heap.size w w2:=by rw[<-hw2];exact aB (aB (aB (aA _ _) (aA _ _)) (aA _ _)) (aA _ _)
 have hs2:w2.heap.size=w.heap.size+4:=by rw[<-hw2];simp
 have p1:∀o v,(#[.int .i64 h.k,.int .i64 h.n,.int .i64 h.a,.slice q h.l.length c,.slice r x.len m]:Array Value)[o]? = some v->U w2 w.heap.size o=some v:=λ o v hv=>by
  rw[<-hw2]
  exact aE (aA _ _) _ _ _ (by first|(simp;done)|(simp;omega)) (aE (aA _ _) _ _ _ (by first|(simp;done)|(simp;omega)) (aE (aA _ _) _ _ _ (by first|(simp;done)|(simp;omega)) (aM hv)))
 have pn:U w2 (w.heap.size+1) 0=some (.int .i64 n):=by
  have:=aM (w:=w.alloc (.cells #[.int .i64 h.k,.int .i64 h.n,.int .i64 h.a,.slice q h.l.length c,.slice r x.len m] 27)) (cs:=#[.int .i64 n]) (ty:=3) (o:=0) rfl
  rw[World.size_alloc] at this
  rw[<-hw2]
  exact aE (aA _ _) _ _ _ (by first|(simp;done)|(simp;omega)) (aE (aA _ _) _ _ _ (by first|(simp;done)|(simp;omega)) this)
 have pf:U w2 (w.heap.size+1+1) 0=some (.int .i64 f):=by
  have:=aM (w:=(w.alloc (.cells #[.int .i64 h.k,.int .i64 h.n,.int .i64 h.a,.slice q h.l.length c,.slice r x.len m] 27)).alloc (.cells #[.int .i64 n] 3)) (cs:=#[.int .i64 f]) (ty:=3) (o:=0) rfl
  rw[World.size_alloc,World.size_alloc] at this
  rw[<-hw2]
  exact aE (aA _ _) _ _ _ (by first|(simp;done)|(simp;omega)) this
 have p2:∀o v,cE[o]? = some v->U w2 (w.heap.size+1+1+1) o=some v:=λ o v hv=>by
  have:=aM (w:=((w.alloc (.cells #[.int .i64 h.k,.int .i64 h.n,.int .i64 h.a,.slice q h.l.length c,.slice r x.len m] 27)).alloc (.cells #[.int .i64 n] 3)).alloc (.cells #[.int .i64 f] 3)) (ty:=27) hv
  rw[World.size_alloc,World.size_alloc,World.size_alloc,hw2] at this
  exact this
 have c0:=aD (p1 0 _ rfl)
 have c1:=aD (p1 1 _ rfl)
 have c2:=aD (p1 2 _ rfl)
 have c3:=aD (p1 3 _ rfl)
 have c4:=aD (p1 4 _ rfl)
 have hcs:=Ts.count_le_size x
 have HC:=hid (PA h x _ n f _ _ w2 (ha.on hb2) hf hxf hs (hKA.on hb2 hKA.1) pf pn)
 have HB2:=hid hb2
 have HS2:=hid hs2
 have P2:=hid p2
 unfold cE at hw2
 clear hl hx ha hf hxf hs hb2 hs2 p1 p2 hcs pn pf hKA
 go_enter func147,ntmps147
 go_wp2_with fail
 refine HC.out.mono ?_
 rintro e wy ⟨s1,n1,d1,s2,n2,d2,S,rfl,hby,ho,hn⟩
 have hlt:w.heap.size+1+1+1<w2.heap.size:=by have:=HS2.out;omega
 have z2:∀o v,cE[o]? = some v->U wy (w.heap.size+1+1+1) o=some v:=λ o v hv=>aE hby _ _ _ hlt (P2.out o v hv)
 have m0:=aD (z2 0 _ rfl)
 have m1:=aD (z2 1 _ rfl)
 have m2:=aD (z2 2 _ rfl)
 have m3:=aD (z2 3 _ rfl)
 have m4:=aD (z2 4 _ rfl)
 have o0:=aI (z2 0 _ rfl)
 have o1:=aI (z2 1 _ rfl)
 have o2:=aI (z2 2 _ rfl)
 have o3:=aI (z2 3 _ rfl)
 have o4:=aI (z2 4 _ rfl)
 have HBY:=hid (aB HB2.out hby)
 have HO:=hid ho
 have HN:=hid hn
 have Z2:=hid z2
 obtain⟨k1,hk1⟩:∃z,(h.lift n f 0).k=z:=⟨_,rfl⟩
 obtain⟨k2,hk2⟩:∃z,(h.lift n f 0).n=z:=⟨_,rfl⟩
 obtain⟨k3,hk3⟩:∃z,(h.lift n f 0).a=z:=⟨_,rfl⟩
 have HK1:=hid hk1
 have HK2:=hid hk2
 have HK3:=hid hk3
 rw[hk1,hk2,hk3] at HO ⊢
 clear hby ho hn z2 c0 c1 c2 c3 c4 hk1 hk2 hk3 hlt hw2
 go_wp2_with fail
 obtain⟨W,hW⟩:∃W,((((wy.setCell ⟨w.heap.size+1+1+1,0,none⟩ (.int .i64 k1)).setCell ⟨w.heap.size+1+1+1,1,none⟩ (.int .i64 k2)).setCell ⟨w.heap.size+1+1+1,2,none⟩ (.int .i64 k3)).setCell ⟨w.heap.size+1+1+1,3,none⟩ (.slice s1 n1 d1)).setCell ⟨w.heap.size+1+1+1,4,none⟩ (.slice s2 n2 d2)=W:=⟨_,rfl⟩
 obtain⟨⟨x0,x1,x2,x3,x4⟩,hBF,hkW⟩:=C8 Z2.out HBY.out (by omega) hW
 rw[hW]
 refine bodyPost_ret (v:=.agg #[.int .i64 k1,.int .i64 k2,.int .i64 k3,.slice s1 n1 d1,.slice s2 n2 d2]) (by simp[results,results147,go_sem,x0,x1,x2,x3,x4]) rfl ⟨s1,n1,d1,s2,n2,d2,S,by rw[HK1.out,HK2.out,HK3.out],hBF,?_,HN.out⟩
 rw[HK1.out,HK2.out,HK3.out]
 exact (HO.out.lower (by have:=HS2.out;omega)).kept λ b hb=>hkW b (by have:=(HO.out.mem b hb).1;have:=HS2.out;omega)
end
section
open Go.RowKit Go.Shelf
attribute [local go_sem] Oper.semAt_some
theorem W8(p:Option Addr)(n c:Nat)(w:World):Calls prog 231 #[.slice p n c] w λ e w'=>e=.returned (.func (.func 257) #[] #[.pointer (some ⟨w.heap.size,0,none⟩)])/\w'=w.alloc (.cells #[.slice p n c] 25):=by
 go_enter func231,ntmps231
 go_wp2_with fail
 go_ret
 exact⟨rfl,rfl⟩
def BkD(B:Nat)(p:Option Addr)(n c:Nat)(vs:Nat->Nat->Value)(W:World):Prop :=
 W.cell? ⟨B,0,none⟩=some (.slice p n c)/\∀k,k<n->∃b o,p=some ⟨b,o,none⟩/\∀i,i<5->W.cell? ⟨b,o+k*5+i,none⟩=some (vs k i)
def el(vs:Nat->Nat->Value)(k:Nat):Value:=.agg #[vs k 0,vs k 1,vs k 2,vs k 3,vs k 4]
def dn(n j:Nat):List Nat:=(List.range j).map λ t=>n-1-t
theorem BH(n j:Nat):dn n (j+1)=dn n j++[n-1-j]:=by simp[dn,List.range_succ]
theorem back_in(l B n c m:Nat)(p:Option Addr)(vs:Nat->Nat->Value)(hn:n<=c)(hc:c<=maxLen)(J Jx:List (Fin n)->World->Prop)
  (hY:∀pre x W,J pre W->pre.length<n->YieldAt Fence.wide (m-1) prog l #[.int .i64 (x.val:Int),el vs x.val] W λ e W' =>
   (e=.returned (.bool true)/\J (pre++[x]) W'/\(BkD B p n c vs W->BkD B p n c vs W'))∨(e=.returned (.bool false)/\Jx (pre++[x]) W'))
  (w:World) (hD:BkD B p n c vs w) (h0:J [] w) :
  CallsIn Fence.wide m prog 257 #[.func (.yield l) #[] #[],.pointer (some ⟨B,0,none⟩)] w λ e W'=>(∃v,e=.returned v)/\((∃xs,xs.map (·.val)=dn n n/\J xs W')∨(∃pre,True/\Jx pre W')):=by
 have HY:=hid hY
 have H0:=hid h0
 have HD:=hid hD
 unfold maxLen at hc
 have hb:=hD.1
 clear hY h0 hD
 refine callsIn_of_wp func257 rfl trivial ?_ rfl
 simp only[ntmps257,List.size_toArray,List.length_cons,List.length_nil,Nat.reduceAdd,Nat.reduceSub,Array.replicate_succ,Array.replicate_zero,List.push_toArray,List.append_toArray,List.nil_append,List.cons_append]
 gi_wp2_with fail
 clear hb
 gi_loopw [3] (λ i wr=>∃(j:Nat) (pre:List (Fin n)),j<=n/\i=.int .i64 ((n:Int)-1-j)/\pre.map (·.val)=dn n j/\J pre wr/\BkD B p n c vs wr) (λ i _=>(intOf i+1).toNat)
 case atStart=>exact⟨0,[],Nat.zero_le _,by simp,rfl,H0.out,HD.out⟩
 case round =>
  obtain⟨j,pre,hj,rfl,hpre,hJ,hD⟩:=hrel
  have HJ:=hid hJ
  have HPRE:=hid hpre
  have hb:=hD.1
  have HDr:=hid hD
  clear hJ hpre HD H0
  by_cases hlt:j<n
  ·have r1:decide ((0:Int)<=(n:Int)-1-j)=true:=decide_eq_true (by omega)
   have i1:(0:Int)<=(n:Int)-1-j:=by omega
   have i2:(n:Int)-1-j<n:=by omega
   obtain⟨b,o,rfl,hcs⟩:=hD.2 (n-1-j) (by omega)
   have hk:((n:Int)-1-j).toNat=n-1-j:=by omega
   have e0:=hcs 0 (by decide)
   have e1:=hcs 1 (by decide)
   have e2:=hcs 2 (by decide)
   have e3:=hcs 3 (by decide)
   have e4:=hcs 4 (by decide)
   obtain⟨kk,hkk⟩:∃kk,n-1-j=kk:=⟨_,rfl⟩
   have hkn:kk<n:=by omega
   have hkI:(n:Int)-1-j=(kk:Int):=by omega
   rw[hkI] at r1 i1 i2 ⊢
   rw[hkk] at e0 e1 e2 e3 e4
   rw[Nat.add_zero] at e0
   obtain⟨fn,tmps,assign,body,hy,hR⟩:=HY.out pre ⟨kk,hkn⟩ wr HJ.out (by have:=congrArg List.length HPRE.out;simp[dn] at this;omega)
   have HR:=hid hR
   unfold el at hy
   clear hR hcs hk hD
   gi_wp2_with fail
   refine⟨fun h=>(by cases h),HR.out.mono ?_⟩
   rintro e W3 (⟨rfl,hJ3,hK3⟩|⟨rfl,hJ3⟩)
   ·have HJ3:=hid hJ3
    have HK3:=hid (hK3 HDr.out)
    have HP3:Hid ((pre++[(⟨kk,hkn⟩:Fin n)]).map (λ x:Fin n=>x.val)=dn n (j+1)):=hid (by rw[List.map_append,HPRE.out,BH,hkk];rfl)
    have hkj:(kk:Int)-1=(n:Int)-1-((j+1:Nat):Int):=by omega
    clear hJ3 hK3 e0 e1 e2 e3 e4
    gi_wp2_with fail
    go_roundw
    case rel=>exact⟨j+1,_,by omega,by go_num,HP3.out,HJ3.out,HK3.out⟩
    case measure=>simp[intOf];omega
   ·have HJ3:=hid hJ3
    clear hJ3 e0 e1 e2 e3 e4
    gi_wp2_with fail
    exact bodyPost_ret (v:=.tuple #[]) (by simp[results,results257,go_sem]) rfl ⟨⟨_,rfl⟩,.inr ⟨_,trivial,HJ3.out⟩⟩
  ·obtain rfl:j=n:=by omega
   have r1:decide ((0:Int)<=(j:Int)-1-j)=false:=decide_eq_false (by omega)
   clear hD hb
   gi_wp2_with fail
   go_end0
   exact⟨⟨_,rfl⟩,.inl ⟨pre,HPRE.out,HJ.out⟩⟩
theorem M2(B n c:Nat)(p:Option Addr)(vs:Nat->Nat->Value)(hn:n<=c)(hc:c<=maxLen)(m:Nat)(w:World)(hkeep:∀W,Below w.heap.size w W->BkD B p n c vs W) :
  SeqStopsK Fence.wide m prog 257 #[.pointer (some ⟨B,0,none⟩)] (λ x:Fin n=>#[.int .i64 (x.val:Int),el vs x.val]) (λ A B'=>BkD B p n c vs A->BkD B p n c vs B') (λ xs=>xs.map (·.val)=dn n n) (λ _=>True) n w:=λ l J Jx W hW _ _ hY h0 =>
 back_in l B n c m p vs hn hc J Jx hY W (hkeep W hW) h0
end
section
open Go.RowKit Go.Shelf
def Fx(g:Nat)(w:World)(b o:Nat):Option Value:=if b=g then none else U w b o
theorem VM{g:Nat}{w:World}{b o:Nat}{v:Value}(h:Fx g w b o=some v):U w b o=some v:=by
 unfold Fx at h;split at h
 ·cases h
 ·exact h
theorem Fx_ne{g:Nat}{w:World}{b o:Nat}{v:Value}(h:Fx g w b o=some v):b≠g:=by
 unfold Fx at h;split at h
 ·cases h
 ·assumption
theorem VL{g:Nat}{w:World}{b o:Nat}{v:Value}(h:U w b o=some v)(hb:b≠g):Fx g w b o=some v:=by
 unfold Fx;rw[if_neg hb];exact h
theorem Fx_on{g:Nat}{w w':World}(h:∀b,b<w.heap.size->b≠g->(∃o v,U w b o=some v)->w'.heap[b]? = w.heap[b]?)(b o:Nat)(v:Value)(hv:Fx g w b o=some v):Fx g w' b o=some v :=
 VL ((eW (h b (aL (VM hv)) (Fx_ne hv) ⟨o,v,VM hv⟩) o).trans (VM hv)) (Fx_ne hv)
structure BelowX (g:Nat) (w w':World):Prop where
 os:w'.os=w.os
 tape:w'.tape=w.tape
 output:w'.output=w.output
 size:w.heap.size<=w'.heap.size
 block:∀b,b<w.heap.size->b≠g->w'.heap[b]? = w.heap[b]?
theorem BelowX.below{g:Nat}{w w':World}{B:Nat}(h:BelowX g w w')(hB:B<=g)(hw:B<=w.heap.size):Below B w w':=⟨h.os,h.tape,h.output,h.size,λ b hb=>h.block b (by omega) (by omega)⟩
theorem BelowX.refl(g:Nat)(w:World):BelowX g w w:=⟨rfl,rfl,rfl,Nat.le_refl _,λ _ _ _=>rfl⟩
theorem BelowX.of_below{g:Nat}{w w':World}(h:Below w.heap.size w w'):BelowX g w w':=⟨h.os,h.tape,h.output,h.size,λ b hb _=>h.block b hb⟩
theorem BelowX.trans{g:Nat}{a b c:World}(h:BelowX g a b)(k:BelowX g b c):BelowX g a c:=⟨k.os.trans h.os,k.tape.trans h.tape,k.output.trans h.output,Nat.le_trans h.size k.size,λ i hi hn=>(k.block i (Nat.lt_of_lt_of_le hi h.size) hn).trans (h.block i hi hn)⟩
theorem BelowX.U{g:Nat}{w w':World}(h:BelowX g w w'){b o:Nat}{v:Value}(hv:U w b o=some v)(hb:b≠g):U w' b o=some v:=(eW (h.block b (aL hv) hb) o).trans hv
theorem BelowX.grown{g:Nat}{w a b:World}{row:Option Nat}(h:BelowX g w a)(hg:a.grownBy b row)(hr:∀r,row=some r->w.heap.size<=r):BelowX g w b :=
 ⟨hg.os.trans h.os,hg.tape.trans h.tape,hg.output.trans h.output,Nat.le_trans h.size hg.size,λ i hi hn=>(hg.block i (Nat.lt_of_lt_of_le hi h.size) (λ e=>by have:=hr i e.symm;omega)).trans (h.block i hi hn)⟩
theorem RMx.of{w:World}{v:Value}{h:Hd}{x:Ts}(hm:RM ty w v h x):RMx (U w) w.heap.size v h x:=hm
theorem RMx.mono{F F':Nat->Nat->Option Value}{hi hi':Nat}{v:Value}{h:Hd}{x:Ts}(hm:RMx F hi v h x)(hF:∀b o v,b<hi->F b o=some v->F' b o=some v)(hh:hi<=hi'):RMx F' hi' v h x:=by
 obtain⟨q,n,c,r,m,d,e,h1,h2⟩:=hm
 exact⟨q,n,c,r,m,d,e,h1.mono hF hh,h2.mono hF hh⟩
theorem RMx.cells{F:Nat->Nat->Option Value}{hi:Nat}{v:Value}{h:Hd}{x:Ts}(hm:RMx F hi v h x):∃v3 v4,v=.agg #[.int .i64 h.k,.int .i64 h.n,.int .i64 h.a,v3,v4]/\Vs F hi (tDs ty (.cons h x .nil)) [.int .i64 h.k,.int .i64 h.n,.int .i64 h.a,v3,v4]:=by
 obtain⟨q,n,c,r,m,d,e,h1,h2⟩:=hm
 exact⟨_,_,e,_,rfl,_,rfl,_,rfl,_,_,rfl,h1,_,_,rfl,h2,rfl⟩
def acc(kk:Int)(t:Ts)(t0:Tm)(pre:List Nat):Tm:=pre.foldl (λ tm k=>⟨kH kk,.cons (t.hd k) (t.kd k) tm.ts⟩) t0
theorem rW(kk:Int)(t:Ts)(t0:Tm)(pre:List Nat)(k:Nat):acc kk t t0 (pre++[k])=⟨kH kk,.cons (t.hd k) (t.kd k) (acc kk t t0 pre).ts⟩:=by simp[acc]
def FoldI(t:Ts)(kk:Int)(g:Nat)(t0:Tm)(wS:World)(pre:List Nat)(W:World):Prop :=
 BelowX g wS W/\g<wS.heap.size/\∃v,RMx (Fx g W) W.heap.size v (acc kk t t0 pre).h (acc kk t t0 pre).x/\∀cs,v=.agg cs->∀o u,cs[o]? = some u->U W g o=some u
theorem FoldI.on{t:Ts}{kk:Int}{g:Nat}{t0:Tm}{wS W W':World}{pre:List Nat}{row:Option Nat}(h:FoldI t kk g t0 wS pre W)(hg:W.grownBy W' row)(hr:∀r,row=some r->wS.heap.size<=r/\∃o:Obj,W.heap[r]? = some o/\o.isCells=false):FoldI t kk g t0 wS pre W':=by
 obtain⟨h1,h2,v,h3,h4⟩:=h
 have hne:∀b o u,U W b o=some u->some b≠row:=λ b o u hu e=>by
  obtain⟨-,ob,ho,hc⟩:=hr b e.symm
  obtain⟨ob',ho',hc'⟩:=cells_of_cell (aD hu)
  rw[ho] at ho'
  cases ho'
  rw[hc] at hc'
  cases hc'
 refine⟨h1.grown hg (λ r e=>(hr r e).1),h2,v,h3.mono (λ b o u _ hu=>Fx_on (λ b hb hbg ⟨o,v,hv⟩=>hg.block b hb (hne b o v hv)) b o u hu) hg.size,λ cs e o u hu=>?_⟩
 have:=h4 cs e o u hu
 exact (eW (hg.block g (aL this) (hne g o u this)) o).trans this
theorem FoldI.own{t:Ts}{kk:Int}{g:Nat}{t0:Tm}{wS:World}{n:Nat}:OwnFrom wS.heap.size (λ (pre:List (Fin n)) W=>FoldI t kk g t0 wS (pre.map (·.val)) W):=λ _ _ _ _ h hg hr=>h.on hg hr
theorem FoldI.below{t:Ts}{kk:Int}{g:Nat}{t0:Tm}{wS W W':World}{pre:List Nat}(h:FoldI t kk g t0 wS pre W)(hb:Below W.heap.size W W'):FoldI t kk g t0 wS pre W':=h.on (row:=none) ⟨hb.os,hb.tape,hb.output,hb.size,λ k hk _=>hb.block k hk⟩ (λ r e=>by cases e)
theorem FoldI.step{t:Ts}{kk:Int}{g k:Nat}{t0:Tm}{wS W W':World}{pre:List Nat}(h:FoldI t kk g t0 wS pre W){e0 e1 e2 e3 e4 a0 a1 a2 a3 a4:Value}(hE:RMx (Fx g W) W.heap.size (.agg #[e0,e1,e2,e3,e4]) (t.hd k) (t.kd k))
  (hA:∀o u,(#[a0,a1,a2,a3,a4]:Array Value)[o]? = some u->U W g o=some u)
  (hW:(((((W.alloc (.cells #[e0,e1,e2,e3,e4,a0,a1,a2,a3,a4] 27)).setCell ⟨g,0,none⟩ (.int .i64 kk)).setCell ⟨g,1,none⟩ (.int .i64 0)).setCell ⟨g,2,none⟩ (.int .i64 0)).setCell ⟨g,3,none⟩ (.slice none 0 0)).setCell ⟨g,4,none⟩ (.slice (some ⟨W.heap.size,0,none⟩) 2 2)=W') :
  FoldI t kk g t0 wS (pre++[k]) W'/\KeepsFrom wS.heap.size W W':=by
 obtain⟨h1,h2,v,h3,h4⟩:=h
 obtain⟨Wb,hWb⟩:∃Wb,W.alloc (.cells #[e0,e1,e2,e3,e4,a0,a1,a2,a3,a4] 27)=Wb:=⟨_,rfl⟩
 rw[hWb] at hW
 have hb:Below W.heap.size W Wb:=by rw[<-hWb];exact aA _ _
 have hsb:Wb.heap.size=W.heap.size+1:=by rw[<-hWb];simp
 have hgW:g<W.heap.size:=Nat.lt_of_lt_of_le h2 h1.size
 have ub:∀o u,(#[a0,a1,a2,a3,a4]:Array Value)[o]? = some u->U Wb g o=some u:=λ o u hu=>aE hb _ _ _ hgW (hA o u hu)
 obtain⟨x0,x1,x2,x3,x4,hk⟩:=rL (ub 0 _ rfl) (ub 1 _ rfl) (ub 2 _ rfl) (ub 3 _ rfl) (ub 4 _ rfl) hW
 have hs':W'.heap.size=W.heap.size+1:=by rw[<-hW];simpa using hsb
 have hbg:Below g W W':=by
  rw[<-hW]
  exact (((((hb.mono (Nat.le_of_lt hgW)).setCell (p:=⟨g,0,none⟩) (Nat.le_refl _) _).setCell (p:=⟨g,1,none⟩) (Nat.le_refl _) _).setCell (p:=⟨g,2,none⟩) (Nat.le_refl _) _).setCell (p:=⟨g,3,none⟩) (Nat.le_refl _) _).setCell (p:=⟨g,4,none⟩) (Nat.le_refl _) _
 have hn:∀j u,(#[e0,e1,e2,e3,e4,a0,a1,a2,a3,a4]:Array Value)[j]? = some u->Fx g W' W.heap.size j=some u:=λ j u hu=>by
  have h5:U Wb W.heap.size j=some u:=by rw[<-hWb];exact aM hu
  exact VL ((eW (hk _ (by omega)) j).trans h5) (by omega)
 have hF:∀b o u,b<W.heap.size->Fx g W b o=some u->Fx g W' b o=some u:=λ b o u _ hu=>Fx_on (λ b hb' hbg _=>(hk b hbg).trans (hb.block b hb')) b o u hu
 obtain⟨e3',e4',e1',hEV⟩:=(hE.mono hF (by omega:W.heap.size<=W'.heap.size)).cells
 obtain⟨a3',a4',a1',hAV⟩:=(h3.mono hF (by omega:W.heap.size<=W'.heap.size)).cells
 have hva:=h4 _ a1'
 have qa:∀o u u',(#[a0,a1,a2,a3,a4]:Array Value)[o]? = some u->(#[.int .i64 (acc kk t t0 pre).h.k,.int .i64 (acc kk t t0 pre).h.n,.int .i64 (acc kk t t0 pre).h.a,a3',a4']:Array Value)[o]? = some u'->u=u':=λ o u u' hu hu'=>by
  have z1:=hA o u hu
  rw[hva o u' hu'] at z1
  exact (Option.some.inj z1).symm
 have b0:a0=.int .i64 (acc kk t t0 pre).h.k:=qa 0 _ _ rfl rfl
 have b1:a1=.int .i64 (acc kk t t0 pre).h.n:=qa 1 _ _ rfl rfl
 have b2:a2=.int .i64 (acc kk t t0 pre).h.a:=qa 2 _ _ rfl rfl
 have b3:a3=a3':=qa 3 _ _ rfl rfl
 have b4:a4=a4':=qa 4 _ _ rfl rfl
 injection e1' with e1'
 have d0:=congrArg (λ a:Array Value=>a[0]?) e1'
 have d1:=congrArg (λ a:Array Value=>a[1]?) e1'
 have d2:=congrArg (λ a:Array Value=>a[2]?) e1'
 have d3:=congrArg (λ a:Array Value=>a[3]?) e1'
 have d4:=congrArg (λ a:Array Value=>a[4]?) e1'
 simp at d0 d1 d2 d3 d4
 subst d0 d1 d2 d3 d4 b0 b1 b2 b3 b4
 have hAt:At (Fx g W') W'.heap.size (tDs ty (.cons (t.hd k) (t.kd k) (acc kk t t0 pre).ts)) W.heap.size 0:=by
  refine (At.app (x:=tDs ty (.cons (t.hd k) (t.kd k) .nil)) (y:=tDs ty (acc kk t t0 pre).ts)).2 ⟨hEV.at_ (λ j u hu=>?_),hAV.at_ (λ j u hu=>?_)⟩
  ·rw[Nat.zero_add]
   refine hn j u ?_
   have hj:j<5:=by have:=(List.getElem?_eq_some_iff.1 hu).1;simpa using this
   have hall:j=0∨j=1∨j=2∨j=3∨j=4:=by omega
   rcases hall with rfl|rfl|rfl|rfl|rfl<;>exact hu
  ·rw[show (0:Nat)+(tDs ty (.cons (t.hd k) (t.kd k) .nil)).len+j=5+j by rw[aF];simp[Ts.len]]
   refine hn (5+j) u ?_
   have hj:j<5:=by have:=(List.getElem?_eq_some_iff.1 hu).1;simpa using this
   have hall:j=0∨j=1∨j=2∨j=3∨j=4:=by omega
   rcases hall with rfl|rfl|rfl|rfl|rfl<;>exact hu
 refine⟨⟨h1.trans ⟨?_,?_,?_,by omega,λ b hb' hbg=>(hk b hbg).trans (hb.block b hb')⟩,h2,.agg #[.int .i64 kk,.int .i64 0,.int .i64 0,.slice none 0 0,.slice (some ⟨W.heap.size,0,none⟩) 2 2],?_,λ cs e o u hu=>?_⟩,⟨by omega,λ b o hB ho _=>?_⟩⟩
 ·exact hbg.os
 ·exact hbg.tape
 ·exact hbg.output
 ·rw[rW]
  exact⟨none,0,0,some ⟨W.heap.size,0,none⟩,2,2,rfl,Rd.none_ _ _ _,_,_,_,rfl,by rw[aF];rfl,Nat.le_refl _,by decide,by rw[aF];simp[Ts.len,Ds.len,Tm.ts],.inr (.inr ⟨_,_,rfl,by omega,hAt,trivial⟩)⟩
 ·injection e with e
  subst e
  have ho:o<5:=by have:=(Array.getElem?_eq_some_iff.1 hu).1;simpa using this
  have hall:o=0∨o=1∨o=2∨o=3∨o=4:=by omega
  rcases hall with rfl|rfl|rfl|rfl|rfl
  ·cases hu;exact x0
  ·cases hu;exact x1
  ·cases hu;exact x2
  ·cases hu;exact x3
  ·cases hu;exact x4
 ·exact ((hk b (by omega)).trans (hb.block b (Array.getElem?_eq_some_iff.1 ho).1)).trans ho
theorem eE{w w':World}{b:Nat}(h:w'.heap[b]? = w.heap[b]?)(o:Nat):w'.cell? ⟨b,o,none⟩=w.cell? ⟨b,o,none⟩:=by
 unfold World.cell?;simp only[h]
theorem BkD.on{B n c g:Nat}{p:Option Addr}{vs:Nat->Nat->Value}{w W:World}(h:BkD B p n c vs w)(hb:BelowX g w W)(hB:B≠g)(hp:∀b o,p=some ⟨b,o,none⟩->b≠g):BkD B p n c vs W:=by
 refine⟨(eE (hb.block B (World.block_lt_of_cell? _ _ h.1) hB) 0).trans h.1,λ k hk=>?_⟩
 obtain⟨b,o,e,hc⟩:=h.2 k hk
 exact⟨b,o,e,λ i hi=>(eE (hb.block b (World.block_lt_of_cell? _ _ (hc i hi)) (hp b o e)) _).trans (hc i hi)⟩
theorem RT.elems{w:World}{b o n c:Nat}{t:Ts}(h:RT ty w (.slice (some ⟨b,o,none⟩) n c) t):∃vs:Nat->Nat->Value,(∀k,k<t.len->∀i,i<5->w.cell? ⟨b,o+k*5+i,none⟩=some (vs k i))/\∀k,k<t.len->RM ty w (el vs k) (t.hd k) (t.kd k):=by
 refine⟨fun k i=>(w.cell? ⟨b,o+k*5+i,none⟩).getD undef,λ k hk i hi=>?_,λ k hk=>?_⟩
 ·obtain⟨b',o',e,hb,h1,h2,h3,⟨r,d,h4,-⟩,⟨r',d',h5,-⟩⟩:=h.at_ hk
  cases e
  have hall:i=0∨i=1∨i=2∨i=3∨i=4:=by omega
  show w.cell? _=some ((w.cell? ⟨b,o+k*5+i,none⟩).getD undef)
  rcases hall with rfl|rfl|rfl|rfl|rfl
  ·rw[Nat.add_zero,aD h1];rfl
  ·rw[aD h2];rfl
  ·rw[aD h3];rfl
  ·rw[aD h4];rfl
  ·rw[aD h5];rfl
 ·obtain⟨b',o',e,hb,h1,h2,h3,⟨r,d,h4,-,-,hl⟩,⟨r',d',h5,-,-,hx⟩⟩:=h.at_ hk
  cases e
  refine⟨r,_,d,r',_,d',?_,hl,hx⟩
  unfold el
  simp only[Nat.add_zero,aD h1,aD h2,aD h3,aD h4,aD h5,Option.getD_some]
theorem VF(kk:Int)(z:Hd)(t:Ts)(m:Nat)(hm:t.len=m+1):∀j,j<=m->acc kk t ⟨t.hd m,t.kd m⟩ (dn m j)=mH kk z (t.drop (m-j)):=by
 intro j
 induction j with
 | zero =>
  intro _
  rw[Nat.sub_zero,Ts.drop_step (by omega:m<t.len),<-hm,Ts.drop_len]
  rfl
 | succ j ih =>
  intro hj
  rw[BH,rW,ih (by omega),Ts.drop_step (by omega:m-(j+1)<t.len),show m-(j+1)+1=m-j by omega,show m-1-j=m-(j+1) by omega,mO]
  rw[Ts.drop_step (by omega:m-j<t.len)]
  simp[Ts.len]
end
section
open Go.RowKit Go.Shelf
attribute [local go_sem] Oper.semAt_some
theorem BkD.putObj{B n c:Nat}{p:Option Addr}{vs:Nat->Nat->Value}{W:World}(h:BkD B p n c vs W){l:Nat}{o:Obj}(o':Obj)(hl:W.heap[l]? = some o)(ho:o.isCells=false):BkD B p n c vs (W.putObj l o') :=
 ⟨cell_kept h.1 (grownBy_putObj' W l o') (λ r e=>by cases e;exact⟨o,hl,ho⟩),λ k hk=>by
  obtain⟨b,q,e,hc⟩:=h.2 k hk
  exact⟨b,q,e,λ i hi=>cell_kept (hc i hi) (grownBy_putObj' W l o') (λ r e=>by cases e;exact⟨o,hl,ho⟩)⟩⟩
theorem VH{W W':World}{row:Option Nat}{b o:Nat}{v:Value}(h:U W b o=some v)(hg:W.grownBy W' row)(hr:∀r,row=some r->∃o:Obj,W.heap[r]? = some o/\o.isCells=false):U W' b o=some v:=by
 refine (eW (hg.block b (aL h) λ e=>?_) o).trans h
 obtain⟨ob,ho,hc⟩:=hr b e.symm
 obtain⟨ob',ho',hc'⟩:=cells_of_cell (aD h)
 rw[ho] at ho'
 cases ho'
 rw[hc] at hc'
 cases hc'
theorem V8{kk:Int}{z:Hd}(hk:0<=kk/\kk<=100)(hz:z.fits):∀ {t:Ts},t.fits->(mH kk z t).h.fits/\(mH kk z t).x.fits
 | .nil,_=>⟨hz,trivial⟩
 | .cons h x .nil,hf=>⟨hf.1,hf.2.1⟩
 | .cons h x (.cons h' x' r),hf=>by
  obtain⟨h1,h2⟩:=V8 hk hz hf.2.2
  rw[mO kk z h x _ (by simp[Ts.len])]
  exact⟨⟨⟨by show -9223372036854775808<=kk;omega,by show kk<=9223372036854775807;omega⟩,⟨by show (-9223372036854775808:Int)<=0;decide,by show (0:Int)<=9223372036854775807;decide⟩,⟨by show (-9223372036854775808:Int)<=0;decide,by show (0:Int)<=9223372036854775807;decide⟩,λ p hp=>by cases hp⟩,hf.1,hf.2.1,h1,h2,trivial⟩
theorem V7(kk:Int){z:Hd}(hz:z.l=[]):∀t:Ts,aH (mH kk z t).h.l+(mH kk z t).x.size<=t.size+t.len
 | .nil=>by show aH z.l+0<=_;rw[hz];simp[aH]
 | .cons h x .nil=>by show aH h.l+x.size<=_;simp only[Ts.size,Ts.len];omega
 | .cons h x (.cons h' x' r)=>by
  have h1:=V7 kk hz (.cons h' x' r)
  rw[mO kk z h x _ (by simp[Ts.len])]
  show aH []+(1+aH h.l+x.size+(1+aH (mH kk z (.cons h' x' r)).h.l+(mH kk z (.cons h' x' r)).x.size+0))<=_
  simp only[Ts.size,Ts.len,aH] at h1 ⊢
  omega
theorem K6(kk zk zn za:Int)(va:Value)(t:Ts)(w:World)(ha:RT ty w va t)(hf:t.fits)(hzf:Hd.fits ⟨zk,zn,za,[]⟩)(hs:t.size<=100000000)(hKA:KA w)(hkk:0<=kk/\kk<=100):Calls prog 242 #[.int .i64 kk,.agg #[.int .i64 zk,.int .i64 zn,.int .i64 za,.slice none 0 0,.slice none 0 0],va] w (MakesT (mH kk ⟨zk,zn,za,[]⟩ t).h (mH kk ⟨zk,zn,za,[]⟩ t).x w):=by
 refine (callsIn_wide (n:=3)).1 ?_
 refine callsIn_of_wp_marks func242 rfl trivial ?_ rfl
 simp only[ntmps242,List.size_toArray,List.length_cons,List.length_nil,Nat.reduceAdd,Nat.reduceSub,Array.replicate_succ,Array.replicate_zero,List.push_toArray,List.append_toArray,List.nil_append,List.cons_append]
 obtain⟨q,c,rfl,hc1,hc2,hc3⟩:=ha.slice
 unfold maxLen at hc2
 by_cases h0:t.len=0
 ·have ht:t=.nil:=by cases t<;>simp[Ts.len] at h0 ⊢
  subst ht
  have r1:(((Ts.nil.len:Nat):Int) == 0)=true:=rfl
  obtain⟨w2,hw2⟩:∃w2,((w.alloc (.cells #[.int .i64 kk] 23)).alloc (.cells #[.int .i64 zk,.int .i64 zn,.int .i64 za,.slice none 0 0,.slice none 0 0] 27)).alloc (.cells cE 27)=w2:=⟨_,rfl⟩
  have hb2:Below w.heap.size w w2:=by rw[<-hw2];exact aB (aB (aA _ _) (aA _ _)) (aA _ _)
  have p1:∀o v,(#[.int .i64 zk,.int .i64 zn,.int .i64 za,.slice none 0 0,.slice none 0 0]:Array Value)[o]? = some v->U w2 (w.heap.size+1) o=some v:=λ o v hv=>by
   have:=aM (w:=w.alloc (.cells #[.int .i64 kk] 23)) (ty:=27) hv
   rw[World.size_alloc] at this
   rw[<-hw2];exact aE (aA _ _) _ _ _ (by simp) this
  have Z:Hid (∀o v,cE[o]? = some v->U w2 (w.heap.size+1+1) o=some v):=λ o v hv=>by
   have:=aM (w:=(w.alloc (.cells #[.int .i64 kk] 23)).alloc (.cells #[.int .i64 zk,.int .i64 zn,.int .i64 za,.slice none 0 0,.slice none 0 0] 27)) (ty:=27) hv
   rw[World.size_alloc,World.size_alloc,hw2] at this
   exact this
  have HB:=hid hb2
  have e0:=aD (p1 0 _ rfl)
  have e1:=aD (p1 1 _ rfl)
  have e2:=aD (p1 2 _ rfl)
  have e3:=aD (p1 3 _ rfl)
  have e4:=aD (p1 4 _ rfl)
  have m0:=aD (Z.out 0 _ rfl)
  have m1:=aD (Z.out 1 _ rfl)
  have m2:=aD (Z.out 2 _ rfl)
  have m3:=aD (Z.out 3 _ rfl)
  have m4:=aD (Z.out 4 _ rfl)
  have o0:=aI (Z.out 0 _ rfl)
  have o1:=aI (Z.out 1 _ rfl)
  have o2:=aI (Z.out 2 _ rfl)
  have o3:=aI (Z.out 3 _ rfl)
  have o4:=aI (Z.out 4 _ rfl)
  unfold cE at hw2
  clear ha hf hs hKA hb2 p1
  gi_wp2_with fail
  obtain⟨W,hW⟩:∃W,((((w2.setCell ⟨w.heap.size+1+1,0,none⟩ (.int .i64 zk)).setCell ⟨w.heap.size+1+1,1,none⟩ (.int .i64 zn)).setCell ⟨w.heap.size+1+1,2,none⟩ (.int .i64 za)).setCell ⟨w.heap.size+1+1,3,none⟩ (.slice none 0 0)).setCell ⟨w.heap.size+1+1,4,none⟩ (.slice none 0 0)=W:=⟨_,rfl⟩
  obtain⟨⟨x0,x1,x2,x3,x4⟩,hBF,hkW⟩:=C8 Z.out HB.out (by omega) hW
  rw[hW]
  refine⟨.agg #[.int .i64 zk,.int .i64 zn,.int .i64 za,.slice none 0 0,.slice none 0 0],by simp[results,results242,go_sem,x0,x1,x2,x3,x4],_,_,_,_,_,_,[],rfl,hBF,MS _ _ _ _ _,by simp⟩
 ·obtain⟨m,hm⟩:∃m,t.len=m+1:=⟨t.len-1,by omega⟩
  obtain⟨b,o,rfl,hb,-,-⟩:=Rd.lies ha (by omega)
  obtain⟨vs,hvs,hel⟩:=ha.elems
  rw[hm] at hc1 hvs hel ⊢
  have r1:((m:Int)+1 == 0)=false:=by simp;omega
  have i1:(0:Int)<=(m:Int):=by omega
  obtain⟨w2,hw2⟩:∃w2,((w.alloc (.cells #[.int .i64 kk] 23)).alloc (.cells #[.int .i64 zk,.int .i64 zn,.int .i64 za,.slice none 0 0,.slice none 0 0] 27)).alloc (.cells cE 27)=w2:=⟨_,rfl⟩
  have hb2:Below w.heap.size w w2:=by rw[<-hw2];exact aB (aB (aA _ _) (aA _ _)) (aA _ _)
  have ce:∀i,i<5->w2.cell? ⟨b,o+m*5+i,none⟩=some (vs m i):=λ i hi=>(hb2.cell (p:=⟨b,o+m*5+i,none⟩) hb).trans (hvs m (by omega) i hi)
  have e0:=ce 0 (by decide)
  have e1:=ce 1 (by decide)
  have e2:=ce 2 (by decide)
  have e3:=ce 3 (by decide)
  have e4:=ce 4 (by decide)
  rw[Nat.add_zero] at e0
  obtain⟨q1,n1,c1,q2,n2,c2,hm0,hml,hmx⟩:=hel m (by omega)
  unfold el at hm0
  injection hm0 with hm0
  have d0:=congrArg (λ a:Array Value=>a[0]?) hm0
  have d1:=congrArg (λ a:Array Value=>a[1]?) hm0
  have d2:=congrArg (λ a:Array Value=>a[2]?) hm0
  have d3:=congrArg (λ a:Array Value=>a[3]?) hm0
  have d4:=congrArg (λ a:Array Value=>a[4]?) hm0
  simp at d0 d1 d2 d3 d4
  rw[d0] at e0
  rw[d1] at e1
  rw[d2] at e2
  rw[d3] at e3
  rw[d4] at e4
  unfold cE at hw2
  have HA:=hid ha
  have HEL:=hid hel
  have HVS:=hid hvs
  have HF:=hid hf
  have HS:=hid hs
  have HKA:=hid hKA
  have HZF:=hid hzf
  have HML:=hid hml
  have HMX:=hid hmx
  have HM:=hid hm
  clear hzf ha hf hs hKA hel hvs hml hmx d0 d1 d2 d3 d4 hm0 ce h0 hc3 hm
  obtain⟨w3,hw3⟩:∃w3,w2.alloc (.cells #[.int .i64 (t.hd m).k,.int .i64 (t.hd m).n,.int .i64 (t.hd m).a,.slice q1 n1 c1,.slice q2 n2 c2] 27)=w3:=⟨_,rfl⟩
  have hs2:w2.heap.size=w.heap.size+3:=by rw[<-hw2];simp
  have hb3:Below w.heap.size w w3:=by rw[<-hw3];exact aB hb2 (aA _ _)
  have hs3:w3.heap.size=w2.heap.size+1:=by rw[<-hw3];simp
  have hg3:∀o u,(#[.int .i64 (t.hd m).k,.int .i64 (t.hd m).n,.int .i64 (t.hd m).a,.slice q1 n1 c1,.slice q2 n2 c2]:Array Value)[o]? = some u->U w3 w2.heap.size o=some u:=λ o u hu=>by rw[<-hw3];exact aM hu
  have hk3:U w3 w.heap.size 0=some (.int .i64 kk):=by
   rw[<-hw3];refine aE (aA _ _) _ _ _ (by omega) ?_
   rw[<-hw2];exact aE (aA _ _) _ _ _ (by first|(simp;done)|(simp;omega)) (aE (aA _ _) _ _ _ (by simp) (aM rfl))
  have hz3:∀o v,cE[o]? = some v->U w3 (w.heap.size+1+1) o=some v:=λ o v hv=>by
   rw[<-hw3];refine aE (aA _ _) _ _ _ (by omega) ?_
   have:=aM (w:=(w.alloc (.cells #[.int .i64 kk] 23)).alloc (.cells #[.int .i64 zk,.int .i64 zn,.int .i64 za,.slice none 0 0,.slice none 0 0] 27)) (ty:=27) hv
   unfold cE at this
   rw[World.size_alloc,World.size_alloc,hw2] at this
   exact this
  have HS2:=hid hs2
  have HS3:=hid hs3
  clear hs2 hs3
  obtain⟨wS,hwS⟩:∃wS,w3.alloc (.cells #[.slice (some ⟨b,o,none⟩) m c] 25)=wS:=⟨_,rfl⟩
  gi_wp2_with fail
  refine⟨trivial,(callsIn_wide.2 (W8 _ _ _ _)).mono ?_⟩
  rintro e w' ⟨rfl,rfl⟩
  rw[hwS]
  have hs2:=HS2.out
  have hs3:=HS3.out
  obtain⟨g,hg⟩:∃g,w2.heap.size=g:=⟨_,rfl⟩
  have hbS:Below w3.heap.size w3 wS:=by rw[<-hwS];exact aA _ _
  have hbS0:Below w.heap.size w wS:=aB hb3 hbS
  have hsS:wS.heap.size=g+2:=by rw[<-hwS];simp;omega
  have hgw:g=w.heap.size+3:=by omega
  rw[hg] at hg3 hs3 hs2 ⊢
  rw[hs3]
  have hgS:∀o u,(#[.int .i64 (t.hd m).k,.int .i64 (t.hd m).n,.int .i64 (t.hd m).a,.slice q1 n1 c1,.slice q2 n2 c2]:Array Value)[o]? = some u->U wS g o=some u:=λ o u hu=>aE hbS _ _ _ (by omega) (hg3 o u hu)
  have hkS:U wS w.heap.size 0=some (.int .i64 kk):=aE hbS _ _ _ (by omega) hk3
  have hzS:∀o v,cE[o]? = some v->U wS (w.heap.size+1+1) o=some v:=λ o v hv=>aE hbS _ _ _ (by omega) (hz3 o v hv)
  have hboxS:wS.cell? ⟨g+1,0,none⟩=some (.slice (some ⟨b,o,none⟩) m c):=by
   have:=aM (w:=w3) (cs:=#[.slice (some ⟨b,o,none⟩) m c]) (ty:=25) (o:=0) rfl
   rw[hwS,hs3] at this
   exact aD this
  have hBk:BkD (g+1) (some ⟨b,o,none⟩) m c vs wS:=⟨hboxS,λ k hk=>⟨b,o,rfl,λ i hi=>(hbS0.cell (p:=⟨b,o+k*5+i,none⟩) hb).trans (HVS.out k (by omega) i hi)⟩⟩
  have hF0:∀(W:World),BelowX g wS W->∀b o v,b<w.heap.size->U w b o=some v->Fx g W b o=some v:=λ W hW b o v hb hu=>VL (hW.U (aE hbS0 _ _ _ hb hu) (by omega)) (by omega)
  have hI0:FoldI t kk g ⟨t.hd m,t.kd m⟩ wS [] wS :=
   ⟨BelowX.refl _ _,by omega,.agg #[.int .i64 (t.hd m).k,.int .i64 (t.hd m).n,.int .i64 (t.hd m).a,.slice q1 n1 c1,.slice q2 n2 c2],⟨_,_,_,_,_,_,rfl,HML.out.mono (hF0 wS (BelowX.refl _ _)) hbS0.size,HMX.out.mono (hF0 wS (BelowX.refl _ _)) hbS0.size⟩,λ cs e o u hu=>by cases e;exact hgS o u hu⟩
  have HI0:=hid hI0
  have HBK:=hid hBk
  have HF0:=hid hF0
  have HKS:=hid hkS
  have HZS:=hid hzS
  have HBS:=hid hbS0
  have HSS:=hid hsS
  have HGW:=hid hgw
  have HBW:=hid hb
  clear hgw HS2 HS3 hbS hbS0 hsS hgS hkS hzS hboxS hBk hF0 hI0 hg hs2 hb3 hs3 hg3 hk3 hz3 hwS hw3 hw2 hb2 e0 e1 e2 e3 e4
  gi_wp2_with fail
  refine wpIn_rangeFunc_ownH rfl (by decide) (gf:=257) (lb:=#[.pointer (some ⟨g+1,0,none⟩)]) rfl trivial (enters_of func257 (by kernel_rfl) rfl)
   (M2 (g+1) m c (some ⟨b,o,none⟩) vs (by omega) (by unfold maxLen;omega) 2 wS (λ W hW=>HBK.out.on (BelowX.of_below (g:=g) hW) (by omega) (λ b' o' e=>by cases e;have:=HBW.out;have:=HGW.out;omega)))
   (λ h k x=>k (h x)) (λ W l o o' _ hl ho _ h=>h.putObj o' hl ho) (Below.refl _ _) (λ _=>rfl)
   (λ pre W=>FoldI t kk g ⟨t.hd m,t.kd m⟩ wS (pre.map (·.val)) W) (λ _ _ _=>False) FoldI.own (λ _ _ _ _ _ hs _ _=>hs) HI0.out
   (λ x a' W=>∃b9,a' = { tmps:=#[.int .i64 kk,.agg #[.int .i64 zk,.int .i64 zn,.int .i64 za,.slice none 0 0,.slice none 0 0],.slice (some ⟨b,o,none⟩) (m+1) c,.pointer (some ⟨w.heap.size,0,none⟩),.pointer (some ⟨w.heap.size+1,0,none⟩),undef,.pointer (some ⟨w.heap.size+1+1,0,none⟩),.pointer (some ⟨g,0,none⟩),undef,.pointer (some ⟨b9,0,none⟩),.slice (some ⟨b,o,none⟩) (m+1) c,.int .i64 ((m:Int)+1),.bool false,undef,.slice (some ⟨b,o,none⟩) (m+1) c,.slice (some ⟨b,o,none⟩) (m+1) c,.int .i64 ((m:Int)+1),.int .i64 m,.pointer (some ⟨b,o+m*5,none⟩),.agg #[.int .i64 (t.hd m).k,.int .i64 (t.hd m).n,.int .i64 (t.hd m).a,.slice q1 n1 c1,.slice q2 n2 c2],.slice (some ⟨b,o,none⟩) (m+1) c,.slice (some ⟨b,o,none⟩) (m+1) c,.int .i64 ((m:Int)+1),.int .i64 m,.slice (some ⟨b,o,none⟩) m c,.func (.func 257) #[] #[.pointer (some ⟨g+1,0,none⟩)],.int .i64 (x.val:Int),el vs x.val,undef,undef,undef,undef,undef,undef,undef],defers:=[] }/\∀cs,el vs x.val=.agg cs->∀i u,cs[i]? = some u->U W b9 i=some u)
   (λ x a' _ _ _ _ h hg hr=>by obtain⟨b9,e,h⟩:=h;exact⟨b9,e,λ cs e2 i u hu=>VH (h cs e2 i u hu) hg (λ r e3=>(hr r e3).2)⟩) ?assign ?body ?done ?stop
  case assign =>
   intro l pre x W K hI hK
   obtain⟨y1,z1,x1,y2,z2,x2,hE,-,-⟩:=HEL.out x.val (by omega)
   rw[hE]
   have hsz:wS.heap.size<=W.heap.size:=hI.1.size
   have hb9:=aA W (.cells #[.int .i64 (t.hd x.val).k,.int .i64 (t.hd x.val).n,.int .i64 (t.hd x.val).a,.slice y1 z1 x1,.slice y2 z2 x2] 27)
   have hK2:=hK { tmps:=#[.int .i64 kk,.agg #[.int .i64 zk,.int .i64 zn,.int .i64 za,.slice none 0 0,.slice none 0 0],.slice (some ⟨b,o,none⟩) (m+1) c,.pointer (some ⟨w.heap.size,0,none⟩),.pointer (some ⟨w.heap.size+1,0,none⟩),undef,.pointer (some ⟨w.heap.size+1+1,0,none⟩),.pointer (some ⟨g,0,none⟩),undef,.pointer (some ⟨W.heap.size,0,none⟩),.slice (some ⟨b,o,none⟩) (m+1) c,.int .i64 ((m:Int)+1),.bool false,undef,.slice (some ⟨b,o,none⟩) (m+1) c,.slice (some ⟨b,o,none⟩) (m+1) c,.int .i64 ((m:Int)+1),.int .i64 m,.pointer (some ⟨b,o+m*5,none⟩),.agg #[.int .i64 (t.hd m).k,.int .i64 (t.hd m).n,.int .i64 (t.hd m).a,.slice q1 n1 c1,.slice q2 n2 c2],.slice (some ⟨b,o,none⟩) (m+1) c,.slice (some ⟨b,o,none⟩) (m+1) c,.int .i64 ((m:Int)+1),.int .i64 m,.slice (some ⟨b,o,none⟩) m c,.func (.func 257) #[] #[.pointer (some ⟨g+1,0,none⟩)],.int .i64 (x.val:Int),.agg #[.int .i64 (t.hd x.val).k,.int .i64 (t.hd x.val).n,.int .i64 (t.hd x.val).a,.slice y1 z1 x1,.slice y2 z2 x2],undef,undef,undef,undef,undef,undef,undef],defers:=[] } _
    (KeepsOthers.from (KeepsOthers.alloc _ _) _) (λ h=>h.on (BelowX.of_below (g:=g) hb9) (by omega) (λ b' o' e=>by cases e;have:=HBW.out;have:=HGW.out;omega)) (hI.below hb9)
    ⟨W.heap.size,by rw[hE],λ cs e2 i u hu=>by rw[hE] at e2;cases e2;exact aM hu⟩
   clear hK hI hE
   gi_wp2_with fail
   exact hK2
  case body =>
   rintro l pre x a' W hl hr hI ⟨b9,rfl,hc9⟩ hlen
   obtain⟨y1,z1,x1,y2,z2,x2,hE,hE1,hE2⟩:=HEL.out x.val (by omega)
   have hu9:=hc9 _ hE
   have hI':=hI
   obtain⟨hX,hgl,v,⟨u1,v1,w1,u2,v2,w2',rfl,hR1,hR2⟩,hcs⟩:=hI'
   have hcg:=hcs _ rfl
   have k0:=aD (hX.U HKS.out (by have:=HGW.out;omega))
   have f0:=aD (hu9 0 _ rfl)
   have f1:=aD (hu9 1 _ rfl)
   have f2:=aD (hu9 2 _ rfl)
   have f3:=aD (hu9 3 _ rfl)
   have f4:=aD (hu9 4 _ rfl)
   have c0:=aD (hcg 0 _ rfl)
   have c1:=aD (hcg 1 _ rfl)
   have c2:=aD (hcg 2 _ rfl)
   have c3:=aD (hcg 3 _ rfl)
   have c4:=aD (hcg 4 _ rfl)
   have o0:=aI (hcg 0 _ rfl)
   have o1:=aI (hcg 1 _ rfl)
   have o2:=aI (hcg 2 _ rfl)
   have o3:=aI (hcg 3 _ rfl)
   have o4:=aI (hcg 4 _ rfl)
   have hgW:g<W.heap.size:=aL (hcg 0 _ rfl)
   obtain⟨Wb,hWb⟩:∃Wb,W.alloc (.cells #[.int .i64 (t.hd x.val).k,.int .i64 (t.hd x.val).n,.int .i64 (t.hd x.val).a,.slice y1 z1 x1,.slice y2 z2 x2,.int .i64 (acc kk t ⟨t.hd m,t.kd m⟩ (pre.map (·.val))).h.k,.int .i64 (acc kk t ⟨t.hd m,t.kd m⟩ (pre.map (·.val))).h.n,.int .i64 (acc kk t ⟨t.hd m,t.kd m⟩ (pre.map (·.val))).h.a,.slice u1 v1 w1,.slice u2 v2 w2'] 27)=Wb:=⟨_,rfl⟩
   obtain⟨W',hW'⟩:∃W',((((Wb.setCell ⟨g,0,none⟩ (.int .i64 kk)).setCell ⟨g,1,none⟩ (.int .i64 0)).setCell ⟨g,2,none⟩ (.int .i64 0)).setCell ⟨g,3,none⟩ (.slice none 0 0)).setCell ⟨g,4,none⟩ (.slice (some ⟨W.heap.size,0,none⟩) 2 2)=W':=⟨_,rfl⟩
   have hst:=hI.step (W':=W') (k:=x.val) (e0:=.int .i64 (t.hd x.val).k) (e1:=.int .i64 (t.hd x.val).n) (e2:=.int .i64 (t.hd x.val).a) (e3:=.slice y1 z1 x1) (e4:=.slice y2 z2 x2) ⟨_,_,_,_,_,_,rfl,Rd.mono hE1 (HF0.out W hX) (by have:=HBS.out.size;have:=hX.size;omega),Rd.mono hE2 (HF0.out W hX) (by have:=HBS.out.size;have:=hX.size;omega)⟩ hcg (by rw[hWb];exact hW')
   have HST:=hid hst
   have ub:∀o u,(#[.int .i64 (acc kk t ⟨t.hd m,t.kd m⟩ (pre.map (·.val))).h.k,.int .i64 (acc kk t ⟨t.hd m,t.kd m⟩ (pre.map (·.val))).h.n,.int .i64 (acc kk t ⟨t.hd m,t.kd m⟩ (pre.map (·.val))).h.a,.slice u1 v1 w1,.slice u2 v2 w2']:Array Value)[o]? = some u->U Wb g o=some u:=λ o u hu=>by rw[<-hWb];exact aE (aA _ _) _ _ _ hgW (hcg o u hu)
   have b0:=aD (ub 0 _ rfl)
   have b1:=aD (ub 1 _ rfl)
   have b2:=aD (ub 2 _ rfl)
   have b3:=aD (ub 3 _ rfl)
   have b4:=aD (ub 4 _ rfl)
   have j0:=aI (ub 0 _ rfl)
   have j1:=aI (ub 1 _ rfl)
   have j2:=aI (ub 2 _ rfl)
   have j3:=aI (ub 3 _ rfl)
   have j4:=aI (ub 4 _ rfl)
   clear ub o0 o1 o2 o3 o4
   have HKP:Hid (BkD (g+1) (some ⟨b,o,none⟩) m c vs W'):=hid (HBK.out.on (g:=g) hst.1.1 (by omega) (λ b' o' e=>by cases e;have:=HBW.out;have:=HGW.out;omega))
   have HW:=hid hW'
   clear hI hE hE1 hE2 hu9 hcg hcs hX hR1 hR2 hst hW' hc9 hr hlen hl
   gi_wp2_with fail
   rw[HW.out]
   refine⟨HST.out.2,λ _=>HKP.out,?_⟩
   have:=HST.out.1
   rw[show pre.map (·.val)++[x.val]=(pre++[x]).map (·.val) by simp] at this
   exact this
  case done =>
   intro D xs W hD hS hI hK
   rw[hS] at hI
   unfold FoldI at hI
   rw[VF kk ⟨zk,zn,za,[]⟩ t m HM.out m (Nat.le_refl _),Nat.sub_self] at hI
   have hft:=V8 (kk:=kk) (z:=⟨zk,zn,za,[]⟩) hkk HZF.out HF.out
   have hsz:=V7 kk (z:=⟨zk,zn,za,[]⟩) rfl t
   have hlz:=Ts.len_le_size t
   obtain⟨T,hT⟩:∃T,mH kk ⟨zk,zn,za,[]⟩ t=T:=⟨_,rfl⟩
   rw[show t.drop 0=t from rfl,hT] at hI
   rw[hT] at hft hsz ⊢
   obtain⟨hX,hgl,v,⟨u1,v1,w1,u2,v2,w2',rfl,hR1,hR2⟩,hcs⟩:=hI
   have hcg:=hcs _ rfl
   have c0:=aD (hcg 0 _ rfl)
   have c1:=aD (hcg 1 _ rfl)
   have c2:=aD (hcg 2 _ rfl)
   have c3:=aD (hcg 3 _ rfl)
   have c4:=aD (hcg 4 _ rfl)
   have hBW:Below w.heap.size w W:=HBS.out.trans (hX.below (by have:=HGW.out;omega) (by have:=HSS.out;have:=HGW.out;omega))
   have HL:=hid (U7 T.h T.x (.agg #[.int .i64 T.h.k,.int .i64 T.h.n,.int .i64 T.h.a,.slice u1 v1 w1,.slice u2 v2 w2']) 0 0 W ⟨_,_,_,_,_,_,rfl,hR1.mono (λ b o u _ hu=>VM hu) (Nat.le_refl _),hR2.mono (λ b o u _ hu=>VM hu) (Nat.le_refl _)⟩ hft.1 hft.2 (by have:=HS.out;omega) (HKA.out.on hBW HKA.out.1))
   rw[Hd.lift_zero hft.1,Ts.lift_zero hft.2] at HL
   have HBW2:=hid hBW
   have Z:Hid (∀o v,cE[o]? = some v->U W (w.heap.size+1+1) o=some v):=λ o v hv=>hX.U (HZS.out o v hv) (by have:=HGW.out;omega)
   have HK:=hid hK
   have HDW:Hid (wS.heap.size<=D/\D<W.heap.size):=hid ⟨hD,(Array.getElem?_eq_some_iff.1 hK).1⟩
   have HSW:Hid (w.heap.size+5<=W.heap.size):=hid (by have h1:=hX.size;have h2:=HSS.out;have h3:=HGW.out;rw[h2,h3] at h1;omega)
   have HD5:Hid (w.heap.size+5<=D):=hid (by have:=HSS.out;have:=HGW.out;omega)
   have HT:=hid hT
   clear hX hgl hR1 hR2 hcs hcg hBW hK hft hsz hlz hD hS hT
   gi_wp2_with fail
   refine⟨trivial,(callsIn_wide.2 HL.out).mono ?_⟩
   rintro e wy ⟨s1,n1,d1,s2,n2,d2,S,rfl,hby,ho,hn⟩
   have z2:∀o v,cE[o]? = some v->U wy (w.heap.size+1+1) o=some v:=λ o v hv=>aE hby _ _ _ (by have:=HSW.out;omega) (Z.out o v hv)
   have Z2:=hid z2
   have m0:=aD (z2 0 _ rfl)
   have m1:=aD (z2 1 _ rfl)
   have m2:=aD (z2 2 _ rfl)
   have m3:=aD (z2 3 _ rfl)
   have m4:=aD (z2 4 _ rfl)
   have o0:=aI (z2 0 _ rfl)
   have o1:=aI (z2 1 _ rfl)
   have o2:=aI (z2 2 _ rfl)
   have o3:=aI (z2 3 _ rfl)
   have o4:=aI (z2 4 _ rfl)
   have HKY:Hid (wy.heap[D]? = some (.deferred (some []))):=hid ((hby.block D HDW.out.2).trans HK.out)
   have HBY:=hid (aB HBW2.out hby)
   have HO:=hid ho
   have HN:=hid hn
   clear hby ho hn z2 c0 c1 c2 c3 c4 HK
   gi_wp2_with fail
   obtain⟨W2,hW2⟩:∃W2,((((wy.setCell ⟨w.heap.size+1+1,0,none⟩ (.int .i64 T.h.k)).setCell ⟨w.heap.size+1+1,1,none⟩ (.int .i64 T.h.n)).setCell ⟨w.heap.size+1+1,2,none⟩ (.int .i64 T.h.a)).setCell ⟨w.heap.size+1+1,3,none⟩ (.slice s1 n1 d1)).setCell ⟨w.heap.size+1+1,4,none⟩ (.slice s2 n2 d2)=W2:=⟨_,rfl⟩
   obtain⟨⟨x0,x1,x2,x3,x4⟩,hBF,hkW⟩:=C8 Z2.out HBY.out (by omega) hW2
   rw[hW2]
   refine⟨by simp,.inl ⟨_,_,rfl,run_takeDeferred ((hkW D (by have:=HD5.out;omega)).trans HKY.out),?_⟩⟩
   have hD5:=HD5.out
   have hkP:∀(o:Obj) (k:Nat),k≠D->(W2.putObj D o).heap[k]? = W2.heap[k]?:=λ o k hk=>World.putObj_heap_other hk
   have y0:∀o,(W2.putObj D o).cell? ⟨w.heap.size+1+1,0,none⟩=some (.int .i64 T.h.k):=λ o=>(eE (hkP o _ (by omega)) 0).trans x0
   have y1:∀o,(W2.putObj D o).cell? ⟨w.heap.size+1+1,1,none⟩=some (.int .i64 T.h.n):=λ o=>(eE (hkP o _ (by omega)) 1).trans x1
   have y2:∀o,(W2.putObj D o).cell? ⟨w.heap.size+1+1,2,none⟩=some (.int .i64 T.h.a):=λ o=>(eE (hkP o _ (by omega)) 2).trans x2
   have y3:∀o,(W2.putObj D o).cell? ⟨w.heap.size+1+1,3,none⟩=some (.slice s1 n1 d1):=λ o=>(eE (hkP o _ (by omega)) 3).trans x3
   have y4:∀o,(W2.putObj D o).cell? ⟨w.heap.size+1+1,4,none⟩=some (.slice s2 n2 d2):=λ o=>(eE (hkP o _ (by omega)) 4).trans x4
   refine⟨.agg #[.int .i64 T.h.k,.int .i64 T.h.n,.int .i64 T.h.a,.slice s1 n1 d1,.slice s2 n2 d2],by simp[results,results242,go_sem,y0,y1,y2,y3,y4],s1,n1,d1,s2,n2,d2,S,by rw[HT.out],hBF.trans ⟨rfl,rfl,rfl,by simp[World.putObj],λ k hk=>hkP _ k (by omega)⟩,?_,HN.out⟩
   rw[HT.out]
   have hW5:=HSW.out
   exact ((HO.out.lower (by omega)).kept λ b hb=>hkW b (by have:=(HO.out.mem b hb).1;omega)).kept λ b hb=>hkP _ b (by have:=(HO.out.mem b hb).1;have:=HDW.out;omega)
  case stop =>
   rintro D c pre W _ _ h _
   exact h.elim
end
section
theorem fin_any(n:Int)(w:World):Calls prog 142 #[.int .i64 n] w λ e w'=>e=.returned (.agg #[.int .i64 22,.int .i64 n,.int .i64 0,.slice none 0 0,.slice none 0 0])/\Below w.heap.size w w':=by
 go_enter func142,ntmps142
 go_wp2_with fail
 refine bodyPost_ret (v:=.agg #[.int .i64 22,.int .i64 n,.int .i64 0,.slice none 0 0,.slice none 0 0]) (by simp[results,results142,go_sem]) rfl ⟨rfl,aA _ _⟩
theorem TW(k n:Int)(w:World):Calls prog 265 #[.int .i64 k,.int .i64 n] w λ e w'=>e=.returned (.agg #[.int .i64 23,.int .i64 k,.int .i64 n,.slice none 0 0,.slice none 0 0])/\Below w.heap.size w w':=by
 go_enter func265,ntmps265
 go_wp2_with fail
 refine bodyPost_ret (v:=.agg #[.int .i64 23,.int .i64 k,.int .i64 n,.slice none 0 0,.slice none 0 0]) (by simp[results,results265,go_sem]) rfl ⟨rfl,aA _ _⟩
theorem EW(w:World):∀o v,cE[o]? = some v->U (w.alloc (.cells cE 27)) w.heap.size o=some v:=λ o v hv=>aM hv
theorem iR{k:Int}(hk:0<=k/\k<=100):(kH k).fits:=⟨⟨by show -9223372036854775808<=k;omega,by show k<=9223372036854775807;omega⟩,⟨by show (-9223372036854775808:Int)<=0;decide,by show (0:Int)<=9223372036854775807;decide⟩,⟨by show (-9223372036854775808:Int)<=0;decide,by show (0:Int)<=9223372036854775807;decide⟩,λ p hp=>by cases hp⟩
theorem eQ{k n a:Int}(hk:0<=k/\k<=100)(hn:0<=n/\n<=100000000000)(ha:0<=a/\a<=100000000000):Hd.fits ⟨k,n,a,[]⟩:=⟨⟨by show -9223372036854775808<=k;omega,by show k<=9223372036854775807;omega⟩,⟨by show -9223372036854775808<=n;omega,by show n<=9223372036854775807;omega⟩,⟨by show -9223372036854775808<=a;omega,by show a<=9223372036854775807;omega⟩,λ p hp=>by cases hp⟩
theorem tup_any(t:Ts)(va:Value)(w:World)(ha:RT ty w va t)(hf:t.fits)(hs:t.size<=100000000)(hKA:KA w):Calls prog 197 #[va] w (MakesT (tup t).h (tup t).x w):=by
 obtain⟨q,c,rfl,-,hc,-⟩:=ha.slice
 unfold maxLen at hc
 obtain⟨w2,hw2⟩:∃w2,w.alloc (.cells cE 27)=w2:=⟨_,rfl⟩
 have hb2:Below w.heap.size w w2:=by rw[<-hw2];exact aA _ _
 have hs2:w2.heap.size=w.heap.size+1:=by rw[<-hw2];simp
 have hz2:∀o v,cE[o]? = some v->U w2 w.heap.size o=some v:=by rw[<-hw2];exact EW w
 have HB2:=hid hb2
 have HS2:=hid hs2
 have HZ2:=hid hz2
 have HFO:Hid (∀W,Below w.heap.size w W->Calls prog 242 #[.int .i64 12,.agg #[.int .i64 22,.int .i64 1,.int .i64 0,.slice none 0 0,.slice none 0 0],.slice q t.len c] W (MakesT (tup t).h (tup t).x W)):=λ W hW=>K6 12 22 1 0 _ t W (RT.on ha hW) hf (eQ (by decide) (by decide) (by decide)) hs (hKA.on hW hKA.1) (by decide)
 obtain⟨T,hT⟩:∃T,tup t=T:=⟨_,rfl⟩
 rw[hT] at HFO ⊢
 unfold cE at hw2
 clear ha hf hs hKA hb2 hs2 hz2 hT
 go_enter func197,ntmps197
 go_wp2_with fail
 refine (fin_any 1 _).mono ?_
 rintro e w3 ⟨rfl,hb3⟩
 have HB3:=hid hb3
 clear hb3 hw2
 go_wp2_with fail
 refine (HFO.out _ (aB HB2.out HB3.out)).mono ?_
 rintro e wy ⟨s1,n1,d1,s2,n2,d2,S,rfl,hby,ho,hn⟩
 have hs3:=HB3.out.size
 have Z2:Hid (∀o v,cE[o]? = some v->U wy w.heap.size o=some v):=λ o v hv=>aE hby _ _ _ (by have:=HS2.out;omega) (aE HB3.out _ _ _ (by have:=HS2.out;omega) (HZ2.out o v hv))
 have HBY:=hid (aB (aB HB2.out HB3.out) hby)
 have HGE:Hid (∀b∈S,w.heap.size+1<=b):=λ b hb=>by have:=(ho.mem b hb).1;have:=HS2.out;omega
 have HO:=hid (ho.lower (base':=w.heap.size) (by have:=HS2.out;omega))
 have HN:=hid hn
 clear hby ho hn hs3
 have m0:=aD (Z2.out 0 _ rfl)
 have m1:=aD (Z2.out 1 _ rfl)
 have m2:=aD (Z2.out 2 _ rfl)
 have m3:=aD (Z2.out 3 _ rfl)
 have m4:=aD (Z2.out 4 _ rfl)
 have o0:=aI (Z2.out 0 _ rfl)
 have o1:=aI (Z2.out 1 _ rfl)
 have o2:=aI (Z2.out 2 _ rfl)
 have o3:=aI (Z2.out 3 _ rfl)
 have o4:=aI (Z2.out 4 _ rfl)
 go_wp2_with fail
 obtain⟨W,hW⟩:∃W,((((wy.setCell ⟨w.heap.size,0,none⟩ (.int .i64 T.h.k)).setCell ⟨w.heap.size,1,none⟩ (.int .i64 T.h.n)).setCell ⟨w.heap.size,2,none⟩ (.int .i64 T.h.a)).setCell ⟨w.heap.size,3,none⟩ (.slice s1 n1 d1)).setCell ⟨w.heap.size,4,none⟩ (.slice s2 n2 d2)=W:=⟨_,rfl⟩
 obtain⟨⟨x0,x1,x2,x3,x4⟩,hBF,hkW⟩:=C8 Z2.out HBY.out (by omega) hW
 rw[hW]
 refine bodyPost_ret (v:=.agg #[.int .i64 T.h.k,.int .i64 T.h.n,.int .i64 T.h.a,.slice s1 n1 d1,.slice s2 n2 d2]) (by simp[results,results197,go_sem,x0,x1,x2,x3,x4]) rfl ⟨s1,n1,d1,s2,n2,d2,S,rfl,hBF,?_,HN.out⟩
 exact HO.out.kept λ b hb=>hkW b (by have:=HGE.out b hb;omega)
theorem RQ(t:Ts)(va:Value)(w:World)(ha:RT ty w va t)(hf:t.fits)(hs:t.size<=100000000)(hKA:KA w):Calls prog 244 #[va] w (MakesT (kZ t).h (kZ t).x w):=by
 obtain⟨q,c,rfl,-,hc,-⟩:=ha.slice
 unfold maxLen at hc
 obtain⟨w2,hw2⟩:∃w2,w.alloc (.cells cE 27)=w2:=⟨_,rfl⟩
 have hb2:Below w.heap.size w w2:=by rw[<-hw2];exact aA _ _
 have hs2:w2.heap.size=w.heap.size+1:=by rw[<-hw2];simp
 have hz2:∀o v,cE[o]? = some v->U w2 w.heap.size o=some v:=by rw[<-hw2];exact EW w
 have HB2:=hid hb2
 have HS2:=hid hs2
 have HZ2:=hid hz2
 have HFO:Hid (∀W,Below w.heap.size w W->Calls prog 242 #[.int .i64 13,.agg #[.int .i64 23,.int .i64 0,.int .i64 1,.slice none 0 0,.slice none 0 0],.slice q t.len c] W (MakesT (kZ t).h (kZ t).x W)):=λ W hW=>K6 13 23 0 1 _ t W (RT.on ha hW) hf (eQ (by decide) (by decide) (by decide)) hs (hKA.on hW hKA.1) (by decide)
 obtain⟨T,hT⟩:∃T,kZ t=T:=⟨_,rfl⟩
 rw[hT] at HFO ⊢
 unfold cE at hw2
 clear ha hf hs hKA hb2 hs2 hz2 hT
 go_enter func244,ntmps244
 go_wp2_with fail
 refine (TW 0 1 _).mono ?_
 rintro e w3 ⟨rfl,hb3⟩
 have HB3:=hid hb3
 clear hb3 hw2
 go_wp2_with fail
 refine (HFO.out _ (aB HB2.out HB3.out)).mono ?_
 rintro e wy ⟨s1,n1,d1,s2,n2,d2,S,rfl,hby,ho,hn⟩
 have hs3:=HB3.out.size
 have Z2:Hid (∀o v,cE[o]? = some v->U wy w.heap.size o=some v):=λ o v hv=>aE hby _ _ _ (by have:=HS2.out;omega) (aE HB3.out _ _ _ (by have:=HS2.out;omega) (HZ2.out o v hv))
 have HBY:=hid (aB (aB HB2.out HB3.out) hby)
 have HGE:Hid (∀b∈S,w.heap.size+1<=b):=λ b hb=>by have:=(ho.mem b hb).1;have:=HS2.out;omega
 have HO:=hid (ho.lower (base':=w.heap.size) (by have:=HS2.out;omega))
 have HN:=hid hn
 clear hby ho hn hs3
 have m0:=aD (Z2.out 0 _ rfl)
 have m1:=aD (Z2.out 1 _ rfl)
 have m2:=aD (Z2.out 2 _ rfl)
 have m3:=aD (Z2.out 3 _ rfl)
 have m4:=aD (Z2.out 4 _ rfl)
 have o0:=aI (Z2.out 0 _ rfl)
 have o1:=aI (Z2.out 1 _ rfl)
 have o2:=aI (Z2.out 2 _ rfl)
 have o3:=aI (Z2.out 3 _ rfl)
 have o4:=aI (Z2.out 4 _ rfl)
 go_wp2_with fail
 obtain⟨W,hW⟩:∃W,((((wy.setCell ⟨w.heap.size,0,none⟩ (.int .i64 T.h.k)).setCell ⟨w.heap.size,1,none⟩ (.int .i64 T.h.n)).setCell ⟨w.heap.size,2,none⟩ (.int .i64 T.h.a)).setCell ⟨w.heap.size,3,none⟩ (.slice s1 n1 d1)).setCell ⟨w.heap.size,4,none⟩ (.slice s2 n2 d2)=W:=⟨_,rfl⟩
 obtain⟨⟨x0,x1,x2,x3,x4⟩,hBF,hkW⟩:=C8 Z2.out HBY.out (by omega) hW
 rw[hW]
 refine bodyPost_ret (v:=.agg #[.int .i64 T.h.k,.int .i64 T.h.n,.int .i64 T.h.a,.slice s1 n1 d1,.slice s2 n2 d2]) (by simp[results,results244,go_sem,x0,x1,x2,x3,x4]) rfl ⟨s1,n1,d1,s2,n2,d2,S,rfl,hBF,?_,HN.out⟩
 exact HO.out.kept λ b hb=>hkW b (by have:=HGE.out b hb;omega)
end
section
theorem RT.block{W:World}{nb n:Nat}{cs:List Value}{x:Ts}(hb:∀j u,cs[j]? = some u->U W nb j=some u)(hW:nb<W.heap.size)(hv:Vs (U W) W.heap.size (tDs ty x) cs)(hn:x.len=n)(hn2:n<=100000000):RT ty W (.slice (some ⟨nb,0,none⟩) n n) x :=
 ⟨_,n,n,rfl,by rw[aF,hn],Nat.le_refl _,by unfold maxLen;omega,by rw[aF,hn];simp[Ds.len],.inr (.inr ⟨nb,0,rfl,hW,hv.at_ (λ j u hu=>by rw[Nat.zero_add];exact hb j u hu),trivial⟩)⟩
theorem Own.vsx{F:Nat->Nat->Option Value}{w:World}{base:Nat}(hF:∀b o v,base<=b->U w b o=some v->F b o=some v){x:Ds}:∀ {xs:List Value} {S:List Nat},Own w base x xs S->Vs F w.heap.size x xs:=by
 induction x with
 | nil=>rintro xs S ⟨rfl,-⟩;rfl
 | lit v r ih=>rintro xs S ⟨ys,e,h⟩;exact⟨ys,e,ih h⟩
 | row sz e x s r ihx ihs ihr =>
  rintro xs S ⟨v,ys,zs,us,B,S1,S2,S3,e1,h1,h2,h3,h4,rfl⟩
  refine⟨v,ys,e1,?_,ihr h4⟩
  have hv:=ihx h2
  have hl:=h2.len
  have hu:=ihs h3
  have hul:=h3.len
  rcases h1 with ⟨p,rfl,h5,h6,rfl⟩|⟨g,n,cap,cur,rfl,rfl,h4,h5,h6,h7,h8,h9,h10,h11,h12⟩
  ·obtain⟨rfl,rfl⟩:=List.append_eq_nil_iff.1 h6
   have hs:s.len=0:=by simpa using hul.symm
   refine⟨p,0,0,rfl,by omega,Nat.le_refl _,Nat.zero_le _,by omega,?_⟩
   by_cases hp:p=none
   ·exact .inl ⟨hp,rfl⟩
   ·exact .inr (.inl ⟨rfl,hs,hp⟩)
  ·have hc:=iK h5 h12
   refine⟨_,n,cap,rfl,by omega,h6,h7,by rw[<-hl,<-hul,<-List.length_append];exact h11,.inr (.inr ⟨g,0,rfl,(Array.getElem?_eq_some_iff.1 h5).1,hv.at_ (λ j u hj=>hF _ _ _ h4 (hc j u ?_)),hu.at_ (λ j u hj=>?_)⟩)⟩
   ·rw[List.getElem?_append_left (List.getElem?_eq_some_iff.1 hj).1];exact hj
   ·have:=hc (x.len+j) u (by rw[<-hl,List.getElem?_append_right (by omega)];simpa using hj)
    rw[<-Nat.add_assoc] at this;exact hF _ _ _ h4 this
theorem RowG.keep{w w':World}{base sz e n:Nat}{v:Value}{x:Ds}{S:List Nat}(h:RowG w base sz e v n x S)(hk:∀b,base<=b->b<w.heap.size->w'.heap[b]? = w.heap[b]?):RowG w' base sz e v n x S:=by
 obtain⟨xs,h1,h2,h3⟩:=h
 refine⟨xs,⟨h1.1,?_⟩,h2.kept λ b hb=>hk b (h2.mem b hb).1 (h2.mem b hb).2,h3⟩
 rcases h1.2 with h6|⟨g,cap,cur,e1,h6,h7,h8⟩
 ·exact .inl h6
 ·exact .inr ⟨g,cap,cur,e1,h6,(hk g h6 (Array.getElem?_eq_some_iff.1 h7).1).trans h7,h8⟩
end
section
theorem h60(t:Tm)(n f:Int)(hf:t.fits)(hs:t.size<=100000000):HH 147 [tmL t,iA n,iA f] (tmO (t.lift n f)) :=
 nE (bT func147 (by decide) rfl) λ F w vs hF hG hv=>by
  obtain⟨u,v,z,rfl,h1,h2,h3⟩:=xO hv
  rw[qG h2,qG h3]
  exact U7 t.h t.x u n f w (mQ hF h1) hf.1 hf.2 (Nat.le_trans hs (by decide)) hG
theorem Tm.lift0{t:Tm}(h:t.fits):t.lift 0 0=t:=by
 obtain⟨a,b⟩:=t
 show Tm.mk _ _=Tm.mk _ _
 rw[Hd.lift_zero h.1,Ts.lift_zero h.2]
theorem NQ(t:Tm)(hf:t.fits)(hs:t.size<=100000000):HH 147 [tmL t,iA 0,iA 0] (tmO t):=by
 have:=h60 t 0 0 hf hs
 rwa [Tm.lift0 hf] at this
theorem h12(t:Ts)(hf:t.fits)(hs:t.size<=100000000):HH 197 [tsA none t] (tmO (tup t)) :=
 nE (bT func197 (by decide) rfl) λ F w vs hF hG hv=>by
  obtain⟨u,rfl,h1⟩:=qF hv
  exact tup_any t u w (oD hF h1) hf hs hG
theorem h13(t:Ts)(hf:t.fits)(hs:t.size<=100000000):HH 244 [tsA none t] (tmO (kZ t)) :=
 nE (bT func244 (by decide) rfl) λ F w vs hF hG hv=>by
  obtain⟨u,rfl,h1⟩:=qF hv
  exact RQ t u w (oD hF h1) hf hs hG
end
section
def P5(q:Int×Int):Prop:=inW q.1/\inW q.2
theorem RN:∀ {ys:List ((Int×Int)×Ds×Nat)},(∀y∈ys,y.2.1=.lit (.int .i64 y.1.1) (.lit (.int .i64 y.1.2) .nil)/\P5 y.1/\y.2.2=3) ->
  oI (ys.map λ y=>y.2.1)=bY (ys.map (·.1))/\(∀q∈ys.map (·.1),P5 q)/\(ys.map λ y=>y.2.2).sum=3*(ys.map (·.1)).length
 | [],_=>⟨rfl,λ q hq=>by simp at hq,rfl⟩
 | y :: ys,h=>by
  obtain⟨h1,h2,h3⟩:=RN (ys:=ys) λ z hz=>h z (List.mem_cons.2 (.inr hz))
  obtain⟨k1,k2,k3⟩:=h y (List.mem_cons.2 (.inl rfl))
  refine⟨?_,λ q hq=>?_,?_⟩
  ·simp only[List.map_cons,oI,bY,k1,h1,Ds.app]
  ·rcases List.mem_cons.1 hq with rfl|hq
   ·exact k2
   ·exact h2 q hq
  ·simp only[List.map_cons,List.sum_cons,List.length_cons,k3,h3] at *
   omega
theorem SL:∀ {ys:List (Lv×Ds×Nat)},(∀y∈ys,y.2.1=.row 2 68 (bY y.1) .nil .nil/\(∀q∈y.1,P5 q)/\1+y.1.length<=y.2.2) ->
  oI (ys.map λ y=>y.2.1)=cB ty (ys.map (·.1))/\(∀p∈ys.map (·.1),∀q∈p,P5 q)/\aH (ys.map (·.1))<=(ys.map λ y=>y.2.2).sum
 | [],_=>⟨rfl,λ q hq=>by simp at hq,Nat.zero_le _⟩
 | y :: ys,h=>by
  obtain⟨h1,h2,h3⟩:=SL (ys:=ys) λ z hz=>h z (List.mem_cons.2 (.inr hz))
  obtain⟨k1,k2,k3⟩:=h y (List.mem_cons.2 (.inl rfl))
  refine⟨?_,λ q hq=>?_,?_⟩
  ·simp only[List.map_cons,oI,cB,k1,h1,Ds.app];rfl
  ·rcases List.mem_cons.1 hq with rfl|hq
   ·exact k2
   ·exact h2 q hq
  ·simp only[List.map_cons,List.sum_cons,aH] at *
   omega
theorem PQ:∀ {ys:List ((Hd×Ts)×Ds×Nat)},(∀y∈ys,y.2.1=tDs ty (.cons y.1.1 y.1.2 .nil)/\(y.1.1.fits/\y.1.2.fits)/\1+aH y.1.1.l+y.1.2.size<=y.2.2) ->
  ∃t:Ts,oI (ys.map λ y=>y.2.1)=tDs ty t/\t.fits/\t.size<=(ys.map λ y=>y.2.2).sum
 | [],_=>⟨.nil,rfl,trivial,Nat.zero_le _⟩
 | y :: ys,h=>by
  obtain⟨t,h1,h2,h3⟩:=PQ (ys:=ys) λ z hz=>h z (List.mem_cons.2 (.inr hz))
  obtain⟨k1,k2,k3⟩:=h y (List.mem_cons.2 (.inl rfl))
  refine⟨.cons y.1.1 y.1.2 t,?_,⟨k2.1,k2.2,h2⟩,?_⟩
  ·simp only[List.map_cons,oI,tDs,k1,h1,Ds.app]
  ·simp only[List.map_cons,List.sum_cons,Ts.size] at *
   omega
section
variable {H:Type} {enc:TypeId×Value->H} {W:World} {held:Bool}
theorem iY{ps qs:List MemPlace}(h:kI W (ps++qs)):kI W ps/\kI W qs:=⟨fun b o hp=>h b o (List.mem_append.2 (.inl hp)),λ b o hp=>h b o (List.mem_append.2 (.inr hp))⟩
theorem GY{n:Nat}{cs:List Value}{x:DataW H×List MemPlace}(h:DataW.trod enc prog W 0 (λ _=>true) held n 28 cs=some x)(hz:kI W x.2) :
  ∃v,cs=[v]/\∃p:Lv,(∀q∈p,P5 q)/\1+p.length<=Rows.uptoBulk x.1/\Rd (U W) W.heap.size v 2 (bY p) .nil:=by
 obtain⟨v,hv,ys,h1,h2,h3⟩:=jT (α:=Int×Int) underlying28 ER (by decide) (λ y d s=>d=.lit (.int .i64 y.1) (.lit (.int .i64 y.2) .nil)/\P5 y/\s=3) h hz (λ n' cs' x' _ h' _=>by
  obtain⟨a,b,rfl,hb,ga,gb⟩:=MU h'
  exact⟨(a,b),_,3,⟨rfl,⟨ga,gb⟩,rfl⟩,by omega,_,rfl,_,rfl,rfl⟩)
 obtain⟨e1,e2,e3⟩:=RN h1
 refine⟨v,hv,ys.map (·.1),e2,by omega,?_⟩
 rw[<-e1];exact h3
theorem E4{n:Nat}{cs:List Value}{x:DataW H×List MemPlace}(h:DataW.trod enc prog W 0 (λ _=>true) held n 30 cs=some x)(hz:kI W x.2) :
  ∃v,cs=[v]/\∃p:Lv,(∀q∈p,P5 q)/\1+p.length<=Rows.uptoBulk x.1/\Rd (U W) W.heap.size v 2 (bY p) .nil:=by
 obtain⟨xs,n',rfl,rfl,hl,hxs,hf⟩:=DataW.trod_struct underlying30 h
 rw[M0] at hl
 obtain⟨c0,rfl⟩:=one_of hl
 obtain⟨x0,rfl⟩:=one_of hxs
 have h0:DataW.trod enc prog W 0 (λ _=>true) held n' 28 (([c0].drop 0).take (prog.cellsOf 28))=some x0:=hf 0 _ rfl
 rw[UN] at h0
 obtain⟨v,hv,p,h1,h2,h3⟩:=GY h0 (by simpa using hz)
 cases hv
 exact⟨_,rfl,p,h1,by simp[Rows.uptoBulk,Rows.uptoBulkAll];omega,h3⟩
theorem CX{n:Nat}{cs:List Value}{x:DataW H×List MemPlace}(h:DataW.trod enc prog W 0 (λ _=>true) held n 24 cs=some x)(hz:kI W x.2) :
  ∃v,cs=[v]/\∃l:List Lv,(∀p∈l,∀q∈p,P5 q)/\1+aH l<=Rows.uptoBulk x.1/\RL ty W v l:=by
 obtain⟨v,hv,ys,h1,h2,h3⟩:=jT (α:=Lv) underlying24 M0 (by decide) (λ y d s=>d=.row 2 68 (bY y) .nil .nil/\(∀q∈y,P5 q)/\1+y.length<=s) h hz (λ n' cs' x' _ h' hz'=>by
  obtain⟨v,rfl,p,g1,g2,g3⟩:=E4 h' hz'
  exact⟨p,_,_,⟨rfl,g1,g2⟩,Nat.le_refl _,v,[],rfl,g3,rfl⟩)
 obtain⟨e1,e2,e3⟩:=SL h1
 refine⟨v,hv,ys.map (·.1),e2,by omega,?_⟩
 show Rd _ _ _ _ _ _
 rw[<-e1];exact h3
theorem kK{n:Nat}{cs:List Value}{x:DataW H×List MemPlace}(h:DataW.trod enc prog W 0 (λ _=>true) held n 27 cs=some x)(hz:kI W x.2)
  (kids:∀(n':Nat) (cs:List Value) (x:DataW H×List MemPlace),n'<n->DataW.trod enc prog W 0 (λ _=>true) held n' 25 cs=some x->kI W x.2->∃v,cs=[v]/\∃t:Ts,t.fits/\1+t.size<=Rows.uptoBulk x.1/\RT ty W v t) :
  ∃k n a v w,cs=[.int .i64 k,.int .i64 n,.int .i64 a,v,w]/\∃(l:List Lv) (t:Ts),Hd.fits ⟨k,n,a,l⟩/\t.fits/\1+aH l+t.size<=Rows.uptoBulk x.1/\RL ty W v l/\RT ty W w t:=by
 obtain⟨xs,n',rfl,rfl,hl,hxs,hf⟩:=DataW.trod_struct underlying27 h
 rw[rS] at hl
 obtain⟨c0,c1,c2,c3,c4,rfl⟩:=pZ hl
 obtain⟨x0,x1,x2,x3,x4,rfl⟩:=pZ hxs
 have h0:DataW.trod enc prog W 0 (λ _=>true) held n' 23 (([c0,c1,c2,c3,c4].drop 0).take (prog.cellsOf 23))=some x0:=hf 0 _ rfl
 have h1:DataW.trod enc prog W 0 (λ _=>true) held n' 3 (([c0,c1,c2,c3,c4].drop 1).take (prog.cellsOf 3))=some x1:=hf 1 _ rfl
 have h2:DataW.trod enc prog W 0 (λ _=>true) held n' 3 (([c0,c1,c2,c3,c4].drop 2).take (prog.cellsOf 3))=some x2:=hf 2 _ rfl
 have h3:DataW.trod enc prog W 0 (λ _=>true) held n' 24 (([c0,c1,c2,c3,c4].drop 3).take (prog.cellsOf 24))=some x3:=hf 3 _ rfl
 have h4:DataW.trod enc prog W 0 (λ _=>true) held n' 25 (([c0,c1,c2,c3,c4].drop 4).take (prog.cellsOf 25))=some x4:=hf 4 _ rfl
 rw[UQ] at h0
 rw[qB] at h1 h2
 rw[UP] at h3
 rw[rT] at h4
 obtain⟨k,e0,rfl,g0⟩:=open_int underlying23 h0
 obtain⟨n,e1,rfl,g1⟩:=open_int underlying3 h1
 obtain⟨a,e2,rfl,g2⟩:=open_int underlying3 h2
 have hz':kI W (x3.2++x4.2):=by simpa using hz
 obtain⟨z3,z4⟩:=iY hz'
 obtain⟨v,e3,l,f3,s3,r3⟩:=CX h3 z3
 obtain⟨w,e4,t,f4,s4,r4⟩:=kids n' _ _ (Nat.lt_succ_self _) h4 z4
 cases e0
 cases e1
 cases e2
 cases e3
 cases e4
 refine⟨k,n,a,_,_,rfl,l,t,⟨g0,g1,g2,f3⟩,f4,?_,r3,r4⟩
 simp[Rows.uptoBulk,Rows.uptoBulkAll]
 omega
theorem gY:∀(n:Nat) (cs:List Value) (x:DataW H×List MemPlace),DataW.trod enc prog W 0 (λ _=>true) held n 25 cs=some x->kI W x.2->∃v,cs=[v]/\∃t:Ts,t.fits/\1+t.size<=Rows.uptoBulk x.1/\RT ty W v t:=by
 intro n
 induction n using Nat.strongRecOn with
 | _ n ih =>
  intro cs x h hz
  obtain⟨v,hv,ys,h1,h2,h3⟩:=jT (α:=Hd×Ts) underlying25 rS (by decide) (λ y d s=>d=tDs ty (.cons y.1 y.2 .nil)/\(y.1.fits/\y.2.fits)/\1+aH y.1.l+y.2.size<=s) h hz (λ n' cs' x' hlt h' hz'=>by
   obtain⟨k,n,a,v,w,rfl,l,t,g1,g2,g3,g4,g5⟩:=kK h' hz' λ n2 cs2 x2 hlt2 h2 hz2=>ih n2 (Nat.lt_trans hlt2 hlt) cs2 x2 h2 hz2
   exact⟨(⟨k,n,a,l⟩,t),_,_,⟨rfl,⟨g1,g2⟩,g3⟩,Nat.le_refl _,_,rfl,_,rfl,_,rfl,v,_,rfl,g4,w,_,rfl,g5,rfl⟩)
  obtain⟨t,e1,e2,e3⟩:=PQ h1
  refine⟨v,hv,t,e2,by omega,?_⟩
  show Rd _ _ _ _ _ _
  rw[<-e1];exact h3
end
end
section
open Go.ChangeShapes Go.WideShapes Go.ChangeAt Go.RowKit
theorem RR:ownKnob prog.godebug=none:=by kernel_rfl
section
variable {H:Type} {enc:TypeId×Value->H} {P:Program}
theorem SP{f:Func}{s:ChangeSpec}{rK handsOn again:Bool}{W W':World}{args:Array Value}{v:Value}{ds gs:List (DataW H)}{before:List MemPlace}
  (hW:DataW.Whole enc P f.params.toList s.vars false W args.toList ds gs before) (hb:Below W.heap.size W W')
  (hres:∀(b:Nat) (sp:Nat->Bool) (hd:Bool),DataW.TrodAll enc P W' b sp hd f.resultTypes.toList (v.resultList f.resultTypes.size) (s.fn H (ds++gs)).results [])
  (hargs:∀sp:Nat->Bool,(∀p∈before,sp p.block=true)->DataW.TrodAll enc P W' 0 sp true f.params.toList args.toList (s.fn H (ds++gs)).args before)
  (hvars:∀sp:Nat->Bool,DataW.TrodVars enc P W' sp s.vars (s.fn H (ds++gs)).vars [])
  (hok:∀(j:Nat) (t:TypeId) (r:Value),f.resultTypes[j]? = some t->(v.resultList f.resultTypes.size)[j]? = some r->Value.okWide P W' .any 0 t r) :
  s.post enc P f false rK handsOn again W args v W':=by
 have hlt:∀p∈before,p.block<W.heap.size:=λ p hp=>hW.lt p hp
 have hz:=hW
 obtain⟨_,_,_,_,_,hz,_⟩:=hz
 refine⟨ds,gs,before,[],before,[],hW,hres _ _ _,hargs (λ b=>decide (b<W.heap.size)) (λ p hp=>by simpa using hlt p hp),hvars _,World.keptBut_mono (λ p hp=>⟨hp,?_⟩) (hb.frame (·∈before)),λ _=>⟨hok,_,_,[]++before++[],⟨[]++before,[],trodAll_append (hargs _ (λ _ _=>rfl)) (hres _ _ _),hvars _,rfl,λ b off hp=>?_,λ h=>(by cases h)⟩,λ p hp _=>by simpa using hp⟩⟩
 ·simpa using hp
 ·have hin:MemPlace.cell b off∈before:=by simpa using hp
  rw[hb.frozen (hlt _ hin)]
  exact hz b off hin
end
def relaid(h:Array Obj)(b:Nat)(vs:Array Value):Array Obj:=h.modify b fun
 | .cells _ t frozen=>.cells vs t frozen
 | o=>o
def dK(a b:Bool)(x y z:Int):List Value:=[.bool a,.bool b,.int .i64 x,.int .i64 y,.int .i64 z]
def NJ:Array Value:=(dK false false 0 0 0++dK true false 0 0 (-1)++dK false false 1 0 (-1)++dK true false (-1) 0 (-1)++dK false false 0 2 1++dK false false 0 2 1++dK false false 0 2 (-1)++dK false false 0 3 2++dK true true (-1) 0 (-1)++dK true true (-1) 0 (-1)++dK true true (-1) 0 (-1)++dK false true 0 0 (-1)++dK false false 0 2 1++dK false false 0 2 (-1)++dK false false 0 1 (-1)++dK false false 0 1 (-1)++dK false false 0 2 1++dK false false 0 2 (-1)++dK false false 0 5 1++dK false false 0 3 (-1)++dK false false 0 0 (-1)++dK false false 0 6 (-1)++dK true false 0 0 (-1)++dK true true 0 0 (-1)++dK false true 0 2 (-1)).toArray
noncomputable def wP(os:Os):World :=
 { World.holding prog os ⟨#[],#[],[]⟩ with heap:=relaid (World.holding prog os ⟨#[],#[],[]⟩).heap 0 NJ }
set_option maxRecDepth 100000
theorem LH:laidOutB prog=true:=by kernel_rfl
section
variable {H:Type} {enc:TypeId×Value->H} {W W':World}
end
end
section
def ptOf:Ds->Lv
 | .lit (.int _ a) (.lit (.int _ b) r)=>(a,b) :: ptOf r
 | _=>[]
def lvOf:Ds->List Lv
 | .row _ _ p _ r=>ptOf p :: lvOf r
 | _=>[]
def tsOf:Ds->Ts
 | .lit (.int _ k) (.lit (.int _ n) (.lit (.int _ a) (.row _ _ l _ (.row _ _ x _ r))))=>.cons ⟨k,n,a,lvOf l⟩ (tsOf x) (tsOf r)
 | _=>.nil
def tmOf:Dc->Tm
 | .lit (.int _ k) (.lit (.int _ n) (.lit (.int _ a) (.row _ _ _ l (.row _ _ _ x _))))=>⟨⟨k,n,a,lvOf l⟩,tsOf x⟩
 | _=>⟨⟨0,0,0,[]⟩,.nil⟩
def LI:Value->Value->Bool
 | .int k a,.int k' b=>decide (k=k') && decide (a=b)
 | _,_=>false
theorem DV{u v:Value}(h:LI u v=true):u=v:=by
 unfold LI at h
 split at h
 ·simp only[Bool.and_eq_true,decide_eq_true_eq] at h
  rw[h.1,h.2]
 ·cases h
def Ds.eqB:Ds->Ds->Bool
 | .nil,.nil=>true
 | .lit u r,.lit v s=>LI u v && r.eqB s
 | .row sz e x p r,.row sz' e' x' p' r'=>decide (sz=sz') && (decide (e=e') && (x.eqB x' && (p.eqB p' && r.eqB r')))
 | _,_=>false
theorem Ds.eqB_ok{x:Ds}:∀ {y:Ds},x.eqB y=true->x=y:=by
 induction x with
 | nil=>intro y h;cases y<;>first | rfl | cases h
 | lit u r ih =>
  intro y h
  cases y<;>simp only[Ds.eqB,Bool.and_eq_true] at h<;>try (cases h;done)
  rw[DV h.1,ih h.2]
 | row sz e x p r ihx ihp ihr =>
  intro y h
  cases y<;>simp only[Ds.eqB,Bool.and_eq_true,decide_eq_true_eq] at h<;>try (cases h;done)
  obtain⟨rfl,rfl,h1,h2,h3⟩:=h
  rw[ihx h1,ihp h2,ihr h3]
def Dc.eqB:Dc->Dc->Bool
 | .nil,.nil=>true
 | .lit u r,.lit v s=>LI u v && r.eqB s
 | .row none sz e x r,.row none sz' e' x' r'=>decide (sz=sz') && (decide (e=e') && (x.eqB x' && r.eqB r'))
 | _,_=>false
theorem Dc.eqB_ok{x:Dc}:∀ {y:Dc},x.eqB y=true->x=y:=by
 induction x with
 | nil=>intro y h;cases y<;>first | rfl | cases h
 | lit u r ih =>
  intro y h
  cases y<;>simp only[Dc.eqB,Bool.and_eq_true] at h<;>try (cases h;done)
  rw[DV h.1,ih h.2]
 | row k sz e x r ihr =>
  intro y h
  cases k with
  | some _=>cases y<;>cases h
  | none =>
   cases y with
   | row k' sz' e' x' r' =>
    cases k' with
    | some _=>cases h
    | none =>
     simp only[Dc.eqB,Bool.and_eq_true,decide_eq_true_eq] at h
     obtain⟨rfl,rfl,h1,h2⟩:=h
     rw[Ds.eqB_ok h1,ihr h2]
   | _=>cases h
 | nilr sz e r _=>intro y h;cases y<;>cases h
 | seg k d r _=>intro y h;cases y<;>cases h
 | blk k v sz e x r _ _=>intro y h;cases y<;>cases h
def tmB(d:Dc):Option Tm:=let t:=tmOf d;if d.eqB (tmC none none t.h t.x) then some t else none
theorem tmB_ok{d:Dc}{t:Tm}(h:tmB d=some t):.agg d=tmL t:=by
 simp only[tmB] at h
 split at h
 ·rename_i h1;cases h;exact congrArg AV.agg (Dc.eqB_ok h1)
 ·cases h
def inB(n:Int):Bool:=decide (-9223372036854775808<=n) && decide (n<=9223372036854775807)
theorem J5{n:Int}(h:inB n=true) : -9223372036854775808<=n/\n<=9223372036854775807:=by simpa[inB] using h
end
section
def Dc.unl:Dc->Bool
 | .nil=>true
 | .lit _ r=>r.unl
 | .nilr _ _ r=>r.unl
 | .row none _ _ _ r=>r.unl
 | .seg none _ r=>r.unl
 | _=>false
def AV.unl:AV->Bool
 | .c d=>d.unl
 | .agg d=>d.unl
 | .bx _ _=>false
 | .cons a r=>a.unl && r.unl
 | .tup l=>l.unl
 | .fn _ a b=>a.unl && b.unl
 | _=>true
theorem RepC.mv{g g':Gh}(hF:∀b o v,g.F b o=some v->g'.F b o=some v)(hh:g.w.heap.size<=g'.w.heap.size){d:Dc}:∀ {xs:List Value},d.unl=true->RepC g d xs->RepC g' d xs:=by
 induction d with
 | nil=>intro xs _ h;exact h
 | lit v r ih=>rintro xs hu ⟨h0,ys,e,h⟩;exact⟨h0,ys,e,ih hu h⟩
 | nilr sz e r ih=>rintro xs hu ⟨ys,e,h⟩;exact⟨ys,e,ih hu h⟩
 | row k sz e x r ih =>
  cases k with
  | some _=>intro xs hu;cases hu
  | none=>rintro xs hu ⟨h0,v,ys,e,h1,-,h⟩;exact⟨h0,v,ys,e,h1.mono (λ b o v _ hv=>hF b o v hv) hh,Gh.Ow_none,ih hu h⟩
 | seg k d r ih =>
  cases k with
  | some _=>intro xs hu;cases hu
  | none=>rintro xs hu ⟨h0,ys,zs,e,h1,-,h⟩;exact⟨h0,ys,zs,e,h1.mono (λ b o v _ hv=>hF b o v hv) hh,Gh.Ow_none,ih hu h⟩
 | blk k v sz e x r _ _=>intro xs hu;cases hu
theorem RepV.mv{g g':Gh}(hF:∀b o v,g.F b o=some v->g'.F b o=some v)(hh:g.w.heap.size<=g'.w.heap.size){a:AV}(hs:a.flat=true∨∀b o v,b<g.w.heap.size->g.Fs b o=some v->g'.Fs b o=some v):∀ {xs:List Value},a.unl=true->RepV g a xs->RepV g' a xs:=by
 induction a with
 | junk=>intros;trivial
 | v x=>intro xs _ h;exact h
 | c d=>intro xs hu h;exact RepC.mv hF hh hu h
 | agg d=>rintro xs hu ⟨ys,e,h⟩;exact⟨ys,e,RepC.mv hF hh hu h⟩
 | bx k o=>intro xs hu;cases hu
 | el x =>
  rintro xs _ ⟨h0,b,o,ys,e,hb,h1,h2⟩
  rcases hs with hs|hs
  ·cases hs
  ·exact⟨h0,b,o,ys,e,Nat.lt_of_lt_of_le hb hh,h1.mono (λ b o v _ hv=>hF b o v hv) hh,λ j u hu=>hs _ _ _ hb (h2 j u hu)⟩
 | nil=>intro xs _ h;exact h
 | cons a r iha ihr =>
  rintro xs hu ⟨y,ys,e,h1,h2⟩
  simp only[AV.unl,Bool.and_eq_true] at hu
  simp only[AV.flat,Bool.and_eq_true] at hs
  exact⟨y,ys,e,iha (hs.imp And.left id) hu.1 h1,ihr (hs.imp And.right id) hu.2 h2⟩
 | tup l ih=>rintro xs hu ⟨ys,e,h⟩;exact⟨ys,e,ih hs hu h⟩
 | fn f a b iha ihb =>
  rintro xs hu ⟨ys,zs,e,h1,h2⟩
  simp only[AV.unl,Bool.and_eq_true] at hu
  simp only[AV.flat,Bool.and_eq_true] at hs
  exact⟨ys,zs,e,iha (hs.imp And.left id) hu.1 h1,ihb (hs.imp And.right id) hu.2 h2⟩
 | ev b o x =>
  rintro xs _ ⟨e,h0,hb,ys,h1,h2⟩
  rcases hs with hs|hs
  ·cases hs
  ·exact⟨e,h0,Nat.lt_of_lt_of_le hb hh,ys,h1.mono (λ b o v _ hv=>hF b o v hv) hh,λ j u hu=>hs _ _ _ hb (h2 j u hu)⟩
theorem RepC.frz{g:Gh}{d:Dc}:∀ {xs:List Value},RepC g d xs->RepC g d.frz xs:=by
 induction d with
 | nil=>intro xs h;exact h
 | lit v r ih=>rintro xs ⟨h0,ys,e,h⟩;exact⟨h0,ys,e,ih h⟩
 | nilr sz e r ih=>rintro xs ⟨ys,e,h⟩;exact⟨ys,e,ih h⟩
 | row k sz e x r ih=>rintro xs ⟨h0,v,ys,e,h1,-,h⟩;exact⟨h0,v,ys,e,h1,Gh.Ow_none,ih h⟩
 | seg k d r _=>intro xs h;exact⟨h.good,xs,[],by simp,h.vs,Gh.Ow_none,rfl⟩
 | blk k v sz e x r _ ih=>rintro xs ⟨h0,-,v,ys,e,h1,-,h⟩;exact⟨h0,v,ys,e,h1,Gh.Ow_none,ih h⟩
theorem RepV.frz{g:Gh}{a:AV}:∀ {xs:List Value},RepV g a xs->RepV g a.frz xs:=by
 induction a with
 | v x=>intro xs h;exact h
 | c d=>intro xs h;exact RepC.frz h
 | agg d=>rintro xs ⟨ys,e,h⟩;exact⟨ys,e,RepC.frz h⟩
 | nil=>intro xs h;exact h
 | cons a r iha ihr=>rintro xs ⟨y,ys,e,h1,h2⟩;exact⟨y,ys,e,iha h1,ihr h2⟩
 | tup l ih=>rintro xs ⟨ys,e,h⟩;exact⟨ys,e,ih h⟩
 | fn f a b iha ihb=>rintro xs ⟨ys,zs,e,h1,h2⟩;exact⟨ys,zs,e,iha h1,ihb h2⟩
 | _=>intros;trivial
theorem Holds.frz{P:Program}{G:World->Prop}{f:Nat}{ps r:AV}(h:Holds P G f ps r):Holds P G f ps r.frz :=
 ⟨h.1,(AV.frz_plain r).1,λ F w vs hF hG hv=>(h.2.2 F w vs hF hG hv).mono λ e w' ⟨v,fp,h1,h2,h3,h4,h5⟩=>⟨v,fp,h1,h2,RepV.frz h3,h4,h5⟩⟩
theorem EV(p:Addr)(w:World) :
  CallsD prog 139 #[.pointer (some p)] .returning w λ e u' w'=>e=.returned (.tuple #[])/\u'=.returning/\w'=w:=by
 refine callsD_of_wpS func139 rfl λ c₀ cs hu=>?_
 apply wpS_seq
 apply wpS_region
 simp[wpOpsS,go_sem,recoverD,hu,ntmps139,Exit.thenS]
 refine wpS_of_wp (wp_mono (Q:=λ e a w'=>e=.normal/\a.defers=[]/\w'=w) ?_ ?_)
 ·clear hu
  rw[show #[Value.pointer (some p)]++((Array.replicate 16 undef).setIfInBounds 4 Value.nilIface).setIfInBounds 0 Value.nilIface=#[Value.pointer (some p),Value.nilIface,undef,undef,undef,Value.nilIface,undef,undef,undef,undef,undef,undef,undef,undef,undef,undef,undef] from rfl]
  go_wp2
 ·rintro e a w' ⟨rfl,hd,rfl⟩
  cases c₀
  simp_all [bodyPostS,results,results139]
theorem FL(g:Nat)(x y:Array Value)(w:World)(hg:rX prog g)(R:Value->World->Prop)(hc:Calls prog g (x++y) (w.alloc (.cells #[.slice none 0 0] 44)) λ e w'=>∃p n c,e=.returned (.slice p n c)/\Below (w.heap.size+1) (w.alloc (.cells #[.slice none 0 0] 44)) w'/\R (.slice p n c) w') :
  Calls prog 45 #[.func (.func g) x y] w λ e w'=>∃v w1,e=.returned v/\Below (w.heap.size+1) (w.alloc (.cells #[.slice none 0 0] 44)) w1/\R v w1/\w'=w1.setCell ⟨w.heap.size,0,none⟩ v:=by
 have hmf:∀(fn:Fn) (first cap:Array Value) (w:World),(Instr.makeFunc fn first cap).run prog w=.ok (.func fn first cap) w:=λ _ _ _ _=>rfl
 have hcf:∀w,(callFunc g (x++y)).run prog w=.ok (.enter g (x++y)) w:=λ w=>by
  obtain⟨fn,k1,k2,k3⟩:=hg
  simp[callFunc,k1,k2,k3]
 have HC:=hid hc
 clear hc hg
 go_enter_defers func45,ntmps45
 go_wp2_with fail
 refine HC.out.mono ?_
 rintro e w1 ⟨p,n,c,rfl,hb1,hr⟩
 have HB:=hid hb1
 have HR:=hid hr
 have d0:w1.cell? ⟨w.heap.size,0,none⟩=some (.slice none 0 0):=(hb1.cell (p:=⟨w.heap.size,0,none⟩) (by simp)).trans (by simp[go_sem])
 have f0:w1.frozen? ⟨w.heap.size,0,none⟩=false:=(hb1.frozen (p:=⟨w.heap.size,0,none⟩) (by simp)).trans (by simp[go_sem])
 clear hb1 hr
 go_wp2
 refine leaves_cons (f:=139) (args:=#[.pointer (some ⟨w.heap.size,0,none⟩)]) (by simp) (by simp[go_sem]) ?_
 refine (EV _ _).mono ?_
 rintro e u' w'' ⟨rfl,rfl,rfl⟩
 have c0:(w1.setCell ⟨w.heap.size,0,none⟩ (.slice p n c)).cell? ⟨w.heap.size,0,none⟩=some (.slice p n c):=World.cell?_setCell_same' _ _ _ (by rw[d0];rfl)
 simp[Leaves,settle,results,results45,go_sem,c0]
 exact⟨w1,HB.out,HR.out,rfl⟩
theorem ET(p:Addr)(w:World) :
  CallsD prog 277 #[.pointer (some p)] .returning w λ e u' w'=>e=.returned (.tuple #[])/\u'=.returning/\w'=w:=by
 refine callsD_of_wpS func277 rfl λ c₀ cs hu=>?_
 apply wpS_seq
 apply wpS_region
 simp[wpOpsS,go_sem,recoverD,hu,ntmps277,Exit.thenS]
 refine wpS_of_wp (wp_mono (Q:=λ e a w'=>e=.normal/\a.defers=[]/\w'=w) ?_ ?_)
 ·clear hu
  rw[show #[Value.pointer (some p)]++((Array.replicate 16 undef).setIfInBounds 4 Value.nilIface).setIfInBounds 0 Value.nilIface=#[Value.pointer (some p),Value.nilIface,undef,undef,undef,Value.nilIface,undef,undef,undef,undef,undef,undef,undef,undef,undef,undef,undef] from rfl]
  go_wp2
 ·rintro e a w' ⟨rfl,hd,rfl⟩
  cases c₀
  simp_all [bodyPostS,results,results277]
theorem FH(g:Nat)(x y:Array Value)(w:World)(hg:rX prog g)(R:Value->World->Prop)(hc:Calls prog g (x++y) (w.alloc (.cells #[.slice none 0 0] 25)) λ e w'=>∃p n c,e=.returned (.slice p n c)/\Below (w.heap.size+1) (w.alloc (.cells #[.slice none 0 0] 25)) w'/\R (.slice p n c) w') :
  Calls prog 262 #[.func (.func g) x y] w λ e w'=>∃v w1,e=.returned v/\Below (w.heap.size+1) (w.alloc (.cells #[.slice none 0 0] 25)) w1/\R v w1/\w'=w1.setCell ⟨w.heap.size,0,none⟩ v:=by
 have hmf:∀(fn:Fn) (first cap:Array Value) (w:World),(Instr.makeFunc fn first cap).run prog w=.ok (.func fn first cap) w:=λ _ _ _ _=>rfl
 have hcf:∀w,(callFunc g (x++y)).run prog w=.ok (.enter g (x++y)) w:=λ w=>by
  obtain⟨fn,k1,k2,k3⟩:=hg
  simp[callFunc,k1,k2,k3]
 have HC:=hid hc
 clear hc hg
 go_enter_defers func262,ntmps262
 go_wp2_with fail
 refine HC.out.mono ?_
 rintro e w1 ⟨p,n,c,rfl,hb1,hr⟩
 have HB:=hid hb1
 have HR:=hid hr
 have d0:w1.cell? ⟨w.heap.size,0,none⟩=some (.slice none 0 0):=(hb1.cell (p:=⟨w.heap.size,0,none⟩) (by simp)).trans (by simp[go_sem])
 have f0:w1.frozen? ⟨w.heap.size,0,none⟩=false:=(hb1.frozen (p:=⟨w.heap.size,0,none⟩) (by simp)).trans (by simp[go_sem])
 clear hb1 hr
 go_wp2
 refine leaves_cons (f:=277) (args:=#[.pointer (some ⟨w.heap.size,0,none⟩)]) (by simp) (by simp[go_sem]) ?_
 refine (ET _ _).mono ?_
 rintro e u' w'' ⟨rfl,rfl,rfl⟩
 have c0:(w1.setCell ⟨w.heap.size,0,none⟩ (.slice p n c)).cell? ⟨w.heap.size,0,none⟩=some (.slice p n c):=World.cell?_setCell_same' _ _ _ (by rw[d0];rfl)
 simp[Leaves,settle,results,results262,go_sem,c0]
 exact⟨w1,HB.out,HR.out,rfl⟩
end
section
open Go.RowKit Go.Shelf
def Fr(F:Nat->Nat->Option Value)(B g:Nat)(w:World)(b o:Nat):Option Value:=if b=g∨b=g+1 then none else if b<B then F b o else U w b o
section
variable {F:Nat->Nat->Option Value} {B g:Nat} {w w':World} {b o:Nat} {v:Value}
theorem Fr_no(h:Fr F B g w b o=some v):¬(b=g∨b=g+1):=by
 unfold Fr at h;split at h
 ·cases h
 ·assumption
theorem Fr_ne(h:Fr F B g w b o=some v):b≠g:=λ e=>Fr_no h (.inl e)
theorem VP(h:Fr F B g w b o=some v):b≠g+1:=λ e=>Fr_no h (.inr e)
theorem VO(h:U w b o=some v)(hB:B<=b)(hb:b≠g)(hb2:b≠g+1):Fr F B g w b o=some v:=by
 unfold Fr;rw[if_neg (λ e=>e.elim hb hb2),if_neg (by omega)];exact h
theorem VN(h:F b o=some v)(hB:b<B)(hb:b≠g)(hb2:b≠g+1):Fr F B g w b o=some v:=by
 unfold Fr;rw[if_neg (λ e=>e.elim hb hb2),if_pos hB];exact h
theorem Fr_on(h:∀b,B<=b->b<w.heap.size->b≠g->(∃o v,U w b o=some v)->w'.heap[b]? = w.heap[b]?)(b o:Nat)(v:Value)(hv:Fr F B g w b o=some v):Fr F B g w' b o=some v:=by
 have h1:=Fr_ne hv
 have h2:=VP hv
 unfold Fr at hv
 rw[if_neg (λ e=>e.elim h1 h2)] at hv
 split at hv
 ·rename_i hb;exact VN hv hb h1 h2
 ·rename_i hb;exact VO ((eW (h b (by omega) (aL hv) h1 ⟨o,v,hv⟩) o).trans hv) (by omega) h1 h2
end
structure OC where
 own:Prop
 base:Nat
 Sk:Nat->List Nat
 S2:List Nat
def OwnP(Q:OC)(t:Ts)(kk:Int)(g:Nat)(t0:Tm)(n0:Nat)(pre:List Nat)(cs:List Value)(W:World):Prop :=
 Q.own->pre.Nodup->∃S,Own W Q.base (tDs ty (acc kk t t0 pre).ts) cs S/\S.Nodup/\∀b∈S,b≠g/\b≠g+1/\(n0<=b∨b∈Q.S2∨∃k∈pre,b∈Q.Sk k)
theorem Own.cellsO{w:World}{base:Nat}{x:Ds}:∀ {xs:List Value} {S:List Nat},Own w base x xs S->∀b∈S,∃cur e,w.heap[b]? = some (.cells cur e (0,0)):=by
 induction x with
 | nil=>rintro xs S ⟨-,rfl⟩ b hb;cases hb
 | lit v r ih=>rintro xs S ⟨ys,-,h⟩;exact ih h
 | row sz e x s r ihx ihs ihr =>
  rintro xs S ⟨v,ys,zs,us,B,S1,S2,S3,-,h1,h2,h3,h4,rfl⟩ b hb
  simp only[List.mem_append] at hb
  rcases hb with hb|hb|hb|hb
  ·rcases h1 with ⟨p,-,-,-,rfl⟩|⟨g,n,cap,cur,rfl,-,-,hg,-⟩
   ·cases hb
   ·obtain rfl:b=g:=by simpa using hb
    exact⟨_,_,hg⟩
  ·exact ihx h2 b hb
  ·exact ihs h3 b hb
  ·exact ihr h4 b hb
theorem T9{w:World}{base:Nat}:∀(t:Ts) {zs:List Value} {S:List Nat},Own w base (tDs ty t) zs S->S.Nodup ->
  ∃Sk:Nat->List Nat,∀k,k<t.len->Own w base (tDs ty (.cons (t.hd k) (t.kd k) .nil)) ((zs.drop (k*5)).take 5) (Sk k)/\(Sk k).Nodup/\(∀b∈Sk k,b∈S)/\∀k',k'<t.len->k≠k'->∀b∈Sk k,b ∉ Sk k'
 | .nil,_,_,_,_=>⟨fun _=>[],λ k hk=>by simp[Ts.len] at hk⟩
 | .cons h x r,zs,S,hO,hn=>by
  have e:tDs ty (.cons h x r)=(tDs ty (.cons h x .nil)).app (tDs ty r):=by simp[tDs,Ds.app]
  rw[e] at hO
  obtain⟨z1,z2,A,C,rfl,rfl,h1,h2⟩:=hO.split
  have hl:z1.length=5:=by have:=h1.len;rwa [aF,show (Ts.cons h x .nil).len=1 from rfl] at this
  obtain⟨hnA,hnC,hd⟩:=List.nodup_append.1 hn
  obtain⟨Sk,hk⟩:=T9 r h2 hnC
  refine⟨fun k=>match k with|0=>A|k+1=>Sk k,λ k hlt=>?_⟩
  cases k with
  | zero =>
   refine⟨?_,hnA,λ b hb=>List.mem_append_left _ hb,λ k' hk' hne b hb hb'=>?_⟩
   ·have:((z1++z2).drop (0*5)).take 5=z1:=by simp[<-hl]
    rw[this];exact h1
   ·cases k' with
    | zero=>exact hne rfl
    | succ k'=>exact hd b hb b ((hk k' (by simp[Ts.len] at hk';omega)).2.2.1 b hb') rfl
  | succ k =>
   have hlt':k<r.len:=by simp[Ts.len] at hlt;omega
   obtain⟨q1,q2,q3,q4⟩:=hk k hlt'
   refine⟨?_,q2,λ b hb=>List.mem_append_right _ (q3 b hb),λ k' hk' hne b hb hb'=>?_⟩
   ·have:((z1++z2).drop ((k+1)*5)).take 5=(z2.drop (k*5)).take 5:=by
     rw[show (k+1)*5=z1.length+k*5 by omega,List.drop_append,List.drop_eq_nil_of_le (by omega)]
     simp
    rw[this];exact q1
   ·cases k' with
    | zero=>exact hd b hb' b (q3 b hb) rfl
    | succ k'=>exact q4 k' (by simp[Ts.len] at hk';omega) (by omega) b hb hb'
def FoldJ(Q:OC)(F:Nat->Nat->Option Value)(B:Nat)(t:Ts)(kk:Int)(g:Nat)(t0:Tm)(wS:World)(pre:List Nat)(W:World):Prop :=
 BelowX g wS W/\(g+1<wS.heap.size/\B<=g)/\∃v,RMx (Fr F B g W) W.heap.size v (acc kk t t0 pre).h (acc kk t t0 pre).x/\(∀cs,v=.agg cs->∀o u,cs[o]? = some u->U W g o=some u)/\∀cs:Array Value,v=.agg cs->OwnP Q t kk g t0 wS.heap.size pre cs.toList W
theorem FoldJ.on{Q:OC}{F:Nat->Nat->Option Value}{B:Nat}{t:Ts}{kk:Int}{g:Nat}{t0:Tm}{wS W W':World}{pre:List Nat}{row:Option Nat}(h:FoldJ Q F B t kk g t0 wS pre W)(hg:W.grownBy W' row)(hr:∀r,row=some r->wS.heap.size<=r/\∃o:Obj,W.heap[r]? = some o/\o.isCells=false):FoldJ Q F B t kk g t0 wS pre W':=by
 obtain⟨h1,h2,v,h3,h4,h5⟩:=h
 have hne:∀b o u,U W b o=some u->some b≠row:=λ b o u hu e=>by
  obtain⟨-,ob,ho,hc⟩:=hr b e.symm
  obtain⟨ob',ho',hc'⟩:=cells_of_cell (aD hu)
  rw[ho] at ho'
  cases ho'
  rw[hc] at hc'
  cases hc'
 refine⟨h1.grown hg (λ r e=>(hr r e).1),h2,v,h3.mono (λ b o u _ hu=>Fr_on (λ b _ hb hbg ⟨o,v,hv⟩=>hg.block b hb (hne b o v hv)) b o u hu) hg.size,λ cs e o u hu=>?_,λ cs e hq hp=>?_⟩
 ·have:=h4 cs e o u hu
  exact (eW (hg.block g (aL this) (hne g o u this)) o).trans this
 ·obtain⟨S,k1,k2,k3⟩:=h5 cs e hq hp
  refine⟨S,k1.kept (λ b hb=>hg.block b (k1.mem b hb).2 λ e=>?_),k2,k3⟩
  obtain⟨-,ob,ho,hc⟩:=hr b e.symm
  obtain⟨cur,e',hcb⟩:=k1.cellsO b hb
  rw[hcb] at ho
  cases ho
  cases hc
theorem FoldJ.own{Q:OC}{F:Nat->Nat->Option Value}{B:Nat}{t:Ts}{kk:Int}{g:Nat}{t0:Tm}{wS:World}{n:Nat}:OwnFrom wS.heap.size (λ (pre:List (Fin n)) W=>FoldJ Q F B t kk g t0 wS (pre.map (·.val)) W):=λ _ _ _ _ h hg hr=>h.on hg hr
theorem FoldJ.below{Q:OC}{F:Nat->Nat->Option Value}{B:Nat}{t:Ts}{kk:Int}{g:Nat}{t0:Tm}{wS W W':World}{pre:List Nat}(h:FoldJ Q F B t kk g t0 wS pre W)(hb:Below W.heap.size W W'):FoldJ Q F B t kk g t0 wS pre W':=h.on (row:=none) ⟨hb.os,hb.tape,hb.output,hb.size,λ k hk _=>hb.block k hk⟩ (λ r e=>by cases e)
theorem FoldJ.step{Q:OC}{F:Nat->Nat->Option Value}{B:Nat}{t:Ts}{kk:Int}{g k:Nat}{t0:Tm}{wS W W':World}{pre:List Nat}(h:FoldJ Q F B t kk g t0 wS pre W){e0 e1 e2 e3 e4 a0 a1 a2 a3 a4:Value}(hE:RMx (Fr F B g W) W.heap.size (.agg #[e0,e1,e2,e3,e4]) (t.hd k) (t.kd k))
  (hA:∀o u,(#[a0,a1,a2,a3,a4]:Array Value)[o]? = some u->U W g o=some u)
  (hQ:Q.own->pre.Nodup->k ∉ pre->Q.base<=B/\B<=g/\Own W Q.base (tDs ty (.cons (t.hd k) (t.kd k) .nil)) [e0,e1,e2,e3,e4] (Q.Sk k)/\(Q.Sk k).Nodup/\(∀b∈Q.Sk k,b<B/\b ∉ Q.S2/\∀k'∈pre,b ∉ Q.Sk k'))
  (hW:(((((W.alloc (.cells #[e0,e1,e2,e3,e4,a0,a1,a2,a3,a4] 27)).setCell ⟨g,0,none⟩ (.int .i64 kk)).setCell ⟨g,1,none⟩ (.int .i64 0)).setCell ⟨g,2,none⟩ (.int .i64 0)).setCell ⟨g,3,none⟩ (.slice none 0 0)).setCell ⟨g,4,none⟩ (.slice (some ⟨W.heap.size,0,none⟩) 2 2)=W') :
  FoldJ Q F B t kk g t0 wS (pre++[k]) W'/\KeepsFrom wS.heap.size W W':=by
 obtain⟨h1,h2,v,h3,h4,h5⟩:=h
 obtain⟨Wb,hWb⟩:∃Wb,W.alloc (.cells #[e0,e1,e2,e3,e4,a0,a1,a2,a3,a4] 27)=Wb:=⟨_,rfl⟩
 rw[hWb] at hW
 have hb:Below W.heap.size W Wb:=by rw[<-hWb];exact aA _ _
 have hb':∀b,b<W.heap.size->Wb.heap[b]? = W.heap[b]?:=λ b hlt=>hb.block b hlt
 have hsb:Wb.heap.size=W.heap.size+1:=by rw[<-hWb];simp
 have hgW:g<W.heap.size:=by have:=h1.size;omega
 have ub:∀o u,(#[a0,a1,a2,a3,a4]:Array Value)[o]? = some u->U Wb g o=some u:=λ o u hu=>aE hb _ _ _ hgW (hA o u hu)
 obtain⟨x0,x1,x2,x3,x4,hk⟩:=rL (ub 0 _ rfl) (ub 1 _ rfl) (ub 2 _ rfl) (ub 3 _ rfl) (ub 4 _ rfl) hW
 have hs':W'.heap.size=W.heap.size+1:=by rw[<-hW];simpa using hsb
 have hbg:Below g W W':=by
  rw[<-hW]
  exact (((((hb.mono (Nat.le_of_lt hgW)).setCell (p:=⟨g,0,none⟩) (Nat.le_refl _) _).setCell (p:=⟨g,1,none⟩) (Nat.le_refl _) _).setCell (p:=⟨g,2,none⟩) (Nat.le_refl _) _).setCell (p:=⟨g,3,none⟩) (Nat.le_refl _) _).setCell (p:=⟨g,4,none⟩) (Nat.le_refl _) _
 have hn:∀j u,(#[e0,e1,e2,e3,e4,a0,a1,a2,a3,a4]:Array Value)[j]? = some u->Fr F B g W' W.heap.size j=some u:=λ j u hu=>by
  have h5:U Wb W.heap.size j=some u:=by rw[<-hWb];exact aM hu
  exact VO ((eW (hk _ (by omega)) j).trans h5) (by have:=h1.size;omega) (by omega) (by have:=h1.size;omega)
 have hF:∀b o u,b<W.heap.size->Fr F B g W b o=some u->Fr F B g W' b o=some u:=λ b o u _ hu=>Fr_on (λ b _ hb' hbg _=>(hk b hbg).trans (hb.block b hb')) b o u hu
 obtain⟨e3',e4',e1',hEV⟩:=(hE.mono hF (by omega:W.heap.size<=W'.heap.size)).cells
 obtain⟨a3',a4',a1',hAV⟩:=(h3.mono hF (by omega:W.heap.size<=W'.heap.size)).cells
 have hva:=h4 _ a1'
 have qa:∀o u u',(#[a0,a1,a2,a3,a4]:Array Value)[o]? = some u->(#[.int .i64 (acc kk t t0 pre).h.k,.int .i64 (acc kk t t0 pre).h.n,.int .i64 (acc kk t t0 pre).h.a,a3',a4']:Array Value)[o]? = some u'->u=u':=λ o u u' hu hu'=>by
  have z1:=hA o u hu
  rw[hva o u' hu'] at z1
  exact (Option.some.inj z1).symm
 have b0:a0=.int .i64 (acc kk t t0 pre).h.k:=qa 0 _ _ rfl rfl
 have b1:a1=.int .i64 (acc kk t t0 pre).h.n:=qa 1 _ _ rfl rfl
 have b2:a2=.int .i64 (acc kk t t0 pre).h.a:=qa 2 _ _ rfl rfl
 have b3:a3=a3':=qa 3 _ _ rfl rfl
 have b4:a4=a4':=qa 4 _ _ rfl rfl
 injection e1' with e1'
 have d0:=congrArg (λ a:Array Value=>a[0]?) e1'
 have d1:=congrArg (λ a:Array Value=>a[1]?) e1'
 have d2:=congrArg (λ a:Array Value=>a[2]?) e1'
 have d3:=congrArg (λ a:Array Value=>a[3]?) e1'
 have d4:=congrArg (λ a:Array Value=>a[4]?) e1'
 simp at d0 d1 d2 d3 d4
 subst d0 d1 d2 d3 d4 b0 b1 b2 b3 b4
 have hAt:At (Fr F B g W') W'.heap.size (tDs ty (.cons (t.hd k) (t.kd k) (acc kk t t0 pre).ts)) W.heap.size 0:=by
  refine (At.app (x:=tDs ty (.cons (t.hd k) (t.kd k) .nil)) (y:=tDs ty (acc kk t t0 pre).ts)).2 ⟨hEV.at_ (λ j u hu=>?_),hAV.at_ (λ j u hu=>?_)⟩
  ·rw[Nat.zero_add]
   refine hn j u ?_
   have hj:j<5:=by have:=(List.getElem?_eq_some_iff.1 hu).1;simpa using this
   have hall:j=0∨j=1∨j=2∨j=3∨j=4:=by omega
   rcases hall with rfl|rfl|rfl|rfl|rfl<;>exact hu
  ·rw[show (0:Nat)+(tDs ty (.cons (t.hd k) (t.kd k) .nil)).len+j=5+j by rw[aF];simp[Ts.len]]
   refine hn (5+j) u ?_
   have hj:j<5:=by have:=(List.getElem?_eq_some_iff.1 hu).1;simpa using this
   have hall:j=0∨j=1∨j=2∨j=3∨j=4:=by omega
   rcases hall with rfl|rfl|rfl|rfl|rfl<;>exact hu
 refine⟨⟨h1.trans ⟨?_,?_,?_,by omega,λ b hb' hbg=>(hk b hbg).trans (hb.block b hb')⟩,h2,.agg #[.int .i64 kk,.int .i64 0,.int .i64 0,.slice none 0 0,.slice (some ⟨W.heap.size,0,none⟩) 2 2],?_,λ cs e o u hu=>?_,λ cs e hq hp=>?_⟩,⟨by omega,λ b o hB ho _=>?_⟩⟩
 ·exact hbg.os
 ·exact hbg.tape
 ·exact hbg.output
 ·rw[rW]
  exact⟨none,0,0,some ⟨W.heap.size,0,none⟩,2,2,rfl,Rd.none_ _ _ _,_,_,_,rfl,by rw[aF];rfl,Nat.le_refl _,by decide,by rw[aF];simp[Ts.len,Ds.len,Tm.ts],.inr (.inr ⟨_,_,rfl,by omega,hAt,trivial⟩)⟩
 ·injection e with e
  subst e
  have ho:o<5:=by have:=(Array.getElem?_eq_some_iff.1 hu).1;simpa using this
  have hall:o=0∨o=1∨o=2∨o=3∨o=4:=by omega
  rcases hall with rfl|rfl|rfl|rfl|rfl
  ·cases hu;exact x0
  ·cases hu;exact x1
  ·cases hu;exact x2
  ·cases hu;exact x3
  ·cases hu;exact x4
 ·cases e
  have hp0:pre.Nodup:=(List.nodup_append.1 hp).1
  have hkn:k ∉ pre:=λ hm=>(List.nodup_append.1 hp).2.2 k hm k (by simp) rfl
  obtain⟨q0,q1,q2,q3,q4⟩:=hQ hq hp0 hkn
  obtain⟨S,k1,k2,k3⟩:=h5 _ a1' hq hp0
  have hsz:=h1.size
  have hkeep:∀b,b<W.heap.size->b≠g->W'.heap[b]? = W.heap[b]?:=λ b hb hbg=>(hk b hbg).trans (hb' b hb)
  have k1':=k1.kept (w':=W') λ b hb=>hkeep b (k1.mem b hb).2 (k3 b hb).1
  have q2':=q2.kept (w':=W') λ b hb=>hkeep b (q2.mem b hb).2 (by have:=(q4 b hb).1;omega)
  refine⟨[W.heap.size]++(Q.Sk k++S),?_,?_,λ b hb=>?_⟩
  ·rw[rW]
   refine⟨_,rfl,_,rfl,_,rfl,_,_,[],[],[],[],[],_,rfl,.inl ⟨none,rfl,rfl,rfl,rfl⟩,⟨rfl,rfl⟩,⟨rfl,rfl⟩,⟨_,_,[.int .i64 (t.hd k).k,.int .i64 (t.hd k).n,.int .i64 (t.hd k).a,e3,e4]++[.int .i64 (acc kk t t0 pre).h.k,.int .i64 (acc kk t t0 pre).h.n,.int .i64 (acc kk t t0 pre).h.a,a3,a4],[],[W.heap.size],Q.Sk k++S,[],[],rfl,.inr ⟨W.heap.size,2,2,#[.int .i64 (t.hd k).k,.int .i64 (t.hd k).n,.int .i64 (t.hd k).a,e3,e4,.int .i64 (acc kk t t0 pre).h.k,.int .i64 (acc kk t t0 pre).h.n,.int .i64 (acc kk t t0 pre).h.a,a3,a4],rfl,rfl,by omega,?_,by decide,by decide,rfl,by rw[aF];rfl,by rw[aF];exact Nat.le_refl 10,Nat.le_refl 10,rfl⟩,?_,⟨rfl,rfl⟩,⟨rfl,rfl⟩,rfl⟩,by simp⟩
   ·rw[hk _ (by omega),<-hWb];exact heap_alloc_new _ _
   ·exact Own.app k1' q2'
  ·refine List.nodup_append.2 ⟨by simp,List.nodup_append.2 ⟨q3,k2,λ a ha b hb e=>?_⟩,λ a ha b hb e=>?_⟩
   ·subst e
    obtain⟨-,-,h6⟩:=k3 a hb
    obtain⟨h7,h8,h9⟩:=q4 a ha
    rcases h6 with h6|h6|⟨k',h6,h6'⟩
    ·omega
    ·exact h8 h6
    ·exact h9 k' h6 h6'
   ·obtain rfl:a=W.heap.size:=by simpa using ha
    subst e
    rcases List.mem_append.1 hb with hb|hb
    ·have:=(q2.mem _ hb).2;omega
    ·have:=(k1.mem _ hb).2;omega
  ·rcases List.mem_append.1 hb with hb|hb
   ·obtain rfl:b=W.heap.size:=by simpa using hb
    exact⟨by omega,by omega,.inl (by omega)⟩
   ·rcases List.mem_append.1 hb with hb|hb
    ·have h7:=(q4 b hb).1
     exact⟨by omega,by omega,.inr (.inr ⟨k,by simp,hb⟩)⟩
    ·obtain⟨h6,h7,h8⟩:=k3 b hb
     refine⟨h6,h7,?_⟩
     rcases h8 with h8|h8|⟨k',h8,h9⟩
     ·exact .inl h8
     ·exact .inr (.inl h8)
     ·exact .inr (.inr ⟨k',by simp[h8],h9⟩)
 ·exact ((hk b (by omega)).trans (hb.block b (Array.getElem?_eq_some_iff.1 ho).1)).trans ho
end
end Go.Proofs.YtlfnfiihfjggoaaGreatDoor
