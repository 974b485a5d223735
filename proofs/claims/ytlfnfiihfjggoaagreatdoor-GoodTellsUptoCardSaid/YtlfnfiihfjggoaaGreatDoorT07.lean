/-
  A row laid above a term, and what follows. Conditions: as each lemma states them.
-/
import Derived.Test.YtlfnfiihfjggoaaGreatDoorT06
import Derived.Test.YtlfnfiihfjggoaaGreatDoorT02
import Derived.Lib.AppendZeros
import Derived.Test.YtlfnfiihfjggoaaGreatDoorT04
import Derived.Maps.Own
import Derived.Maps.OwnOps
import Derived.Maps.Views
import Derived.WalkKit
import Derived.Test.YtlfnfiihfjggoaaGreatDoorT03
set_option linter.all false
set_option linter.unusedVariables false
set_option linter.unusedSimpArgs false
set_option linter.unnecessarySimpa false
set_option maxHeartbeats 8000000
set_option maxRecDepth 100000
namespace Go.Proofs.YtlfnfiihfjggoaaGreatDoor
open Go.RowKit Go.Proofs.Tryz
section
open Go.RowKit Go.Shelf
attribute [local go_sem] Oper.semAt_some
def aG(k:Int):Ts->Tm->Tm
 | .nil,b=>b
 | .cons h x r,b=>⟨kH k,.cons h x (aG k r b).ts⟩
theorem W9(kk:Int)(bt:Tm)(t:Ts):∀j,j<=t.len->acc kk t bt (dn t.len j)=aG kk (t.drop (t.len-j)) bt:=by
 intro j
 induction j with
 | zero=>intro _;rw[Nat.sub_zero,Ts.drop_len];rfl
 | succ j ih =>
  intro hj
  rw[BH,rW,ih (by omega),Ts.drop_step (by omega:t.len-(j+1)<t.len),show t.len-(j+1)+1=t.len-j by omega,show t.len-1-j=t.len-(j+1) by omega]
  rfl
theorem elems_F{F:Nat->Nat->Option Value}{hi:Nat}{q:Option Addr}{n c:Nat}{t:Ts}(h:Rd F hi (.slice q n c) 5 (tDs ty t) .nil)(hn:n=t.len):∃vs:Nat->Nat->Value,(∀k,k<t.len->∃b o,q=some ⟨b,o,none⟩/\b<hi/\∀i,i<5->F b (o+k*5+i)=some (vs k i))/\∀k,k<t.len->RMx F hi (el vs k) (t.hd k) (t.kd k):=by
 by_cases h0:t.len=0
 ·exact⟨fun _ _=>undef,λ k hk=>by omega,λ k hk=>by omega⟩
 ·obtain⟨b,o,rfl,hb,ha,-⟩:=Rd.lies h (by omega)
  refine⟨fun k i=>(F b (o+k*5+i)).getD undef,λ k hk=>⟨b,o,rfl,hb,λ i hi=>?_⟩,λ k hk=>?_⟩
  ·obtain⟨h1,h2,h3,⟨u,h4,-⟩,⟨u',h5,-⟩⟩:=t_at ha hk
   have hall:i=0∨i=1∨i=2∨i=3∨i=4:=by omega
   show F b (o+k*5+i)=some ((F b (o+k*5+i)).getD undef)
   rcases hall with rfl|rfl|rfl|rfl|rfl
   ·rw[Nat.add_zero,h1];rfl
   ·rw[h2];rfl
   ·rw[h3];rfl
   ·rw[h4];rfl
   ·rw[h5];rfl
  ·obtain⟨h1,h2,h3,⟨u,h4,h6⟩,⟨u',h5,h7⟩⟩:=t_at ha hk
   obtain⟨q1,n1,c1,e1,-⟩:=id h6
   obtain⟨q2,n2,c2,e2,-⟩:=id h7
   refine⟨q1,n1,c1,q2,n2,c2,?_,e1 ▸ h6,e2 ▸ h7⟩
   unfold el
   simp only[Nat.add_zero,h1,h2,h3,h4,h5,Option.getD_some,e1,e2]
theorem BkD.onx{B n c g:Nat}{p:Option Addr}{vs:Nat->Nat->Value}{w W:World}(h:BkD B p n c vs w)(hb:BelowX g w W)(hB:B≠g)(hp:0<n->∀b o,p=some ⟨b,o,none⟩->b≠g):BkD B p n c vs W:=by
 refine⟨(eE (hb.block B (World.block_lt_of_cell? _ _ h.1) hB) 0).trans h.1,λ k hk=>?_⟩
 obtain⟨b,o,e,hc⟩:=h.2 k hk
 exact⟨b,o,e,λ i hi=>(eE (hb.block b (World.block_lt_of_cell? _ _ (hc i hi)) (hp (by omega) b o e)) _).trans (hc i hi)⟩
theorem UC:∀n,(dn n n).Nodup:=by
 intro n
 unfold dn
 refine List.pairwise_map.2 (List.nodup_range.imp_of_mem λ {a b} ha hb hne e=>hne ?_)
 have:=List.mem_range.1 ha
 have:=List.mem_range.1 hb
 omega
def VJ(own:Prop)(base:Nat)(S1 S2:List Nat)(va:Value)(t:Ts)(bs:List Value)(bt:Tm)(w:World):Prop :=
 own->base<=w.heap.size/\Own w base (.row 5 27 (tDs ty t) .nil .nil) [va] S1/\Own w base (tDs ty bt.ts) bs S2/\(S1++S2).Nodup
theorem NX{own:Prop}{base:Nat}{S1 S2:List Nat}{q:Option Addr}{c:Nat}{t:Ts}{bs:List Value}{bt:Tm}{w:World}{F:Nat->Nat->Option Value}(hFU:∀b o v,F b o=some v->U w b o=some v)(h:VJ own base S1 S2 (.slice q t.len c) t bs bt w){vs:Nat->Nat->Value}(hvs:∀k,k<t.len->∃b o,q=some ⟨b,o,none⟩/\b<w.heap.size/\∀i,i<5->F b (o+k*5+i)=some (vs k i)) :
  ∃Q:OC,Q.own=own/\Q.base=base/\Q.S2=S2/\(own->base<=w.heap.size/\(Own w base (tDs ty bt.ts) bs S2/\S2.Nodup)/\(∀b∈S2,b<w.heap.size)/\∀k,k<t.len->Own w base (tDs ty (.cons (t.hd k) (t.kd k) .nil)) [vs k 0,vs k 1,vs k 2,vs k 3,vs k 4] (Q.Sk k)/\(Q.Sk k).Nodup/\(∀b∈Q.Sk k,b<w.heap.size/\b ∉ S2/\∀k',k'<t.len->k≠k'->b ∉ Q.Sk k')):=by
 by_cases ho:own
 ·obtain⟨h0,h1,h2,h3⟩:=h ho
  obtain⟨_,_,zs,us,B,T1,T2,T3,e,h4,h5,h6,h7,h8⟩:=h1
  cases e
  obtain⟨rfl,rfl⟩:=h6
  obtain⟨-,rfl⟩:=h7
  rw[List.append_nil,List.append_nil] at h8
  rw[List.append_nil] at h4
  subst h8
  obtain⟨n1,n2,n3⟩:=List.nodup_append.1 h3
  obtain⟨nB,nT,nd⟩:=List.nodup_append.1 n1
  obtain⟨Sk,hk⟩:=T9 t h5 nT
  refine⟨⟨own,base,Sk,S2⟩,rfl,rfl,rfl,λ _=>⟨h0,⟨h2,n2⟩,λ b hb=>(h2.mem b hb).2,λ k hlt=>?_⟩⟩
  obtain⟨k1,k2,k3,k4⟩:=hk k hlt
  refine⟨?_,k2,λ b hb=>⟨(k1.mem b hb).2,λ hb2=>n3 b (List.mem_append_right _ (k3 b hb)) b hb2 rfl,λ k' hk' hne=>k4 k' hk' hne b hb⟩⟩
  obtain⟨b,o,rfl,hb,hc⟩:=hvs k hlt
  have hl:=h5.len
  rw[aF] at hl
  rcases h4 with ⟨p,e,-⟩|⟨g,n,cap,cur,rfl,e,-,hg,hn,hcap,hcs,hm,hm2,hm3,htk⟩
  ·injection e with e1 e2 e3
   omega
  ·injection e with e1 e2 e3
   cases e1
   have key:∀i,i<5->zs[k*5+i]? = some (vs k i):=λ i hi=>by
    have hlt2:k*5+i<zs.length:=by omega
    have h9:=iK hg htk (k*5+i) _ (List.getElem?_eq_getElem hlt2)
    have h10:=hFU _ _ _ (hc i hi)
    rw[show 0+(k*5+i)=0+k*5+i by omega,h10] at h9
    rw[List.getElem?_eq_getElem hlt2]
    exact h9.symm
   have:(zs.drop (k*5)).take 5=[vs k 0,vs k 1,vs k 2,vs k 3,vs k 4]:=by
    apply List.ext_getElem?
    intro i
    by_cases hi:i<5
    ·rw[List.getElem?_take,if_pos hi,List.getElem?_drop,key i hi]
     have hall:i=0∨i=1∨i=2∨i=3∨i=4:=by omega
     rcases hall with rfl|rfl|rfl|rfl|rfl<;>rfl
    ·rw[List.getElem?_take,if_neg hi]
     simp
     omega
   rw[this] at k1
   exact k1
 ·exact⟨⟨own,base,λ _=>[],S2⟩,rfl,rfl,rfl,λ h=>absurd h ho⟩
theorem X0(own:Prop)(base:Nat)(S1 S2:List Nat)(kk:Int)(va:Value)(t:Ts)(b0 b1 b2 b3 b4:Value)(bt:Tm)(w:World)(F:Nat->Nat->Option Value)(hFU:∀b o v,F b o=some v->U w b o=some v)(ha:Rd F w.heap.size va 5 (tDs ty t) .nil)(hbt:RMx F w.heap.size (.agg #[b0,b1,b2,b3,b4]) bt.h bt.x)(hO:VJ own base S1 S2 va t [b0,b1,b2,b3,b4] bt w):Calls prog 154 #[.agg #[va],.int .i64 kk,.agg #[b0,b1,b2,b3,b4]] w λ e w'=>∃v,e=.returned v/\Below w.heap.size w w'/\RMx (λ b o=>if b<w.heap.size then F b o else U w' b o) w'.heap.size v (aG kk t bt).h (aG kk t bt).x/\(own->∃xs S,v=.agg xs.toArray/\Own w' base (tDs ty (aG kk t bt).ts) xs S/\S.Nodup):=by
 refine (callsIn_wide (n:=3)).1 ?_
 refine callsIn_of_wp_marks func154 rfl trivial ?_ rfl
 simp only[ntmps154,List.size_toArray,List.length_cons,List.length_nil,Nat.reduceAdd,Nat.reduceSub,Array.replicate_succ,Array.replicate_zero,List.push_toArray,List.append_toArray,List.nil_append,List.cons_append]
 obtain⟨q,n,c,rfl,hq1,hc1,hc2,hc3,-⟩:=id ha
 have hn:n=t.len:=by rw[aF] at hq1;omega
 subst hn
 clear hc3 hq1
 unfold maxLen at hc2
 obtain⟨w2,hw2⟩:∃w2,(((w.alloc (.cells #[.slice q t.len c] 172)).alloc (.cells #[.int .i64 kk] 23)).alloc (.cells #[b0,b1,b2,b3,b4] 27)).alloc (.cells cE 27)=w2:=⟨_,rfl⟩
 have hb2:Below w.heap.size w w2:=by rw[<-hw2];exact aB (aB (aB (aA _ _) (aA _ _)) (aA _ _)) (aA _ _)
 have hs2:w2.heap.size=w.heap.size+4:=by rw[<-hw2];simp
 have p0:U w2 w.heap.size 0=some (.slice q t.len c):=by
  rw[<-hw2];exact aE (aB (aB (aA _ _) (aA _ _)) (aA _ _)) _ _ _ (by simp) (aM rfl)
 have e0:=aD p0
 unfold cE at hw2
 have HA:=hid ha
 have HO:=hid hO
 have HBT:=hid hbt
 have HFU:=hid hFU
 have HS2:=hid hs2
 have HB2:=hid hb2
 clear ha hbt hs2 hb2 p0 hFU hO
 gi_wp2_with fail
 refine⟨trivial,(callsIn_wide.2 (W8 _ _ _ _)).mono ?_⟩
 rintro e w' ⟨rfl,rfl⟩
 obtain⟨wS,hwS⟩:∃wS,w2.alloc (.cells #[.slice q t.len c] 25)=wS:=⟨_,rfl⟩
 rw[hwS]
 have hs2:=HS2.out
 have hbS:Below w2.heap.size w2 wS:=by rw[<-hwS];exact aA _ _
 have hbS0:Below w.heap.size w wS:=aB HB2.out hbS
 have hsS:wS.heap.size=w.heap.size+5:=by rw[<-hwS];simp;omega
 obtain⟨g,hg⟩:∃g,w.heap.size+1+1=g:=⟨_,rfl⟩
 have hkS:U wS (w.heap.size+1) 0=some (.int .i64 kk):=by
  refine aE hbS _ _ _ (by omega) ?_
  rw[<-hw2]
  exact aE (aB (aA _ _) (aA _ _)) _ _ _ (by simp) (by have:=aM (w:=w.alloc (.cells #[.slice q t.len c] 172)) (cs:=#[.int .i64 kk]) (ty:=23) (o:=0) rfl;simpa using this)
 have hgS:∀o u,(#[b0,b1,b2,b3,b4]:Array Value)[o]? = some u->U wS g o=some u:=λ o u hu=>by
  refine aE hbS _ _ _ (by omega) ?_
  rw[<-hw2,<-hg]
  refine aE (aA _ _) _ _ _ (by simp) ?_
  have:=aM (w:=(w.alloc (.cells #[.slice q t.len c] 172)).alloc (.cells #[.int .i64 kk] 23)) (ty:=27) hu
  simpa using this
 have hzS:∀o v,cE[o]? = some v->U wS (w.heap.size+1+1+1) o=some v:=λ o v hv=>by
  refine aE hbS _ _ _ (by omega) ?_
  have:=aM (w:=((w.alloc (.cells #[.slice q t.len c] 172)).alloc (.cells #[.int .i64 kk] 23)).alloc (.cells #[b0,b1,b2,b3,b4] 27)) (ty:=27) hv
  unfold cE at this
  rw[hw2] at this
  simpa using this
 have hboxS:wS.cell? ⟨w2.heap.size,0,none⟩=some (.slice q t.len c):=by
  have:=aM (w:=w2) (cs:=#[.slice q t.len c]) (ty:=25) (o:=0) rfl
  rw[hwS] at this
  exact aD this
 obtain⟨vs,hvs,hel⟩:=elems_F HA.out rfl
 obtain⟨Q,hQ1,hQ2,hQ3,hQO⟩:=NX HFU.out HO.out hvs
 have hqg:0<t.len->∀b o,q=some ⟨b,o,none⟩->b≠g:=λ h0 b o e=>by
  obtain⟨b',o',e',hb',-⟩:=hvs 0 h0
  rw[e] at e'
  cases e'
  omega
 have hBk:BkD w2.heap.size q t.len c vs wS:=⟨hboxS,λ k hk=>by
  obtain⟨b,o,e,hb,hc⟩:=hvs k hk
  exact⟨b,o,e,λ i hi=>(hbS0.cell (p:=⟨b,o+k*5+i,none⟩) hb).trans (aD (HFU.out _ _ _ (hc i hi)))⟩⟩
 have hF0:∀(W:World),BelowX g wS W->∀b o v,b<w.heap.size->F b o=some v->Fr F w.heap.size g W b o=some v:=λ W hW b o v hb hu=>VN hu hb (by omega) (by omega)
 have hI0:FoldJ Q F w.heap.size t kk g bt wS [] wS:=by
  obtain⟨y1,z1,x1,y2,z2,x2,e,h1,h2⟩:=HBT.out
  exact⟨BelowX.refl _ _,⟨by omega,by omega⟩,.agg #[b0,b1,b2,b3,b4],⟨y1,z1,x1,y2,z2,x2,e,h1.mono (hF0 wS (BelowX.refl _ _)) hbS0.size,h2.mono (hF0 wS (BelowX.refl _ _)) hbS0.size⟩,λ cs e o u hu=>by cases e;exact hgS o u hu,λ cs e hq _=>by
   cases e
   obtain⟨o0,⟨o1,o2⟩,o3,-⟩:=hQO (hQ1 ▸ hq)
   refine⟨S2,?_,o2,λ b hb=>?_⟩
   ·rw[hQ2]
    exact o1.kept λ b hb=>hbS0.block b (o3 b hb)
   ·have:=o3 b hb
    exact⟨by omega,by omega,.inr (.inl (hQ3 ▸ hb))⟩⟩
 have HI0:=hid hI0
 have HBK:=hid hBk
 have HF0:=hid hF0
 have HKS:=hid hkS
 have HZS:=hid hzS
 have HBS:=hid hbS0
 have HSS:=hid hsS
 have HGW:=hid hg
 have HQG:=hid hqg
 have HEL:=hid hel
 have HQ:=hid hQO
 clear hbS hbS0 hsS hgS hkS hzS hboxS hBk hF0 hI0 hs2 hqg hel hvs hwS hw2 e0 hQO
 rw[hg]
 gi_wp2_with fail
 refine wpIn_rangeFunc_ownH rfl (by decide) (gf:=257) (lb:=#[.pointer (some ⟨w2.heap.size,0,none⟩)]) rfl trivial (enters_of func257 (by kernel_rfl) rfl)
  (M2 w2.heap.size t.len c q vs hc1 (by unfold maxLen;omega) 2 wS (λ W hW=>HBK.out.onx (BelowX.of_below (g:=g) hW) (by have:=HS2.out;have:=HGW.out;omega) HQG.out))
  (λ h k x=>k (h x)) (λ W l o o' _ hl ho _ h=>h.putObj o' hl ho) (Below.refl _ _) (λ _=>rfl)
  (λ pre W=>FoldJ Q F w.heap.size t kk g bt wS (pre.map (·.val)) W) (λ _ _ _=>False) FoldJ.own (λ _ _ _ _ _ hs _ _=>hs) HI0.out
  (λ x a' W=>∃b9,a' = { tmps:=#[.agg #[.slice q t.len c],.int .i64 kk,.agg #[b0,b1,b2,b3,b4],.pointer (some ⟨w.heap.size,0,none⟩),.pointer (some ⟨w.heap.size+1,0,none⟩),.pointer (some ⟨g,0,none⟩),.pointer (some ⟨g+1,0,none⟩),undef,.pointer (some ⟨b9,0,none⟩),.pointer (some ⟨w.heap.size,0,none⟩),.slice q t.len c,.func (.func 257) #[] #[.pointer (some ⟨w2.heap.size,0,none⟩)],.int .i64 (x.val:Int),el vs x.val,undef,undef,undef,undef,undef,undef],defers:=[] }/\∀cs,el vs x.val=.agg cs->∀i u,cs[i]? = some u->U W b9 i=some u)
  (λ x a' _ _ _ _ h hg hr=>by obtain⟨b9,e,h⟩:=h;exact⟨b9,e,λ cs e2 i u hu=>VH (h cs e2 i u hu) hg (λ r e3=>(hr r e3).2)⟩) ?assign ?body ?done ?stop
 case assign =>
  intro l pre x W K hI hK
  obtain⟨y1,z1,x1,y2,z2,x2,hE,-,-⟩:=HEL.out x.val x.isLt
  rw[hE]
  have hsz:wS.heap.size<=W.heap.size:=hI.1.size
  have hb9:=aA W (.cells #[.int .i64 (t.hd x.val).k,.int .i64 (t.hd x.val).n,.int .i64 (t.hd x.val).a,.slice y1 z1 x1,.slice y2 z2 x2] 27)
  have hK2:=hK { tmps:=#[.agg #[.slice q t.len c],.int .i64 kk,.agg #[b0,b1,b2,b3,b4],.pointer (some ⟨w.heap.size,0,none⟩),.pointer (some ⟨w.heap.size+1,0,none⟩),.pointer (some ⟨g,0,none⟩),.pointer (some ⟨g+1,0,none⟩),undef,.pointer (some ⟨W.heap.size,0,none⟩),.pointer (some ⟨w.heap.size,0,none⟩),.slice q t.len c,.func (.func 257) #[] #[.pointer (some ⟨w2.heap.size,0,none⟩)],.int .i64 (x.val:Int),.agg #[.int .i64 (t.hd x.val).k,.int .i64 (t.hd x.val).n,.int .i64 (t.hd x.val).a,.slice y1 z1 x1,.slice y2 z2 x2],undef,undef,undef,undef,undef,undef],defers:=[] } _
   (KeepsOthers.from (KeepsOthers.alloc _ _) _) (λ h=>h.onx (BelowX.of_below (g:=g) hb9) (by have:=HS2.out;have:=HGW.out;omega) HQG.out) (hI.below hb9)
   ⟨W.heap.size,by rw[hE],λ cs e2 i u hu=>by rw[hE] at e2;cases e2;exact aM hu⟩
  clear hK hI hE
  gi_wp2_with fail
  exact hK2
 case body =>
  rintro l pre x a' W hl hr hI ⟨b9,rfl,hc9⟩ hlen
  obtain⟨y1,z1,x1,y2,z2,x2,hE,hE1,hE2⟩:=HEL.out x.val x.isLt
  have hu9:=hc9 _ hE
  have hI':=hI
  obtain⟨hX,hgl,v,⟨u1,v1,w1,u2,v2,w2',rfl,hR1,hR2⟩,hcs,-⟩:=hI'
  have hcg:=hcs _ rfl
  have k0:=aD (hX.U HKS.out (by have:=HGW.out;omega))
  have f0:=aD (hu9 0 _ rfl)
  have f1:=aD (hu9 1 _ rfl)
  have f2:=aD (hu9 2 _ rfl)
  have f3:=aD (hu9 3 _ rfl)
  have f4:=aD (hu9 4 _ rfl)
  have c0:=aD (hcg 0 _ rfl)
  have c1:=aD (hcg 1 _ rfl)
  have c2:=aD (hcg 2 _ rfl)
  have c3:=aD (hcg 3 _ rfl)
  have c4:=aD (hcg 4 _ rfl)
  have hgW:g<W.heap.size:=aL (hcg 0 _ rfl)
  obtain⟨Wb,hWb⟩:∃Wb,W.alloc (.cells #[.int .i64 (t.hd x.val).k,.int .i64 (t.hd x.val).n,.int .i64 (t.hd x.val).a,.slice y1 z1 x1,.slice y2 z2 x2,.int .i64 (acc kk t bt (pre.map (·.val))).h.k,.int .i64 (acc kk t bt (pre.map (·.val))).h.n,.int .i64 (acc kk t bt (pre.map (·.val))).h.a,.slice u1 v1 w1,.slice u2 v2 w2'] 27)=Wb:=⟨_,rfl⟩
  obtain⟨W',hW'⟩:∃W',((((Wb.setCell ⟨g,0,none⟩ (.int .i64 kk)).setCell ⟨g,1,none⟩ (.int .i64 0)).setCell ⟨g,2,none⟩ (.int .i64 0)).setCell ⟨g,3,none⟩ (.slice none 0 0)).setCell ⟨g,4,none⟩ (.slice (some ⟨W.heap.size,0,none⟩) 2 2)=W':=⟨_,rfl⟩
  have hst:=hI.step (W':=W') (k:=x.val) (e0:=.int .i64 (t.hd x.val).k) (e1:=.int .i64 (t.hd x.val).n) (e2:=.int .i64 (t.hd x.val).a) (e3:=.slice y1 z1 x1) (e4:=.slice y2 z2 x2) ⟨_,_,_,_,_,_,rfl,Rd.mono hE1 (HF0.out W hX) (by have:=HBS.out.size;have:=hX.size;omega),Rd.mono hE2 (HF0.out W hX) (by have:=HBS.out.size;have:=hX.size;omega)⟩ hcg (λ hq hp hx=>by
   obtain⟨o0,-,o3,o4⟩:=HQ.out (hQ1 ▸ hq)
   obtain⟨o5,o6,o7⟩:=o4 x.val x.isLt
   unfold el at hE
   injection hE with hE
   have z:=congrArg Array.toList hE
   simp only at z
   rw[z] at o5
   have hgw:=HGW.out
   rw[hQ2,hQ3]
   refine⟨o0,by omega,o5.kept λ b hb=>?_,o6,λ b hb=>⟨(o7 b hb).1,(o7 b hb).2.1,λ k' hk'=>?_⟩⟩
   ·have:=(o7 b hb).1
    have hss:=HSS.out
    exact (hX.block b (by omega) (by omega)).trans (HBS.out.block b this)
   ·obtain⟨y,hy,rfl⟩:=List.mem_map.1 hk'
    exact (o7 b hb).2.2 y.val y.isLt λ e=>hx (e ▸ hk')) (by rw[hWb];exact hW')
  have HST:=hid hst
  have ub:∀o u,(#[.int .i64 (acc kk t bt (pre.map (·.val))).h.k,.int .i64 (acc kk t bt (pre.map (·.val))).h.n,.int .i64 (acc kk t bt (pre.map (·.val))).h.a,.slice u1 v1 w1,.slice u2 v2 w2']:Array Value)[o]? = some u->U Wb g o=some u:=λ o u hu=>by rw[<-hWb];exact aE (aA _ _) _ _ _ hgW (hcg o u hu)
  have d0:=aD (ub 0 _ rfl)
  have d1:=aD (ub 1 _ rfl)
  have d2:=aD (ub 2 _ rfl)
  have d3:=aD (ub 3 _ rfl)
  have d4:=aD (ub 4 _ rfl)
  have j0:=aI (ub 0 _ rfl)
  have j1:=aI (ub 1 _ rfl)
  have j2:=aI (ub 2 _ rfl)
  have j3:=aI (ub 3 _ rfl)
  have j4:=aI (ub 4 _ rfl)
  clear ub
  have HKP:Hid (BkD w2.heap.size q t.len c vs W->BkD w2.heap.size q t.len c vs W'):=hid (λ _=>HBK.out.onx (g:=g) hst.1.1 (by have:=HS2.out;have:=HGW.out;omega) HQG.out)
  have HW:=hid hW'
  clear hI hE hE1 hE2 hu9 hcg hcs hX hR1 hR2 hst hW' hc9 hr hlen hl
  gi_wp2_with fail
  rw[HW.out]
  refine⟨HST.out.2,HKP.out,?_⟩
  have:=HST.out.1
  rw[show pre.map (·.val)++[x.val]=(pre++[x]).map (·.val) by simp] at this
  exact this
 case done =>
  intro D xs W hD hS hI hK
  rw[hS] at hI
  unfold FoldJ at hI
  rw[W9 kk bt t t.len (Nat.le_refl _),Nat.sub_self] at hI
  obtain⟨T,hT⟩:∃T,aG kk t bt=T:=⟨_,rfl⟩
  rw[show t.drop 0=t from rfl,hT] at hI
  obtain⟨hX,hgl,v,⟨u1,v1,w1,u2,v2,w2',rfl,hR1,hR2⟩,hcs,hown⟩:=hI
  have hOW:=hown _ rfl
  have hcg:=hcs _ rfl
  have c0:=aD (hcg 0 _ rfl)
  have c1:=aD (hcg 1 _ rfl)
  have c2:=aD (hcg 2 _ rfl)
  have c3:=aD (hcg 3 _ rfl)
  have c4:=aD (hcg 4 _ rfl)
  unfold OwnP at hOW
  rw[W9 kk bt t t.len (Nat.le_refl _),Nat.sub_self,show t.drop 0=t from rfl,hT] at hOW
  have HOW:=hid hOW
  have hBW:Below w.heap.size w W:=HBS.out.trans (hX.below (by have:=HGW.out;omega) (by have:=HSS.out;have:=HGW.out;omega))
  have Z:Hid (∀o v,cE[o]? = some v->U W (g+1) o=some v):=λ o v hv=>hX.U (by rw[<-HGW.out];exact HZS.out o v hv) (by omega)
  have m0:=aD (Z.out 0 _ rfl)
  have m1:=aD (Z.out 1 _ rfl)
  have m2:=aD (Z.out 2 _ rfl)
  have m3:=aD (Z.out 3 _ rfl)
  have m4:=aD (Z.out 4 _ rfl)
  have o0:=aI (Z.out 0 _ rfl)
  have o1:=aI (Z.out 1 _ rfl)
  have o2:=aI (Z.out 2 _ rfl)
  have o3:=aI (Z.out 3 _ rfl)
  have o4:=aI (Z.out 4 _ rfl)
  have HK:=hid hK
  have HBW:=hid hBW
  have HR1:=hid hR1
  have HR2:=hid hR2
  have HDW:Hid (w.heap.size+5<=D/\D<W.heap.size):=hid ⟨by have:=HSS.out;omega,(Array.getElem?_eq_some_iff.1 hK).1⟩
  have HT:=hid hT
  have HX:=hid hX
  clear hX hgl hR1 hR2 hcs hcg hBW hK hD hS hT hown hOW
  gi_wp2_with fail
  obtain⟨W2,hW2⟩:∃W2,((((W.setCell ⟨g+1,0,none⟩ (.int .i64 T.h.k)).setCell ⟨g+1,1,none⟩ (.int .i64 T.h.n)).setCell ⟨g+1,2,none⟩ (.int .i64 T.h.a)).setCell ⟨g+1,3,none⟩ (.slice u1 v1 w1)).setCell ⟨g+1,4,none⟩ (.slice u2 v2 w2')=W2:=⟨_,rfl⟩
  have hgw:=HGW.out
  have hDW:=HDW.out
  obtain⟨⟨x0,x1,x2,x3,x4⟩,hBF,hkW⟩:=C8 (b:=g+1) Z.out HBW.out (by omega) hW2
  rw[hW2]
  refine⟨by simp,.inl ⟨_,_,rfl,run_takeDeferred ((hkW D (by omega)).trans HK.out),?_⟩⟩
  have hkP:∀(o:Obj) (k:Nat),k≠D->(W2.putObj D o).heap[k]? = W2.heap[k]?:=λ o k hk=>World.putObj_heap_other hk
  have y0:∀o,(W2.putObj D o).cell? ⟨g+1,0,none⟩=some (.int .i64 T.h.k):=λ o=>(eE (hkP o _ (by omega)) 0).trans x0
  have y1:∀o,(W2.putObj D o).cell? ⟨g+1,1,none⟩=some (.int .i64 T.h.n):=λ o=>(eE (hkP o _ (by omega)) 1).trans x1
  have y2:∀o,(W2.putObj D o).cell? ⟨g+1,2,none⟩=some (.int .i64 T.h.a):=λ o=>(eE (hkP o _ (by omega)) 2).trans x2
  have y3:∀o,(W2.putObj D o).cell? ⟨g+1,3,none⟩=some (.slice u1 v1 w1):=λ o=>(eE (hkP o _ (by omega)) 3).trans x3
  have y4:∀o,(W2.putObj D o).cell? ⟨g+1,4,none⟩=some (.slice u2 v2 w2'):=λ o=>(eE (hkP o _ (by omega)) 4).trans x4
  have hsz:W.heap.size<=W2.heap.size:=by rw[<-hW2];simp[World.setCell]
  have hR:∀o:Obj,∀b o' u,b<W.heap.size->Fr F w.heap.size g W b o'=some u->(if b<w.heap.size then F b o' else U (W2.putObj D o) b o')=some u:=λ o b o' u _ hu=>by
   have h1:=Fr_ne hu
   have h2:=VP hu
   unfold Fr at hu
   rw[if_neg (λ e=>e.elim h1 h2)] at hu
   split at hu
   ·rename_i hb;rw[if_pos hb];exact hu
   ·rename_i hb
    rw[if_neg hb]
    have hD:b≠D:=λ e=>by
     obtain⟨ob,ho,hc⟩:=cells_of_cell (aD hu)
     rw[e,HK.out] at ho
     cases ho
     cases hc
    exact ((eW (hkP o b hD) o').trans (eW (hkW b h2) o')).trans hu
  refine⟨.agg #[.int .i64 T.h.k,.int .i64 T.h.n,.int .i64 T.h.a,.slice u1 v1 w1,.slice u2 v2 w2'],by simp[results,results154,go_sem,y0,y1,y2,y3,y4],_,rfl,hBF.trans ⟨rfl,rfl,rfl,by simp[World.putObj],λ k hk=>hkP _ k (by omega)⟩,?_⟩
  rw[HT.out]
  refine⟨⟨_,_,_,_,_,_,rfl,HR1.out.mono (hR _) (by simp[World.putObj];exact hsz),HR2.out.mono (hR _) (by simp[World.putObj];exact hsz)⟩,λ ho=>?_⟩
  obtain⟨S,s1,s2,s3⟩:=HOW.out (hQ1 ▸ ho) (UC _)
  rw[hQ2] at s1
  refine⟨[.int .i64 T.h.k,.int .i64 T.h.n,.int .i64 T.h.a,.slice u1 v1 w1,.slice u2 v2 w2'],rfl,S,s1.kept λ b hb=>?_,s2⟩
  have hD:b≠D:=λ e=>by
   obtain⟨cur,e',hc⟩:=s1.cellsO b hb
   rw[e,HK.out] at hc
   cases hc
  exact (hkP _ b hD).trans (hkW b (s3 b hb).2.1)
 case stop =>
  rintro D c pre W _ _ h _
  exact h.elim
theorem OV(kk:Int)(va:Value)(t:Ts)(b0 b1 b2 b3 b4:Value)(bt:Tm)(w:World)(F:Nat->Nat->Option Value)(hFU:∀b o v,F b o=some v->U w b o=some v)(ha:Rd F w.heap.size va 5 (tDs ty t) .nil)(hbt:RMx F w.heap.size (.agg #[b0,b1,b2,b3,b4]) bt.h bt.x):Calls prog 154 #[.agg #[va],.int .i64 kk,.agg #[b0,b1,b2,b3,b4]] w λ e w'=>∃v,e=.returned v/\Below w.heap.size w w'/\RMx (λ b o=>if b<w.heap.size then F b o else U w' b o) w'.heap.size v (aG kk t bt).h (aG kk t bt).x :=
 (X0 False 0 [] [] kk va t b0 b1 b2 b3 b4 bt w F hFU ha hbt (λ h=>h.elim)).mono λ _ _ ⟨v,h1,h2,h3,_⟩=>⟨v,h1,h2,h3⟩
end
section
def bI:List Ts->Ds
 | []=>.nil
 | t :: r=>.row 5 27 (tDs ty t) .nil (bI r)
end
section
def Fl(S:List Nat)(w:World)(b o:Nat):Option Value:=if b∈S then none else U w b o
theorem Fl_U{S:List Nat}{w:World}{b o:Nat}{v:Value}(h:Fl S w b o=some v):U w b o=some v:=by
 unfold Fl at h;split at h
 ·cases h
 ·exact h
theorem Fl_ne{S:List Nat}{w:World}{b o:Nat}{v:Value}(h:Fl S w b o=some v):b ∉ S:=by
 unfold Fl at h;split at h
 ·cases h
 ·assumption
theorem Fl_mk{S:List Nat}{w:World}{b o:Nat}{v:Value}(h:U w b o=some v)(hb:b ∉ S):Fl S w b o=some v:=by
 unfold Fl;rw[if_neg hb];exact h
def XAt(S:List Nat)(g:Nat)(t:Tm)(W:World):Prop:=g<W.heap.size/\∃q n c r m d,RMx (Fl S W) W.heap.size (.agg #[.int .i64 t.h.k,.int .i64 t.h.n,.int .i64 t.h.a,.slice q n c,.slice r m d]) t.h t.x/\∀o u,(#[.int .i64 t.h.k,.int .i64 t.h.n,.int .i64 t.h.a,.slice q n c,.slice r m d]:Array Value)[o]? = some u->U W g o=some u
theorem XAt.keep{S:List Nat}{g:Nat}{t:Tm}{W W':World}(h:XAt S g t W)(hk:∀b,b<W.heap.size->b ∉ S∨b=g->W'.heap[b]? = W.heap[b]?)(hs:W.heap.size<=W'.heap.size):XAt S g t W':=by
 obtain⟨h1,q,n,c,r,m,d,h2,h3⟩:=h
 exact⟨Nat.lt_of_lt_of_le h1 hs,q,n,c,r,m,d,h2.mono (λ b o v hb hv=>Fl_mk ((eW (hk b hb (.inl (Fl_ne hv))) o).trans (Fl_U hv)) (Fl_ne hv)) hs,λ o u hu=>(eW (hk g h1 (.inr rfl)) o).trans (h3 o u hu)⟩
theorem XAt.on{S:List Nat}{g:Nat}{t:Tm}{W W':World}(h:XAt S g t W)(hb:Below W.heap.size W W'):XAt S g t W':=h.keep (λ b hb' _=>hb.block b hb') hb.size
theorem XAt.row{F:Nat->Nat->Option Value}{T:Tm}{W wa:World}{q1 q2:Option Addr}{n1 c1 n2 c2:Nat}(hRM:RMx F W.heap.size (.agg #[.int .i64 T.h.k,.int .i64 T.h.n,.int .i64 T.h.a,.slice q1 n1 c1,.slice q2 n2 c2]) T.h T.x)(hF:∀b o v,F b o=some v->U W b o=some v)
  (hwa:W.alloc (.cells #[.int .i64 T.h.k,.int .i64 T.h.n,.int .i64 T.h.a,.slice q1 n1 c1,.slice q2 n2 c2] 27)=wa):RT ty wa (.slice (some ⟨W.heap.size,0,none⟩) 1 1) T.ts/\Below W.heap.size W wa/\wa.heap.size=W.heap.size+1:=by
 have hba:Below W.heap.size W wa:=by rw[<-hwa];exact aA _ _
 have hsa:wa.heap.size=W.heap.size+1:=by rw[<-hwa];simp
 obtain⟨v3,v4,e,hv⟩:=(hRM.mono (F':=U wa) (hi':=wa.heap.size) (λ b o v hb hv=>aE hba _ _ _ hb (hF _ _ _ hv)) hba.size).cells
 injection e with e
 rw[<-show [Value.int .i64 T.h.k,.int .i64 T.h.n,.int .i64 T.h.a,.slice q1 n1 c1,.slice q2 n2 c2]=[.int .i64 T.h.k,.int .i64 T.h.n,.int .i64 T.h.a,v3,v4] from congrArg Array.toList e] at hv
 exact⟨RT.block (n:=1) (λ i u hu=>by rw[<-hwa];exact aM (by simpa using hu)) (by omega) hv rfl (by decide),hba,hsa⟩
end
section
open Go.RowKit Go.Maps
theorem IC:Keyed prog 3:=int_keyed underlying3
theorem zero3(w:World):(zeroValue 3).run prog w=.ok (.int .i64 0) w:=by kernel_rfl
abbrev oV(w:World)(b n:Nat)(D:DataW Unit):Prop:=w.ownsMap prog 3 (plainElem prog 3) b n D
def O6(v:Int):DataW Unit:=(DataW.map []).put (.int .i64 v) (.lit (.int .i64 0))
theorem at_none(v c:Int)(h:(DataW.map []:DataW Unit).atKey (.int .i64 v) (.lit (.int .i64 0))=.lit (.int .i64 c)):c=0:=by
 have h9:(DataW.lit (.int .i64 0):DataW Unit)=.lit (.int .i64 c):=h
 injection h9 with h9
 injection h9 with _ h9
 exact h9.symm
theorem wf_v{v:Int}(h1:0<v)(h2:v<=1048576):(Lit.int .i64 v).wf=true:=WalkArith.wf_i64 (by omega)
theorem FY(v:Int)(h1:0<v)(h2:v<=1048576)(b gb o cap:Nat)(w:World)(hown:oV w b 0 (.map []))(hgb:gb<w.heap.size)(hc0:w.cell? ⟨gb,o,none⟩=some (.int .i64 v))(hc1:w.cell? ⟨gb,o+1,none⟩=some (.int .i64 0)) :
  Calls prog 283 #[.agg #[.map (some b)],.slice (some ⟨gb,o,none⟩) 1 cap] w λ e w'=>e=.returned (.tuple #[])/\oV w' b 1 (O6 v)/\(∀B,B<=b->B<=w.heap.size->Below B w w')/\∀k,k<w.heap.size->k≠b->w'.heap[k]? = w.heap[k]?:=by
 have hkey:keyOf prog 3 (.int .i64 v)=some (.int .i64 v):=keyOf_int_mk underlying3 (wf_v h1 h2)
 have g1:decide (v<0)=false:=decide_eq_false (by omega)
 have g2:decide (1048576<v)=false:=decide_eq_false (by omega)
 obtain⟨w1,hw1⟩:∃w1,w.alloc (.cells #[.map (some b)] 275)=w1:=⟨_,rfl⟩
 have hb1:Below w.heap.size w w1:=by rw[<-hw1];exact aA _ _
 have hs1:w1.heap.size=w.heap.size+1:=by rw[<-hw1];simp
 have c0:w1.cell? ⟨gb,o,none⟩=some (.int .i64 v):=(hb1.cell hgb).trans hc0
 have c1:w1.cell? ⟨gb,o+1,none⟩=some (.int .i64 0):=(hb1.cell hgb).trans hc1
 have cm:w1.cell? ⟨w.heap.size,0,none⟩=some (.map (some b)):=aD (by rw[<-hw1];exact aM rfl)
 have hm1:oV w1 b 0 (.map []):=by rw[<-hw1];exact hown.alloc _
 have hm2:oV (w1.alloc (.cells #[.int .i64 v,.int .i64 0] 68)) b 0 (.map []):=hm1.alloc _
 have hb2:Below w.heap.size w (w1.alloc (.cells #[.int .i64 v,.int .i64 0] 68)):=aB hb1 (aA _ _)
 have HB:=hid hb2
 clear hb1 hb2 hm1 hc0 hc1 hown
 go_enter func283,ntmps283
 go_wp2_with fail
 refine wp_loop_rounds 2 ?_
 rw[rounds_succ]
 go_wp2_with (first
  | (at_lookup;refine wpList_lookup_own_int _ rfl _ _ 273 rfl 3 3 .i64 IC underlying273 underlying3 (zero3 _) b 0 _ rfl hm2 _ _ rfl hkey ?_;intro c hat hwc;obtain rfl:=at_none _ _ hat)
  | (at_mapUpdate;refine wpList_mapUpdate_own _ rfl _ _ _ 273 rfl 3 3 IC underlying273 _ b 0 _ rfl hm2 (by unfold maxLen;omega) _ _ _ rfl rfl hkey _ [] (plainElem_int underlying3 (by decide)) ?_;intro w3 hown1 hgrow1)
  | go_in)
 rw[rounds_succ]
 go_wp2_with fail
 go_end0
 exact⟨rfl,hown1,λ B hB1 hB2=>(HB.out.mono hB2).grown hgrow1 (Nat.le_trans hB2 HB.out.size) (λ j hj=>by cases hj;exact hB1),λ k hk hne=>(hgrow1.block k (Nat.lt_of_lt_of_le hk HB.out.size) (λ e=>hne (by cases e;rfl))).trans (HB.out.block k hk)⟩
theorem HI(v:Int)(h1:0<v)(h2:v<=1048576)(b lb lo lc gb o gc:Nat)(w:World)(hown:oV w b 0 (.map []))(hlb:lb<w.heap.size)(hgb:gb<w.heap.size)(rb:Nat)(hrb:rb<w.heap.size)(hr:w.cell? ⟨rb,0,none⟩=some (.slice (some ⟨lb,lo,none⟩) 1 lc))(hl:w.cell? ⟨lb,lo,none⟩=some (.slice (some ⟨gb,o,none⟩) 1 gc))
  (hc0:w.cell? ⟨gb,o,none⟩=some (.int .i64 v)) (hc1:w.cell? ⟨gb,o+1,none⟩=some (.int .i64 0)) :
  Calls prog 282 #[.agg #[.map (some b)],.pointer (some ⟨rb,0,none⟩)] w λ e w'=>e=.returned (.tuple #[])/\oV w' b 1 (O6 v)/\(∀B,B<=b->B<=w.heap.size->Below B w w')/\∀k,k<w.heap.size->k≠b->w'.heap[k]? = w.heap[k]?:=by
 obtain⟨w1,hw1⟩:∃w1,w.alloc (.cells #[.map (some b)] 277)=w1:=⟨_,rfl⟩
 have hb1:Below w.heap.size w w1:=by rw[<-hw1];exact aA _ _
 have hs1:w1.heap.size=w.heap.size+1:=by rw[<-hw1];simp
 have r1:w1.cell? ⟨rb,0,none⟩=some (.slice (some ⟨lb,lo,none⟩) 1 lc):=(hb1.cell hrb).trans hr
 have l1:w1.cell? ⟨lb,lo,none⟩=some (.slice (some ⟨gb,o,none⟩) 1 gc):=(hb1.cell hlb).trans hl
 have cm:w1.cell? ⟨w.heap.size,0,none⟩=some (.map (some b)):=aD (by rw[<-hw1];exact aM rfl)
 obtain⟨w2,hw2⟩:∃w2,w1.alloc (.cells #[.slice (some ⟨gb,o,none⟩) 1 gc] 30)=w2:=⟨_,rfl⟩
 have hb2:Below w.heap.size w w2:=by rw[<-hw2];exact aB hb1 (aA _ _)
 have hs2:w2.heap.size=w.heap.size+1+1:=by rw[<-hw2];simp[hs1]
 have cm2:w2.cell? ⟨w.heap.size,0,none⟩=some (.map (some b)):=by rw[<-hw2];exact (Below.cell (p:=⟨w.heap.size,0,none⟩) (aA w1 _) (by show w.heap.size<w1.heap.size;omega)).trans cm
 have l2:w2.cell? ⟨w.heap.size+1,0,none⟩=some (.slice (some ⟨gb,o,none⟩) 1 gc):=by
  have:=aM (w:=w1) (cs:=#[.slice (some ⟨gb,o,none⟩) 1 gc]) (ty:=30) (o:=0) rfl
  rw[hs1,hw2] at this
  exact aD this
 have hm2:oV w2 b 0 (.map []):=by rw[<-hw2,<-hw1];exact (hown.alloc _).alloc _
 have HC:=hid (FY v h1 h2 b gb o gc w2 hm2 (by omega) ((hb2.cell hgb).trans hc0) ((hb2.cell hgb).trans hc1))
 have HB:=hid hb2
 clear hb1 hb2 hm2 hc0 hc1 hown hr hl
 go_enter func282,ntmps282
 go_wp2_with fail
 refine wp_loop_rounds 2 ?_
 rw[rounds_succ]
 go_wp2_with fail
 refine HC.out.mono ?_
 rintro e w3 ⟨rfl,h3,h4,h5⟩
 have H3:=hid h3
 have H4:=hid h4
 have H5:=hid h5
 clear h3 h4 h5
 go_wp2_with fail
 rw[rounds_succ]
 go_wp2_with fail
 go_end0
 exact⟨rfl,H3.out,λ B hB1 hB2=>(HB.out.mono hB2).trans (H4.out B hB1 (Nat.le_trans hB2 HB.out.size)),λ k hk hne=>(H5.out k (Nat.lt_of_lt_of_le hk HB.out.size) hne).trans (HB.out.block k hk)⟩
end
section
open Go.RowKit Go.Maps
theorem RowG.setCell{w:World}{base sz e n:Nat}{v:Value}{x:Ds}{S:List Nat}(h:RowG w base sz e v n x S){p:Addr}(hp:p.block<base)(u:Value):RowG (w.setCell p u) base sz e v n x S:=by
 obtain⟨xs,h1,h2,h3⟩:=h
 refine⟨xs,⟨h1.1,?_⟩,h2.setCell (h2.notMem hp) u,h3⟩
 rcases h1.2 with h6|⟨g,cap,cur,e1,h6,h7,h8⟩
 ·exact .inl h6
 ·have hne:g≠p.block:=by omega
  exact .inr ⟨g,cap,cur,e1,h6,(Below.heap_setCell _ _ _ _ hne).trans h7,h8⟩
theorem IB{w w':World}{b n B:Nat}{D:DataW Unit}(h:oV w b n D)(hb:Below B w w')(hlt:b<B):oV w' b n D:=by
 obtain⟨es,clock,h1,Ft,hs,hD⟩:=h
 exact⟨es,clock,by rw[<-h1];exact hb.block b hlt,Ft,hs,hD⟩
theorem SU(v:Int):intKeys (O6 v)=[v]:=rfl
theorem at_one(v c:Int)(h:(O6 v).atKey (.int .i64 v) (.lit (.int .i64 0))=.lit (.int .i64 c)):c=0:=by
 have e:(O6 v).atKey (.int .i64 v) (.lit (.int .i64 0))=.lit (.int .i64 0):=by
  unfold O6
  exact atKey_put_same ⟨[],rfl⟩ (show WideAt.IsKeyLit (.int .i64 v) from trivial) _ _
 rw[e] at h
 injection h with h9
 injection h9 with _ h9
 exact h9.symm
theorem one_row{w:World}{base:Nat}{u:Value}{v:Int}(h:w.ownsRow base 3 1 u 1 [.int .i64 v]):∃g cap,u=.slice (some ⟨g,0,none⟩) 1 cap/\base<=g/\w.cell? ⟨g,0,none⟩=some (.int .i64 v):=by
 obtain⟨h1,⟨e2,h3,-⟩|⟨g0,cap,cur,e2,h4,e3,-,-,-,e4⟩⟩:=h
 subst e2
 exact⟨g0,cap,rfl,h4,aD (iK e3 (by rw[h1];exact e4) 0 _ rfl)⟩
theorem NB(v:Int)(h1:0<v)(h2:v<=1048576)(b:Nat)(w:World)(hown:oV w b 1 (O6 v)) :
  Calls prog 287 #[.agg #[.map (some b)]] w λ e w'=>∃u,e=.returned (.agg #[u])/\RowG w' (w.heap.size+2) 2 68 u 1 (bY [(v,0)]) []/\Below w.heap.size w w':=by
 have hkey:keyOf prog 3 (.int .i64 v)=some (.int .i64 v):=keyOf_int_mk underlying3 (wf_v h1 h2)
 have g1:decide (0<v)=true:=decide_eq_true h1
 have hbl:=hown.lt
 obtain⟨w2,hw2⟩:∃w2,(w.alloc (.cells #[.map (some b)] 277)).alloc (.cells #[.slice none 0 0] 30)=w2:=⟨_,rfl⟩
 have hb2:Below w.heap.size w w2:=by rw[<-hw2];exact aB (aA _ _) (aA _ _)
 have hs2:w2.heap.size=w.heap.size+2:=by rw[<-hw2];simp
 have p1:U w2 w.heap.size 0=some (.map (some b)):=by rw[<-hw2];exact aE (aA _ _) _ _ _ (by simp) (aM rfl)
 have p2:U w2 (w.heap.size+1) 0=some (.slice none 0 0):=by
  have:=aM (w:=w.alloc (.cells #[.map (some b)] 277)) (cs:=#[.slice none 0 0]) (ty:=30) (o:=0) rfl
  rw[World.size_alloc,hw2] at this
  exact this
 have hm2:oV w2 b 1 (O6 v):=IB hown hb2 hbl
 obtain⟨w3,hw3⟩:∃w3,w2.alloc (.cells #[.map (some b)] 273)=w3:=⟨_,rfl⟩
 have hb3:Below w2.heap.size w2 w3:=by rw[<-hw3];exact aA _ _
 have HK:=hid (Tryz.keys_calls (some b) w2)
 have HS:=hid (Tryz.sorted_calls b 1 (O6 v) _ w2 hm2 (by show 1<=maxLen;decide) (by show 1*8<=140737488355328;decide))
 rw[hw3,hs2] at HK
 rw[hw3,hs2] at HS
 have c1:=aD p1
 have c2:=aD p2
 have HB2:=hid hb2
 have HB3:=hid hb3
 have HM2:=hid hm2
 have HP1:=hid p1
 have HP2:=hid p2
 clear hown hb2 hb3 hm2 p1 p2
 go_enter func287,ntmps287
 go_wp2_with fail
 refine HK.out.mono ?_
 rintro e w3 ⟨rfl,rfl⟩
 go_wp2_with fail
 refine HS.out.mono ?_
 rintro e w5 ⟨u,ss,rfl,hperm,hrow,-,hb5⟩
 rw[SU] at hperm
 obtain rfl:=List.perm_singleton.1 hperm
 rw[List.mergeSort_singleton] at hrow
 obtain⟨g,cap,rfl,hge,hcg⟩:=one_row hrow
 have hB5:=aB (aB HB2.out HB3.out) (hb5.mono (Nat.le_refl _))
 have hlt3:w.heap.size+2<w3.heap.size:=by rw[<-hw3];simp[hs2]
 have p1:U w5 w.heap.size 0=some (.map (some b)):=aE hb5 _ _ _ (by omega) (aE HB3.out _ _ _ (by omega) HP1.out)
 have p2:U w5 (w.heap.size+1) 0=some (.slice none 0 0):=aE hb5 _ _ _ (by omega) (aE HB3.out _ _ _ (by omega) HP2.out)
 have d1:=aD p1
 have d2:=aD p2
 have hm5:oV w5 b 1 (O6 v):=IB (IB HM2.out HB3.out (by omega)) hb5 (by omega)
 obtain⟨v2,w7,hrun7,hR7,hg7,-⟩:=RowG.append (P:=prog) (t:=28) (ty:=28) elP (RowG.nil (w5.alloc (.cells #[.int .i64 v,.int .i64 0] 68)) (w.heap.size+2) 2 68) (m0:=0) (by simp[Value.ownBlock]) (y:=bY [(v,0)]) (ys:=[.int .i64 v,.int .i64 0]) (S2:=[]) ⟨_,rfl,_,rfl,rfl,rfl⟩ (by simp) (by simp) ⟨rfl,rfl,trivial⟩ ⟨w5.heap.size,0,none⟩ 1 rfl (gK w5 _ 68) (by omega) (by have:=hb5.size;simp;omega)
 have hB7:Below w5.heap.size w5 w7:=(aA w5 (.cells #[.int .i64 v,.int .i64 0] 68)).grown hg7 (by simp) (by simp[Value.ownBlock])
 have q1:U w7 w.heap.size 0=some (.map (some b)):=aE hB7 _ _ _ (aL p1) p1
 have q2:U w7 (w.heap.size+1) 0=some (.slice none 0 0):=aE hB7 _ _ _ (aL p2) p2
 have e1:=aD q1
 have e2:=aD q2
 have e3:=aI q2
 have q3:=fQ (v:=v2) q2
 have e4:=aD q3
 have e5:=aI q3
 have q4:=fQ (v:=v2) q3
 have e6:=aD q4
 have HR7:=hid hR7
 have HB7:=hid (hB5.trans (hB7.mono hB5.size))
 obtain⟨pp,cc,rfl,-,-⟩:=hR7.cap
 clear p1 p2 q1 q2 q3 q4 hR7 hB7 hB5 hg7 hrow hb5 HK HS HM2 HP1 HP2 HB3 HB2
 go_wp2_with fail
 refine wp_loop_rounds 2 ?_
 rw[rounds_succ]
 go_wp2_with (first
  | (at_lookup;refine wpList_lookup_own_int _ rfl _ _ 273 rfl 3 3 .i64 IC underlying273 underlying3 (zero3 _) b 1 _ rfl hm5 _ _ rfl hkey ?_;intro c hat hwc;obtain rfl:=at_one _ _ hat)
  | (at_builtin;refine aR rfl _ _ 28 rfl _ _ _ rfl rfl hrun7 ?_)
  | go_in)
 rw[rounds_succ]
 go_wp2_with fail
 refine bodyPost_ret (v:=.agg #[.slice pp (0+1) cc]) (by simp[results,results287,go_sem];first|exact e6|simp[e6]|(trace_state;skip)) rfl ⟨_,rfl,((HR7.out.setCell (p:=⟨w.heap.size+1,0,none⟩) (Nat.lt_succ_self _) _).setCell (p:=⟨w.heap.size+1,0,none⟩) (Nat.lt_succ_self _) _),(HB7.out.setCell (p:=⟨w.heap.size+1,0,none⟩) (Nat.le_succ _) _).setCell (p:=⟨w.heap.size+1,0,none⟩) (Nat.le_succ _) _⟩
end
section
section
variable {P:Program} {G:World->Prop} {tb:TB} {N:Nat}
def SC(P:Program)(G:World->Prop)(N:Nat)(c:Code)(Q:Exit->St->Prop)(st:St):Prop:=∀F0 w0 a w,Sat G F0 w0 N st a w->c.wp P (OY G N F0 w0 Q) a w
theorem sc_seq(hT:jE P tb)(hS:iU G)(hm:P.follows .mixedOrders=true){x y:Code}{Q:Exit->St->Prop}{st:St}(h:dL P G tb N x (nN (SC P G N y Q) Q) st):SC P G N (x.seq y) Q st:=by
 intro F0 w0 a w hs
 refine wp_seq (wp_mono (kF hT hS hm h F0 w0 a w hs) ?_)
 rintro e a' w' ⟨st',hq,hs'⟩
 cases e with
 | normal=>exact hq F0 w0 a' w' hs'
 | _=>exact⟨st',hq,hs'⟩
theorem sc_le{c:Code}{Q:Exit->St->Prop}{st st':St}(h:Le G N st st')(k:SC P G N c Q st'):SC P G N c Q st:=λ F0 w0 a w hs=>k F0 w0 a w (h F0 w0 a w hs)
theorem NP (hT : jE P tb) (hS : iU G) (hm : P.follows .mixedOrders = true) {f : Nat} {fn : Func} {c : Code} {l : List AV} {r : AV} (hf : P.funcs[f]? = some fn) (hb : fn.body = some c) (hname : fn.name ≠ "runtime.NumGoroutine")
  (hN:l.length<=fn.ntmps) (hl:∀a∈l,a.ok (λ _=>none) (λ _=>none)) (hr:r.plain=true) (hr2:r.still=true) (hr3:r.flat=true) (h:SC P G fn.ntmps c (GA tb fn.ntmps fn.results.toList r) (jQ l)):Holds P G f (.list l) r:=by
 refine⟨⟨fn,hf,hname,by rw[hb];simp⟩,hr,λ F w vs hF hG hv=>?_⟩
 have hlen:∀(l:List AV) (vs:List Value),RepV (bJ F w) (.list l) vs->vs.length=l.length/\∀t,RepV (bJ F w) (l.getD t .junk) [vs.getD t undef]:=by
  intro l
  induction l with
  | nil=>intro vs h;rw[show vs=[] from h];exact⟨rfl,λ t=>trivial⟩
  | cons a l ih =>
   rintro vs ⟨y,ys,rfl,h1,h2⟩
   obtain⟨h3,h4⟩:=ih ys h2
   refine⟨by simp[h3],λ t=>?_⟩
   cases t with
   | zero=>exact h1
   | succ t=>exact h4 t
 obtain⟨hvl,hvs⟩:=hlen l vs hv
 have hsat:Sat G F w fn.ntmps (jQ l) { tmps:=vs.toArray++Array.replicate (fn.ntmps-vs.toArray.size) undef,defers:=[] } w:=by
  refine⟨⟨fun t=>?_,λ k T d e=>by cases e⟩,⟨bJ F w,rfl,⟨hF,Nat.le_refl _,λ k T d e=>(by cases e),λ k k' h1=>(absurd rfl h1),λ k j b h1=>(absurd rfl h1),λ k k' b h1=>(absurd rfl h1)⟩,rfl,rfl,rfl,λ _ _ _=>rfl,λ t ht=>?_⟩,Below.refl _ _,hG,?_,rfl,λ t x e=>by cases e⟩
  ·show (l.getD t .junk).ok _ _
   rw[List.getD_eq_getElem?_getD]
   cases ht:l[t]? with
   | none=>trivial
   | some x=>exact hl x (List.mem_of_getElem? ht)
  ·have:=hvs t
   have e:(vs.toArray++Array.replicate (fn.ntmps-vs.toArray.size) undef).getD t undef=vs.getD t undef:=by
    rw[Array.getD_eq_getD_getElem?,Array.getElem?_append,List.getD_eq_getElem?_getD]
    by_cases h1:t<vs.length
    ·simp[h1]
    ·have h2:vs[t]? = none:=List.getElem?_eq_none (by omega)
     simp only[List.size_toArray,h1,if_false,h2,Option.getD_none]
     rw[Array.getElem?_replicate]
     split<;>rfl
   show RepV _ (l.getD t .junk) [(vs.toArray++Array.replicate (fn.ntmps-vs.toArray.size) undef).getD t undef]
   rw[e]
   exact this
  ·simp;omega
 refine calls_of_wp hf hb (wp_mono (h F w _ _ hsat) ?_)
 rintro e a' w' ⟨st,hq,hs⟩
 have fin:(∃l q,fn.results.toList.mapM (tO tb fn.ntmps st)=some l/\AV.imp (λ _=>none) st.τ (φOf q) (λ k=>if k=0 then some 0 else none) r (AB l)/\(q.flatMap (·.2)).Nodup) ->
   a'.defers=[]/\∃v,(results fn a'.tmps).run P w'=.ok v w'/\∃v1 fp,Ending.returned v=.returned v1/\Below w.heap.size w w'/\RepV (jF F w w' fp) r [v1]/\(∀k b,b∈fp k->w.heap.size<=b/\b<w'.heap.size)/\∀k k' b,b∈fp k->b∈fp k'->k=k':=by
  rintro⟨l',q,h1,h2,h3⟩
  obtain⟨g,rfl,hI,hbx,hτ,hbase,hF0,hsl⟩:=hs.gh
  obtain⟨vs',h4,h5,h6⟩:=Y9 hT hI hbx hsl h1
  have hres:∃v,(results fn a'.tmps).run P g.w=.ok v g.w/\RepV g (AB l') [v]:=by
   have h7:=xM h4
   match l',vs',h5,h6,h7 with
   | [x],[v],⟨_,_,e,h8,_⟩,_,h7 =>
    cases e
    exact⟨v,h7,h8⟩
   | [],[],h5,_,h7=>exact⟨.tuple #[],h7,[],rfl,h5⟩
   | x :: y :: l',u :: v :: vs',h5,_,h7=>exact⟨.tuple (u :: v :: vs').toArray,by rw[h7];simp,_,rfl,h5⟩
  obtain⟨v,h7,h8⟩:=hres
  have hw:Weak g (jF F w g.w (IW g (φOf q))) (φOf q):=⟨fun b o u hu=>by
    show (if b<w.heap.size then F b o else U g.w b o)=some u
    split
    ·rename_i hb
     rw[<-hF0 b o (by rw[hbase];exact hb)]
     exact hu
    ·exact hI.F _ _ _ hu,rfl,hbase.symm,λ k b h=>mem_fpOf.2 h⟩
  have h9:RepV (jF F w g.w (IW g (φOf q))) r [v]:=RepV.imp hI hw (.inl hr2) (.inl hr3) (by rw[hτ];exact h2) h8
  refine⟨hs.defers,v,h7,v,IW g (φOf q),rfl,hs.below,h9,λ k b hb=>?_,λ k k' b hb hb'=>?_⟩
  ·obtain⟨u,-,h10,h11⟩:=mem_fpOf.1 hb
   obtain⟨h12,h13,-⟩:=hI.fpb u.1 u.2 b h10 h11
   rw[hbase] at h12
   exact⟨h12,h13⟩
  ·obtain⟨u,hu,h10,h11⟩:=mem_fpOf.1 hb
   obtain⟨u',hu',h12,h13⟩:=mem_fpOf.1 hb'
   have:=hI.fpd u u' b h10 h12 h11 h13
   subst this
   exact φ_disj h3 hu hu'
 cases e with
 | normal=>exact fin hq
 | ret=>exact fin hq
 | _=>exact hq.elim
end
theorem abS {f : Nat} {fn : Func} {c : Code} {l : List AV} {r : AV} {N : Nat} {rs : Array ResultVar} (hf : prog.funcs[f]? = some fn) (hN : fn.ntmps = N) (hrs : fn.results = rs) (hb : fn.body = some c) (hname : fn.name ≠ "runtime.NumGoroutine")
  (hl:l.length<=N) (ho:(l.all AV.bare)=true) (hr:(r.plain && r.still && r.flat)=true) (h:SC prog KA N c (GA tb N rs.toList r) (jQ l)):HH f l r:=by
 subst hN hrs
 simp only[Bool.and_eq_true] at hr
 exact NP oE lQ mixed hf hb hname hl (λ a ha=>AV.bare_ok (List.all_eq_true.1 ho a ha) _ _) hr.1.1 hr.1.2 hr.2 h
theorem step{x y:Code}{Q:Exit->St->Prop}{st:St}{N:Nat}(h:dL prog KA tb N x (nN (SC prog KA N y Q) Q) st):SC prog KA N (x.seq y) Q st:=sc_seq oE lQ mixed h
theorem last{c:Code}{Q:Exit->St->Prop}{st:St}{N:Nat}(h:dL prog KA tb N c Q st):SC prog KA N c Q st:=λ F0 w0 a w hs=>kF oE lQ mixed h F0 w0 a w hs
theorem OT{c:Code}{Q:Exit->St->Prop}{st st':St}{N:Nat}(h:Le KA N st st')(k:SC prog KA N c Q st'):SC prog KA N c Q st:=sc_le h k
def GE:Nat->Code->Code
 | 0,c=>c
 | n+1,.seq _ y=>GE n y
 | _,c=>c
theorem mR{x y:Code}{Q:Exit->St->Prop}{st:St}{N:Nat}(h:∀K:Exit->St->Prop,(∀s,SC prog KA N y Q s->K .normal s)->(∀e s,e≠.normal->Q e s->K e s)->dL prog KA tb N x K st):SC prog KA N (x.seq y) Q st :=
 step (h _ (λ _ k=>k) (λ e s hne q=>by cases e<;>first|exact absurd rfl hne|exact q))
end
section
attribute [local simp] ty_p ty_l ty_t kH tDs cB Tm.ts rN gI ac_skip ac_label ac_region ac_seq ac_cond ac_block ac_loop ac_exit ac_ret seqK_n seqK_r seqK_e vo_nil vo_cons blkK LC rU BZ jO jP oK ev jQ gF St.out Z5 oC upd eD wV K0 asC rO mI yF oJ xE uR tU tb Dc.tk Dc.dp Dc.over Dc.app Dc.ln Dc.ds Dc.sing Dc.cont AV.cont Ds.hd Value.oneCell' GA tO AB AV.imp Dc.imp φOf eR AV.isLL AV.list AV.app AV.arg AV.isL AV.ren Dc.ren Dc.lent tmC tmA tsA iA lo? abin AV.nth Dc.own Dc.toks bV pG JD τOf
attribute [local simp] AV.room FB Ds.len Ds.dp
theorem ib1(i:Nat):((i:Int) == 1)=(i == 1):=by
 by_cases h:i=1
 ·subst h;rfl
 ·have h2:((i:Int) == 1)=false:=by rw[beq_eq_false_iff_ne];omega
  have h3:(i == 1)=false:=by rw[beq_eq_false_iff_ne];exact h
  rw[h2,h3]
theorem ib2(i:Nat):((i:Int) == 2)=(i == 2):=by
 by_cases h:i=2
 ·subst h;rfl
 ·have h2:((i:Int) == 2)=false:=by rw[beq_eq_false_iff_ne];omega
  have h3:(i == 2)=false:=by rw[beq_eq_false_iff_ne];exact h
  rw[h2,h3]
theorem k228(k:Int)(i:Nat):HH 272 [iA k,iA i] (.v (.bool (binds k i))):=by
 refine ab0 func272 ntmps272 results272 ?_
 by_cases h4:k=4
 ·subst h4;simp[binds,ib1,ib2];exact⟨[],by simp⟩
 by_cases h5:k=5
 ·subst h5;simp[binds,ib1,ib2];exact⟨[],by simp⟩
 by_cases h12:k=12
 ·subst h12;simp[binds,ib1,ib2];exact⟨[],by simp⟩
 by_cases h16:k=16
 ·subst h16;simp[binds,ib1,ib2];exact⟨[],by simp⟩
 by_cases h18:k=18
 ·subst h18;simp[binds,ib1,ib2];exact⟨[],by simp⟩
 by_cases h7:k=7
 ·subst h7;simp[binds,ib1,ib2];exact⟨[],by simp⟩
 simp[binds,h4,h5,h12,h16,h18,h7]
 exact⟨[],by simp⟩
theorem DR(t:Tm)(i d:Nat)(hd:d<=200000000000):HH 253 [tmL t,iA i,iA d] (iA (aX t.h.k i d)):=by
 refine ab0 func253 ntmps253 results253 ?_
 have hw:=wr1 (k:=d) (by omega)
 simp
 apply aC (k228 t.h.k i)<;>simp
 cases hb:binds t.h.k i<;>simp[hb,aX,hw]
 all_goals exact⟨[],by simp⟩
theorem rM{h:Hd}{y r:Ts}:∀ {a:Ts},(a.app (.cons h y r)).fits->h.fits/\y.fits
 | .nil,hf=>⟨hf.1,hf.2.1⟩
 | .cons _ _ _,hf=>rM hf.2.2
theorem qR{h:Hd}{y r:Ts}:∀ {a:Ts},aH h.l+y.size+1<=(a.app (.cons h y r)).size
 | .nil=>by simp only[Ts.app,Ts.size];omega
 | .cons _ _ a=>by have:=qR (h:=h) (y:=y) (r:=r) (a:=a);simp only[Ts.app,Ts.size];omega
theorem sO:∀t:Ts,t.len<=t.size
 | .nil=>Nat.le_refl _
 | .cons _ _ r=>by have:=sO r;simp only[Ts.len,Ts.size];omega
theorem EN(x y:Ds):Ds.dp x.len (x.app y)=y:=by
 induction x with
 | nil=>cases y<;>rfl
 | lit v r ih=>exact ih
 | row sz e x s r _ _ ih=>exact ih
theorem dp_lvs{l a b:List Lv}(h:a++b=l):(cB ty l).dp a.length=cB ty b:=by
 rw[<-h,oW]
 have:=gL ty a
 rw[<-this]
 exact EN _ _
def QK(l a:List Lv):St:=bV [(0,.c (.row none 1 30 (cB ty l) .nil)),(3,.c (.blk 22 (a.length+1) 1 30 (.seg none (cB ty a) .nil) .nil)),(4,iA a.length)] [] [(22,a.length+1)]
theorem k229(l:List Lv)(hs:aH l<=200000000):HH 276 [.c (.row none 1 30 (cB ty l) .nil)] (.c (.row none 1 30 (cB ty l) .nil)):=by
 have hll:l.length<=200000000:=by
  have e:∀a:List Lv,a.length<=aH a:=by
   intro a
   induction a with
   | nil=>exact Nat.zero_le _
   | cons p r ih=>simp only[List.length_cons,aH];omega
  exact Nat.le_trans (e l) hs
 refine ab0 func276 ntmps276 results276 ?_
 simp
 refine lp (α:={ q:List Lv×List Lv // q.1++q.2=l }) (λ q=>QK l q.1.1) (λ q=>q.1.2.length) ⟨([],l),rfl⟩ ?_ ?_
 ·apply aK [((22,0),[(22,0)])]<;>simp[AV.ok,Dc.ok]
 ·rintro⟨⟨a,q⟩,hq⟩
  simp only at hq
  cases q with
  | nil =>
   have e:a=l:=by rw[<-hq];simp
   subst e
   simp[QK,gL,Ds.app_nil]
   exact⟨[],by simp⟩
  | cons t q =>
   have h1:a.length<l.length:=by rw[<-hq];simp
   have h2:=dp_lvs hq
   have h3:t.length<=200000000:=by
    have:aH (a++t :: q)<=200000000:=by rw[hq];exact hs
    have e:∀a b:List Lv,aH (a++b)=aH a+aH b:=by
     intro a b
     induction a with
     | nil=>simp[aH]
     | cons p r ih=>simp only[List.cons_append,aH,ih];omega
    rw[e] at this
    simp only[aH] at this
    omega
   have hw:=wr1 (k:=a.length) (by omega)
   simp[QK,gL,h1,h2]
   refine⟨by omega,by rw[mU];omega,by omega,a++[t],q,by simp,by rw[List.append_assoc];exact hq,?_⟩
   apply aK [((22,0),[(22,0)])]<;>simp[AV.ok,Dc.ok,hw,oW,Ds.app_nil]
theorem IP(h:Hd)(x k:Ts)(hs:aH h.l<=200000000):HH 259 [tmL ⟨h,x⟩,tsA none k] (tmL ⟨h,k⟩):=by
 refine ab0 func259 ntmps259 results259 ?_
 simp
 apply aC (k229 h.l hs)<;>simp
 exact⟨[],by simp⟩
def nA(n f:Int)(d:Nat)(t:Tm):Tm:=⟨t.h.lift n f d,t.x.lift n f t.h.k 0 d⟩
theorem Ts.lift_app(n f:Int):∀(a b:Ts) (pk:Int) (i d:Nat),(a.app b).lift n f pk i d=(a.lift n f pk i d).app (b.lift n f pk (i+a.len) d)
 | .nil,b,pk,i,d=>rfl
 | .cons h x r,b,pk,i,d=>by
  have:=Ts.lift_app n f r b pk (i+1) d
  simp only[Ts.app,Ts.lift,Ts.len,this]
  rw[show i+1+r.len=i+(r.len+1) by omega]
def qE(n f:Int)(d:Nat)(H:Hd)(x a:Ts):St:=bV [(1,iA n),(2,iA f),(3,iA d),(4,.bx 5 0),(8,.bx 9 0),(9,.c (.blk 55 (a.len+1) 5 27 (.seg none (tDs ty (a.lift n f H.k 0 d)) .nil) .nil)),(10,iA a.len)] [(5,27,tmC none none H x),(9,27,.lit (.int .i64 0) (.lit (.int .i64 0) (.lit (.int .i64 0) (.nilr 1 30 (.nilr 5 27 .nil)))))] [(55,a.len+1)]
theorem q128(n f:Int):∀(M:Nat) (t:Tm) (d:Nat),t.size<M->t.fits->t.size+d<=200000000->HH 233 [tmL t,iA n,iA f,iA d] (tmL (nA n f d t)):=by
 intro M
 induction M with
 | zero=>intro t d h;omega
 | succ M ih =>
  rintro⟨⟨hk,hn,ha,hl⟩,x⟩ d hM hf hs
  have dx:x.len*5 / 5=x.len:=by omega
  have hxl:x.len<=200000000:=by have:=sO x;unfold Tm.size at hs;simp only at hs;omega
  have hll:aH hl<=200000000:=by unfold Tm.size at hs;simp only at hs;omega
  have hnb : -9223372036854775808<=hn/\hn<=9223372036854775807:=hf.1.2.1
  have w1:(d:Int)<=hn->IntKind.i64.wrap (hn-d)=hn-d:=λ h=>by rw[IntKind.wrap_i64];omega
  obtain⟨N,hN⟩:∃N,(Hd.lift ⟨hk,hn,ha,hl⟩ n f d)=⟨hk,N,ha,hl⟩:=by
   unfold Hd.lift;split
   ·exact⟨_,rfl⟩
   ·exact⟨_,rfl⟩
  have hN2:=hN
  unfold Hd.lift at hN2
  have e1:nA n f d ⟨⟨hk,hn,ha,hl⟩,x⟩=⟨⟨hk,N,ha,hl⟩,x.lift n f hk 0 d⟩:=by unfold nA;rw[hN]
  rw[e1]
  have hsz:x.size<=Tm.size ⟨⟨hk,hn,ha,hl⟩,x⟩:=by unfold Tm.size;simp only;omega
  refine ab0 func233 ntmps233 results233 ?_
  simp only at hN2
  by_cases c1:hk=1
  ·subst c1
   by_cases c2:(d:Int)<=hn
   ·by_cases c3:f<=hn-d
    ·rw[if_pos ⟨rfl,c2,c3⟩] at hN2
     have hN3:IntKind.i64.wrap (hn+n)=N:=by injection hN2
     simp[c2,w1 c2,c3,hN3]
     refine lp (α:={ q:Ts×Ts // q.1.app q.2=x }) (λ q=>qE n f d ⟨1,N,ha,hl⟩ x q.1.1) (λ q=>q.1.2.len) ⟨(.nil,x),rfl⟩ ?_ ?_
     ·apply aK [((55,0),[(55,0)])]<;>simp[Ts.lift,Ts.len,AV.ok,Dc.ok]
     ·rintro⟨⟨a,r⟩,hq⟩
      simp only at hq
      cases r with
      | nil =>
       have e:a=x:=by rw[<-hq];exact (Ts.app_nil a).symm
       subst e
       simp[qE,aF,dx]
       apply aC (IP ⟨1,N,ha,hl⟩ a (a.lift n f 1 0 d) hll)<;>simp[Ds.app_nil]
       exact⟨[],by simp⟩
      | cons hh hx r =>
       have h1:a.len<x.len:=by rw[<-hq];simp[Ts.app_len,Ts.len]
       have h2:(tDs ty x).dp (a.len*5)=tDs ty (.cons hh hx r):=by rw[<-hq,bG,<-aF ty];exact EN _ _
       have h3:hh.fits/\hx.fits:=rM (a:=a) (by rw[hq];exact hf.2)
       have h4:aH hh.l+hx.size+1<=x.size:=by rw[<-hq];exact qR
       have hw:=wr1 (k:=a.len) (by omega)
       have hdp:aX 1 a.len d<=d+1:=by unfold aX;split<;>omega
       have hne:tDs ty ((a.app (.cons hh hx .nil)).lift n f 1 0 d)=(tDs ty (a.lift n f 1 0 d)).app (tDs ty (nA n f (aX 1 a.len d) ⟨hh,hx⟩).ts):=by
        rw[Ts.lift_app,bG,Nat.zero_add];rfl
       have hsz2:(⟨hh,hx⟩:Tm).size+1<=x.size:=h4
       have ihh:=ih ⟨hh,hx⟩ (aX 1 a.len d) (by omega) h3 (by omega)
       generalize nA n f (aX 1 a.len d) ⟨hh,hx⟩=P at *
       simp[qE,aF,dx,h1,h2]
       refine⟨by kernel_rfl,by omega,?_⟩
       apply aC (DR ⟨⟨1,N,ha,hl⟩,x⟩ a.len d (by omega))<;>simp
       apply aC ihh<;>simp
       refine⟨by rw[aF,Ts.lift_len];omega,a.app (.cons hh hx .nil),r,by simp[Ts.len],by rw[Ts.app_assoc];exact hq,?_⟩
       apply aK [((55,0),[(55,0)])]<;>simp[Ts.len,Ts.app_len,AV.ok,Dc.ok,hw,hne]
    ·rw[if_neg λ h=>c3 h.2.2] at hN2
     have hN3:hn=N:=by injection hN2
     subst hN3
     simp[c2,w1 c2,c3]
     refine lp (α:={ q:Ts×Ts // q.1.app q.2=x }) (λ q=>qE n f d ⟨1,hn,ha,hl⟩ x q.1.1) (λ q=>q.1.2.len) ⟨(.nil,x),rfl⟩ ?_ ?_
     ·apply aK [((55,0),[(55,0)])]<;>simp[Ts.lift,Ts.len,AV.ok,Dc.ok]
     ·rintro⟨⟨a,r⟩,hq⟩
      simp only at hq
      cases r with
      | nil =>
       have e:a=x:=by rw[<-hq];exact (Ts.app_nil a).symm
       subst e
       simp[qE,aF,dx]
       apply aC (IP ⟨1,hn,ha,hl⟩ a (a.lift n f 1 0 d) hll)<;>simp[Ds.app_nil]
       exact⟨[],by simp⟩
      | cons hh hx r =>
       have h1:a.len<x.len:=by rw[<-hq];simp[Ts.app_len,Ts.len]
       have h2:(tDs ty x).dp (a.len*5)=tDs ty (.cons hh hx r):=by rw[<-hq,bG,<-aF ty];exact EN _ _
       have h3:hh.fits/\hx.fits:=rM (a:=a) (by rw[hq];exact hf.2)
       have h4:aH hh.l+hx.size+1<=x.size:=by rw[<-hq];exact qR
       have hw:=wr1 (k:=a.len) (by omega)
       have hdp:aX 1 a.len d<=d+1:=by unfold aX;split<;>omega
       have hne:tDs ty ((a.app (.cons hh hx .nil)).lift n f 1 0 d)=(tDs ty (a.lift n f 1 0 d)).app (tDs ty (nA n f (aX 1 a.len d) ⟨hh,hx⟩).ts):=by
        rw[Ts.lift_app,bG,Nat.zero_add];rfl
       have hsz2:(⟨hh,hx⟩:Tm).size+1<=x.size:=h4
       have ihh:=ih ⟨hh,hx⟩ (aX 1 a.len d) (by omega) h3 (by omega)
       generalize nA n f (aX 1 a.len d) ⟨hh,hx⟩=P at *
       simp[qE,aF,dx,h1,h2]
       refine⟨by kernel_rfl,by omega,?_⟩
       apply aC (DR ⟨⟨1,hn,ha,hl⟩,x⟩ a.len d (by omega))<;>simp
       apply aC ihh<;>simp
       refine⟨by rw[aF,Ts.lift_len];omega,a.app (.cons hh hx .nil),r,by simp[Ts.len],by rw[Ts.app_assoc];exact hq,?_⟩
       apply aK [((55,0),[(55,0)])]<;>simp[Ts.len,Ts.app_len,AV.ok,Dc.ok,hw,hne]
   ·rw[if_neg λ h=>c2 h.2.1] at hN2
    have hN3:hn=N:=by injection hN2
    subst hN3
    simp[c2]
    refine lp (α:={ q:Ts×Ts // q.1.app q.2=x }) (λ q=>qE n f d ⟨1,hn,ha,hl⟩ x q.1.1) (λ q=>q.1.2.len) ⟨(.nil,x),rfl⟩ ?_ ?_
    ·apply aK [((55,0),[(55,0)])]<;>simp[Ts.lift,Ts.len,AV.ok,Dc.ok]
    ·rintro⟨⟨a,r⟩,hq⟩
     simp only at hq
     cases r with
     | nil =>
      have e:a=x:=by rw[<-hq];exact (Ts.app_nil a).symm
      subst e
      simp[qE,aF,dx]
      apply aC (IP ⟨1,hn,ha,hl⟩ a (a.lift n f 1 0 d) hll)<;>simp[Ds.app_nil]
      exact⟨[],by simp⟩
     | cons hh hx r =>
      have h1:a.len<x.len:=by rw[<-hq];simp[Ts.app_len,Ts.len]
      have h2:(tDs ty x).dp (a.len*5)=tDs ty (.cons hh hx r):=by rw[<-hq,bG,<-aF ty];exact EN _ _
      have h3:hh.fits/\hx.fits:=rM (a:=a) (by rw[hq];exact hf.2)
      have h4:aH hh.l+hx.size+1<=x.size:=by rw[<-hq];exact qR
      have hw:=wr1 (k:=a.len) (by omega)
      have hdp:aX 1 a.len d<=d+1:=by unfold aX;split<;>omega
      have hne:tDs ty ((a.app (.cons hh hx .nil)).lift n f 1 0 d)=(tDs ty (a.lift n f 1 0 d)).app (tDs ty (nA n f (aX 1 a.len d) ⟨hh,hx⟩).ts):=by
       rw[Ts.lift_app,bG,Nat.zero_add];rfl
      have hsz2:(⟨hh,hx⟩:Tm).size+1<=x.size:=h4
      have ihh:=ih ⟨hh,hx⟩ (aX 1 a.len d) (by omega) h3 (by omega)
      generalize nA n f (aX 1 a.len d) ⟨hh,hx⟩=P at *
      simp[qE,aF,dx,h1,h2]
      refine⟨by kernel_rfl,by omega,?_⟩
      apply aC (DR ⟨⟨1,hn,ha,hl⟩,x⟩ a.len d (by omega))<;>simp
      apply aC ihh<;>simp
      refine⟨by rw[aF,Ts.lift_len];omega,a.app (.cons hh hx .nil),r,by simp[Ts.len],by rw[Ts.app_assoc];exact hq,?_⟩
      apply aK [((55,0),[(55,0)])]<;>simp[Ts.len,Ts.app_len,AV.ok,Dc.ok,hw,hne]
  ·rw[if_neg λ h=>c1 h.1] at hN2
   have hN3:hn=N:=by injection hN2
   subst hN3
   simp[c1]
   refine lp (α:={ q:Ts×Ts // q.1.app q.2=x }) (λ q=>qE n f d ⟨hk,hn,ha,hl⟩ x q.1.1) (λ q=>q.1.2.len) ⟨(.nil,x),rfl⟩ ?_ ?_
   ·apply aK [((55,0),[(55,0)])]<;>simp[Ts.lift,Ts.len,AV.ok,Dc.ok]
   ·rintro⟨⟨a,r⟩,hq⟩
    simp only at hq
    cases r with
    | nil =>
     have e:a=x:=by rw[<-hq];exact (Ts.app_nil a).symm
     subst e
     simp[qE,aF,dx]
     apply aC (IP ⟨hk,hn,ha,hl⟩ a (a.lift n f hk 0 d) hll)<;>simp[Ds.app_nil]
     exact⟨[],by simp⟩
    | cons hh hx r =>
     have h1:a.len<x.len:=by rw[<-hq];simp[Ts.app_len,Ts.len]
     have h2:(tDs ty x).dp (a.len*5)=tDs ty (.cons hh hx r):=by rw[<-hq,bG,<-aF ty];exact EN _ _
     have h3:hh.fits/\hx.fits:=rM (a:=a) (by rw[hq];exact hf.2)
     have h4:aH hh.l+hx.size+1<=x.size:=by rw[<-hq];exact qR
     have hw:=wr1 (k:=a.len) (by omega)
     have hdp:aX hk a.len d<=d+1:=by unfold aX;split<;>omega
     have hne:tDs ty ((a.app (.cons hh hx .nil)).lift n f hk 0 d)=(tDs ty (a.lift n f hk 0 d)).app (tDs ty (nA n f (aX hk a.len d) ⟨hh,hx⟩).ts):=by
      rw[Ts.lift_app,bG,Nat.zero_add];rfl
     have hsz2:(⟨hh,hx⟩:Tm).size+1<=x.size:=h4
     have ihh:=ih ⟨hh,hx⟩ (aX hk a.len d) (by omega) h3 (by omega)
     generalize nA n f (aX hk a.len d) ⟨hh,hx⟩=P at *
     simp[qE,aF,dx,h1,h2]
     refine⟨by kernel_rfl,by omega,?_⟩
     apply aC (DR ⟨⟨hk,hn,ha,hl⟩,x⟩ a.len d (by omega))<;>simp
     apply aC ihh<;>simp
     refine⟨by rw[aF,Ts.lift_len];omega,a.app (.cons hh hx .nil),r,by simp[Ts.len],by rw[Ts.app_assoc];exact hq,?_⟩
     apply aK [((55,0),[(55,0)])]<;>simp[Ts.len,Ts.app_len,AV.ok,Dc.ok,hw,hne]
theorem h63(t:Tm)(n f:Int)(hf:t.fits)(hs:t.size<=200000000):HH 162 [tmL t,iA n,iA f] (tmL (t.lift n f)):=by
 have q:=q128 n f _ t 0 (Nat.lt_succ_self _) hf hs
 change HH 233 _ (tmL (t.lift n f)) at q
 refine ab0 func162 ntmps162 results162 ?_
 simp
 apply aC q<;>simp
 exact⟨[],by simp⟩
theorem rH(t:Tm)(hf:t.fits)(hs:t.size<=200000000):HH 162 [tmL t,iA 0,iA 0] (tmL t):=by
 have:=h63 t 0 0 hf hs
 rwa [Tm.lift0 hf] at this
end
section
attribute [local simp] ty_p ty_l ty_t kH tDs cB Tm.ts rN gI ac_skip ac_label ac_region ac_seq ac_cond ac_block ac_loop ac_exit ac_ret seqK_n seqK_r seqK_e vo_nil vo_cons blkK LC rU BZ jO jP oK ev jQ gF St.out Z5 oC upd eD wV K0 asC rO mI yF oJ xE uR tU tb Dc.tk Dc.dp Dc.over Dc.app Dc.ln Dc.ds Dc.sing Dc.cont AV.cont Ds.hd Value.oneCell' GA tO AB AV.imp Dc.imp φOf eR AV.isLL AV.list AV.app AV.arg AV.isL AV.ren Dc.ren Dc.lent tmC tmA tsA iA lo? abin AV.nth Dc.own Dc.toks
theorem g129(k:Int)(x:Ds):HH 93 [iA k,.c (.row none 5 27 x .nil)] (.agg (.lit (.int .i64 k) (.lit (.int .i64 0) (.lit (.int .i64 0) (.nilr 1 30 (.row none 5 27 x .nil)))))):=by
 refine ab0 func93 ntmps93 results93 ?_
 simp
 exact⟨[],by simp⟩
theorem g62(n:Int):HH 75 [iA n] (.agg (.lit (.int .i64 22) (.lit (.int .i64 n) (.lit (.int .i64 0) (.nilr 1 30 (.nilr 5 27 .nil)))))):=by
 refine ab0 func75 ntmps75 results75 ?_
 simp
 exact⟨[],by simp⟩
theorem g65(k n:Int):HH 85 [iA k,iA n] (.agg (.lit (.int .i64 23) (.lit (.int .i64 k) (.lit (.int .i64 n) (.nilr 1 30 (.nilr 5 27 .nil)))))):=by
 refine ab0 func85 ntmps85 results85 ?_
 simp
 exact⟨[],by simp⟩
theorem g66(k:Int)(t:Tm):HH 89 [iA k,tmL t] (tmL ⟨kH k,t.ts⟩):=by
 refine ab0 func89 ntmps89 results89 ?_
 simp
 apply aC (g129 k (tDs ty t.ts))<;>simp
 exact⟨[],by simp⟩
theorem g64(k:Int)(t u:Tm):HH 155 [iA k,tmL t,tmL u] (tmL ⟨kH k,.cons t.h t.x u.ts⟩):=by
 refine ab0 func155 ntmps155 results155 ?_
 simp
 apply aC (g129 k (tDs ty (.cons t.h t.x u.ts)))<;>simp
 exact⟨[],by simp⟩
theorem T8:∀(n:Nat) (t:Tm),(aQ n t).len=n
 | 0,_=>rfl
 | 1,_=>rfl
 | n+2,t=>by simp[aQ,Ts.len,T8 (n+1)]
theorem ST(k:Int)(t:Tm)(hk:0<=k/\k<=100)(h:t.fits):Tm.fits ⟨kH k,t.ts⟩ :=
 ⟨⟨⟨by show -9223372036854775808<=k;omega,by show k<=9223372036854775807;omega⟩,⟨by show (-9223372036854775808:Int)<=0;decide,by show (0:Int)<=9223372036854775807;decide⟩,⟨by show (-9223372036854775808:Int)<=0;decide,by show (0:Int)<=9223372036854775807;decide⟩,λ p hp=>by cases hp⟩,h.1,h.2,trivial⟩
theorem nD(k:Int)(t:Tm):Tm.size ⟨kH k,t.ts⟩=t.size+1:=by
 simp[Tm.size,Tm.ts,Ts.size,kH,aH];omega
theorem g21:∀(m:Nat) (n:Int) (t:Tm),n.toNat=m->t.fits->n<=1000000->t.size+n.toNat<=100000000->HH 207 [tmL t,iA n] (tsA none (aQ n.toNat t)):=by
 intro m
 induction m with
 | zero =>
  intro n t hm hf hn hs
  refine ab0 func207 ntmps207 results207 ?_
  rw[hm]
  simp[show n<1 by omega,aQ]
  exact⟨[],by simp⟩
 | succ m ih =>
  intro n t hm hf hn hs
  refine ab0 func207 ntmps207 results207 ?_
  by_cases h1:n=1
  ·subst h1
   simp
   apply aC (rH t hf (by omega))<;>simp
   exact⟨rfl,[],by simp⟩
  ·have hw:IntKind.i64.wrap (n-1)=n-1:=by rw[IntKind.wrap_i64];omega
   obtain⟨k,rfl⟩:∃k,m=k+1:=⟨m-1,by omega⟩
   have hk:(n-1).toNat=k+1:=by omega
   have hr:=ih (n-1) ⟨kH 15,t.ts⟩ (by omega) (ST 15 t (by decide) hf) (by omega) (by rw[nD];omega)
   rw[hk] at hr
   have hl:(tDs ty (aQ (k+1) ⟨kH 15,t.ts⟩)).len=(k+1)*5:=by rw[aF,T8]
   rw[hm]
   simp[h1,show ¬n<1 by omega]
   refine⟨by kernel_rfl,?_⟩
   apply aC (rH t hf (by omega))<;>simp
   apply aC (g66 14 t)<;>simp
   apply aC (rH t hf (by omega))<;>simp
   apply aC (g66 15 t)<;>simp
   apply aC hr<;>simp[hw]
   refine⟨?_,?_,[],by simp⟩
   ·exact (show 5+(tDs ty (aQ (k+1) ⟨kH 15,t.ts⟩)).len<=100000000000 by omega)
   ·rw[Ds.app_nil];rfl
end
section
attribute [local simp] ty_p ty_l ty_t kH tDs cB Tm.ts rN gI ac_skip ac_label ac_region ac_seq ac_cond ac_block ac_loop ac_exit ac_ret seqK_n seqK_r seqK_e vo_nil vo_cons blkK LC rU BZ jO jP oK ev jQ gF St.out Z5 oC upd eD wV K0 asC rO mI yF oJ xE uR tU tb Dc.tk Dc.dp Dc.over Dc.app Dc.ln Dc.ds Dc.sing Dc.cont AV.cont Ds.hd Value.oneCell' GA tO AB AV.imp Dc.imp φOf eR AV.isLL AV.list AV.app AV.arg AV.isL AV.ren Dc.ren Dc.lent tmC tmA tsA iA lo? abin AV.nth Dc.own Dc.toks bV pG JD τOf
attribute [local simp] AV.room FB Ds.len Ds.dp
theorem PT(x:Ds):Ds.tk x.len x=x:=by
 induction x with
 | nil=>rfl
 | lit v r ih=>simp only[Ds.len,Ds.tk,ih]
 | row sz e x s r _ _ ih=>simp only[Ds.len,Ds.tk,ih]
theorem PU(r:Ts):Ds.tk ((((tDs ty r).len+1+1+1+1+1) / 5-1)*5) (tDs ty r)=tDs ty r:=by
 have e:(((tDs ty r).len+1+1+1+1+1) / 5-1)*5=(tDs ty r).len:=by rw[aF];omega
 rw[e,PT]
theorem h17:∀(t:Ts),t.fits->t.size<=200000000->HH 205 [tsA none t] (tmL (tup t)):=by
 intro t
 induction t with
 | nil =>
  intro _ _
  refine ab0 func205 ntmps205 results205 ?_
  simp
  apply aC (g62 1)<;>simp[tup,mH,gI]
  exact⟨[],by simp⟩
 | cons h x r _ ih =>
  intro hf hs
  have hs1:1+aH h.l+x.size+r.size<=200000000:=by simpa[Ts.size] using hs
  have hl:=sO r
  have d0:(r.len*5+5) / 5=r.len+1:=by omega
  have q1:=rH ⟨h,x⟩ ⟨hf.1,hf.2.1⟩ (by unfold Tm.size;simp only;omega)
  refine ab0 func205 ntmps205 results205 ?_
  cases hr:r with
  | nil =>
   simp
   apply aC q1<;>simp[tup,mH]
   exact⟨[],by simp⟩
  | cons h2 x2 r2 =>
   rw[<-hr]
   have hrl:0<r.len:=by rw[hr];simp[Ts.len]
   have q2:=ih hf.2.2 (by omega)
   have q3:=g64 12 ⟨h,x⟩ (tup r)
   have e1:tup (.cons h x r)=⟨kH 12,.cons h x (tup r).ts⟩:=mO 12 (rN 1) h x r hrl
   rw[e1]
   clear e1 ih
   generalize tup r=R at *
   have m0:¬((r.len:Int)+1=0):=by omega
   have m1:¬((r.len:Int)+1=1):=by omega
   have n2:¬r.len=0:=by omega
   simp[aF,d0,m0,m1,n2]
   refine⟨by kernel_rfl,?_⟩
   apply aC q1<;>simp
   refine⟨by rw[aF];omega,?_⟩
   simp only[PU]
   apply aC q2<;>simp
   apply aC q3<;>simp
   exact⟨[],by simp⟩
theorem h18:∀(t:Ts),t.fits->t.size<=200000000->HH 211 [tsA none t] (tmL (kZ t)):=by
 intro t
 induction t with
 | nil =>
  intro _ _
  refine ab0 func211 ntmps211 results211 ?_
  simp
  apply aC (g65 0 1)<;>simp[kZ,mH,gI]
  exact⟨[],by simp⟩
 | cons h x r _ ih =>
  intro hf hs
  have hs1:1+aH h.l+x.size+r.size<=200000000:=by simpa[Ts.size] using hs
  have hl:=sO r
  have d0:(r.len*5+5) / 5=r.len+1:=by omega
  have q1:=rH ⟨h,x⟩ ⟨hf.1,hf.2.1⟩ (by unfold Tm.size;simp only;omega)
  refine ab0 func211 ntmps211 results211 ?_
  cases hr:r with
  | nil =>
   simp
   apply aC q1<;>simp[kZ,mH]
   exact⟨[],by simp⟩
  | cons h2 x2 r2 =>
   rw[<-hr]
   have hrl:0<r.len:=by rw[hr];simp[Ts.len]
   have q2:=ih hf.2.2 (by omega)
   have q3:=g64 13 ⟨h,x⟩ (kZ r)
   have e1:kZ (.cons h x r)=⟨kH 13,.cons h x (kZ r).ts⟩:=mO 13 (gI 0 1) h x r hrl
   rw[e1]
   clear e1 ih
   generalize kZ r=R at *
   have m0:¬((r.len:Int)+1=0):=by omega
   have m1:¬((r.len:Int)+1=1):=by omega
   have n2:¬r.len=0:=by omega
   simp[aF,d0,m0,m1,n2]
   refine⟨by kernel_rfl,?_⟩
   apply aC q1<;>simp
   refine⟨by rw[aF];omega,?_⟩
   simp only[PU]
   apply aC q2<;>simp
   apply aC q3<;>simp
   exact⟨[],by simp⟩
end
section
theorem rep_tm{F:Mem}{w:World}{t:Tm}{v:Value}(h:RepV (bJ F w) (tmL t) [v]):RMx F w.heap.size v t.h t.x:=by
 obtain⟨ys,e,h⟩:=h
 obtain⟨-,_,rfl,-,_,rfl,-,_,rfl,-,v1,_,rfl,h1,-,-,v2,_,rfl,h2,-,rfl⟩:=h
 cases e
 obtain⟨p,n,c,rfl,-⟩:=id h1
 obtain⟨p',n',c',rfl,-⟩:=id h2
 exact⟨p,n,c,p',n',c',rfl,h1,h2⟩
theorem k218(k:Int)(t:Ts)(b:Tm):HH 154 [.agg (.row none 5 27 (tDs ty t) .nil),iA k,tmL b] (tmL (aG k t b)):=by
 refine⟨bT func154 (by decide) rfl,rfl,λ F w vs hF hG hv=>?_⟩
 obtain⟨u,v,z,rfl,h1,h2,h3⟩:=xO hv
 rw[qG h2]
 obtain⟨ys,e1,-,v1,_,rfl,h4,-,rfl⟩:=h1
 cases e1
 have hb:=rep_tm h3
 obtain⟨p,n,c,p',n',c',rfl,-,-⟩:=id hb
 refine (OV k v1 t _ _ _ _ _ b w F hF h4 hb).mono ?_
 rintro e w' ⟨v,rfl,h5,h6⟩
 exact⟨v,λ _=>[],rfl,h5,FM h6,λ k b hb=>(by cases hb),λ k k' b hb=>(by cases hb)⟩
theorem kY(p:Lv):(bY p).good:=by
 induction p with
 | nil=>trivial
 | cons a r ih=>exact⟨rfl,rfl,ih⟩
theorem k202(p:Lv)(hn:p.length<=200000000):HH 140 [.c (.row none 2 68 (bY p) .nil)] (.c (.row none 2 68 (bY p) .nil)):=by
 refine⟨bT func140 (by decide) rfl,rfl,λ F w vs hF hG hv=>?_⟩
 obtain⟨u,rfl,h1⟩:=qF hv
 obtain⟨-,v1,_,e1,h4,-,-⟩:=h1
 cases e1
 refine (rR p u w (h4.mono (λ b o v _ hv=>hF b o v hv) (Nat.le_refl _)) hn).mono ?_
 rintro e w' ⟨v,S,rfl,h5,h6,h7⟩
 obtain⟨v',_,e2,h8,-⟩:=Vs.res (F:=F) (fp:=λ _=>[]) (Nat.le_refl _) h6
 cases e2
 exact⟨v,λ _=>[],rfl,h5,⟨kY p,v,[],rfl,h8,Gh.Ow_none,rfl⟩,λ k b hb=>(by cases hb),λ k k' b hb=>(by cases hb)⟩
theorem k16(t:Tm):HH 37 [tmL t,tmL t] (.v (.bool true)):=by
 refine⟨bT func37 (by decide) rfl,rfl,λ F w vs hF hG hv=>?_⟩
 obtain⟨u,v,rfl,h1,h2⟩:=oZ hv
 refine (kJ t.h t.x u v w (mQ hF h1) (mQ hF h2)).mono ?_
 rintro e w' ⟨rfl,h5⟩
 exact⟨_,λ _=>[],rfl,h5,rfl,λ k b hb=>(by cases hb),λ k k' b hb=>(by cases hb)⟩
def lvB(l:List Lv):Bool:=l.all λ p=>p.all λ q=>inB q.1 && inB q.2
def hdB(h:Hd):Bool:=inB h.k && (inB h.n && (inB h.a && lvB h.l))
theorem TE{h:Hd}(hb:hdB h=true):h.fits:=by
 simp only[hdB,Bool.and_eq_true] at hb
 refine⟨J5 hb.1,J5 hb.2.1,J5 hb.2.2.1,λ p hp q hq=>?_⟩
 have:=List.all_eq_true.1 (List.all_eq_true.1 hb.2.2.2 p hp) q hq
 simp only[Bool.and_eq_true] at this
 exact⟨J5 this.1,J5 this.2⟩
def CB:Ts->Bool
 | .nil=>true
 | .cons h x r=>hdB h && (CB x && CB r)
theorem zB:∀ {t:Ts},CB t=true->t.fits
 | .nil,_=>trivial
 | .cons h x r,hb=>by
  simp only[CB,Bool.and_eq_true] at hb
  exact⟨TE hb.1,zB hb.2.1,zB hb.2.2⟩
def PS(t:Tm):Bool:=(hdB t.h && CB t.x) && decide (t.size<=100000000)
theorem PR{t:Tm}(h:PS t=true):t.fits/\t.size<=100000000:=by
 simp only[PS,Bool.and_eq_true,decide_eq_true_eq] at h
 exact⟨⟨TE h.1.1,zB h.1.2⟩,h.2⟩
def LF(a:AV):Option AV:=match a with
 | .cons (.agg d) (.cons (.v (.int .i64 n)) (.cons (.v (.int .i64 f)) .nil))=>match tmB d with
  | some t=>if PS t then some (tmL (t.lift n f)) else none
  | none=>none
 | _=>none
theorem DH{a r:AV}(h:LF a=some r):Holds prog KA 147 a r/\Holds prog KA 162 a r:=by
 unfold LF at h
 split at h
 ·rename_i d n f
  split at h
  ·rename_i t ht
   split at h
   ·rename_i hf
    cases h
    obtain⟨h1,h2⟩:=PR hf
    rw[tmB_ok ht]
    exact⟨(h60 t n f h1 h2).frz,(h63 t n f h1 (by omega)).frz⟩
   ·cases h
  ·cases h
 ·cases h
def rG:Hand
 | 147=>some λ _=>LF
 | 162=>some λ _=>LF
 | _=>none
theorem hand_ok:∀call,(∀f a r,call f a=some r->Holds prog KA f a r)->∀f g,rG f=some g->∀a r,g call a=some r->Holds prog KA f a r:=by
 intro call hc f g hg a r h
 unfold rG at hg
 split at hg
 all_goals cases hg
 ·exact (DH h).1
 ·exact (DH h).2
theorem SF (f : Nat) (fn : Func) (h : prog.funcs[f]? = some fn) : fn.name ≠ "runtime.NumGoroutine" := by
 have : (prog.funcs.toList.all fun fn => fn.name != "runtime.NumGoroutine") = true := by kernel_rfl
 have:=List.all_eq_true.1 this fn (List.mem_of_getElem? (by simpa using h))
 simpa using this
theorem work(n:Nat){f:Nat}{a r:AV}(h:(DF prog tb rG n).1 f a=some r):Holds prog KA f a r:=(LB oE lQ mixed SF hand_ok n).1 f a r h
end
section
attribute [local simp] ty_p ty_l ty_t kH tDs cB Tm.ts rN gI ac_skip ac_label ac_region ac_seq ac_cond ac_block ac_loop ac_exit ac_ret seqK_n seqK_r seqK_e vo_nil vo_cons blkK LC rU BZ jO jP oK ev jQ gF St.out Z5 oC upd eD wV K0 asC rO mI yF oJ xE uR tU tb Dc.tk Dc.dp Dc.over Dc.app Dc.ln Dc.ds Dc.sing Dc.cont AV.cont Ds.hd Value.oneCell' GA tO AB AV.imp Dc.imp φOf eR AV.isLL AV.list AV.app AV.arg AV.isL AV.ren Dc.ren Dc.lent tmC tmA tsA iA lo? abin AV.nth Dc.own Dc.toks bV pG JD τOf
def st19(b:Ts)(p x:Tm)(a:Ts):St:=bV [(1,tsA none b),(5,.bx 6 0),(6,.bx 7 0),(7,.c (.blk 12 (a.len+1) 5 27 (.seg none (tDs ty (.cons p.h p.x a)) .nil) .nil)),(8,iA a.len)] [(6,27,tmC none none x.h x.x),(7,27,.lit (.int .i64 0) (.lit (.int .i64 0) (.lit (.int .i64 0) (.nilr 1 30 (.nilr 5 27 .nil)))))] [(12,a.len+1)]
theorem g19(p:Tm)(b:Ts)(x:Tm)(hp:p.fits)(hb:b.fits)(hx:x.fits)(hs:p.size+b.size+x.size<=100000000)(hl:b.len<=100000000):HH 88 [tmL p,tsA none b,tmL x] (tmL (jN p b x)):=by
 refine ab0 func88 ntmps88 results88 ?_
 simp
 apply aC (rH p hp (by omega))<;>simp
 refine lp (α:={ q:Ts×Ts // q.1.app q.2=b }) (λ q=>st19 b p x q.1.1) (λ q=>q.1.2.len) ⟨(.nil,b),rfl⟩ ?_ ?_
 ·apply aK [((12,0),[(12,0)])]<;>simp[Ts.len,AV.ok,Dc.ok]
 ·rintro⟨⟨a,r⟩,hq⟩
  cases r with
  | nil =>
   have e:a=b:=by rw[<-hq];exact (Ts.app_nil a).symm
   subst e
   simp[st19,aF]
   apply aC (rH x hx (by omega))<;>simp
   refine⟨?_,⟨rfl,rfl,rfl,rfl,(bG ty (.cons p.h p.x a) x.ts).symm⟩,[],by simp⟩
   exact (show (tDs ty (.cons p.h p.x a)).len<=99999999995 by rw[aF];show (a.len+1)*5<=_;omega)
  | cons h y r =>
   have h1:a.len<b.len:=by rw[<-hq];simp[Ts.app_len,Ts.len]
   have h2:(tDs ty b).dp (a.len*5)=tDs ty (.cons h y r):=by rw[<-hq];exact fH a _
   have h3:h.fits/\y.fits:=dS (a:=a) (by rw[hq];exact hb)
   have h4:aH h.l+y.size+1<=b.size:=by rw[<-hq];exact app_size
   simp[st19,aF,h1,h2]
   refine⟨by omega,?_⟩
   apply aC (rH ⟨h,y⟩ h3 (by show aH h.l+y.size<=200000000;omega))<;>simp
   refine⟨?_,a.app (.cons h y .nil),r,by simp[Ts.len],by rw[Ts.app_assoc];exact hq,?_⟩
   ·exact (show (tDs ty (.cons p.h p.x a)).len<=99999999995 by rw[aF];show (a.len+1)*5<=_;omega)
   ·have hw:=wr1 (k:=a.len) (by omega)
    apply aK [((12,0),[(12,0)])]<;>simp[Ts.len,Ts.app_len,AV.ok,Dc.ok,hw]
    exact (bG ty (.cons p.h p.x a) (.cons h y .nil)).symm
end
section
attribute [local simp] ty_p ty_l ty_t kH tDs cB Tm.ts rN gI ac_skip ac_label ac_region ac_seq ac_cond ac_block ac_loop ac_exit ac_ret seqK_n seqK_r seqK_e vo_nil vo_cons blkK LC rU BZ jO jP oK ev jQ gF St.out Z5 oC upd eD wV K0 asC rO mI yF oJ xE uR tU tb Dc.tk Dc.dp Dc.over Dc.app Dc.ln Dc.ds Dc.sing Dc.cont AV.cont Ds.hd Value.oneCell' GA tO AB AV.imp Dc.imp φOf eR AV.isLL AV.list AV.app AV.arg AV.isL AV.ren Dc.ren Dc.lent tmC tmA tsA iA lo? abin AV.nth Dc.own Dc.toks
theorem g59(k:Int)(x:Ts)(hk:0<=k/\k<=100)(hf:x.fits)(hs:x.size<=100000000):HH 141 [iA k,tsA none x] (tmO ⟨kH k,x⟩):=by
 refine ab0 func141 ntmps141 results141 ?_
 simp
 apply aC (NQ ⟨kH k,x⟩ ⟨iR hk,hf⟩ (by show aH []+x.size<=100000000;simp[aH];exact hs))<;>simp
 exact⟨[((0,0),[(9,0)]),((0,1),[(9,1)])],by simp⟩
theorem g92(n:Int):HH 143 [iA n] (.agg (.lit (.int .i64 1) (.lit (.int .i64 n) (.lit (.int .i64 0) (.nilr 1 30 (.nilr 5 27 .nil)))))):=by
 refine ab0 func143 ntmps143 results143 ?_
 simp
 exact⟨[],by simp⟩
theorem g57(n:Int):HH 142 [iA n] (.agg (.lit (.int .i64 22) (.lit (.int .i64 n) (.lit (.int .i64 0) (.nilr 1 30 (.nilr 5 27 .nil)))))):=by
 refine ab0 func142 ntmps142 results142 ?_
 simp
 exact⟨[],by simp⟩
theorem g58(k n:Int):HH 265 [iA k,iA n] (.agg (.lit (.int .i64 23) (.lit (.int .i64 k) (.lit (.int .i64 n) (.nilr 1 30 (.nilr 5 27 .nil)))))):=by
 refine ab0 func265 ntmps265 results265 ?_
 simp
 exact⟨[],by simp⟩
theorem iJ:∀(a b:Ts),(a.app b).size=a.size+b.size
 | .nil,b=>by simp[Ts.app,Ts.size]
 | .cons h x a,b=>by simp only[Ts.app,Ts.size,iJ a b];omega
theorem kL:∀ {a b:Ts},a.fits->b.fits->(a.app b).fits
 | .nil,_,_,h=>h
 | .cons _ _ _,_,h,k=>⟨h.1,h.2.1,kL h.2.2 k⟩
theorem g14(p:Tm)(b:Ts)(x:Tm)(hp:p.fits)(hb:b.fits)(hx:x.fits)(hs:p.size+b.size+x.size<=90000000)(hl:b.len<=90000000):HH 67 [tmL p,tsA none b,tmL x] (tmO (jN p b x)):=by
 refine ab0 func67 ntmps67 results67 ?_
 simp
 refine⟨by kernel_rfl,by rw[aF];omega,by rw[aF];omega,?_⟩
 have hx':x.ts.size=x.size+1:=by simp only[Tm.ts,Ts.size,Tm.size];omega
 have hA:=bG ty b x.ts
 apply aC (g59 24 (.cons p.h p.x (b.app x.ts)) (by decide) ⟨hp.1,hp.2,kL hb ⟨hx.1,hx.2,trivial⟩⟩ (by simp only[Ts.size,iJ];unfold Tm.size at hs hx';omega))<;>simp
 ·exact .inl hA.symm
 ·rw[aF]
  simp
  exact⟨[((0,0),[(16,0)]),((0,1),[(16,1)])],⟨rfl,rfl,rfl,⟨rfl,by simp⟩,rfl,by simp⟩,by simp⟩
end
section
theorem zD{w:World}{t:Tm}{v:Value}(h:RM ty w v t.h t.x):RepV (bJ (U w) w) (tmL t) [v]:=FM (g:=bJ (U w) w) h
theorem ts_arg{w:World}{t:Ts}{v:Value}(h:RT ty w v t):RepV (bJ (U w) w) (tsA none t) [v]:=⟨cY t,v,[],rfl,h,Gh.Ow_none,rfl⟩
theorem TD{w:World}(n:Int):RepV (bJ (U w) w) (iA n) [.int .i64 n]:=rfl
theorem arg1{g:Gh}{a:AV}{u:Value}(h:RepV g a [u]):RepV g (.list [a]) [u]:=⟨u,[],rfl,h,rfl⟩
theorem RB{w w':World}(hb:Below w.heap.size w w'){b o:Nat}{u:Value}(h:(if b<w.heap.size then U w b o else U w' b o)=some u):U w' b o=some u:=by
 split at h
 ·rename_i hlt;exact aE hb _ _ _ hlt h
 ·exact h
theorem HH.val{f:Nat}{ps:List AV}{x:Value}(h:HH f ps (.v x)){w:World}{vs:List Value}(hG:KA w)(hv:RepV (bJ (U w) w) (.list ps) vs):Calls prog f vs.toArray w λ e w'=>e=.returned x/\Below w.heap.size w w' :=
 (h.2.2 (U w) w vs (λ _ _ _ h=>h) hG hv).mono λ e w' ⟨v,fp,h1,h2,h3,_⟩=>by
  have e2:v=x:=by simpa[RepV] using h3
  subst e2
  exact⟨h1,h2⟩
theorem HH.lent{f:Nat}{ps:List AV}{t:Tm}(h:HH f ps (tmL t)){w:World}{vs:List Value}(hG:KA w)(hv:RepV (bJ (U w) w) (.list ps) vs):Calls prog f vs.toArray w λ e w'=>∃v,e=.returned v/\Below w.heap.size w w'/\RM ty w' v t.h t.x :=
 (h.2.2 (U w) w vs (λ _ _ _ h=>h) hG hv).mono λ e w' ⟨v,fp,h1,h2,h3,_⟩=>by
  refine⟨v,h1,h2,?_⟩
  obtain⟨ys,e,h⟩:=h3
  obtain⟨-,_,rfl,-,_,rfl,-,_,rfl,-,v1,_,rfl,h4,-,-,v2,_,rfl,h5,-,rfl⟩:=h
  cases e
  obtain⟨p,n,c,rfl,-⟩:=id h4
  obtain⟨p',n',c',rfl,-⟩:=id h5
  exact⟨p,n,c,p',n',c',rfl,h4.mono (λ b o v _ hu=>RB h2 hu) (Nat.le_refl _),h5.mono (λ b o v _ hu=>RB h2 hu) (Nat.le_refl _)⟩
theorem HH.row{f:Nat}{ps:List AV}{t:Ts}(h:HH f ps (tsA none t)){w:World}{vs:List Value}(hG:KA w)(hv:RepV (bJ (U w) w) (.list ps) vs):Calls prog f vs.toArray w λ e w'=>∃v,e=.returned v/\Below w.heap.size w w'/\RT ty w' v t :=
 (h.2.2 (U w) w vs (λ _ _ _ h=>h) hG hv).mono λ e w' ⟨v,fp,h1,h2,h3,_⟩=>by
  obtain⟨-,v1,_,e,h4,-,-⟩:=h3
  cases e
  exact⟨v,h1,h2,h4.mono (λ b o v _ hu=>RB h2 hu) (Nat.le_refl _)⟩
theorem HH.made{f:Nat}{ps:List AV}{t:Tm}(h:HH f ps (tmO t)){w:World}{vs:List Value}(hG:KA w)(hv:RepV (bJ (U w) w) (.list ps) vs):Calls prog f vs.toArray w (MakesT t.h t.x w):=J6 h hG hv
end
section
def pA(t:Ts):AV:=.c (.seg none (.row 5 27 (cJ ty t) (tDs ty (cH 1 12)) .nil) .nil)
def uZ(t:Tm):Dc:=.lit (.int .i64 t.h.k) (.lit (.int .i64 t.h.n) (.lit (.int .i64 t.h.a) (.seg none (.row 1 30 (cO ty t.h.l) (cB ty (dJ 1 12)) .nil) (.seg none (.row 5 27 (cJ ty t.x) (tDs ty (cH 1 12)) .nil) .nil))))
def rC(t:Tm):AV:=.agg (uZ t)
theorem xR(l:List Lv):(cO ty l).good:=by
 induction l with
 | nil=>trivial
 | cons p r ih=>exact⟨kY p,kY _,ih⟩
theorem F9(t:Ts):(cJ ty t).good:=by
 induction t with
 | nil=>trivial
 | cons h x r ihx ih=>exact⟨rfl,rfl,rfl,xR _,eU _,ihx,cY _,ih⟩
theorem k7(t:Ts)(hs:t.size<=200000000):HH 31 [tsA none t,iA 300] (iA (t.cnt 300 0)):=by
 refine⟨bT func31 (by decide) rfl,rfl,λ F w vs hF hG hv=>?_⟩
 obtain⟨u,v,rfl,h1,h2⟩:=oZ hv
 rw[qG h2]
 refine (xG _ t u 300 w (Nat.lt_succ_self _) (oD hF h1) hs (by decide) (by decide)).mono ?_
 rintro e w' ⟨rfl,h5⟩
 exact⟨_,λ _=>[],rfl,h5,rfl,λ k b hb=>(by cases hb),λ k k' b hb=>(by cases hb)⟩
theorem k8(t:Tm)(hs:t.size<=200000000):HH 19 [tmL t,iA 300] (iA (1+cS t.h.l 300 0+t.x.cnt 300 0)):=by
 refine⟨bT func19 (by decide) rfl,rfl,λ F w vs hF hG hv=>?_⟩
 obtain⟨u,v,rfl,h1,h2⟩:=oZ hv
 rw[qG h2]
 refine (FN t.h t.x u 300 w (mQ hF h1) hs (by decide) (by decide)).mono ?_
 rintro e w' ⟨rfl,h5⟩
 exact⟨_,λ _=>[],rfl,h5,rfl,λ k b hb=>(by cases hb),λ k k' b hb=>(by cases hb)⟩
theorem k10(t:Ts)(hs:t.size<=200000000):HH 40 [tsA none t] (pA t):=by
 refine⟨bT func40 (by decide) rfl,rfl,λ F w vs hF hG hv=>?_⟩
 obtain⟨u,rfl,h1⟩:=qF hv
 refine (tQ _ t u w (Nat.lt_succ_self _) (oD hF h1) hs).mono ?_
 rintro e w' ⟨v,S,rfl,h5,h6,h7⟩
 exact⟨v,λ _=>[],rfl,h5,⟨⟨F9 t,cY _,trivial⟩,[v],[],rfl,Vs.res (F:=F) (fp:=λ _=>[]) (Nat.le_refl _) h6,Gh.Ow_none,rfl⟩,λ k b hb=>(by cases hb),λ k k' b hb=>(by cases hb)⟩
theorem k11(t:Tm)(hs:t.size<=200000000):HH 21 [tmL t] (rC t):=by
 refine⟨bT func21 (by decide) rfl,rfl,λ F w vs hF hG hv=>?_⟩
 obtain⟨u,rfl,h1⟩:=qF hv
 refine (AK t.h t.x u w (mQ hF h1) hs).mono ?_
 rintro e w' ⟨xs,S,rfl,h5,h6,h7⟩
 obtain⟨_,rfl,_,rfl,_,rfl,v1,_,rfl,h8,v2,_,rfl,h9,rfl⟩:=Vs.res (F:=F) (fp:=λ _=>[]) (Nat.le_refl _) h6
 exact⟨_,λ _=>[],rfl,h5,⟨_,rfl,rfl,_,rfl,rfl,_,rfl,rfl,_,rfl,⟨xR _,eU _,trivial⟩,[v1],[v2],rfl,⟨v1,[],rfl,h8,rfl⟩,Gh.Ow_none,⟨F9 _,cY _,trivial⟩,[v2],[],rfl,⟨v2,[],rfl,h9,rfl⟩,Gh.Ow_none,rfl⟩,λ k b hb=>(by cases hb),λ k k' b hb=>(by cases hb)⟩
theorem k20(t:Ts):HH 123 [tsA none t,tsA none t] (.v (.bool true)):=by
 refine⟨bT func123 (by decide) rfl,rfl,λ F w vs hF hG hv=>?_⟩
 obtain⟨u,v,rfl,h1,h2⟩:=oZ hv
 refine (tN _ t u v w (Nat.lt_succ_self _) (oD hF h1) (oD hF h2)).mono ?_
 rintro e w' ⟨rfl,h5⟩
 exact⟨_,λ _=>[],rfl,h5,rfl,λ k b hb=>(by cases hb),λ k k' b hb=>(by cases hb)⟩
end
section
structure Ag where
 r:Bool
 t:Tm
 e:Ts
 m:Int
 i:Ts
structure Rl where
 m:Int
 g:List Ag
 i:Ts
def cA:List Ag->Ds
 | []=>.nil
 | a :: r=>.lit (.bool a.r) (.lit (.int .i64 a.t.h.k) (.lit (.int .i64 a.t.h.n) (.lit (.int .i64 a.t.h.a) (.row 1 30 (cB ty a.t.h.l) .nil (.row 5 27 (tDs ty a.t.x) .nil (.row 5 27 (tDs ty a.e) .nil (.lit (.int .i64 a.m) (.row 5 27 (tDs ty a.i) .nil (cA r)))))))))
def dN:List Ag->Ds
 | []=>.nil
 | a :: r=>.lit (.bool a.r) (.lit (.int .i64 a.t.h.k) (.lit (.int .i64 a.t.h.n) (.lit (.int .i64 a.t.h.a) (.row 1 30 (cO ty a.t.h.l) (cB ty (dJ 1 12)) (.row 5 27 (cJ ty a.t.x) (tDs ty (cH 1 12)) (.row 5 27 (cJ ty a.e) (tDs ty (cH 1 12)) (.lit (.int .i64 a.m) (.row 5 27 (cJ ty a.i) (tDs ty (cH 1 12)) (dN r)))))))))
theorem aU(l:List Ag):(cA l).len=l.length*9:=by
 induction l with
 | nil=>rfl
 | cons a r ih=>simp[cA,Ds.len,ih];omega
theorem iX(l:List Ag):(dN l).len=l.length*9:=by
 induction l with
 | nil=>rfl
 | cons a r ih=>simp[dN,Ds.len,ih];omega
theorem pL(p q:List Ag):cA (p++q)=(cA p).app (cA q):=by
 induction p with
 | nil=>rfl
 | cons a r ih=>simp[cA,Ds.app,ih]
theorem G9(p q:List Ag):dN (p++q)=(dN p).app (dN q):=by
 induction p with
 | nil=>rfl
 | cons a r ih=>simp[dN,Ds.app,ih]
theorem OU(l:List Ag):(cA l).good:=by
 induction l with
 | nil=>trivial
 | cons a r ih=>exact⟨rfl,rfl,rfl,rfl,eU _,trivial,cY _,trivial,cY _,trivial,rfl,cY _,trivial,ih⟩
theorem mG(l:List Ag):(dN l).strip=cA l:=by
 induction l with
 | nil=>rfl
 | cons a r ih=>simp[dN,cA,Ds.strip,ih,dP,cW,ty]
def rA(k i:Nat):Ag:=⟨false,⟨⟨0,0,0,[]⟩,.nil⟩,.nil,jG k i,.nil⟩
def cU(k n:Nat):List Ag:=(List.range n).map (rA k)
theorem BS(k n:Nat):cU k (n+1)=cU k n++[rA k n]:=by simp[cU,List.range_succ]
theorem lY(k n:Nat):(cU k n).length=n:=by simp[cU]
def dI(l:List Ag):Nat:=(l.map λ a=>1+a.t.size+a.e.size+a.i.size).sum
def agC(a:Ag):Dc:=.lit (.bool a.r) (.lit (.int .i64 a.t.h.k) (.lit (.int .i64 a.t.h.n) (.lit (.int .i64 a.t.h.a) (.row none 1 30 (cB ty a.t.h.l) (.row none 5 27 (tDs ty a.t.x) (.row none 5 27 (tDs ty a.e) (.lit (.int .i64 a.m) (.row none 5 27 (tDs ty a.i) .nil))))))))
def agL(a:Ag):AV:=.agg (agC a)
def eF(l:List Ag):AV:=.c (.row none 9 73 (cA l) .nil)
def rlC(r:Rl):Dc:=.lit (.int .i64 r.m) (.row none 9 73 (cA r.g) (.row none 5 27 (tDs ty r.i) .nil))
def rlL(r:Rl):AV:=.agg (rlC r)
def vD(a:Ag):Dc:=.lit (.bool a.r) (.lit (.int .i64 a.t.h.k) (.lit (.int .i64 a.t.h.n) (.lit (.int .i64 a.t.h.a) (.seg none (.row 1 30 (cO ty a.t.h.l) (cB ty (dJ 1 12)) .nil) (.seg none (.row 5 27 (cJ ty a.t.x) (tDs ty (cH 1 12)) .nil) (.seg none (.row 5 27 (cJ ty a.e) (tDs ty (cH 1 12)) .nil) (.lit (.int .i64 a.m) (.seg none (.row 5 27 (cJ ty a.i) (tDs ty (cH 1 12)) .nil) .nil))))))))
end
section
def Box(w:World)(b:Nat)(T:Nat)(cs:Array Value):Prop:=w.heap[b]? = some (Obj.cells cs T (0,0))
theorem Box.on{w w':World}{b T:Nat}{cs:Array Value}(h:Box w b T cs)(hb:Below w.heap.size w w'):Box w' b T cs:=by
 unfold Box at *
 rw[hb.block b (bC h)];exact h
theorem RLent.plain{w:World}{v:Value}{h:Hd}{x:Ts}(hr:RLent w v h x):RM ty w v h x:=by
 obtain⟨q,n,c,r,m,d,rfl,h1,h2⟩:=hr
 refine⟨q,n,c,r,m,d,rfl,h1.lentLv_plain,?_⟩
 have:=h2.strip
 rw[dP] at this
 exact this
theorem lit5{g:Gh}{k j:Option Tk}{h:Hd}{x:Ts}{xs:List Value}(hr:RepC g (tmC k j h x) xs):∃q m d q' m' d',xs=[.int .i64 h.k,.int .i64 h.n,.int .i64 h.a,.slice q m d,.slice q' m' d']:=by
 obtain⟨-,_,rfl,-,_,rfl,-,_,rfl,-,v1,_,rfl,h1,-,-,v2,_,rfl,h2,-,rfl⟩:=hr
 obtain⟨p,n,c,rfl,-⟩:=id h1
 obtain⟨p',n',c',rfl,-⟩:=id h2
 exact⟨_,_,_,_,_,_,rfl⟩
theorem Box.cell{w:World}{b T:Nat}{cs:Array Value}(h:Box w b T cs){o:Nat}{v:Value}(hv:cs[o]? = some v):w.cell? ⟨b,o,none⟩=some v:=by
 have h':w.heap[b]? = _:=h
 simp[World.cell?,h',hv]
theorem Box.below{w w':World}{B b T:Nat}{cs:Array Value}(h:Box w b T cs)(hb:Below B w w')(hlt:b<B):Box w' b T cs:=by
 unfold Box at *
 rw[hb.block b hlt];exact h
theorem mM{w:World}{base sz e:Nat}{x:Ds}{v:Value}{S:List Nat}(h:Own w base (.row sz e x .nil .nil) [v] S):∃p n c,v=.slice p n c:=by
 obtain⟨_,_,ks,sp,B,T1,T2,T3,e,k1,-⟩:=h
 cases e
 rcases k1 with ⟨p,rfl,-⟩|⟨g,n',cap,cur,rfl,rfl,-⟩
 ·exact⟨_,_,_,rfl⟩
 ·exact⟨_,_,_,rfl⟩
theorem Y7{g:Gh}(hI:Inv g){k T:Nat}{d:Dc}(h:g.st.bx k=some (T,d)):∃xs,Box g.w (g.B k) T xs.toArray/\RepC g d xs:=by
 obtain⟨-,-,xs,h1,h2⟩:=hI.box k T d h
 exact⟨xs,h1,h2⟩
end
section
theorem aN(t:Tm):t.ts.size=1+t.size:=by simp only[Tm.ts,Ts.size,Tm.size];omega
theorem uG(k:Int)(z:Hd)(hz:z.l=[]):∀r:Ts,(mH k z r).ts.size<=2*r.size+1
 | .nil=>by simp[mH,Tm.ts,Ts.size,hz,aH]
 | .cons h x .nil=>by simp only[mH,Tm.ts,Ts.size];omega
 | .cons h x (.cons h' x' r)=>by
  have ih:=uG k z hz (.cons h' x' r)
  simp only[mH,Tm.ts,Ts.size,kH,aH] at ih ⊢
  omega
theorem PO(r:Ts):(tup r).ts.size<=2*r.size+1:=uG 12 (rN 1) rfl r
theorem sH(r:Ts):(kZ r).ts.size<=2*r.size+1:=uG 13 (gI 0 1) rfl r
theorem OF(p:Tm)(b:Ts)(x:Tm):(jN p b x).ts.size=3+p.size+b.size+x.size:=by
 have:=iJ b x.ts
 rw[aN] at this
 simp only[jN,Tm.ts,Ts.size,aH,Tm.size] at this ⊢
 omega
theorem pU:∀(n:Nat) (t:Tm),(aQ n t).size<=n*(t.size+n+3)
 | 0,t=>by simp[aQ,Ts.size]
 | 1,t=>by simp only[aQ,aN];omega
 | n+2,t=>by
  have ih:=pU (n+1) ⟨kH 15,t.ts⟩
  rw[nD] at ih
  obtain⟨z,hz⟩:∃z,(aQ (n+1) ⟨kH 15,t.ts⟩).size=z:=⟨_,rfl⟩
  rw[hz] at ih
  have e0:(aQ (n+2) t).size=1+0+(1+t.size)+z:=by
   rw[<-hz,<-aN];rfl
  rw[e0]
  have e1:t.size+1+(n+1)+3=t.size+(n+2)+3:=by omega
  rw[e1] at ih
  have e2:(n+2)*(t.size+(n+2)+3)=(n+1)*(t.size+(n+2)+3)+(t.size+(n+2)+3):=by rw[show n+2=(n+1)+1 by rfl,Nat.add_mul,Nat.one_mul]
  omega
def nF(t:Tm):Int:=1+cS t.h.l 300 0+t.x.cnt 300 0
theorem tF(t:Tm)(h:t.size<=200000000):0<=nF t/\nF t<=1000000000000:=by
 have h1:=t.x.cnt_le 300 0 (by decide) (by decide) (by decide)
 have h2:=t.x.cnt_ge 300 0 (by decide)
 have h3:=t.x.count_le_size
 have h4:=pX t.h.l 300 0 (by decide) (by decide)
 have h5:=gZ t.h.l 300 0 (by decide)
 unfold nF Tm.size at *
 omega
theorem tG(t:Tm):0<=nF t:=by
 have h2:=t.x.cnt_ge 300 0 (by decide)
 have h5:=gZ t.h.l 300 0 (by decide)
 unfold nF
 omega
theorem len_le_size(t:Ts):t.len<=t.size:=by
 induction t with
 | nil=>exact Nat.le_refl _
 | cons h x r _ ih=>simp only[Ts.len,Ts.size];omega
end
section
attribute [local simp] ty_p ty_l ty_t kH tDs cB Tm.ts rN gI ac_skip ac_label ac_region ac_seq ac_cond ac_block ac_loop ac_exit ac_ret seqK_n seqK_r seqK_e vo_nil vo_cons blkK LC rU BZ jO jP oK ev jQ gF St.out Z5 oC upd eD wV K0 asC rO mI yF oJ xE uR tU tb Dc.tk Dc.dp Dc.over Dc.app Dc.ln Dc.ds Dc.sing Dc.cont AV.cont Ds.hd Value.oneCell' GA tO AB AV.imp Dc.imp φOf eR AV.isLL AV.list AV.app AV.arg AV.isL AV.ren Dc.ren Dc.lent tmC tmA tsA iA lo? abin AV.nth Dc.own Dc.toks bV pG JD τOf
attribute [local simp] AV.room FB agC vD
theorem k120(i:Nat)(hi:i<=1000):HH 138 [iA 1,iA i] (iA (jG 1 i)):=by
 have w1:IntKind.i64.wrap 8=8:=by decide
 have w2:IntKind.i64.wrap 8000024=8000024:=by decide
 have w3:IntKind.i64.wrap (8000024+(i:Int))=8000024+i:=by rw[IntKind.wrap_i64];omega
 have w4:jG 1 i=8000024+i:=by unfold jG;omega
 refine ab0 func138 ntmps138 results138 ?_
 simp[w1,w2,w3,w4]
 exact⟨[],by simp⟩
theorem k191(i:Nat)(hi:i<=1000):HH 192 [iA 1,iA i] (.agg (.lit (.bool false) (.lit (.int .i64 0) (.lit (.int .i64 0) (.lit (.int .i64 0) (.nilr 1 30 (.nilr 5 27 (.nilr 5 27 (.lit (.int .i64 (jG 1 i)) (.nilr 5 27 .nil)))))))))):=by
 refine ab0 func192 ntmps192 results192 ?_
 simp
 apply aC (k120 i hi)<;>simp
 exact⟨[],by simp⟩
theorem k190(a:Ag)(h1:a.t.size<=200000000)(h2:a.e.size<=200000000)(h3:a.i.size<=200000000):HH 191 [agL a] (.agg (vD a)):=by
 refine ab0 func191 ntmps191 results191 ?_
 simp[agL]
 apply aC (k11 a.t h1)<;>simp[rC,uZ,Ds.len]
 apply aC (k10 a.e h2)<;>simp[pA,Ds.len]
 apply aC (k10 a.i h3)<;>simp[pA,Ds.len,Ds.app]
 exact⟨[],by simp⟩
theorem Ds.tk_app(x y:Ds):(x.app y).tk x.len=x:=by
 induction x with
 | nil=>cases y<;>rfl
 | lit v r ih=>simp[Ds.app,Ds.len,Ds.tk,ih]
 | row sz e x s r _ _ ih=>simp[Ds.app,Ds.len,Ds.tk,ih]
def tK(l:List Ag):AV:=.c (.seg none (.row 9 73 (dN l) (cA (cU 1 12)) .nil) .nil)
theorem sD{l:List Ag}{k:Nat}(h:k<l.length):l.take (k+1)=l.take k++[l[k]]:=(List.take_append_getElem h).symm
theorem lX{l:List Ag}{k:Nat}(h:k<l.length):(cA l).dp (k*9)=cA (l[k] :: l.drop (k+1)):=by
 have e:l=l.take k++(l[k] :: l.drop (k+1)):=by rw[<-List.drop_eq_getElem_cons h,List.take_append_drop]
 have h2:(cA (l.take k)).len=k*9:=by rw[aU,List.length_take];congr 1;omega
 conv=>lhs;rw[e,pL,<-h2,Ds.dp_app]
theorem qQ(l:List Ag):l.length<=dI l:=by
 induction l with
 | nil=>exact Nat.le_refl _
 | cons a r ih=>simp only[dI,List.map_cons,List.sum_cons,List.length_cons] at *;omega
theorem QA(a b:List Ag):dI (a++b)=dI a+dI b:=by simp[dI]
theorem mD{l:List Ag}{k:Nat}(h:k<l.length):1+l[k].t.size+l[k].e.size+l[k].i.size<=dI l:=by
 have e:l=l.take k++(l[k] :: l.drop (k+1)):=by rw[<-List.drop_eq_getElem_cons h,List.take_append_drop]
 have e2:dI l=dI (l.take k)+dI (l[k] :: l.drop (k+1)):=by rw[<-QA,<-e]
 rw[e2]
 have:dI (l[k] :: l.drop (k+1))=1+l[k].t.size+l[k].e.size+l[k].i.size+dI (l.drop (k+1)):=by
  simp only[dI,List.map_cons,List.sum_cons]
 omega
def QW(l:List Ag)(k:Nat):St:=bV [(0,eF l),(3,.c (.blk 11 (k+1) 9 73 (.seg none (dN (l.take k)) .nil) .nil)),(4,iA k)] [] [(11,k+1)]
def Y6(l:List Ag)(i:Nat):St:=bV [(0,eF l),(3,.c (.blk 11 (l.length+1+i) 9 73 (.seg none ((dN l).app (cA (cU 1 i))) .nil) .nil)),(6,iA i)] [] [(11,l.length+1+i)]
theorem k109(l:List Ag)(hs:dI l<=100000000):HH 105 [eF l] (tK l):=by
 have hl:l.length<=100000000:=Nat.le_trans (qQ l) hs
 refine ab0 func105 ntmps105 results105 ?_
 have w0:IntKind.i64.wrap ((l.length:Int)+12)=l.length+12:=by rw[IntKind.wrap_i64];omega
 have d0:l.length*9 / 9=l.length:=by omega
 simp[eF,aU,d0,w0]
 refine⟨by omega,?_⟩
 refine lp (α:={ k:Nat // k<=l.length }) (λ k=>QW l k.1) (λ k=>l.length-k.1) ⟨0,Nat.zero_le _⟩ ?_ ?_
 ·apply aK [((11,0),[(11,0)])]<;>simp[eF,dN,AV.ok,Dc.ok]
 ·rintro⟨k,hk⟩
  by_cases hlt:k<l.length
  ·have h1:=lX hlt
   have hsz:=mD hlt
   simp[QW,eF,aU,d0,hlt,h1,cA]
   refine⟨by omega,?_⟩
   apply aC (k190 l[k] (by omega) (by omega) (by omega))<;>simp[agL,Ds.len]
   have hw:=wr1 (k:=k) (by omega)
   refine⟨by rw[iX,List.length_take];omega,k+1,by omega,by omega,?_⟩
   apply aK [((11,0),[(11,0)])]<;>simp[eF,AV.ok,Dc.ok,hw,-List.take_append_getElem]
   rw[sD hlt,G9];rfl
  ·obtain rfl:k=l.length:=by omega
   simp[QW,eF,aU,d0]
   refine lp (α:={ i:Nat // i<=12 }) (λ i=>Y6 l i.1) (λ i=>12-i.1) ⟨0,Nat.zero_le _⟩ ?_ ?_
   ·apply aK [((11,0),[(11,0)])]<;>simp[Y6,eF,cU,cA,AV.ok,Dc.ok]
   ·rintro⟨i,hi⟩
    by_cases h12:i<12
    ·have h13:(i:Int)<12:=by omega
     simp[Y6,eF,aU,d0,h13]
     apply aC (k191 i (by omega))<;>simp[Ds.len]
     have hw:=wr1 (k:=i) (by omega)
     refine⟨by rw[Ds.app_len,iX,aU,lY];omega,i+1,by omega,by omega,?_⟩
     apply aK [((11,0),[(11,0)])]<;>simp[eF,AV.ok,Dc.ok,hw,Nat.add_assoc]
     rw[BS,pL,<-Ds.app_assoc];rfl
    ·obtain rfl:i=12:=by omega
     simp[Y6,eF,aU,d0]
     refine⟨by rw[Ds.app_nil,Ds.app_len,iX,Ds.len];omega,[],?_⟩
     simp[tK,Ds.app_nil]
     have e:=iX l
     refine⟨?_,?_⟩<;>rw[<-e]
     ·rw[Ds.tk_app]
     ·rw[Ds.dp_app]
end
section
attribute [local simp] ty_p ty_l ty_t kH tDs cB Tm.ts rN gI ac_skip ac_label ac_region ac_seq ac_cond ac_block ac_loop ac_exit ac_ret seqK_n seqK_r seqK_e vo_nil vo_cons blkK LC rU BZ jO jP oK ev jQ gF St.out Z5 oC upd eD wV K0 asC rO mI yF oJ xE uR tU tb Dc.tk Dc.dp Dc.over Dc.app Dc.ln Dc.ds Dc.sing Dc.cont AV.cont Ds.hd Value.oneCell' GA tO AB AV.imp Dc.imp φOf eR AV.isLL AV.list AV.app AV.arg AV.isL AV.ren Dc.ren Dc.lent tmC tmA tsA iA lo? abin AV.nth Dc.own Dc.toks bV pG JD τOf
attribute [local simp] AV.room FB agC vD Ds.len
def mF(r:Rl):Dc:=.lit (.int .i64 r.m) (.seg none (.row 9 73 (dN r.g) (cA (cU 1 12)) .nil) (.seg none (.row 5 27 (cJ ty r.i) (tDs ty (cH 1 12)) .nil) .nil))
theorem k36(r:Rl)(h1:dI r.g<=100000000)(h2:r.i.size<=200000000):HH 20 [rlL r] (.agg (mF r)):=by
 refine ab0 func20 ntmps20 results20 ?_
 simp[rlL,rlC]
 apply aC (k109 r.g h1)<;>simp[eF,tK]
 apply aC (k10 r.i h2)<;>simp[pA,mF,Ds.app]
 exact⟨[],by simp⟩
theorem OQ{F:Mem}{w:World}{t:Ts}{v:Value}(hF:∀b o v,F b o=some v->U w b o=some v)(h:RepV (bJ F w) (pA t) [v]):Rd (U w) w.heap.size v 5 (cJ ty t) (tDs ty (cH 1 12)):=by
 obtain⟨-,ys,zs,e,⟨v1,_,rfl,h1,rfl⟩,-,rfl⟩:=h
 cases e
 exact h1.mono (λ b o v _ hv=>hF b o v hv) (Nat.le_refl _)
theorem OP{F:Mem}{w:World}{t:Tm}{v:Value}(hF:∀b o v,F b o=some v->U w b o=some v)(h:RepV (bJ F w) (rC t) [v]):RLent w v t.h t.x:=by
 obtain⟨ys,e,h⟩:=h
 obtain⟨-,_,rfl,-,_,rfl,-,_,rfl,-,ys,_,rfl,⟨v1,_,rfl,h1,rfl⟩,-,-,zs,_,rfl,⟨v2,_,rfl,h2,rfl⟩,-,rfl⟩:=h
 cases e
 obtain⟨p,n,c,rfl,-⟩:=id h1
 obtain⟨p',n',c',rfl,-⟩:=id h2
 exact⟨p,n,c,p',n',c',rfl,h1.mono (λ b o v _ hv=>hF b o v hv) (Nat.le_refl _),h2.mono (λ b o v _ hv=>hF b o v hv) (Nat.le_refl _)⟩
theorem k22(t:Ts)(hs:t.size<=100000000):HH 97 [pA t,tsA none t] (.v (.bool true)):=by
 refine⟨bT func97 (by decide) rfl,rfl,λ F w vs hF hG hv=>?_⟩
 obtain⟨u,v,rfl,h1,h2⟩:=oZ hv
 refine (tS t u v w (OQ hF h1) (oD hF h2) (by omega)).mono ?_
 rintro e w' ⟨rfl,h5⟩
 exact⟨_,λ _=>[],rfl,h5,rfl,λ k b hb=>(by cases hb),λ k k' b hb=>(by cases hb)⟩
theorem k23(t:Tm)(hs:t.size<=100000000):HH 27 [rC t,tmL t] (.v (.bool true)):=by
 refine⟨bT func27 (by decide) rfl,rfl,λ F w vs hF hG hv=>?_⟩
 obtain⟨u,v,rfl,h1,h2⟩:=oZ hv
 refine (AO t.h t.x u v w (OP hF h1) (mQ hF h2) (by unfold Tm.size at hs;omega)).mono ?_
 rintro e w' ⟨rfl,h5⟩
 exact⟨_,λ _=>[],rfl,h5,rfl,λ k b hb=>(by cases hb),λ k k' b hb=>(by cases hb)⟩
theorem k199(a:Ag):HH 217 [agL a,agL a] (.v (.bool true)):=by
 refine ab0 func217 ntmps217 results217 ?_
 simp[agL]
 apply aC (k16 a.t)<;>simp
 apply aC (k20 a.e)<;>simp
 apply aC (k20 a.i)<;>simp
 exact⟨[],by simp⟩
theorem k198(a:Ag)(h1:a.t.size<=100000000)(h2:a.e.size<=100000000)(h3:a.i.size<=100000000):HH 216 [.agg (vD a),agL a] (.v (.bool true)):=by
 refine ab0 func216 ntmps216 results216 ?_
 simp[agL]
 apply aC (k199 a)<;>simp[agL]
 ·exact .inr (by simp[Ds.app,Ds.strip,dP,cW,ty])
 apply aC (k23 a.t h1)<;>simp[rC,uZ]
 apply aC (k22 a.e h2)<;>simp[pA]
 apply aC (k22 a.i h3)<;>simp[pA]
 exact⟨[],by simp⟩
def QO(l:List Ag)(k:Nat):St:=bV [(0,eF l),(1,eF l),(5,iA k)] [] []
theorem k188(l:List Ag)(hl:l.length<=100000000):HH 172 [eF l,eF l] (.v (.bool true)):=by
 refine ab0 func172 ntmps172 results172 ?_
 have d0:l.length*9 / 9=l.length:=by omega
 simp[eF,aU,d0]
 refine lp (α:={ k:Nat // k<=l.length }) (λ k=>QO l k.1) (λ k=>l.length-k.1) ⟨0,Nat.zero_le _⟩ ?_ ?_
 ·apply aK []<;>simp[eF,AV.ok,Dc.ok]
 ·rintro⟨k,hk⟩
  by_cases hlt:k<l.length
  ·have h1:=lX hlt
   simp[QO,eF,aU,d0,hlt,h1,cA]
   refine⟨by kernel_rfl,by omega,?_⟩
   apply aC (k199 l[k])<;>simp[agL]
   have hw:=wr1 (k:=k) (by omega)
   refine⟨k+1,by omega,by omega,?_⟩
   apply aK []<;>simp[AV.ok,Dc.ok,hw,Ds.app]
  ·obtain rfl:k=l.length:=by omega
   simp[QO,eF,aU,d0]
   exact⟨[],by simp⟩
theorem k107(r:Rl)(hl:r.g.length<=100000000):HH 101 [rlL r,rlL r] (.v (.bool true)):=by
 refine ab0 func101 ntmps101 results101 ?_
 simp[rlL,rlC]
 apply aC (k188 r.g hl)<;>simp[eF]
 apply aC (k20 r.i)<;>simp
 exact⟨[],by simp⟩
theorem NY{l:List Ag}{k:Nat}(h:k<l.length)(y:Ds):((dN l).app y).dp (k*9)=(dN (l[k] :: l.drop (k+1))).app y:=by
 have e:l=l.take k++(l[k] :: l.drop (k+1)):=by rw[<-List.drop_eq_getElem_cons h,List.take_append_drop]
 have h2:(dN (l.take k)).len=k*9:=by rw[iX,List.length_take];congr 1;omega
 conv=>lhs;rw[e,G9,Ds.app_assoc,<-h2,Ds.dp_app]
theorem hd_lent(a:Ag)(r:List Ag)(y:Ds):Ds.hd 9 ((dN (a :: r)).app y)=some (vD a):=rfl
theorem UA{l:List Ag}{n i:Nat}(h:i<n):((dN l).app (cA (cU 1 n))).dp ((l.length+i)*9)=cA (rA 1 i :: (cU 1 n).drop (i+1)):=by
 have h0:i<(cU 1 n).length:=by rw[lY];exact h
 have e:cU 1 n=(cU 1 n).take i++(rA 1 i :: (cU 1 n).drop (i+1)):=by
  have e2:(cU 1 n)[i]=rA 1 i:=by simp[cU]
  rw[<-e2,<-List.drop_eq_getElem_cons h0,List.take_append_drop]
 have h2:((dN l).app (cA ((cU 1 n).take i))).len=(l.length+i)*9:=by
  rw[Ds.app_len,iX,aU,List.length_take,lY]
  have:min i n=i:=by omega
  rw[this];omega
 conv=>lhs;rw[e,pL,<-Ds.app_assoc,<-h2,Ds.dp_app]
def KJ(l:List Ag)(X:Ds)(k:Nat):St:=bV [(1,eF l),(5,.c (.seg none (.row 9 73 X .nil .nil) .nil)),(6,iA k)] [] []
theorem k118(l:List Ag)(hs:dI l<=100000000):HH 118 [tK l,eF l] (.v (.bool true)):=by
 have hl:l.length<=100000000:=Nat.le_trans (qQ l) hs
 refine ab0 func118 ntmps118 results118 ?_
 have d0:l.length*9 / 9=l.length:=by omega
 have w0:IntKind.i64.wrap ((l.length:Int)+12)=l.length+12:=by rw[IntKind.wrap_i64];omega
 have e1:((l.length:Int)+12).toNat=l.length+12:=by omega
 have hL:((dN l).app (cA (cU 1 12))).len=(l.length+12)*9:=by rw[Ds.app_len,iX,aU,lY];omega
 have d1:((l.length+12)*9) / 9=l.length+12:=by omega
 simp[eF,tK,aU,iX,lY,d0,w0,e1]
 refine⟨⟨by omega,by omega⟩,?_⟩
 have t1:Ds.tk ((l.length+12)*9) ((dN l).app (cA (cU 1 12)))=(dN l).app (cA (cU 1 12)):=by
  rw[<-hL];have:=Ds.tk_app ((dN l).app (cA (cU 1 12))) .nil;rwa [Ds.app_nil] at this
 have t2:Ds.dp ((l.length+12)*9) ((dN l).app (cA (cU 1 12)))=.nil:=by
  rw[<-hL];have:=Ds.dp_app ((dN l).app (cA (cU 1 12))) .nil;rwa [Ds.app_nil] at this
 rw[t1,t2]
 have m1:∀k (h:k<l.length),∃y,Ds.dp (k*9) ((dN l).app (cA (cU 1 12)))=(dN (l[k] :: l.drop (k+1))).app y:=λ k h=>⟨_,NY h _⟩
 have m2:∀j,j<12->∃r,Ds.dp ((l.length+j)*9) ((dN l).app (cA (cU 1 12)))=cA (rA 1 j :: r):=λ j h=>⟨_,UA h⟩
 generalize (dN l).app (cA (cU 1 12))=X at *
 clear t1 t2
 refine lp (α:={ k:Nat // k<=l.length+12 }) (λ k=>KJ l X k.1) (λ k=>l.length+12-k.1) ⟨0,Nat.zero_le _⟩ ?_ ?_
 ·apply aK []<;>simp[eF,AV.ok,Dc.ok,Ds.app]
 ·rintro⟨k,hk⟩
  have hw:=wr1 (k:=k) (by omega)
  by_cases hlt:k<l.length
  ·have h1:=lX hlt
   obtain⟨y,h2⟩:=m1 k hlt
   have hsz:=mD hlt
   have h3:(k:Int)<(l.length:Int)+12:=by omega
   have h4:¬(l.length:Int)<=k:=by omega
   generalize l.drop (k+1)=r at h1 h2
   generalize l[k]=a at *
   simp[KJ,eF,aU,d0,d1,hL,hlt,h1,h2,h3,cA,hd_lent,-vD]
   refine⟨by kernel_rfl,by omega,by omega,?_⟩
   refine aC (k198 a (by omega) (by omega) (by omega)) ?_ ?_ ?_
   ·refine⟨⟨rfl,.inl rfl⟩,rfl,⟨⟨rfl,.inl ?_⟩,rfl,trivial⟩⟩
    simp[Ds.app]
   ·simp
   simp[hlt,h3,h4,d0,d1,hL,aU,-vD]
   refine⟨k+1,by omega,by omega,?_⟩
   apply aK []<;>simp[AV.ok,Dc.ok,hw,Ds.app]
  ·by_cases hlt2:k<l.length+12
   ·obtain⟨j,hj⟩:=Nat.exists_eq_add_of_le (Nat.le_of_not_lt hlt)
    obtain⟨r,h1⟩:=m2 j (by omega)
    rw[<-hj] at h1
    have h3:(k:Int)<(l.length:Int)+12:=by omega
    have h4:(l.length:Int)<=k:=by omega
    have w3:IntKind.i64.wrap ((k:Int)-l.length)=j:=by rw[IntKind.wrap_i64];omega
    simp[KJ,eF,aU,d0,d1,hL,hlt,h1,h3,h4,w3,cA]
    refine⟨by kernel_rfl,by omega,?_⟩
    apply aC (k191 j (by omega))<;>simp
    apply aC (k199 (rA 1 j))<;>simp[agL,rA]
    refine⟨k+1,by omega,by omega,?_⟩
    apply aK []<;>simp[AV.ok,Dc.ok,hw,Ds.app]
   ·obtain rfl:k=l.length+12:=by omega
    simp[KJ,eF,aU,d0,d1,hL]
    exact⟨[],by simp⟩
theorem k48(r:Rl)(h1:dI r.g<=100000000)(h2:r.i.size<=100000000):HH 26 [.agg (mF r),rlL r] (.v (.bool true)):=by
 have hl:r.g.length<=100000000:=Nat.le_trans (qQ r.g) h1
 refine ab func26 ntmps26 results26 rfl (by decide) (by simp[mF]) rfl rfl ?_
 simp[rlL,rlC,mF]
 apply aC (k107 r hl)<;>simp[rlL,rlC]
 ·exact .inr (by simp[Ds.app,Ds.strip,dP,mG,ty])
 apply aC (k118 r.g h1)<;>simp[tK,eF]
 apply aC (k22 r.i h2)<;>simp[pA]
 exact⟨[],by simp⟩
end
section
attribute [local simp] ty_p ty_l ty_t kH tDs cB Tm.ts rN gI ac_skip ac_label ac_region ac_seq ac_cond ac_block ac_loop ac_exit ac_ret seqK_n seqK_r seqK_e vo_nil vo_cons blkK LC rU BZ jO jP oK ev jQ gF St.out Z5 oC upd eD wV K0 asC rO mI yF oJ xE uR tU tb Dc.tk Dc.dp Dc.over Dc.app Dc.ln Dc.ds Dc.sing Dc.cont AV.cont Ds.hd Value.oneCell' GA tO AB AV.imp Dc.imp φOf eR AV.isLL AV.list AV.app AV.arg AV.isL AV.ren Dc.ren Dc.lent tmC tmA tsA iA lo? abin AV.nth Dc.own Dc.toks bV pG JD τOf
attribute [local simp] AV.room FB agC vD Ds.len Ds.dp
def oB(a:Ag):Int:=1+nF a.t+a.e.cnt 300 0+a.i.cnt 300 0
def eV:List Ag->Int->Int
 | [],n=>n
 | a :: r,n=>if n<=300 then eV r (n+oB a) else n
theorem FC(a:Ag)(h1:a.t.size<=200000000)(h2:a.e.size<=200000000)(h3:a.i.size<=200000000):(0<=nF a.t/\nF a.t<=1000000000000)/\(0<=a.e.cnt 300 0/\a.e.cnt 300 0<=1000000000000)/\(0<=a.i.cnt 300 0/\a.i.cnt 300 0<=1000000000000):=by
 have e1:=tF a.t h1
 have e2:=a.e.cnt_le 300 0 (by decide) (by decide) (by decide)
 have e3:=a.e.cnt_ge 300 0 (by decide)
 have e4:=a.e.count_le_size
 have e5:=a.i.cnt_le 300 0 (by decide) (by decide) (by decide)
 have e6:=a.i.cnt_ge 300 0 (by decide)
 have e7:=a.i.count_le_size
 omega
theorem FD(a:Ag):1<=oB a:=by
 have e1:=tG a.t
 have e3:=a.e.cnt_ge 300 0 (by decide)
 have e6:=a.i.cnt_ge 300 0 (by decide)
 unfold oB;omega
theorem jW:∀(l:List Ag) (n:Int),n<=eV l n
 | [],n=>Int.le_refl _
 | a :: r,n=>by
  unfold eV
  split
  ·have:=jW r (n+oB a)
   have:=FD a
   omega
  ·exact Int.le_refl _
theorem yQ{t:Tm}(h:nF t<=300):nF t=1+t.size:=by
 have h2:=t.x.cnt_ge 300 0 (by decide)
 have h5:=gZ t.h.l 300 0 (by decide)
 unfold nF at h ⊢
 have e1:=Ts.cnt_eq t.x 300 0 (by decide) (by decide) (by omega)
 have e2:=F8 t.h.l 300 0 (by decide) (by decide) (by omega)
 unfold Tm.size
 omega
theorem JN{a:Ag}(h:oB a<=300):1+a.t.size+a.e.size+a.i.size<=oB a:=by
 have e1:=tG a.t
 have e3:=a.e.cnt_ge 300 0 (by decide)
 have e6:=a.i.cnt_ge 300 0 (by decide)
 unfold oB at *
 have f1:=yQ (t:=a.t) (by omega)
 have f2:=Ts.cnt_eq a.e 300 0 (by decide) (by decide) (by omega)
 have f3:=Ts.cnt_eq a.i 300 0 (by decide) (by decide) (by omega)
 omega
theorem vR:∀(l:List Ag) (n:Int),0<=n->eV l n<=300->n+dI l<=eV l n
 | [],n,_,_=>by simp[eV,dI]
 | a :: r,n,h0,h=>by
  have h9:n<=300:=Int.le_trans (jW (a :: r) n) h
  unfold eV at h ⊢
  rw[if_pos h9] at h ⊢
  have h1:=jW r (n+oB a)
  have h2:=FD a
  have h3:=JN (a:=a) (by omega)
  have h4:=vR r (n+oB a) (by omega) h
  simp only[dI,List.map_cons,List.sum_cons] at h4 ⊢
  omega
def st73(l:List Ag)(k:Nat)(n:Int):St:=bV [(0,eF l),(1,iA 300),(5,iA n),(6,iA k)] [] []
theorem k73(l:List Ag)(hs:dI l<=200000000):HH 35 [eF l,iA 300] (iA (eV l 0)):=by
 have hl:l.length<=200000000:=Nat.le_trans (qQ l) hs
 refine ab0 func35 ntmps35 results35 ?_
 have d0:l.length*9 / 9=l.length:=by omega
 simp[eF,aU,d0]
 refine lp (α:={ q:Nat×Int // q.1<=l.length/\0<=q.2/\eV (l.drop q.1) q.2=eV l 0 }) (λ q=>st73 l q.1.1 q.1.2) (λ q=>l.length-q.1.1) ⟨(0,0),Nat.zero_le _,Int.le_refl _,rfl⟩ ?_ ?_
 ·apply aK []<;>simp[eF,AV.ok,Dc.ok]
 ·rintro⟨⟨k,n⟩,hk,hn0,hc⟩
  simp only at hk hn0 hc
  by_cases hlt:k<l.length
  ·have h1:=lX hlt
   have hsz:=mD hlt
   have hd:l.drop k=l[k] :: l.drop (k+1):=List.drop_eq_getElem_cons hlt
   rw[hd,eV] at hc
   generalize hr:l.drop (k+1)=r at h1 hc hd
   obtain⟨b1,b2,b3⟩:=FC l[k] (by omega) (by omega) (by omega)
   have q1:=k8 l[k].t (by omega)
   have q2:=k7 l[k].e (by omega)
   have q3:=k7 l[k].i (by omega)
   change HH 19 _ (iA (nF l[k].t)) at q1
   by_cases hn:n<=300
   ·rw[if_pos hn] at hc
    unfold oB at hc
    generalize l[k].e.cnt 300 0=c2 at *
    generalize l[k].i.cnt 300 0=c3 at *
    generalize nF l[k].t=c1 at *
    have w1:IntKind.i64.wrap (n+1)=n+1:=by rw[IntKind.wrap_i64];omega
    have w2:IntKind.i64.wrap (n+1+c1)=n+1+c1:=by rw[IntKind.wrap_i64];omega
    have w3:IntKind.i64.wrap (n+1+c1+c2)=n+1+c1+c2:=by rw[IntKind.wrap_i64];omega
    have w4:IntKind.i64.wrap (n+1+c1+c2+c3)=n+1+c1+c2+c3:=by rw[IntKind.wrap_i64];omega
    have hw:=wr1 (k:=k) (by omega)
    simp[st73,eF,aU,d0,hlt,hn,h1,cA]
    refine⟨by kernel_rfl,by omega,?_⟩
    apply aC q1<;>simp[w1,w2,h1,cA,aU]
    refine⟨by omega,?_⟩
    apply aC q2<;>simp[w3,h1,cA,aU]
    refine⟨by omega,?_⟩
    apply aC q3<;>simp[w4,hw]
    refine⟨k+1,by omega,n+1+c1+c2+c3,⟨by omega,by omega,?_⟩,?_⟩
    ·rw[hr,show n+1+c1+c2+c3=n+(1+c1+c2+c3) by omega];exact hc
    ·apply aK []<;>simp[AV.ok,Dc.ok]
   ·rw[if_neg hn] at hc
    subst hc
    simp[st73,eF,aU,d0,hlt,hn]
    exact⟨[],by simp⟩
  ·obtain rfl:k=l.length:=by omega
   rw[List.drop_length,eV] at hc
   subst hc
   simp[st73,eF,aU,d0]
   exact⟨[],by simp⟩
def yK(r:Rl):Int:=1+eV r.g 0+r.i.cnt 300 0
theorem M7:∀(l:List Ag) (n:Int),dI l<=200000000->n<=300->eV l n<=4000000000000
 | [],n,_,hn=>by simp only[eV];omega
 | a :: r,n,hs,hn=>by
  unfold eV
  rw[if_pos hn]
  simp only[dI,List.map_cons,List.sum_cons] at hs
  obtain⟨b1,b2,b3⟩:=FC a (by omega) (by omega) (by omega)
  by_cases h5:n+oB a<=300
  ·exact M7 r _ (by unfold dI;omega) h5
  ·have:eV r (n+oB a)=n+oB a:=by
    cases r with
    | nil=>rfl
    | cons b r=>unfold eV;rw[if_neg h5]
   rw[this]
   unfold oB
   omega
def bP:List Ag->Nat->List Int
 | [],_=>[]
 | a :: r,k=>if a.r then (k:Int) :: bP r (k+1) else bP r (k+1)
def jL:List Int->Ds
 | []=>.nil
 | n :: r=>.lit (.int .i64 n) (jL r)
theorem bZ(l:List Int):(jL l).len=l.length:=by
 induction l with
 | nil=>rfl
 | cons a r ih=>simp[jL,Ds.len,ih]
theorem J3(p q:List Int):jL (p++q)=(jL p).app (jL q):=by
 induction p with
 | nil=>rfl
 | cons a r ih=>simp[jL,Ds.app,ih]
def dO(far:Int):Nat->Ts
 | 0=>.nil
 | n+1=>.cons ⟨1,IntKind.i64.wrap (far+n),0,[]⟩ .nil (dO far n)
theorem kV(f:Int):∀n,(dO f n).len=n
 | 0=>rfl
 | n+1=>by simp[dO,Ts.len,kV f n]
theorem yZ(f:Int):∀(n k:Nat),k<n->(dO f n).hd k=⟨1,IntKind.i64.wrap (f+(n-1-k:Nat)),0,[]⟩/\(dO f n).kd k=.nil
 | n+1,0,_=>⟨by simp[dO,Ts.hd],rfl⟩
 | n+1,k+1,h=>by
  have:=yZ f n k (by omega)
  simp only[dO,Ts.hd,Ts.kd]
  rw[this.1,this.2,show n+1-1-(k+1)=n-1-k by omega]
  exact⟨rfl,rfl⟩
theorem rJ(n:Int):HH 74 [iA n] (.agg (.lit (.int .i64 1) (.lit (.int .i64 n) (.lit (.int .i64 0) (.nilr 1 30 (.nilr 5 27 .nil)))))):=by
 refine ab0 func74 ntmps74 results74 ?_
 simp
 exact⟨[],by simp⟩
theorem S8:∀(a b:List Ag) (k:Nat),bP (a++b) k=bP a k++bP b (k+a.length)
 | [],b,k=>by simp[bP]
 | a :: r,b,k=>by
  have:=S8 r b (k+1)
  have e:k+1+r.length=k+(r.length+1):=by omega
  simp only[List.cons_append,bP,List.length_cons]
  rw[this,e]
  split<;>rfl
theorem C9{l:List Ag}{k:Nat}(h:k<l.length):bP (l.take (k+1)) 0=bP (l.take k) 0++(if l[k].r then [(k:Int)] else []):=by
 rw[sD h,S8]
 have:(l.take k).length=k:=by rw[List.length_take];omega
 rw[this,Nat.zero_add]
 simp only[bP]
theorem oT:∀(l:List Ag) (k:Nat),(bP l k).length<=l.length
 | [],_=>Nat.le_refl _
 | a :: r,k=>by
  have:=oT r (k+1)
  simp only[bP,List.length_cons]
  split<;>simp<;>omega
def st46(r:Rl)(k:Nat):St:=bV [(1,.bx 2 0),(2,.c (.blk 19 ((bP (r.g.take k) 0).length+1) 1 3 (.seg none (jL (bP (r.g.take k) 0)) .nil) .nil)),(6,eF r.g),(7,iA r.g.length),(8,iA k)] [(2,54,rlC r)] [(19,(bP (r.g.take k) 0).length+1)]
theorem k46(r:Rl)(hl:r.g.length<=100000000):HH 148 [rlL r] (.c (.row none 1 3 (jL (bP r.g 0)) .nil)):=by
 refine ab0 func148 ntmps148 results148 ?_
 have d0:r.g.length*9 / 9=r.g.length:=by omega
 simp[rlL,rlC,aU,d0]
 refine lp (α:={ k:Nat // k<=r.g.length }) (λ k=>st46 r k.1) (λ k=>r.g.length-k.1) ⟨0,Nat.zero_le _⟩ ?_ ?_
 ·apply aK [((19,0),[(19,0)])]<;>simp[AV.ok,Dc.ok,eF,rlC,bP,jL]
 ·rintro⟨k,hk⟩
  have hw:=wr1 (k:=k) (by omega)
  by_cases hlt:k<r.g.length
  ·have h1:=lX hlt
   have h9:=C9 hlt
   have h8:=oT (r.g.take k) 0
   rw[List.length_take] at h8
   generalize r.g.drop (k+1)=q at h1
   cases hr:r.g[k].r with
   | true =>
    rw[hr,if_pos rfl] at h9
    simp[st46,eF,rlC,aU,d0,hlt,h1,cA,hr,hw]
    refine⟨by omega,by rw[bZ];omega,k+1,by omega,by omega,?_⟩
    apply aK [((19,0),[(19,0)])]<;>simp[AV.ok,Dc.ok,h9,J3,jL]
   | false =>
    rw[hr,if_neg (by decide),List.append_nil] at h9
    simp[st46,eF,rlC,aU,d0,hlt,h1,cA,hr,hw]
    refine⟨by omega,k+1,by omega,by omega,?_⟩
    apply aK [((19,0),[(19,0)])]<;>simp[AV.ok,Dc.ok,h9,Ds.app_nil]
  ·obtain rfl:k=r.g.length:=by omega
   simp[st46,eF,rlC,aU,d0,Ds.app_nil]
   exact⟨[],by simp⟩
def st47(r:Rl)(k:Nat):St:=bV [(1,.bx 2 0),(3,.c (.blk 22 ((bP (r.g.take k) 0).length+1) 1 3 (.seg none (jL (bP (r.g.take k) 0)) .nil) .nil)),(4,iA k)] [(2,54,rlC r)] [(22,(bP (r.g.take k) 0).length+1)]
theorem k47(r:Rl)(hl:r.g.length<=100000000):HH 158 [rlL r] (.c (.row none 1 3 (jL (bP r.g 0)) .nil)):=by
 refine ab0 func158 ntmps158 results158 ?_
 have d0:r.g.length*9 / 9=r.g.length:=by omega
 simp[rlL,rlC,aU,d0]
 refine lp (α:={ k:Nat // k<=r.g.length }) (λ k=>st47 r k.1) (λ k=>r.g.length-k.1) ⟨0,Nat.zero_le _⟩ ?_ ?_
 ·apply aK [((22,0),[(22,0)])]<;>simp[AV.ok,Dc.ok,eF,rlC,bP,jL]
 ·rintro⟨k,hk⟩
  have hw:=wr1 (k:=k) (by omega)
  by_cases hlt:k<r.g.length
  ·have h1:=lX hlt
   have h9:=C9 hlt
   have h8:=oT (r.g.take k) 0
   rw[List.length_take] at h8
   generalize r.g.drop (k+1)=q at h1
   cases hr:r.g[k].r with
   | true =>
    rw[hr,if_pos rfl] at h9
    simp[st47,eF,rlC,aU,d0,hlt,h1,cA,hr,hw]
    refine⟨by omega,by rw[bZ];omega,k+1,by omega,by omega,?_⟩
    apply aK [((22,0),[(22,0)])]<;>simp[AV.ok,Dc.ok,h9,J3,jL]
   | false =>
    rw[hr,if_neg (by decide),List.append_nil] at h9
    simp[st47,eF,rlC,aU,d0,hlt,h1,cA,hr,hw]
    refine⟨by omega,k+1,by omega,by omega,?_⟩
    apply aK [((22,0),[(22,0)])]<;>simp[AV.ok,Dc.ok,h9,Ds.app_nil]
  ·obtain rfl:k=r.g.length:=by omega
   simp[st47,eF,rlC,aU,d0,Ds.app_nil]
   exact⟨[],by simp⟩
def FU(n:Nat)(far:Int)(k:Nat):St:=bV [(0,iA n),(1,iA far),(4,.c (.blk 21 (k+1) 5 27 (.seg none (tDs ty ((dO far n).take k)) .nil) .nil)),(7,iA n),(8,iA k)] [] [(21,k+1)]
theorem SZ(n:Nat)(far:Int)(hn:n<=10000000):HH 146 [iA n,iA far] (tsA none (dO far n)):=by
 refine ab0 func146 ntmps146 results146 ?_
 have h0:¬(n:Int)<0:=by omega
 simp[h0]
 refine lp (α:={ k:Nat // k<=n }) (λ k=>FU n far k.1) (λ k=>n-k.1) ⟨0,Nat.zero_le _⟩ ?_ ?_
 ·apply aK []<;>simp[AV.ok,Dc.ok,Ts.take]
 ·rintro⟨k,hk⟩
  by_cases hlt:k<n
  ·have hw:=wr1 (k:=k) (by omega)
   have w9:IntKind.i64.wrap (IntKind.i64.wrap (IntKind.i64.wrap (far+n)-1)-k)=IntKind.i64.wrap (far+(n-1-k:Nat)):=by rw[IntKind.wrap_i64,IntKind.wrap_i64,IntKind.wrap_i64,IntKind.wrap_i64];omega
   obtain⟨v1,v2⟩:=yZ far n k hlt
   have e9:(dO far n).take (k+1)=((dO far n).take k).app (.cons ⟨1,IntKind.i64.wrap (far+(n-1-k:Nat)),0,[]⟩ .nil .nil):=by rw[Ts.take_succ (by rw[kV];exact hlt),v1,v2];rfl
   generalize IntKind.i64.wrap (far+(n-1-k:Nat))=V at *
   simp[FU,hlt,w9,hw]
   refine⟨by rw[aF,Ts.take_len_le (by rw[kV];omega)];omega,k+1,by omega,by omega,?_⟩
   apply aK [((21,0),[(21,0)])]<;>simp[AV.ok,Dc.ok,e9]
   rw[bG];rfl
  ·obtain rfl:k=n:=by omega
   have e1:Ts.take k (dO far k)=dO far k:=by have:=Ts.take_len (dO far k);rwa [kV] at this
   simp[FU,e1,Ds.app_nil]
   exact⟨[],by simp⟩
def FS(n:Nat)(far:Int)(k:Nat):St:=bV [(0,iA n),(1,iA far),(5,.c (.blk 22 (k+1) 5 27 (.seg none (tDs ty ((dO far n).take k)) .nil) .nil)),(6,iA ((n:Int)-1-k))] [] [(22,k+1)]
theorem k117f(n:Nat)(far:Int)(hn:n<=10000000):HH 210 [iA n,iA far] (tsA none (dO far n)):=by
 refine ab0 func210 ntmps210 results210 ?_
 by_cases h0:n=0
 ·subst h0
  simp[dO]
  exact⟨[],by simp⟩
 have h1:¬(n:Int)<1:=by omega
 have w0:IntKind.i64.wrap ((n:Int)-1)=n-1:=by rw[IntKind.wrap_i64];omega
 simp[h1,w0]
 refine lp (α:={ k:Nat // k<=n }) (λ k=>FS n far k.1) (λ k=>n-k.1) ⟨0,Nat.zero_le _⟩ ?_ ?_
 ·apply aK []<;>simp[AV.ok,Dc.ok,Ts.take]
 ·rintro⟨k,hk⟩
  by_cases hlt:k<n
  ·have w4:IntKind.i64.wrap ((n:Int)-1-k-1)=n-1-(k+1):=by rw[IntKind.wrap_i64];omega
   have h2:(k:Int)<=(n:Int)-1:=by omega
   have w9:IntKind.i64.wrap (far+((n:Int)-1-k))=IntKind.i64.wrap (far+(n-1-k:Nat)):=by rw[show (n:Int)-1-k=(n-1-k:Nat) by omega]
   obtain⟨v1,v2⟩:=yZ far n k hlt
   have e9:(dO far n).take (k+1)=((dO far n).take k).app (.cons ⟨1,IntKind.i64.wrap (far+(n-1-k:Nat)),0,[]⟩ .nil .nil):=by rw[Ts.take_succ (by rw[kV];exact hlt),v1,v2];rfl
   generalize IntKind.i64.wrap (far+(n-1-k:Nat))=V at *
   simp[FS,h2,w9]
   apply aC (rJ V)<;>simp
   refine⟨by rw[aF,Ts.take_len_le (by rw[kV];omega)];omega,k+1,by omega,by omega,?_⟩
   apply aK [((22,0),[(22,0)])]<;>simp[AV.ok,Dc.ok,w4,e9]
   rw[bG];rfl
  ·obtain rfl:k=n:=by omega
   have e1:Ts.take k (dO far k)=dO far k:=by have:=Ts.take_len (dO far k);rwa [kV] at this
   have h2:¬(k:Int)<=(k:Int)-1:=by omega
   simp[FS,e1,Ds.app_nil,h2]
   exact⟨[],by simp⟩
theorem gU(f:Int):∀n,(dO f n).size=n
 | 0=>rfl
 | n+1=>by simp only[dO,Ts.size,aH,gU f n];omega
theorem gV(f:Int):∀n,(dO f n).fits
 | 0=>trivial
 | n+1=>⟨⟨⟨by show (-9223372036854775808:Int)<=1;decide,by show (1:Int)<=9223372036854775807;decide⟩,⟨by simp only[IntKind.wrap_i64];omega,by simp only[IntKind.wrap_i64];omega⟩,⟨by show (-9223372036854775808:Int)<=0;decide,by show (0:Int)<=9223372036854775807;decide⟩,λ p hp=>by cases hp⟩,trivial,gV f n⟩
theorem SY(t:Tm)(hf:t.fits)(hs:t.size<=100000000):HH 144 [tmL t] (tmL t):=by
 refine ab0 func144 ntmps144 results144 ?_
 simp
 apply aC (NQ t hf hs)<;>simp
 exact⟨[],by simp⟩
def QJ(t a:Ts):St:=bV [(2,.c (.blk 16 (a.len+1) 5 27 (.seg none (tDs ty a) .nil) .nil)),(5,tsA none t),(6,iA t.len),(7,iA a.len)] [] [(16,a.len+1)]
theorem k233(t:Ts)(hf:t.fits)(hs:t.size<=100000000):HH 230 [tsA none t] (tsA none t):=by
 have hl:t.len<=100000000:=Nat.le_trans (len_le_size t) hs
 have d0:t.len*5 / 5=t.len:=by omega
 refine ab0 func230 ntmps230 results230 ?_
 simp[aF,d0]
 refine lp (α:={ q:Ts×Ts // q.1.app q.2=t }) (λ q=>QJ t q.1.1) (λ q=>q.1.2.len) ⟨(.nil,t),rfl⟩ ?_ ?_
 ·apply aK [((16,0),[(16,0)])]<;>simp[Ts.len,AV.ok,Dc.ok]
 ·rintro⟨⟨a,r⟩,hq⟩
  simp only at hq
  cases r with
  | nil =>
   have e:a=t:=by rw[<-hq];exact (Ts.app_nil a).symm
   subst e
   simp[QJ,Ds.app_nil]
   exact⟨[],by simp⟩
  | cons h y r =>
   have h1:a.len<t.len:=by rw[<-hq];simp[Ts.app_len,Ts.len]
   have h2:(tDs ty t).dp (a.len*5)=tDs ty (.cons h y r):=by rw[<-hq];exact fH a _
   have h3:h.fits/\y.fits:=dS (a:=a) (by rw[hq];exact hf)
   have h4:aH h.l+y.size+1<=t.size:=by rw[<-hq];exact app_size
   have hw:=wr1 (k:=a.len) (by omega)
   simp[QJ,aF,d0,h1,h2]
   refine⟨by omega,?_⟩
   apply aC (SY ⟨h,y⟩ h3 (by show aH h.l+y.size<=100000000;omega))<;>simp
   refine⟨by rw[aF];omega,a.app (.cons h y .nil),r,by simp[Ts.len],by rw[Ts.app_assoc];exact hq,?_⟩
   apply aK [((16,0),[(16,0)])]<;>simp[Ts.len,Ts.app_len,AV.ok,Dc.ok,hw]
   exact (bG ty a (.cons h y .nil)).symm
theorem k217(t:Ts)(hf:t.fits)(hs:t.size<=100000000):HH 153 [tsA none t] (.agg (.row none 5 27 (tDs ty t) .nil)):=by
 refine ab0 func153 ntmps153 results153 ?_
 simp
 apply aC (k233 t hf hs)<;>simp
 exact⟨[],by simp⟩
theorem k162(t:Ts)(b:Tm)(hf:t.fits)(hs:t.size<=100000000)(hbf:b.fits)(hbs:b.size<=100000000):HH 71 [tsA none t,tmL b] (tmL (aG 5 t b)):=by
 refine ab0 func71 ntmps71 results71 ?_
 simp
 refine⟨by kernel_rfl,?_⟩
 apply aC (k217 t hf hs)<;>simp
 apply aC (SY b hbf hbs)<;>simp
 apply aC (k218 5 t b)<;>simp
 exact⟨[],by simp⟩
theorem tB(t:Ts):∀k,(tDs ty t).dp (k*5)=tDs ty (t.drop k):=by
 induction t with
 | nil =>
  intro k
  have e:∀n,Ds.dp n .nil=.nil:=λ n=>by cases n<;>rfl
  have e2:Ts.drop k .nil=.nil:=by cases k<;>rfl
  rw[e2];exact e _
 | cons h x r _ ih =>
  intro k
  cases k with
  | zero=>rw[Nat.zero_mul];rfl
  | succ k=>rw[show (k+1)*5=k*5+5 by omega];exact ih k
def QL(kk:Int)(t:Ts)(b:Tm)(j:Nat):St:=bV [(0,iA kk),(1,tsA none t),(6,.bx 7 0),(7,.bx 8 0),(8,iA ((j:Int)-1))] [(7,27,.lit (.int .i64 0) (.lit (.int .i64 0) (.lit (.int .i64 0) (.nilr 1 30 (.nilr 5 27 .nil))))),(8,27,tmC none none (aG kk (t.drop j) b).h (aG kk (t.drop j) b).x)] []
theorem k226(kk:Int)(t:Ts)(b:Tm)(hf:t.fits)(hs:t.size<=100000000)(hbf:b.fits)(hbs:b.size<=100000000):HH 163 [iA kk,tsA none t,tmL b] (tmL (aG kk t b)):=by
 have hl:t.len<=100000000:=Nat.le_trans (len_le_size t) hs
 have d0:t.len*5 / 5=t.len:=by omega
 have w0:IntKind.i64.wrap ((t.len:Int)-1)=t.len-1:=by rw[IntKind.wrap_i64];omega
 refine ab0 func163 ntmps163 results163 ?_
 simp[aF,d0]
 apply aC (rH b hbf (by omega))<;>simp[aF,d0,w0]
 refine lp (α:={ j:Nat // j<=t.len }) (λ j=>QL kk t b j.1) (λ j=>j.1) ⟨t.len,Nat.le_refl _⟩ ?_ ?_
 ·apply aK []<;>simp[AV.ok,Dc.ok,Ts.drop_len,aG]
 ·rintro⟨j,hj⟩
  cases j with
  | zero =>
   simp[QL,Ts.drop]
   exact⟨[],by simp⟩
  | succ j =>
   have h1:j<t.len:=hj
   have h2:=tB t j
   have h3:=Ts.drop_step h1
   have h4:=Ts.fits_hd hf h1
   have h5:=Ts.size_kd h1
   rw[h3] at h2
   have h6:aG kk (t.drop j) b=⟨kH kk,.cons (t.hd j) (t.kd j) (aG kk (t.drop (j+1)) b).ts⟩:=by rw[h3];rfl
   have w1:IntKind.i64.wrap ((j:Int)-1)=j-1:=by rw[IntKind.wrap_i64];omega
   generalize t.hd j=hh at *
   generalize t.kd j=hx at *
   generalize hB:aG kk (t.drop (j+1)) b=B at *
   simp[QL,h2,aF]
   refine⟨by kernel_rfl,by omega,?_⟩
   apply aC (rH ⟨hh,hx⟩ h4 (by show aH hh.l+hx.size<=200000000;omega))<;>simp[w1]
   refine⟨j,by omega,by omega,?_⟩
   apply aK []<;>simp[AV.ok,Dc.ok,h6,hB]
theorem k196(t:Ts)(b:Tm)(hf:t.fits)(hs:t.size<=100000000)(hbf:b.fits)(hbs:b.size<=100000000):HH 95 [tsA none t,tmL b] (tmL (aG 5 t b)):=by
 refine ab0 func95 ntmps95 results95 ?_
 simp
 apply aC (k226 5 t b hf hs hbf hbs)<;>simp
 exact⟨[],by simp⟩
def Ts.tm(t:Ts)(k:Nat):Tm:=⟨t.hd k,t.kd k⟩
def cM(y:Ts)(h:Hd)(d:Nat):Tm ⊕ Hd :=
 if h.k=1/\(d:Int)<=h.n then
  if h.n-d<y.len then .inl ((y.tm (y.len-1-(h.n-d).toNat)).lift d 0)
  else .inr { h with n:=IntKind.i64.wrap (h.n-y.len) }
 else .inr h
def gW(y:Ts):Int->Nat->Nat->Ts->Ts
 | _,_,_,.nil=>.nil
 | pk,i,d,.cons h x r=>match cM y h (aX pk i d) with
  | .inl t=>.cons t.h t.x (gW y pk (i+1) d r)
  | .inr h'=>.cons h' (gW y h.k 0 (aX pk i d) x) (gW y pk (i+1) d r)
def cK(y:Ts)(d:Nat)(t:Tm):Tm:=match cM y t.h d with
 | .inl u=>u
 | .inr h'=>⟨h',gW y t.h.k 0 d t.x⟩
theorem iM(y:Ts)(pk:Int)(i d:Nat)(h:Hd)(x r:Ts):gW y pk i d (.cons h x r)=.cons (cK y (aX pk i d) ⟨h,x⟩).h (cK y (aX pk i d) ⟨h,x⟩).x (gW y pk (i+1) d r):=by
 simp only[gW,cK]
 split<;>rfl
theorem k128(t:Tm)(n f:Int)(hf:t.fits)(hs:t.size<=200000000):HH 233 [tmL t,iA n,iA f,iA 0] (tmL (t.lift n f)):=q128 n f _ t 0 (Nat.lt_succ_self _) hf hs
theorem qV(y:Ts)(pk:Int)(d:Nat):∀(a b:Ts) (i:Nat),gW y pk i d (a.app b)=(gW y pk i d a).app (gW y pk (i+a.len) d b)
 | .nil,b,i=>rfl
 | .cons h x r,b,i=>by
  have:=qV y pk d r b (i+1)
  rw[Ts.app,iM,iM,this,Ts.app,Ts.len]
  rw[show i+1+r.len=i+(r.len+1) by omega]
theorem oU(y:Ts)(pk:Int)(d:Nat):∀(a:Ts) (i:Nat),(gW y pk i d a).len=a.len
 | .nil,i=>rfl
 | .cons h x r,i=>by rw[iM,Ts.len,Ts.len,oU y pk d r (i+1)]
def uQ(y:Ts)(d:Nat)(h:Hd)(x:Ts)(a:Ts):St:=bV [(1,tsA none y),(2,iA d),(3,.bx 4 0),(6,.bx 7 0),(9,.c (.blk 64 (a.len+1) 5 27 (.seg none (tDs ty (gW y h.k 0 d a)) .nil) .nil)),(10,iA a.len)] [(4,27,tmC none none h x),(7,27,.lit (.int .i64 0) (.lit (.int .i64 0) (.lit (.int .i64 0) (.nilr 1 30 (.nilr 5 27 .nil)))))] [(64,a.len+1)]
theorem k225(y:Ts)(hy:y.fits)(hys:y.size<=100000000):∀(M:Nat) (t:Tm) (d:Nat),t.size<M->t.fits->t.size+d<=100000000->HH 278 [tmL t,tsA none y,iA d] (tmL (cK y d t)):=by
 have hyl:y.len<=100000000:=Nat.le_trans (len_le_size y) hys
 intro M
 induction M with
 | zero=>intro t d h;omega
 | succ M ih =>
  rintro⟨h,x⟩ d hM hf hs
  have d0:y.len*5 / 5=y.len:=by omega
  have dx:x.len*5 / 5=x.len:=by omega
  have hxl:x.len<=100000000:=by have:=len_le_size x;unfold Tm.size at hs;simp only at hs;omega
  have hnb : -9223372036854775808<=h.n/\h.n<=9223372036854775807:=hf.1.2.1
  refine ab0 func278 ntmps278 results278 ?_
  by_cases c1:h.k=1/\(d:Int)<=h.n
  ·have w1:IntKind.i64.wrap (h.n-d)=h.n-d:=by rw[IntKind.wrap_i64];omega
   by_cases c2:h.n-d<y.len
   ·obtain⟨j,hj⟩:∃j:Nat,(y.len:Int)-1-(h.n-d)=j:=⟨((y.len:Int)-1-(h.n-d)).toNat,by omega⟩
    have hjl:j<y.len:=by omega
    have e1:cK y d ⟨h,x⟩=Tm.lift ⟨y.hd j,y.kd j⟩ d 0:=by
     have:y.len-1-(h.n-d).toNat=j:=by omega
     simp only[cK,cM,if_pos c1,if_pos c2,this];rfl
    have w2:IntKind.i64.wrap ((y.len:Int)-1)=y.len-1:=by rw[IntKind.wrap_i64];omega
    have w3:IntKind.i64.wrap ((y.len:Int)-1-(h.n-d))=j:=by rw[IntKind.wrap_i64];omega
    have h2:=tB y j
    have h3:=Ts.drop_step hjl
    have h4:=Ts.fits_hd hy hjl
    have h5:=Ts.size_kd hjl
    rw[h3] at h2
    rw[e1]
    clear e1 h3
    generalize y.hd j=uh at *
    generalize y.kd j=ux at *
    generalize y.drop (j+1)=ur at *
    obtain⟨c1k,c1n⟩:=c1
    simp[aF,d0,c1k,c1n,c2,w1,w2,w3,h2]
    refine⟨by omega,?_⟩
    apply aC (k128 ⟨uh,ux⟩ d 0 h4 (by unfold Tm.size;simp only;omega))<;>simp
    exact⟨[],by simp⟩
   ·have e1:cK y d ⟨h,x⟩=⟨{ h with n:=IntKind.i64.wrap (h.n-y.len) },gW y h.k 0 d x⟩:=by
     simp only[cK,cM,if_pos c1,if_neg c2]
    rw[e1]
    obtain⟨hk,hn,ha,hl⟩:=h
    obtain⟨c1k,c1n⟩:=c1
    simp only at c1k c1n
    subst c1k
    clear e1
    simp only at c2 w1
    simp[aF,d0,c1n,c2,w1]
    refine lp (α:={ q:Ts×Ts // q.1.app q.2=x }) (λ q=>uQ y d ⟨1,IntKind.i64.wrap (hn-y.len),ha,hl⟩ x q.1.1) (λ q=>q.1.2.len) ⟨(.nil,x),rfl⟩ ?_ ?_
    ·apply aK [((64,0),[(64,0)])]<;>simp[gW,Ts.len,AV.ok,Dc.ok]
    ·rintro⟨⟨a,r⟩,hq⟩
     simp only at hq
     cases r with
     | nil =>
      have e:a=x:=by rw[<-hq];exact (Ts.app_nil a).symm
      subst e
      simp[uQ,aF,dx]
      apply aC (IP ⟨1,IntKind.i64.wrap (hn-y.len),ha,hl⟩ a (gW y 1 0 d a) (by unfold Tm.size at hs;dsimp only at hs ⊢;omega))<;>simp[Ds.app_nil]
      exact⟨[],by simp⟩
     | cons hh hx r =>
      have h1:a.len<x.len:=by rw[<-hq];simp[Ts.app_len,Ts.len]
      have h2:(tDs ty x).dp (a.len*5)=tDs ty (.cons hh hx r):=by rw[<-hq];exact fH a _
      have h3:hh.fits/\hx.fits:=dS (a:=a) (by rw[hq];exact hf.2)
      have h4:aH hh.l+hx.size+1<=x.size:=by rw[<-hq];exact app_size
      have hw:=wr1 (k:=a.len) (by omega)
      have hdp:aX 1 a.len d<=d+1:=by unfold aX;split<;>omega
      have hne:tDs ty (gW y 1 0 d (a.app (.cons hh hx .nil)))=(tDs ty (gW y 1 0 d a)).app (tDs ty (cK y (aX 1 a.len d) ⟨hh,hx⟩).ts):=by
       rw[qV,iM,bG,Nat.zero_add];rfl
      have hsz:x.size<=(⟨⟨1,hn,ha,hl⟩,x⟩:Tm).size:=by unfold Tm.size;simp only;omega
      have hsz2:(⟨hh,hx⟩:Tm).size+1<=x.size:=h4
      have ihh:=ih ⟨hh,hx⟩ (aX 1 a.len d) (by omega) h3 (by omega)
      generalize cK y (aX 1 a.len d) ⟨hh,hx⟩=P at *
      simp[uQ,aF,dx,h1,h2]
      refine⟨by kernel_rfl,by omega,?_⟩
      apply aC (DR ⟨⟨1,IntKind.i64.wrap (hn-y.len),ha,hl⟩,x⟩ a.len d (by omega))<;>simp
      apply aC ihh<;>simp
      refine⟨by rw[aF,oU];omega,a.app (.cons hh hx .nil),r,by simp[Ts.len],by rw[Ts.app_assoc];exact hq,?_⟩
      apply aK [((64,0),[(64,0)])]<;>simp[Ts.len,Ts.app_len,AV.ok,Dc.ok,hw,hne]
  ·have e1:cK y d ⟨h,x⟩=⟨h,gW y h.k 0 d x⟩:=by
    simp only[cK,cM,if_neg c1]
   rw[e1]
   by_cases c3:h.k=1
   ·have c4:¬(d:Int)<=h.n:=λ h9=>c1 ⟨c3,h9⟩
    obtain⟨hk,hn,ha,hl⟩:=h
    simp only at c3 c4
    subst c3
    clear e1 c1
    simp[aF,d0,c4]
    refine lp (α:={ q:Ts×Ts // q.1.app q.2=x }) (λ q=>uQ y d ⟨1,hn,ha,hl⟩ x q.1.1) (λ q=>q.1.2.len) ⟨(.nil,x),rfl⟩ ?_ ?_
    ·apply aK [((64,0),[(64,0)])]<;>simp[gW,Ts.len,AV.ok,Dc.ok]
    ·rintro⟨⟨a,r⟩,hq⟩
     simp only at hq
     cases r with
     | nil =>
      have e:a=x:=by rw[<-hq];exact (Ts.app_nil a).symm
      subst e
      simp[uQ,aF,dx]
      apply aC (IP ⟨1,hn,ha,hl⟩ a (gW y 1 0 d a) (by unfold Tm.size at hs;dsimp only at hs ⊢;omega))<;>simp[Ds.app_nil]
      exact⟨[],by simp⟩
     | cons hh hx r =>
      have h1:a.len<x.len:=by rw[<-hq];simp[Ts.app_len,Ts.len]
      have h2:(tDs ty x).dp (a.len*5)=tDs ty (.cons hh hx r):=by rw[<-hq];exact fH a _
      have h3:hh.fits/\hx.fits:=dS (a:=a) (by rw[hq];exact hf.2)
      have h4:aH hh.l+hx.size+1<=x.size:=by rw[<-hq];exact app_size
      have hw:=wr1 (k:=a.len) (by omega)
      have hdp:aX 1 a.len d<=d+1:=by unfold aX;split<;>omega
      have hne:tDs ty (gW y 1 0 d (a.app (.cons hh hx .nil)))=(tDs ty (gW y 1 0 d a)).app (tDs ty (cK y (aX 1 a.len d) ⟨hh,hx⟩).ts):=by
       rw[qV,iM,bG,Nat.zero_add];rfl
      have hsz:x.size<=(⟨⟨1,hn,ha,hl⟩,x⟩:Tm).size:=by unfold Tm.size;simp only;omega
      have hsz2:(⟨hh,hx⟩:Tm).size+1<=x.size:=h4
      have ihh:=ih ⟨hh,hx⟩ (aX 1 a.len d) (by omega) h3 (by omega)
      generalize cK y (aX 1 a.len d) ⟨hh,hx⟩=P at *
      simp[uQ,aF,dx,h1,h2]
      refine⟨by kernel_rfl,by omega,?_⟩
      apply aC (DR ⟨⟨1,hn,ha,hl⟩,x⟩ a.len d (by omega))<;>simp
      apply aC ihh<;>simp
      refine⟨by rw[aF,oU];omega,a.app (.cons hh hx .nil),r,by simp[Ts.len],by rw[Ts.app_assoc];exact hq,?_⟩
      apply aK [((64,0),[(64,0)])]<;>simp[Ts.len,Ts.app_len,AV.ok,Dc.ok,hw,hne]
   ·simp[aF,d0,c3]
    refine lp (α:={ q:Ts×Ts // q.1.app q.2=x }) (λ q=>uQ y d h x q.1.1) (λ q=>q.1.2.len) ⟨(.nil,x),rfl⟩ ?_ ?_
    ·apply aK [((64,0),[(64,0)])]<;>simp[gW,Ts.len,AV.ok,Dc.ok]
    ·rintro⟨⟨a,r⟩,hq⟩
     simp only at hq
     cases r with
     | nil =>
      have e:a=x:=by rw[<-hq];exact (Ts.app_nil a).symm
      subst e
      simp[uQ,aF,dx]
      apply aC (IP h a (gW y h.k 0 d a) (by unfold Tm.size at hs;dsimp only at hs ⊢;omega))<;>simp[Ds.app_nil]
      exact⟨[],by simp⟩
     | cons hh hx r =>
      have h1:a.len<x.len:=by rw[<-hq];simp[Ts.app_len,Ts.len]
      have h2:(tDs ty x).dp (a.len*5)=tDs ty (.cons hh hx r):=by rw[<-hq];exact fH a _
      have h3:hh.fits/\hx.fits:=dS (a:=a) (by rw[hq];exact hf.2)
      have h4:aH hh.l+hx.size+1<=x.size:=by rw[<-hq];exact app_size
      have hw:=wr1 (k:=a.len) (by omega)
      have hdp:aX h.k a.len d<=d+1:=by unfold aX;split<;>omega
      have hne:tDs ty (gW y h.k 0 d (a.app (.cons hh hx .nil)))=(tDs ty (gW y h.k 0 d a)).app (tDs ty (cK y (aX h.k a.len d) ⟨hh,hx⟩).ts):=by
       rw[qV,iM,bG,Nat.zero_add];rfl
      have hsz:x.size<=(⟨h,x⟩:Tm).size:=by unfold Tm.size;simp only;omega
      have hsz2:(⟨hh,hx⟩:Tm).size+1<=x.size:=h4
      have ihh:=ih ⟨hh,hx⟩ (aX h.k a.len d) (by omega) h3 (by omega)
      generalize cK y (aX h.k a.len d) ⟨hh,hx⟩=P at *
      simp[uQ,aF,dx,h1,h2]
      refine⟨by kernel_rfl,by omega,?_⟩
      apply aC (DR ⟨h,x⟩ a.len d (by omega))<;>simp
      apply aC ihh<;>simp
      refine⟨by rw[aF,oU];omega,a.app (.cons hh hx .nil),r,by simp[Ts.len],by rw[Ts.app_assoc];exact hq,?_⟩
      apply aK [((64,0),[(64,0)])]<;>simp[Ts.len,Ts.app_len,AV.ok,Dc.ok,hw,hne]
theorem k195(y:Ts)(t:Tm)(hy:y.fits)(hys:y.size<=100000000)(hf:t.fits)(hs:t.size<=100000000):HH 267 [tmL t,tsA none y] (tmL (cK y 0 t)):=by
 refine ab0 func267 ntmps267 results267 ?_
 simp
 apply aC (k225 y hy hys _ t 0 (Nat.lt_succ_self _) hf (by omega))<;>simp
 exact⟨[],by simp⟩
def iT(a:Ag)(n:Nat)(v:Ts):Tm:=if a.r=false/\n<v.len then v.tm n else ⟨gI 0 1,.nil⟩
def cI(l:List Ag):Nat:=(l.filter λ a=>!a.r).length
theorem uB(a b:List Ag):cI (a++b)=cI a+cI b:=by simp[cI]
def byT:List Ag->Nat->Ts->Ts
 | [],_,_=>.nil
 | a :: r,n,v=>.cons (iT a n v).h (iT a n v).x (byT r (n+cI [a]) v)
theorem BO(v:Ts):∀(a b:List Ag) (n:Nat),byT (a++b) n v=(byT a n v).app (byT b (n+cI a) v)
 | [],b,n=>rfl
 | x :: a,b,n=>by
  have:=BO v a b (n+cI [x])
  have e:n+cI [x]+cI a=n+cI (x :: a):=by
   rw[show x :: a=[x]++a from rfl,uB];omega
  simp only[List.cons_append,byT,Ts.app]
  rw[this,e]
theorem BN(v:Ts):∀(a:List Ag) (n:Nat),(byT a n v).len=a.length
 | [],n=>rfl
 | x :: a,n=>by simp[byT,Ts.len,BN v a]
theorem T6(a:List Ag):cI a<=a.length:=List.length_filter_le _ _
def QM(r:Rl)(v:Ts)(i k:Nat):St:=bV [(1,iA i),(2,tsA none v),(3,.bx 4 0),(7,.c (.blk 38 (k+1) 5 27 (.seg none (tDs ty (byT (r.g.take k) 0 v)) .nil) .nil)),(8,iA (cI (r.g.take k))),(9,iA k)] [(4,54,rlC r)] [(38,k+1)]
theorem k197(r:Rl)(v:Ts)(i:Nat)(hi:i<=r.g.length)(hl:r.g.length<=100000000)(hv:v.len<=100000000):HH 268 [rlL r,iA i,tsA none v] (tsA none (byT (r.g.take i) 0 v)):=by
 refine ab0 func268 ntmps268 results268 ?_
 have d0:r.g.length*9 / 9=r.g.length:=by omega
 have dv:v.len*5 / 5=v.len:=by omega
 simp[rlL,rlC]
 refine lp (α:={ k:Nat // k<=i }) (λ k=>QM r v i k.1) (λ k=>i-k.1) ⟨0,Nat.zero_le _⟩ ?_ ?_
 ·apply aK [((38,0),[(38,0)])]<;>simp[AV.ok,Dc.ok,rlC,byT,cI]
 ·rintro⟨k,hk⟩
  have hw:=wr1 (k:=k) (by omega)
  by_cases hlt:k<i
  ·have hkl:k<r.g.length:=by omega
   have h1:=lX hkl
   have hpl:=T6 (r.g.take k)
   rw[List.length_take] at hpl
   have e1:byT (r.g.take (k+1)) 0 v=(byT (r.g.take k) 0 v).app (.cons (iT r.g[k] (cI (r.g.take k)) v).h (iT r.g[k] (cI (r.g.take k)) v).x .nil):=by
    rw[sD hkl,BO,Nat.zero_add];rfl
   have e2:cI (r.g.take (k+1))=cI (r.g.take k)+cI [r.g[k]]:=by rw[sD hkl,uB]
   have hbl:=BN v (r.g.take k) 0
   rw[List.length_take] at hbl
   generalize hB1:byT (r.g.take (k+1)) 0 v=B1 at *
   generalize hN1:cI (r.g.take (k+1))=N1 at *
   generalize hB:byT (r.g.take k) 0 v=B at *
   generalize hN:cI (r.g.take k)=N at *
   generalize r.g.drop (k+1)=q at h1
   generalize r.g[k]=a at *
   have wn:=wr1 (k:=N) (by omega)
   simp[QM,hB,hN,hlt]
   apply aC (g65 0 1)<;>simp[rlC,aU,d0,h1,cA]
   refine⟨by omega,?_⟩
   cases hr:a.r with
   | true =>
    have e3:iT a N v=⟨gI 0 1,.nil⟩:=by unfold iT;rw[hr];rfl
    have e4:cI [a]=0:=by simp[cI,hr]
    rw[e3] at e1
    rw[e4,Nat.add_zero] at e2
    simp[hr]
    refine⟨by rw[aF];omega,k+1,by omega,by omega,?_⟩
    apply aK [((38,0),[(38,0)])]<;>simp[AV.ok,Dc.ok,hw,rlC,hB1,hN1]
    exact⟨by rw[e1,bG];rfl,by rw[e2]⟩
   | false =>
    have e4:cI [a]=1:=by simp[cI,hr]
    rw[e4] at e2
    by_cases hN2:N<v.len
    ·have e3:iT a N v=v.tm N:=by unfold iT;rw[hr,if_pos ⟨rfl,hN2⟩]
     have h5:=tB v N
     rw[Ts.drop_step hN2] at h5
     rw[e3] at e1
     unfold Ts.tm at e1
     generalize v.hd N=uh at *
     generalize v.kd N=ux at *
     generalize v.drop (N+1)=ur at *
     simp[hr,aF,dv,hN2,h5,wn]
     refine⟨by omega,by omega,k+1,by omega,by omega,?_⟩
     apply aK [((38,0),[(38,0)])]<;>simp[AV.ok,Dc.ok,hw,rlC,hB1,hN1]
     exact⟨by rw[e1,bG];rfl,by rw[e2];rfl⟩
    ·have e3:iT a N v=⟨gI 0 1,.nil⟩:=by unfold iT;rw[hr,if_neg (λ h9=>hN2 h9.2)]
     rw[e3] at e1
     simp[hr,aF,dv,hN2,wn]
     refine⟨by omega,k+1,by omega,by omega,?_⟩
     apply aK [((38,0),[(38,0)])]<;>simp[AV.ok,Dc.ok,hw,rlC,hB1,hN1]
     exact⟨by rw[e1,bG];rfl,by rw[e2];rfl⟩
  ·obtain rfl:k=i:=by omega
   simp[QM,Ds.app_nil]
   exact⟨[],by simp⟩
def mvC(r:Rl)(v:Ts)(far:Int):Dc:=.lit (.int .i64 r.m) (.row none 9 73 (cA r.g) (.row none 5 27 (tDs ty r.i) (.row none 5 27 (tDs ty v) (.lit (.int .i64 far) .nil))))
theorem tk_all(x:Ds):x.tk x.len=x:=by have:=Ds.tk_app x .nil;rwa [Ds.app_nil] at this
theorem tk_ag{l:List Ag}{i:Nat}(h:i<=l.length):(cA l).tk (i*9)=cA (l.take i):=by
 have h2:(cA (l.take i)).len=i*9:=by rw[aU,List.length_take];congr 1;omega
 conv=>lhs;rw[<-List.take_append_drop i l,pL,<-h2]
 exact Ds.tk_app _ _
theorem wZ(t:Ts):∀k,(t.drop k).len=t.len-k:=by
 induction t with
 | nil=>intro k;cases k<;>simp[Ts.drop,Ts.len]
 | cons h x r _ ih =>
  intro k
  cases k with
  | zero=>rfl
  | succ k=>simp[Ts.drop,Ts.len,ih k]
def QN(r:Rl)(v:Ts)(far:Int)(i k:Nat):St:=bV [(1,iA i),(2,.bx 3 0),(4,.c (.blk 39 (k+1) 5 27 (.seg none (tDs ty (byT (r.g.take k) 0 v)) .nil) .nil)),(5,tsA none (v.drop (cI (r.g.take k)))),(15,eF (r.g.take i)),(16,iA i),(17,iA k)] [(3,254,mvC r v far)] [(39,k+1)]
theorem k193(r:Rl)(v:Ts)(far:Int)(i:Nat)(hi:i<=r.g.length)(hl:r.g.length<=100000000)(hv:v.len<=100000000):HH 271 [.agg (mvC r v far),iA i] (tsA none (byT (r.g.take i) 0 v)):=by
 refine ab func271 ntmps271 results271 rfl (by decide) (by simp[mvC]) rfl rfl ?_
 have d0:i*9 / 9=i:=by omega
 have dl:(r.g.take i).length=i:=by rw[List.length_take];omega
 simp[mvC,tk_ag hi,aU,dl,d0]
 refine⟨by omega,?_⟩
 refine lp (α:={ k:Nat // k<=i }) (λ k=>QN r v far i k.1) (λ k=>i-k.1) ⟨0,Nat.zero_le _⟩ ?_ ?_
 ·apply aK [((39,0),[(39,0)])]<;>simp[AV.ok,Dc.ok,mvC,eF,byT,cI,Ts.drop]
 ·rintro⟨k,hk⟩
  have hw:=wr1 (k:=k) (by omega)
  by_cases hlt:k<i
  ·have hkl:k<r.g.length:=by omega
   have h1:=lX (l:=r.g.take i) (k:=k) (by omega)
   have h0:(r.g.take i)[k]'(by omega)=r.g[k]:=List.getElem_take
   rw[h0] at h1
   have hpl:=T6 (r.g.take k)
   rw[List.length_take] at hpl
   have e1:byT (r.g.take (k+1)) 0 v=(byT (r.g.take k) 0 v).app (.cons (iT r.g[k] (cI (r.g.take k)) v).h (iT r.g[k] (cI (r.g.take k)) v).x .nil):=by
    rw[sD hkl,BO,Nat.zero_add];rfl
   have e2:cI (r.g.take (k+1))=cI (r.g.take k)+cI [r.g[k]]:=by rw[sD hkl,uB]
   have hbl:=BN v (r.g.take k) 0
   rw[List.length_take] at hbl
   have hdl:=wZ v (cI (r.g.take k))
   generalize hq:(r.g.take i).drop (k+1)=q at h1
   clear h0 hq
   generalize hB1:byT (r.g.take (k+1)) 0 v=B1 at *
   generalize hN1:cI (r.g.take (k+1))=N1 at *
   generalize hB:byT (r.g.take k) 0 v=B at *
   generalize hN:cI (r.g.take k)=N at *
   generalize r.g[k]=a at *
   have dd:(v.drop N).len*5 / 5=(v.drop N).len:=by omega
   simp[QN,hB,hN,hlt,eF,aU,dl,d0,h1,cA]
   refine⟨by omega,?_⟩
   refine aC (g58 0 1) ?_ ?_ ?_
   ·simp
   ·simp
   cases hr:a.r with
   | true =>
    have e3:iT a N v=⟨gI 0 1,.nil⟩:=by unfold iT;rw[hr];rfl
    have e4:cI [a]=0:=by simp[cI,hr]
    rw[e3] at e1
    rw[e4,Nat.add_zero] at e2
    simp[hr,eF]
    refine⟨by rw[aF];omega,k+1,by omega,by omega,?_⟩
    apply aK [((39,0),[(39,0)])]<;>simp[AV.ok,Dc.ok,hw,mvC,eF,hB1,hN1]
    exact⟨by rw[e1,bG];rfl,by rw[e2]⟩
   | false =>
    have e4:cI [a]=1:=by simp[cI,hr]
    rw[e4] at e2
    by_cases hN2:N<v.len
    ·have e3:iT a N v=v.tm N:=by unfold iT;rw[hr,if_pos ⟨rfl,hN2⟩]
     have h5:=Ts.drop_step hN2
     have h6:=wZ v (N+1)
     rw[e3] at e1
     unfold Ts.tm at e1
     rw[<-e2] at h5 h6
     generalize v.hd N=uh at *
     generalize v.kd N=ux at *
     generalize hV:v.drop N1=V at *
     have h7:(tDs ty V).tk (V.len*5)=tDs ty V:=by have:=tk_all (tDs ty V);rwa [aF] at this
     rw[h5] at dd
     have h9:(0:Int)<((V.len:Int)*5+1+1+1+1+1) / 5:=by omega
     have h10:(V.len*5+1+1+1+1+1) / 5=V.len+1:=by omega
     simp[hr,aF,h5,Ts.len,h7,eF,h9,h10]
     refine⟨by kernel_rfl,by omega,by omega,k+1,by omega,by omega,?_⟩
     apply aK [((39,0),[(39,0)])]<;>simp[AV.ok,Dc.ok,hw,mvC,eF,hB1,hN1,hV]
     rw[e1,bG];rfl
    ·have e3:iT a N v=⟨gI 0 1,.nil⟩:=by unfold iT;rw[hr,if_neg (λ h9=>hN2 h9.2)]
     have h8:(v.drop N).len=0:=by omega
     have h6:(v.drop N1).len=0:=by have:=wZ v N1;omega
     have z1:v.drop N=.nil:=by cases hz:v.drop N with
      | nil=>rfl
      | cons _ _ _=>rw[hz] at h8;simp[Ts.len] at h8
     have z2:v.drop N1=.nil:=by cases hz:v.drop N1 with
      | nil=>rfl
      | cons _ _ _=>rw[hz] at h6;simp[Ts.len] at h6
     rw[e3] at e1
     simp[hr,z1,eF]
     refine⟨by rw[aF];omega,k+1,by omega,by omega,?_⟩
     apply aK [((39,0),[(39,0)])]<;>simp[AV.ok,Dc.ok,hw,mvC,eF,hB1,hN1,z2]
     rw[e1,bG];rfl
  ·obtain rfl:k=i:=by omega
   simp[QN,Ds.app_nil]
   exact⟨[],by simp⟩
def lvA(s:Lv):AV:=.agg (.row none 2 68 (bY s) .nil)
def psA(l:Lv):AV:=.c (.row none 2 68 (bY l) .nil)
def kP(v:Int):Lv:=[(v,0)]
def QH(v:Int)(k:Nat):St:=bV [(1,.bx 2 0),(3,iA k)] [(2,30,.row none 2 68 (bY (kP v)) .nil)] []
theorem k238(v:Int)(h1:0<v)(h2:v<=1048576):HH 284 [lvA (kP v)] (.v (.bool false)):=by
 have g1:¬v<0:=by omega
 have g2:¬1048576<v:=by omega
 refine ab0 func284 ntmps284 results284 ?_
 simp[lvA,kP,bY]
 refine lp (α:={ k:Nat // k<=1 }) (λ k=>QH v k.1) (λ k=>1-k.1) ⟨0,by decide⟩ ?_ ?_
 ·apply aK []<;>simp[AV.ok,Dc.ok,kP,bY]
 ·rintro⟨k,hk⟩
  by_cases h0:k=0
  ·subst h0
   have w4:IntKind.i64.wrap 1=1:=by decide
   simp[QH,kP,bY,g1,g2,w4]
   refine⟨1,rfl,Nat.le_refl _,?_⟩
   apply aK []<;>simp[AV.ok,Dc.ok,kP,bY]
  ·obtain rfl:k=1:=by omega
   simp[QH,kP,bY]
   exact⟨[],by simp⟩
def st239(v:Int):St:=bV [(0,psA []),(3,.bx 4 0),(5,.v (.slice none 0 0)),(6,iA 0)] [(4,68,.lit (.int .i64 v) (.lit (.int .i64 0) .nil))] []
theorem k239(v:Int):HH 285 [psA [],.agg (.lit (.int .i64 v) (.lit (.int .i64 0) .nil))] (psA (kP v)):=by
 refine ab0 func285 ntmps285 results285 ?_
 simp[psA,bY]
 refine lp (α:=Unit) (λ _=>st239 v) (λ _=>0) () ?_ ?_
 ·apply aK []<;>simp[AV.ok,Dc.ok,psA,bY]
 ·rintro⟨⟩
  simp[st239,psA,bY]
  refine⟨by kernel_rfl,?_⟩
  exact⟨by kernel_rfl,by simp[Ds.tk],by simp[kP,bY,Ds.tk,Ds.app],[],by simp⟩
def QI(v:Int)(k:Nat):St:=bV [(1,.bx 2 0),(2,.bx 3 0),(3,psA (if k=0 then [] else kP v)),(4,iA k)] [(2,30,.row none 2 68 (bY (kP v)) .nil),(3,30,.nilr 2 68 .nil)] []
theorem k235(v:Int)(h1:0<v)(h2:v<=1048576):HH 275 [lvA (kP v)] (lvA (kP v)):=by
 have g1:v≠0:=by omega
 refine ab0 func275 ntmps275 results275 ?_
 simp[lvA]
 apply aC (k238 v h1 h2)<;>simp[lvA]
 refine lp (α:={ k:Nat // k<=1 }) (λ k=>QI v k.1) (λ k=>1-k.1) ⟨0,by decide⟩ ?_ ?_
 ·apply aK []<;>simp[AV.ok,Dc.ok,psA,bY]
 ·rintro⟨k,hk⟩
  by_cases h0:k=0
  ·subst h0
   have w4:IntKind.i64.wrap 1=1:=by decide
   simp[QI,psA,kP,bY,w4]
   apply aC (k239 v)<;>simp[psA,kP,bY,w4]
   refine⟨1,rfl,Nat.le_refl _,?_⟩
   apply aK []<;>simp[AV.ok,Dc.ok,kP,bY,psA]
  ·obtain rfl:k=1:=by omega
   simp[QI,psA,kP,bY,g1]
   exact⟨[],by simp⟩
theorem k223(v:Int)(h1:0<v)(h2:v<=1048576):HH 258 [iA v] (lvA (kP v)):=by
 refine ab0 func258 ntmps258 results258 ?_
 simp
 apply aC (k235 v h1 h2)<;>simp[lvA,kP,bY]
 exact⟨[],by simp⟩
theorem UU{F:Mem}{w:World}{p:Lv}{v:Value}(hF:∀b o v,F b o=some v->U w b o=some v)(h:RepV (bJ F w) (psA p) [v]):RP w v p:=by
 obtain⟨-,v1,_,e,h1,-⟩:=h
 cases e
 exact h1.mono (λ b o v _ hv=>hF b o v hv) (Nat.le_refl _)
theorem JI{F:Mem}{w:World}{p:Lv}{v:Value}(hF:∀b o v,F b o=some v->U w b o=some v)(h:RepV (bJ F w) (lvA p) [v]):∃q c,v=.agg #[.slice q p.length c]/\RP w (.slice q p.length c) p:=by
 obtain⟨ys,e,-,v1,_,rfl,h1,-,rfl⟩:=h
 cases e
 have h2:RP w v1 p:=h1.mono (λ b o v _ hv=>hF b o v hv) (Nat.le_refl _)
 obtain⟨q,c,rfl,-⟩:=h2.slice
 exact⟨q,c,rfl,h2⟩
def G4(p:Lv):AV:=.c (.seg none (.row 2 68 (bY p) (bY (dV 1 12)) .nil) .nil)
def sN(p:Lv):AV:=.agg (.seg none (.row 2 68 (bY p) (bY (dV 1 12)) .nil) .nil)
theorem JJ{F:Mem}{w:World}{p:Lv}{v:Value}(hF:∀b o v,F b o=some v->U w b o=some v)(h:RepV (bJ F w) (G4 p) [v]):Rd (U w) w.heap.size v 2 (bY p) (bY (dV 1 12)):=by
 obtain⟨-,ys,zs,e,⟨v1,_,rfl,h1,rfl⟩,-,rfl⟩:=h
 cases e
 exact h1.mono (λ b o v _ hv=>hF b o v hv) (Nat.le_refl _)
def oX(p:Lv):Int:=min (1+(p.length:Int)) (300+1)
theorem k70(p:Lv)(hp:p.length<=200000000):HH 32 [lvA p,iA 300] (iA (oX p)):=by
 refine⟨bT func32 (by decide) rfl,rfl,λ F w vs hF hG hv=>?_⟩
 obtain⟨u,v,rfl,h1,h2⟩:=oZ hv
 rw[qG h2]
 obtain⟨q,c,rfl,h3⟩:=JI hF h1
 refine (xP q p.length c 300 w hp (by decide) (by decide)).mono ?_
 rintro e w' ⟨rfl,h5⟩
 exact⟨_,λ _=>[],rfl,h5,rfl,λ k b hb=>(by cases hb),λ k k' b hb=>(by cases hb)⟩
theorem k155(p:Lv)(hp:p.length<=200000000):HH 133 [psA p] (G4 p):=by
 refine⟨bT func133 (by decide) rfl,rfl,λ F w vs hF hG hv=>?_⟩
 obtain⟨u,rfl,h1⟩:=qF hv
 refine (tR p u w (UU hF h1) hp).mono ?_
 rintro e w' ⟨v,S,rfl,h5,h6,h7⟩
 exact⟨v,λ _=>[],rfl,h5,⟨⟨kY p,kY _,trivial⟩,[v],[],rfl,Vs.res (F:=F) (fp:=λ _=>[]) (Nat.le_refl _) h6,Gh.Ow_none,rfl⟩,λ k b hb=>(by cases hb),λ k k' b hb=>(by cases hb)⟩
theorem k75(p:Lv)(hp:p.length<=200000000):HH 41 [lvA p] (sN p):=by
 refine ab0 func41 ntmps41 results41 ?_
 simp[lvA]
 apply aC (k155 p hp)<;>simp[psA,G4,sN]
 exact⟨Ds.app_nil _,[],by simp⟩
theorem k183(p:Lv)(hp:p.length<=200000000):HH 167 [G4 p,psA p] (.v (.bool true)):=by
 refine⟨bT func167 (by decide) rfl,rfl,λ F w vs hF hG hv=>?_⟩
 obtain⟨u,v,rfl,h1,h2⟩:=oZ hv
 refine (tT p u v w (JJ hF h1) (UU hF h2) hp).mono ?_
 rintro e w' ⟨rfl,h5⟩
 exact⟨_,λ _=>[],rfl,h5,rfl,λ k b hb=>(by cases hb),λ k k' b hb=>(by cases hb)⟩
theorem k127(p:Lv):HH 164 [lvA p,lvA p] (.v (.bool true)):=by
 refine⟨bT func164 (by decide) rfl,rfl,λ F w vs hF hG hv=>?_⟩
 obtain⟨u,v,rfl,h1,h2⟩:=oZ hv
 obtain⟨q,c,rfl,h3⟩:=JI hF h1
 obtain⟨q',c',rfl,h4⟩:=JI hF h2
 refine (jK p q q' _ _ c c' w h3 h4).mono ?_
 rintro e w' ⟨rfl,h5⟩
 exact⟨_,λ _=>[],rfl,h5,rfl,λ k b hb=>(by cases hb),λ k k' b hb=>(by cases hb)⟩
theorem k104(p:Lv)(hp:p.length<=200000000):HH 98 [sN p,lvA p] (.v (.bool true)):=by
 refine ab0 func98 ntmps98 results98 ?_
 simp[lvA,sN]
 apply aC (k127 p)<;>simp[lvA]
 ·exact .inr (by simp[Ds.app,Ds.strip,pT])
 apply aC (k183 p hp)<;>simp[psA,G4]
 exact⟨[],by simp⟩
theorem RZ(t:Tm)(hf:t.fits)(hs:t.size<=100000000):HH 144 [tmL t] (tmO t):=by
 refine ab0 func144 ntmps144 results144 ?_
 simp
 apply aC (NQ t hf hs)<;>simp
 exact⟨[((0,0),[(5,0)]),((0,1),[(5,1)])],by simp⟩
def stOw(t a:Ts):St:=bV [(2,.c (.blk 16 (a.len+1) 5 27 (.seg (some (100,0)) (tDs ty a) .nil) .nil)),(5,tsA none t),(6,iA t.len),(7,iA a.len)] [] [(16,a.len+1),(100,0)]
theorem o_owns(t:Ts)(hf:t.fits)(hs:t.size<=100000000):HH 230 [tsA none t] (tsA (some (0,0)) t):=by
 have hl:t.len<=100000000:=Nat.le_trans (len_le_size t) hs
 have d0:t.len*5 / 5=t.len:=by omega
 refine ab0 func230 ntmps230 results230 ?_
 simp[aF,d0]
 refine lp (α:={ q:Ts×Ts // q.1.app q.2=t }) (λ q=>stOw t q.1.1) (λ q=>q.1.2.len) ⟨(.nil,t),rfl⟩ ?_ ?_
 ·apply aK [((16,0),[(16,0)])]<;>simp[AV.ok,Dc.ok,Ts.len]
 ·rintro⟨⟨a,q⟩,hq⟩
  simp only at hq
  cases q with
  | nil =>
   have e:a=t:=by rw[<-hq];exact (Ts.app_nil a).symm
   subst e
   simp[stOw,Ds.app_nil]
   exact⟨[((0,0),[(16,0),(100,0)])],by simp⟩
  | cons h y r =>
   have h1:a.len<t.len:=by rw[<-hq];simp[Ts.app_len,Ts.len]
   have h2:(tDs ty t).dp (a.len*5)=tDs ty (.cons h y r):=by rw[<-hq];exact fH a _
   have h3:h.fits/\y.fits:=dS (a:=a) (by rw[hq];exact hf)
   have h4:aH h.l+y.size+1<=t.size:=by rw[<-hq];exact app_size
   have hw:=wr1 (k:=a.len) (by omega)
   simp[stOw,aF,d0,h1,h2]
   refine⟨by omega,?_⟩
   apply aC (RZ ⟨h,y⟩ h3 (by show aH h.l+y.size<=100000000;omega))<;>simp
   refine⟨by rw[aF];omega,a.app (.cons h y .nil),r,by simp[Ts.len],by rw[Ts.app_assoc];exact hq,?_⟩
   apply aK [((16,0),[(16,0)]),((100,0),[(100,0),(14,0),(14,1)])]<;>simp[Ts.len,Ts.app_len,AV.ok,Dc.ok,hw]
   exact (bG ty a (.cons h y .nil)).symm
theorem o_of(t:Ts)(hf:t.fits)(hs:t.size<=100000000):HH 153 [tsA none t] (.agg (.row (some (0,0)) 5 27 (tDs ty t) .nil)):=by
 refine ab0 func153 ntmps153 results153 ?_
 simp
 apply aC (o_owns t hf hs)<;>simp
 exact⟨[((0,0),[(5,0)])],by simp⟩
end
section
def eK:Nat->Tm->Tm
 | 0,t=>t
 | n+1,t=>eK n (t.x.tm 1)
def cN(g:List Ag)(v:Ts)(far:Int)(i:Nat)(row:Ts)(t:Tm):Tm:=eK row.len (cK (byT (g.take i) 0 v) 0 ((aG 5 row t).lift far i))
def pJ:Nat->Tm->Prop
 | 0,_=>True
 | n+1,t=>t.h.k=5/\t.x.len=2/\pJ n (t.x.tm 1)
theorem lE:∀(row:Ts) (t:Tm),pJ row.len (aG 5 row t)
 | .nil,_=>trivial
 | .cons _ _ r,t=>⟨rfl,rfl,lE r t⟩
theorem pI(n f:Int):∀(m:Nat) (t:Tm) (d:Nat),pJ m t->pJ m ⟨t.h.lift n f d,t.x.lift n f t.h.k 0 d⟩
 | 0,_,_,_=>trivial
 | m+1,⟨h,x⟩,d,⟨h1,h2,h3⟩=>by
  have e1:h.lift n f d=h:=by
   unfold Hd.lift
   rw[if_neg (λ h9=>by rw[show h.k=5 from h1] at h9;exact absurd h9.1 (by decide))]
  match x,h2,h3 with
  | .cons a p (.cons b q .nil),_,h3 =>
   refine⟨by rw[e1];exact h1,rfl,?_⟩
   exact pI n f m ⟨b,q⟩ _ h3
theorem vM(y:Ts):∀(m:Nat) (t:Tm) (d:Nat),pJ m t->pJ m (cK y d t)
 | 0,_,_,_=>trivial
 | m+1,⟨h,x⟩,d,⟨h1,h2,h3⟩=>by
  have h5:h.k=5:=h1
  have e1:cK y d ⟨h,x⟩=⟨h,gW y h.k 0 d x⟩:=by
   simp only[cK,cM]
   rw[if_neg (λ h9=>by rw[h5] at h9;exact absurd h9.1 (by decide))]
  rw[e1]
  match x,h2,h3 with
  | .cons a p (.cons b q .nil),_,h3 =>
   refine⟨h1,by rw[oU];rfl,?_⟩
   have:=vM y m ⟨b,q⟩ (aX h.k 1 d) h3
   simpa[iM,Ts.tm,Ts.hd,Ts.kd] using this
end
section
open Go.RowKit Go.Maps
theorem EU(p:Addr)(w:World) :
  CallsD prog 286 #[.pointer (some p)] .returning w λ e u' w'=>e=.returned (.tuple #[])/\u'=.returning/\w'=w:=by
 refine callsD_of_wpS func286 rfl λ c₀ cs hu=>?_
 apply wpS_seq
 apply wpS_region
 simp[wpOpsS,go_sem,recoverD,hu,ntmps286,Exit.thenS]
 refine wpS_of_wp (wp_mono (Q:=λ e a w'=>e=.normal/\a.defers=[]/\w'=w) ?_ ?_)
 ·clear hu
  rw[show #[Value.pointer (some p)]++((Array.replicate 15 undef).setIfInBounds 3 Value.nilIface).setIfInBounds 0 Value.nilIface=#[Value.pointer (some p),Value.nilIface,undef,undef,Value.nilIface,undef,undef,undef,undef,undef,undef,undef,undef,undef,undef,undef] from rfl]
  go_wp2
 ·rintro e a w' ⟨rfl,hd,rfl⟩
  cases c₀
  simp_all [bodyPostS,results,results286]
theorem SJ(v:Int)(h1:0<v)(h2:v<=1048576)(lb lo lc gb o gc rb:Nat)(w:World)(hlb:lb<w.heap.size)(hgb:gb<w.heap.size)(hrb:rb<w.heap.size)(hr:w.cell? ⟨rb,0,none⟩=some (.slice (some ⟨lb,lo,none⟩) 1 lc))(hl:w.cell? ⟨lb,lo,none⟩=some (.slice (some ⟨gb,o,none⟩) 1 gc))
  (hc0:w.cell? ⟨gb,o,none⟩=some (.int .i64 v)) (hc1:w.cell? ⟨gb,o+1,none⟩=some (.int .i64 0)) :
  Calls prog 281 #[.func (.func 282) #[] #[.pointer (some ⟨rb,0,none⟩)]] w λ e w'=>∃u B,e=.returned (.agg #[u])/\w.heap.size<B/\RowG w' B 2 68 u 1 (bY [(v,0)]) []/\Below w.heap.size w w':=by
 have hmf:∀(fn:Fn) (first cap:Array Value) (w:World),(Instr.makeFunc fn first cap).run prog w=.ok (.func fn first cap) w:=λ _ _ _ _=>rfl
 have hmm:=@run_makeMap prog
 have hcf:∀(u:Value) w,(callFunc 282 #[u,.pointer (some ⟨rb,0,none⟩)]).run prog w=.ok (.enter 282 #[u,.pointer (some ⟨rb,0,none⟩)]) w:=λ u w=>by simp[callFunc,func282];rfl
 obtain⟨w3,hw3⟩:∃w3,(((w.alloc (.cells #[.slice none 0 0] 30)).alloc (.map #[] 0)).alloc (.cells #[.map (some (w.heap.size+1))] 277))=w3:=⟨_,rfl⟩
 have hb3:Below w.heap.size w w3:=by rw[<-hw3];exact aB (aB (aA _ _) (aA _ _)) (aA _ _)
 have hs3:w3.heap.size=w.heap.size+3:=by rw[<-hw3];simp
 have p0:U w3 w.heap.size 0=some (.slice none 0 0):=by
  rw[<-hw3]
  exact aE (aA _ _) _ _ _ (by simp;omega) (aE (aA _ _) _ _ _ (by simp) (aM rfl))
 have p2:U w3 (w.heap.size+1+1) 0=some (.map (some (w.heap.size+1))):=by
  have:=aM (w:=(w.alloc (.cells #[.slice none 0 0] 30)).alloc (.map #[] 0)) (cs:=#[.map (some (w.heap.size+1))]) (ty:=277) (o:=0) rfl
  rw[World.size_alloc,World.size_alloc,hw3] at this
  exact this
 have hm3:oV w3 (w.heap.size+1) 0 (.map []):=by
  have h9:=World.ownsMap_made (w.alloc (.cells #[.slice none 0 0] 30)) prog 3 (plainElem (H:=Unit) prog 3)
  rw[World.size_alloc] at h9
  rw[<-hw3]
  exact h9.alloc _
 have HC:=hid (HI v h1 h2 (w.heap.size+1) lb lo lc gb o gc w3 hm3 (by omega) (by omega) rb (by omega) ((hb3.cell hrb).trans hr) ((hb3.cell hlb).trans hl) ((hb3.cell hgb).trans hc0) ((hb3.cell hgb).trans hc1))
 have HB:=hid hb3
 have P0:=hid p0
 have P2:=hid p2
 have d0:=aD p0
 have d2:=aD p2
 clear hb3 p0 p2 hm3 hr hl hc0 hc1
 go_enter_defers func281,ntmps281
 go_wp2_with fail
 refine HC.out.mono ?_
 rintro e w4 ⟨rfl,hm4,hB4,hk4⟩
 have hb4:Below (w.heap.size+1) w3 w4:=hB4 _ (Nat.le_refl _) (by omega)
 have u0:U w4 w.heap.size 0=some (.slice none 0 0):=aE hb4 _ _ _ (Nat.lt_succ_self _) P0.out
 have u2:U w4 (w.heap.size+1+1) 0=some (.map (some (w.heap.size+1))):=(eW (hk4 (w.heap.size+1+1) (by omega) (by omega)) 0).trans P2.out
 have a2:=aD u2
 have hs4:w.heap.size+3<=w4.heap.size:=by have:=hb4.size;omega
 have HL:=hid (NB v h1 h2 (w.heap.size+1) w4 hm4)
 have HB4:=hid (HB.out.trans (hb4.mono (Nat.le_succ _)))
 have U0:=hid u0
 clear hm4 hB4 hk4 hb4 u0 u2 HC d0 d2 hw3
 go_wp2_with fail
 refine HL.out.mono ?_
 rintro e w5 ⟨u,rfl,hrow,hb5⟩
 have v0:=aE hb5 _ _ _ (by omega) U0.out
 have b0:=aD v0
 have f0:=aI v0
 obtain⟨pp,cc,rfl,-,-⟩:=hrow.cap
 have HR:=hid hrow
 have HB5:=hid (HB4.out.trans (hb5.mono HB4.out.size))
 have c0:=aD (fQ (v:=.slice pp 1 cc) v0)
 clear hrow hb5 v0 HL
 go_wp2
 refine leaves_cons (f:=286) (args:=#[.pointer (some ⟨w.heap.size,0,none⟩)]) (by simp) (by simp[go_sem]) ?_
 refine (EU _ _).mono ?_
 rintro e u' w'' ⟨rfl,rfl,rfl⟩
 simp[Leaves,settle,results,results281,go_sem,c0]
 exact⟨w4.heap.size+2,by omega,HR.out.setCell (p:=⟨w.heap.size,0,none⟩) (by show w.heap.size<w4.heap.size+2;omega) _,HB5.out.setCell (p:=⟨w.heap.size,0,none⟩) (Nat.le_refl _) _⟩
theorem ofL_any(v:Int)(h1:0<v)(h2:v<=1048576)(lb lo lc gb o gc:Nat)(w:World)(hlb:lb<w.heap.size)(hgb:gb<w.heap.size)(hl:w.cell? ⟨lb,lo,none⟩=some (.slice (some ⟨gb,o,none⟩) 1 gc))
  (hc0:w.cell? ⟨gb,o,none⟩=some (.int .i64 v)) (hc1:w.cell? ⟨gb,o+1,none⟩=some (.int .i64 0)) :
  Calls prog 273 #[.slice (some ⟨lb,lo,none⟩) 1 lc] w λ e w'=>∃u B,e=.returned (.agg #[u])/\w.heap.size<=B/\RowG w' B 2 68 u 1 (bY [(v,0)]) []/\Below w.heap.size w w':=by
 have hmf:∀(fn:Fn) (first cap:Array Value) (w:World),(Instr.makeFunc fn first cap).run prog w=.ok (.func fn first cap) w:=λ _ _ _ _=>rfl
 obtain⟨w2,hw2⟩:∃w2,(w.alloc (.cells #[.slice (some ⟨lb,lo,none⟩) 1 lc] 24)).alloc (.cells #[.slice none 0 0] 30)=w2:=⟨_,rfl⟩
 have hb2:Below w.heap.size w w2:=by rw[<-hw2];exact aB (aA _ _) (aA _ _)
 have hs2:w2.heap.size=w.heap.size+2:=by rw[<-hw2];simp
 have p0:U w2 w.heap.size 0=some (.slice (some ⟨lb,lo,none⟩) 1 lc):=by
  rw[<-hw2]
  exact aE (aA _ _) _ _ _ (by simp) (aM rfl)
 have p1:U w2 (w.heap.size+1) 0=some (.slice none 0 0):=by
  have:=aM (w:=w.alloc (.cells #[.slice (some ⟨lb,lo,none⟩) 1 lc] 24)) (cs:=#[.slice none 0 0]) (ty:=30) (o:=0) rfl
  rw[World.size_alloc,hw2] at this
  exact this
 have HC:=hid (SJ v h1 h2 lb lo lc gb o gc w.heap.size w2 (by omega) (by omega) (by omega) (aD p0) ((hb2.cell hlb).trans hl) ((hb2.cell hgb).trans hc0) ((hb2.cell hgb).trans hc1))
 have HB:=hid hb2
 have P1:=hid p1
 clear hb2 p0 p1 hl hc0 hc1
 go_enter func273,ntmps273
 go_wp2_with fail
 refine HC.out.mono ?_
 rintro e w5 ⟨u,B,rfl,hB,hrow,hb5⟩
 have v0:=aE hb5 _ _ _ (by omega) P1.out
 have b0:=aD v0
 have f0:=aI v0
 obtain⟨pp,cc,rfl,-,-⟩:=hrow.cap
 have HR:=hid hrow
 have HB5:=hid (HB.out.trans (hb5.mono HB.out.size))
 have c0:=aD (fQ (v:=.slice pp 1 cc) v0)
 clear hrow hb5 v0 HC
 go_wp2_with fail
 refine bodyPost_ret (v:=.agg #[.slice pp 1 cc]) (by simp[results,results273,go_sem,c0]) rfl ⟨_,B,rfl,by omega,HR.out.setCell (p:=⟨w.heap.size+1,0,none⟩) (by show w.heap.size+1<B;omega) _,HB5.out.setCell (p:=⟨w.heap.size+1,0,none⟩) (Nat.le_succ _) _⟩
theorem RC{F:Mem}{hi sz:Nat}{u:Value}{x:Ds}(h:Rd F hi u sz x .nil)(hx:x.len=sz)(hsz:0<sz):∃b o c,u=.slice (some ⟨b,o,none⟩) 1 c/\b<hi/\At F hi x b o:=by
 obtain⟨p,n,c,rfl,h1,h2,-,h4,h5⟩:=h
 have hn:n=1:=by
  rw[hx] at h1
  exact Nat.eq_of_mul_eq_mul_right hsz (by omega)
 subst hn
 rcases h5 with ⟨-,rfl⟩|⟨h6,-⟩|⟨b,o,rfl,h7,h8,-⟩
 ·omega
 ·cases h6
 ·exact⟨b,o,c,rfl,h7,h8⟩
theorem k237(v:Int)(h1:0<v)(h2:v<=1048576):HH 273 [.c (.row none 1 30 (cB ty [kP v]) .nil)] (lvA (kP v)):=by
 refine⟨bT func273 (by decide) rfl,rfl,λ F w vs hF hG hv=>?_⟩
 obtain⟨u,rfl,h3⟩:=qF hv
 obtain⟨-,v1,_,e1,h4,-,-⟩:=h3
 cases e1
 obtain⟨lb,lo,lc,rfl,hlb,hat⟩:=RC h4 rfl (by decide)
 obtain⟨⟨v2,g1,g2⟩,-⟩:=At_row.1 hat
 obtain⟨gb,o,gc,rfl,hgb,hat2⟩:=RC g2 rfl (by decide)
 obtain⟨q1,q2,-⟩:=hat2
 refine (ofL_any v h1 h2 lb lo lc gb o gc w hlb hgb (aD (hF _ _ _ g1)) (aD (hF _ _ _ q1)) (aD (hF _ _ _ q2))).mono ?_
 rintro e w' ⟨u,B,rfl,hB,hrow,hb⟩
 obtain⟨v',_,e2,h8,-⟩:=Vs.res (F:=F) (fp:=λ _=>[]) hB hrow.own
 cases e2
 exact⟨_,λ _=>[],rfl,hb,⟨[u],rfl,kY _,u,[],rfl,h8,Gh.Ow_none,rfl⟩,λ k b hb=>(by cases hb),λ k k' b hb=>(by cases hb)⟩
end
end Go.Proofs.YtlfnfiihfjggoaaGreatDoor
