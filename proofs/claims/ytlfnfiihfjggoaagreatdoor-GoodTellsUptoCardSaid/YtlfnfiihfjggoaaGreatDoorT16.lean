/-
  The document's rules of a block, if it has any, and what follows. Conditions: as each lemma states them.
-/
import Derived.Test.YtlfnfiihfjggoaaGreatDoorT15
import Derived.Test.YtlfnfiihfjggoaaGreatDoorT08
import Derived.Test.YtlfnfiihfjggoaaGreatDoorT06
set_option linter.all false
set_option linter.unusedVariables false
set_option linter.unusedSimpArgs false
set_option linter.unnecessarySimpa false
set_option maxHeartbeats 8000000
set_option maxRecDepth 100000
namespace Go.Proofs.YtlfnfiihfjggoaaGreatDoor
open Go.RowKit Go.Proofs.Tryz
section
attribute [local simp] ty_p ty_l ty_t kH tDs cB Tm.ts rN gI ac_skip ac_label ac_region ac_seq ac_cond ac_block ac_loop ac_exit ac_ret seqK_n seqK_r seqK_e vo_nil vo_cons blkK LC rU BZ jO jP oK ev jQ gF St.out Z5 oC upd eD wV K0 asC rO mI yF oJ xE uR tU tb Dc.tk Dc.dp Dc.over Dc.app Dc.ln Dc.ds Dc.sing Dc.cont AV.cont Ds.hd Value.oneCell' GA tO AB AV.imp Dc.imp φOf eR AV.isLL AV.list AV.app AV.arg AV.isL AV.ren Dc.ren Dc.lent tmC tmA tsA iA lo? abin AV.nth Dc.own Dc.toks bV pG JD τOf
attribute [local simp] AV.room FB agC vD Ds.len Ds.dp
def tY(f:Ct->Rl×Int):List Ct->Option Int
 | []=>none
 | c :: l=>if (f c).2=0 then tY f l else some (f c).2
def stRu(d:Dl)(l:List Rl):St:=bV [(1,.bx 2 0),(4,.c (.blk 35 (l.length+1) 3 54 (.seg none (bA l) .nil) .nil)),(5,iA l.length)] [(2,34,dlC d)] [(35,l.length+1)]
structure OkRs (d:Dl) (l:List Rl):Prop where
 gf:∀r∈l,iF r.g/\r.i.fits/\r.g.length<=10/\mW r.m/\∀a∈r.g,mW a.m
 s:jA l<=kQ d.c
 l:l.length<=d.c.length
theorem DB(f:Ct->Rl×Int):∀l:List Ct,(∀c∈l,OkRl c.t (f c).1)->(∀r∈l.map (λ c=>(f c).1),iF r.g/\r.i.fits/\r.g.length<=10/\mW r.m/\∀a∈r.g,mW a.m)/\jA (l.map λ c=>(f c).1)<=kQ l
 | [],_=>⟨fun r hr=>(by cases hr),Nat.le_refl _⟩
 | c :: l,h=>by
  obtain⟨h1,h2⟩:=DB f l λ a ha=>h a (by simp[ha])
  have h3:=h c (by simp)
  refine⟨fun r hr=>?_,?_⟩
  ·rcases List.mem_cons.1 hr with rfl|hr
   ·exact⟨h3.gf,h3.xf,h3.l,h3.mw⟩
   ·exact h1 r hr
  ·have:=h3.s
   simp only[List.map_cons,sE,vV]
   omega
theorem rulesT(d:Dl)(hc:∀c∈d.c,c.t.fits/\mW c.m)(hs:kQ d.c<=10000000)(hm:d.m.length<=10000000):∃l e,HH 9 [dlL d] (.tup (AV.list [aV l,iA e]))/\OkRs d l:=by
 have hcl:d.c.length<=10000000:=Nat.le_trans (oN _) hs
 have dc:(fD d.c).len=d.c.length*6:=bS _
 have d0:d.c.length*6 / 6=d.c.length:=by omega
 by_cases hk:d.k=3
 ·obtain⟨f,hF⟩:=Classical.axiomOfChoice (r:=λ (c:Ct) (p:Rl×Int)=>c∈d.c->HH 39 [dlL d,.agg (cCt c)] (.tup (AV.list [rlL p.1,iA p.2]))/\OkRl c.t p.1) (λ c=>by
   by_cases h:c∈d.c
   ·obtain⟨k,hk,rfl⟩:=List.getElem_of_mem h
    have hsz:=sG hk
    obtain⟨r,e,h1⟩:=oneT d d.c[k] (hc _ h).1 (hc _ h).2 (by omega) hm
    exact⟨(r,e),λ _=>h1⟩
   ·exact⟨(⟨0,[],.nil⟩,0),λ h2=>absurd h2 h⟩)
  obtain⟨h5,h6⟩:=DB f d.c λ c h=>(hF c h).2
  obtain⟨l,e,hsome,hnone,hok⟩:∃l:List Rl,∃e:Int,(∀v,tY f d.c=some v->l=[]/\e=v)/\(tY f d.c=none->l=d.c.map (λ c=>(f c).1)/\e=0)/\OkRs d l:=by
   cases hE:tY f d.c with
   | some v=>exact⟨[],v,λ v' h=>⟨rfl,by cases h;rfl⟩,λ h=>(by cases h),λ r hr=>(by cases hr),Nat.zero_le _,Nat.zero_le _⟩
   | none=>exact⟨d.c.map (λ c=>(f c).1),0,λ v' h=>(by cases h),λ _=>⟨rfl,rfl⟩,h5,h6,by simp⟩
  refine⟨l,e,?_,hok⟩
  clear hok h5 h6
  refine ab0 func9 ntmps9 results9 ?_
  simp[dlL,dlC,hk]
  refine lp (α:={ q:List Ct×List Ct // q.1++q.2=d.c/\tY f q.2=tY f d.c }) (λ q=>stRu d (q.1.1.map λ c=>(f c).1)) (λ q=>q.1.2.length) ⟨([],d.c),rfl,rfl⟩ ?_ ?_
  ·apply aK [((35,0),[(35,0)])]<;>simp[AV.ok,Dc.ok,bA,dlC,hk]
  ·rintro⟨⟨a,q⟩,hq,hq0⟩
   simp only at hq hq0
   cases q with
   | nil =>
    have ea:a=d.c:=by rw[<-hq];simp
    obtain⟨rfl,rfl⟩:=hnone (by rw[<-hq0];rfl)
    have hal:a.length=d.c.length:=by rw[ea]
    simp[stRu,dlC,dc,d0,hal]
    exact⟨[],by simp[aV,ea,Ds.app_nil]⟩
   | cons c q =>
    have h1:a.length<d.c.length:=by rw[<-hq];simp
    have hmem:c∈d.c:=by rw[<-hq];simp
    have hdp:(fD d.c).dp (a.length*6)=fD (c :: q):=by
     have h2:(fD a).len=a.length*6:=bS a
     rw[<-hq,vP,<-h2,Ds.dp_app]
    have hw:=wr1 (k:=a.length) (by omega)
    obtain⟨q4,-⟩:=hF c hmem
    simp only[tY] at hq0
    obtain⟨u,hu⟩:∃u,(f c).1=u:=⟨_,rfl⟩
    obtain⟨v,hv⟩:∃v,(f c).2=v:=⟨_,rfl⟩
    rw[hu,hv] at q4
    rw[hv] at hq0
    by_cases hz:v=0
    ·subst hz
     rw[if_pos rfl] at hq0
     simp[stRu,dlC,dc,d0,h1,hdp,fD]
     refine⟨by kernel_rfl,by omega,?_⟩
     apply aC q4<;>simp[dlL,dlC,cCt,rlL,rlC]
     refine⟨by rw[aT];simp;omega,a++[c],q,by simp,⟨by rw[List.append_assoc];exact hq,hq0⟩,?_⟩
     apply aK [((35,0),[(35,0)])]<;>simp[AV.ok,Dc.ok,hw,hu,dlC,lS]
     rfl
    ·rw[if_neg hz] at hq0
     obtain⟨rfl,rfl⟩:=hsome v hq0.symm
     simp[stRu,dlC,dc,d0,h1,hdp,fD]
     refine⟨by kernel_rfl,by omega,?_⟩
     apply aC q4<;>simp[dlL,dlC,cCt,rlL,rlC,hz]
     exact⟨[],by simp[aV,bA]⟩
 ·refine⟨[],2,?_,λ r hr=>(by cases hr),Nat.zero_le _,Nat.zero_le _⟩
  refine ab0 func9 ntmps9 results9 ?_
  simp[dlL,dlC,hk]
  exact⟨[],by simp[aV,bA]⟩
end
section
open Go.ChangeShapes Go.WideShapes Go.ChangeAt Go.RowKit
theorem EQ:prog.cellsOf 71=1:=by kernel_rfl
theorem EO:prog.cellsOf 76=6:=by kernel_rfl
theorem UO:prog.cellsOf 22=1:=by kernel_rfl
theorem UM:prog.cellsOf 31=1:=by kernel_rfl
theorem UL:prog.cellsOf 32=1:=by kernel_rfl
theorem UK:prog.cellsOf 34=16:=by kernel_rfl
theorem QY{α:Type}{l:List α}(h:l.length=6):∃a b c d e f,l=[a,b,c,d,e,f]:=by
 obtain⟨a,l,rfl⟩:=List.exists_cons_of_length_pos (l:=l) (by omega)
 obtain⟨b,c,d,e,f,rfl⟩:=pZ (l:=l) (by simp at h;omega)
 exact⟨a,b,c,d,e,f,rfl⟩
theorem TZ{α:Type}{l:List α}(h:l.length=8):∃a b c d e f g i,l=[a,b,c,d,e,f,g,i]:=by
 obtain⟨a,l,rfl⟩:=List.exists_cons_of_length_pos (l:=l) (by omega)
 obtain⟨b,l,rfl⟩:=List.exists_cons_of_length_pos (l:=l) (by simp at h;omega)
 obtain⟨c,d,e,f,g,i,rfl⟩:=QY (l:=l) (by simp at h;omega)
 exact⟨a,b,c,d,e,f,g,i,rfl⟩
theorem FW{α:Type}{l:List α}(h:l.length=16):∃a b c d e f g i j k m n o p q r,l=[a,b,c,d,e,f,g,i,j,k,m,n,o,p,q,r]:=by
 obtain⟨a,l,rfl⟩:=List.exists_cons_of_length_pos (l:=l) (by omega)
 obtain⟨b,l,rfl⟩:=List.exists_cons_of_length_pos (l:=l) (by simp at h;omega)
 obtain⟨c,l,rfl⟩:=List.exists_cons_of_length_pos (l:=l) (by simp at h;omega)
 obtain⟨d,l,rfl⟩:=List.exists_cons_of_length_pos (l:=l) (by simp at h;omega)
 obtain⟨e,l,rfl⟩:=List.exists_cons_of_length_pos (l:=l) (by simp at h;omega)
 obtain⟨f,l,rfl⟩:=List.exists_cons_of_length_pos (l:=l) (by simp at h;omega)
 obtain⟨g,l,rfl⟩:=List.exists_cons_of_length_pos (l:=l) (by simp at h;omega)
 obtain⟨i,j,k,m,n,o,p,q,r,rfl⟩:=KY (l:=l) (by simp at h;omega)
 exact⟨a,b,c,d,e,f,g,i,j,k,m,n,o,p,q,r,rfl⟩
theorem SI:∀ {ys:List (Ts×Ds×Nat)},(∀y∈ys,y.2.1=bI [y.1]/\y.1.fits/\1+y.1.size<=y.2.2) ->
  oI (ys.map λ y=>y.2.1)=bI (ys.map (·.1))/\(∀a∈ys.map (·.1),a.fits)/\lO (ys.map (·.1))<=(ys.map λ y=>y.2.2).sum
 | [],_=>⟨rfl,λ q hq=>by simp at hq,Nat.zero_le _⟩
 | y :: ys,h=>by
  obtain⟨h1,h2,h3⟩:=SI (ys:=ys) λ z hz=>h z (List.mem_cons.2 (.inr hz))
  obtain⟨k1,k2,k3⟩:=h y (List.mem_cons.2 (.inl rfl))
  refine⟨?_,λ q hq=>?_,?_⟩
  ·simp only[List.map_cons,oI,k1,h1];rfl
  ·rcases List.mem_cons.1 hq with rfl|hq
   ·exact k2
   ·exact h2 q hq
  ·simp only[List.map_cons,R6,List.sum_cons] at *
   omega
theorem UG:∀ {ys:List (Ct×Ds×Nat)},(∀y∈ys,y.2.1=fD [y.1]/\(y.1.t.fits/\inW y.1.m)/\1+y.1.t.size<=y.2.2) ->
  oI (ys.map λ y=>y.2.1)=fD (ys.map (·.1))/\(∀a∈ys.map (·.1),a.t.fits/\inW a.m)/\kQ (ys.map (·.1))<=(ys.map λ y=>y.2.2).sum
 | [],_=>⟨rfl,λ q hq=>by simp at hq,Nat.zero_le _⟩
 | y :: ys,h=>by
  obtain⟨h1,h2,h3⟩:=UG (ys:=ys) λ z hz=>h z (List.mem_cons.2 (.inr hz))
  obtain⟨k1,k2,k3⟩:=h y (List.mem_cons.2 (.inl rfl))
  refine⟨?_,λ q hq=>?_,?_⟩
  ·simp only[List.map_cons,oI,k1,h1];rfl
  ·rcases List.mem_cons.1 hq with rfl|hq
   ·exact k2
   ·exact h2 q hq
  ·simp only[List.map_cons,vV,List.sum_cons] at *
   omega
def Rl.fitw(r:Rl):Prop:=r.fits/\inW r.m/\∀a∈r.g,inW a.m
theorem RA:∀ {ys:List (Rl×Ds×Nat)},(∀y∈ys,y.2.1=bA [y.1]/\y.1.fitw/\1+(dI y.1.g+y.1.i.size)<=y.2.2) ->
  oI (ys.map λ y=>y.2.1)=bA (ys.map (·.1))/\(∀a∈ys.map (·.1),a.fitw)/\jA (ys.map (·.1))<=(ys.map λ y=>y.2.2).sum
 | [],_=>⟨rfl,λ q hq=>by simp at hq,Nat.zero_le _⟩
 | y :: ys,h=>by
  obtain⟨h1,h2,h3⟩:=RA (ys:=ys) λ z hz=>h z (List.mem_cons.2 (.inr hz))
  obtain⟨k1,k2,k3⟩:=h y (List.mem_cons.2 (.inl rfl))
  refine⟨?_,λ q hq=>?_,?_⟩
  ·simp only[List.map_cons,oI,k1,h1];rfl
  ·rcases List.mem_cons.1 hq with rfl|hq
   ·exact k2
   ·exact h2 q hq
  ·simp only[List.map_cons,sE,List.sum_cons] at *
   omega
structure FitD (d:Dl):Prop where
 p:d.p.fits
 s:∀q∈d.s,P5 q
 m:∀a∈d.m,a.fits
 c:∀a∈d.c,a.t.fits/\inW a.m
section
variable {H:Type} {enc:TypeId×Value->H} {W W':World}
theorem CW{held:Bool}{n:Nat}{cs:List Value}{x:DataW H×List MemPlace}(h:DataW.trod enc prog W 0 (λ _=>true) held n 71 cs=some x)(hz:kI W x.2) :
  ∃t:Ts,t.fits/\1+t.size<=Rows.uptoBulk x.1/\Vs (U W) W.heap.size (bI [t]) cs:=by
 obtain⟨xs,n',rfl,rfl,hl,hxs,hf⟩:=DataW.trod_struct underlying71 h
 rw[EQ] at hl
 obtain⟨c0,rfl⟩:=one_of hl
 obtain⟨x0,rfl⟩:=one_of hxs
 have h0:DataW.trod enc prog W 0 (λ _=>true) held n' 25 (([c0].drop 0).take (prog.cellsOf 25))=some x0:=hf 0 _ rfl
 rw[rT] at h0
 obtain⟨v,hv,t,h1,h2,h3⟩:=gY _ _ _ h0 (by simpa using hz)
 cases hv
 exact⟨t,h1,by simp[Rows.uptoBulk,Rows.uptoBulkAll];omega,_,[],rfl,h3,rfl⟩
theorem Z9{held:Bool}{n:Nat}{cs:List Value}{x:DataW H×List MemPlace}(h:DataW.trod enc prog W 0 (λ _=>true) held n 31 cs=some x)(hz:kI W x.2) :
  ∃v,cs=[v]/\∃l:List Ts,(∀a∈l,a.fits)/\1+lO l<=Rows.uptoBulk x.1/\Rd (U W) W.heap.size v 1 (bI l) .nil:=by
 obtain⟨v,hv,ys,h1,h2,h3⟩:=jT (α:=Ts) underlying31 EQ (by decide) (λ y d s=>d=bI [y]/\y.fits/\1+y.size<=s) h hz (λ n' cs' x' _ h' hz'=>by
  obtain⟨a,g1,g2,g3⟩:=CW h' hz'
  exact⟨a,_,_,⟨rfl,g1,g2⟩,Nat.le_refl _,g3⟩)
 obtain⟨e1,e2,e3⟩:=SI h1
 refine⟨v,hv,ys.map (·.1),e2,by omega,?_⟩
 rw[<-e1];exact h3
theorem MW{held:Bool}{n:Nat}{cs:List Value}{x:DataW H×List MemPlace}(h:DataW.trod enc prog W 0 (λ _=>true) held n 76 cs=some x)(hz:kI W x.2) :
  ∃c:Ct,(c.t.fits/\inW c.m)/\1+c.t.size<=Rows.uptoBulk x.1/\Vs (U W) W.heap.size (fD [c]) cs:=by
 obtain⟨xs,n',rfl,rfl,hl,hxs,hf⟩:=DataW.trod_struct underlying76 h
 rw[EO] at hl
 obtain⟨c0,c1,c2,c3,c4,c5,rfl⟩:=QY hl
 obtain⟨x0,x1,rfl⟩:=Y0 hxs
 have h0:DataW.trod enc prog W 0 (λ _=>true) held n' 3 (([c0,c1,c2,c3,c4,c5].drop 0).take (prog.cellsOf 3))=some x0:=hf 0 _ rfl
 have h1:DataW.trod enc prog W 0 (λ _=>true) held n' 27 (([c0,c1,c2,c3,c4,c5].drop 1).take (prog.cellsOf 27))=some x1:=hf 1 _ rfl
 rw[qB] at h0
 rw[rS] at h1
 obtain⟨m,e0,rfl,g0⟩:=open_int underlying3 h0
 obtain⟨k,nn,at',v,w,e1,l,t,f1,f2,s1,r1,r2⟩:=kK h1 (by simpa using hz) λ n2 cs2 x2 _ h2 hz2=>gY n2 cs2 x2 h2 hz2
 cases e0
 cases e1
 refine⟨⟨m,⟨⟨k,nn,at',l⟩,t⟩⟩,⟨⟨f1,f2⟩,g0⟩,?_,_,rfl,_,rfl,_,rfl,_,rfl,_,_,rfl,r1,_,_,rfl,r2,rfl⟩
 simp[Rows.uptoBulk,Rows.uptoBulkAll,Tm.size]
 omega
theorem GZ{held:Bool}{n:Nat}{cs:List Value}{x:DataW H×List MemPlace}(h:DataW.trod enc prog W 0 (λ _=>true) held n 32 cs=some x)(hz:kI W x.2) :
  ∃v,cs=[v]/\∃l:List Ct,(∀a∈l,a.t.fits/\inW a.m)/\1+kQ l<=Rows.uptoBulk x.1/\Rd (U W) W.heap.size v 6 (fD l) .nil:=by
 obtain⟨v,hv,ys,h1,h2,h3⟩:=jT (α:=Ct) underlying32 EO (by decide) (λ y d s=>d=fD [y]/\(y.t.fits/\inW y.m)/\1+y.t.size<=s) h hz (λ n' cs' x' _ h' hz'=>by
  obtain⟨a,g1,g2,g3⟩:=MW h' hz'
  exact⟨a,_,_,⟨rfl,g1,g2⟩,Nat.le_refl _,g3⟩)
 obtain⟨e1,e2,e3⟩:=UG h1
 refine⟨v,hv,ys.map (·.1),e2,by omega,?_⟩
 rw[<-e1];exact h3
theorem GW{held:Bool}{n:Nat}{cs:List Value}{x:DataW H×List MemPlace}(h:DataW.trod enc prog W 0 (λ _=>true) held n 54 cs=some x)(hz:kI W x.2) :
  ∃r:Rl,r.fitw/\1+(dI r.g+r.i.size)<=Rows.uptoBulk x.1/\Vs (U W) W.heap.size (bA [r]) cs:=by
 obtain⟨xs,n',rfl,rfl,hl,hxs,hf⟩:=DataW.trod_struct underlying54 h
 rw[ES] at hl
 obtain⟨c0,c1,c2,rfl⟩:=CD hl
 obtain⟨x0,x1,x2,rfl⟩:=CD hxs
 have h0:DataW.trod enc prog W 0 (λ _=>true) held n' 3 (([c0,c1,c2].drop 0).take (prog.cellsOf 3))=some x0:=hf 0 _ rfl
 have h1:DataW.trod enc prog W 0 (λ _=>true) held n' 52 (([c0,c1,c2].drop 1).take (prog.cellsOf 52))=some x1:=hf 1 _ rfl
 have h2:DataW.trod enc prog W 0 (λ _=>true) held n' 25 (([c0,c1,c2].drop 2).take (prog.cellsOf 25))=some x2:=hf 2 _ rfl
 rw[qB] at h0
 rw[UJ] at h1
 rw[rT] at h2
 obtain⟨m,e0,rfl,g0⟩:=open_int underlying3 h0
 have hz':kI W (x1.2++x2.2):=by simpa using hz
 obtain⟨z1,z2⟩:=iY hz'
 obtain⟨va,e1,l,fa,sa,ra⟩:=MX h1 z1
 obtain⟨vi,e2,ti,fi,si,ri⟩:=gY _ _ _ h2 z2
 cases e0
 cases e1
 cases e2
 refine⟨⟨m,l,ti⟩,⟨⟨fa.1,fi⟩,g0,fa.2⟩,?_,_,rfl,_,_,rfl,ra,_,_,rfl,ri,rfl⟩
 simp[Rows.uptoBulk,Rows.uptoBulkAll]
 omega
theorem GV{held:Bool}{n:Nat}{cs:List Value}{x:DataW H×List MemPlace}(h:DataW.trod enc prog W 0 (λ _=>true) held n 35 cs=some x)(hz:kI W x.2) :
  ∃v,cs=[v]/\∃l:List Rl,(∀a∈l,a.fitw)/\1+jA l<=Rows.uptoBulk x.1/\Rd (U W) W.heap.size v 3 (bA l) .nil:=by
 obtain⟨v,hv,ys,h1,h2,h3⟩:=jT (α:=Rl) underlying35 ES (by decide) (λ y d s=>d=bA [y]/\y.fitw/\1+(dI y.g+y.i.size)<=s) h hz (λ n' cs' x' _ h' hz'=>by
  obtain⟨a,g1,g2,g3⟩:=GW h' hz'
  exact⟨a,_,_,⟨rfl,g1,g2⟩,Nat.le_refl _,g3⟩)
 obtain⟨e1,e2,e3⟩:=RA h1
 refine⟨v,hv,ys.map (·.1),e2,by omega,?_⟩
 rw[<-e1];exact h3
theorem MV{held:Bool}{n:Nat}{cs:List Value}{x:DataW H×List MemPlace}(h:DataW.trod enc prog W 0 (λ _=>true) held n 34 cs=some x)(hz:kI W x.2) :
  ∃d:Dl,FitD d/\1+d.t.size+d.b.size+d.p.size+d.s.length+lO d.m+kQ d.c<=Rows.uptoBulk x.1/\∀v,v=Value.agg cs.toArray->RepV (bJ (U W) W) (dlL d) [v]:=by
 obtain⟨xs,n',rfl,rfl,hl,hxs,hf⟩:=DataW.trod_struct underlying34 h
 rw[UK] at hl
 obtain⟨c0,c1,c2,c3,c4,c5,c6,c7,c8,c9,c10,c11,c12,c13,c14,c15,rfl⟩:=FW hl
 obtain⟨x0,x1,x2,x3,x4,x5,x6,x7,rfl⟩:=TZ hxs
 have h0:DataW.trod enc prog W 0 (λ _=>true) held n' 22 (([c0,c1,c2,c3,c4,c5,c6,c7,c8,c9,c10,c11,c12,c13,c14,c15].drop 0).take (prog.cellsOf 22))=some x0:=hf 0 _ rfl
 have h1:DataW.trod enc prog W 0 (λ _=>true) held n' 3 (([c0,c1,c2,c3,c4,c5,c6,c7,c8,c9,c10,c11,c12,c13,c14,c15].drop 1).take (prog.cellsOf 3))=some x1:=hf 1 _ rfl
 have h2:DataW.trod enc prog W 0 (λ _=>true) held n' 27 (([c0,c1,c2,c3,c4,c5,c6,c7,c8,c9,c10,c11,c12,c13,c14,c15].drop 2).take (prog.cellsOf 27))=some x2:=hf 2 _ rfl
 have h3:DataW.trod enc prog W 0 (λ _=>true) held n' 27 (([c0,c1,c2,c3,c4,c5,c6,c7,c8,c9,c10,c11,c12,c13,c14,c15].drop 7).take (prog.cellsOf 27))=some x3:=hf 3 _ rfl
 have h4:DataW.trod enc prog W 0 (λ _=>true) held n' 25 (([c0,c1,c2,c3,c4,c5,c6,c7,c8,c9,c10,c11,c12,c13,c14,c15].drop 12).take (prog.cellsOf 25))=some x4:=hf 4 _ rfl
 have h5:DataW.trod enc prog W 0 (λ _=>true) held n' 30 (([c0,c1,c2,c3,c4,c5,c6,c7,c8,c9,c10,c11,c12,c13,c14,c15].drop 13).take (prog.cellsOf 30))=some x5:=hf 5 _ rfl
 have h6:DataW.trod enc prog W 0 (λ _=>true) held n' 31 (([c0,c1,c2,c3,c4,c5,c6,c7,c8,c9,c10,c11,c12,c13,c14,c15].drop 14).take (prog.cellsOf 31))=some x6:=hf 6 _ rfl
 have h7:DataW.trod enc prog W 0 (λ _=>true) held n' 32 (([c0,c1,c2,c3,c4,c5,c6,c7,c8,c9,c10,c11,c12,c13,c14,c15].drop 15).take (prog.cellsOf 32))=some x7:=hf 7 _ rfl
 rw[UO] at h0
 rw[qB] at h1
 rw[rS] at h2 h3
 rw[rT] at h4
 rw[M0] at h5
 rw[UM] at h6
 rw[UL] at h7
 obtain⟨k,e0,rfl,g0⟩:=open_int underlying22 h0
 obtain⟨lv,e1,rfl,g1⟩:=open_int underlying3 h1
 have hz':kI W (x2.2++(x3.2++(x4.2++(x5.2++(x6.2++x7.2))))):=by simpa using hz
 obtain⟨z2,hz'⟩:=iY hz'
 obtain⟨z3,hz'⟩:=iY hz'
 obtain⟨z4,hz'⟩:=iY hz'
 obtain⟨z5,hz'⟩:=iY hz'
 obtain⟨z6,z7⟩:=iY hz'
 obtain⟨tk,tn,ta,tv,tw,e2,tl,tx,f2,f2',s2,r2,r2'⟩:=kK h2 z2 λ n2 cs2 x2 _ h2 hz2=>gY n2 cs2 x2 h2 hz2
 obtain⟨bk,bn,ba,bv,bw,e3,bl,bx,f3,f3',s3,r3,r3'⟩:=kK h3 z3 λ n2 cs2 x2 _ h2 hz2=>gY n2 cs2 x2 h2 hz2
 obtain⟨vp,e4,p,f4,s4,r4⟩:=gY _ _ _ h4 z4
 obtain⟨vs,e5,s,f5,s5,r5⟩:=E4 h5 z5
 obtain⟨vm,e6,m,f6,s6,r6⟩:=Z9 h6 z6
 obtain⟨vc,e7,c,f7,s7,r7⟩:=GZ h7 z7
 cases e0
 cases e1
 cases e2
 cases e3
 cases e4
 cases e5
 cases e6
 cases e7
 refine⟨⟨k,lv,⟨⟨tk,tn,ta,tl⟩,tx⟩,⟨⟨bk,bn,ba,bl⟩,bx⟩,p,s,m,c⟩,⟨f4,f5,f6,f7⟩,?_,?_⟩
 ·simp[Rows.uptoBulk,Rows.uptoBulkAll,Tm.size]
  omega
 ·rintro _ rfl
  exact⟨_,rfl,rfl,_,rfl,rfl,_,rfl,rfl,_,rfl,rfl,_,rfl,rfl,_,rfl,eU _,_,_,rfl,r2,Gh.Ow_none,cY _,_,_,rfl,r2',Gh.Ow_none,
   rfl,_,rfl,rfl,_,rfl,rfl,_,rfl,eU _,_,_,rfl,r3,Gh.Ow_none,cY _,_,_,rfl,r3',Gh.Ow_none,cY _,_,_,rfl,r4,Gh.Ow_none,kY _,_,_,rfl,r5,Gh.Ow_none,CF _,_,_,rfl,r6,Gh.Ow_none,OD _,_,_,rfl,r7,Gh.Ow_none,rfl⟩
set_option maxRecDepth 100000
theorem GI:prog.readableRec 34=true:=by kernel_rfl
theorem row47:34<prog.types.size:=of_decide_eq_true (by kernel_rfl)
theorem GH:prog.readableRec 35=true:=by kernel_rfl
theorem row48:35<prog.types.size:=of_decide_eq_true (by kernel_rfl)
theorem in_decl{b0:Nat}{v:Value}{d:DataW H}{ps:List MemPlace}(hval:Value.okWide prog W .any b0 34 v)(h:DataW.Trod enc prog W 0 (λ _=>true) true 34 v d ps)
  (hz:kI W ps):∃r:Dl,FitD r/\1+r.t.size+r.b.size+r.p.size+r.s.length+lO r.m+kQ r.c<=Rows.uptoBulk d/\RepV (bJ (U W) W) (dlL r) [v]:=by
 obtain⟨cs,rfl,-⟩:=okWide_struct underlying34 hval
 obtain⟨fuel,hf⟩:=h
 obtain⟨t,h1,h2,h3⟩:=MV hf hz
 exact⟨t,h1,h2,h3 _ (by simp[Value.cells])⟩
theorem TC{b0:Nat}{v:Value}{d:DataW H}{ps:List MemPlace}(hval:Value.okWide prog W .any b0 35 v)(h:DataW.Trod enc prog W 0 (λ _=>true) true 35 v d ps)
  (hz:kI W ps):∃l:List Rl,(∀a∈l,a.fitw)/\1+jA l<=Rows.uptoBulk d/\Rd (U W) W.heap.size v 3 (bA l) .nil:=by
 obtain⟨a,len,cap,rfl⟩:=okWide_slice underlying35 hval
 obtain⟨fuel,hf⟩:=h
 obtain⟨v',e,t,h1,h2,h3⟩:=GV hf hz
 have hv:(Value.slice a len cap).cells.toList=[.slice a len cap]:=rfl
 rw[hv] at e
 cases e
 exact⟨t,h1,h2,h3⟩
theorem MG{v:Value}{d:DataW H}{ps:List MemPlace}{sp:Nat->Bool}(h:DataW.Trod enc prog W 0 (λ _=>true) true 34 v d ps)(hb:Below W.heap.size W W')(hlt:∀x∈ps,x.block<W.heap.size)
  (hsp:∀p∈ps,sp p.block=true):DataW.Trod enc prog W' 0 sp true 34 v d ps :=
 WideElems.Trod_stays LH GI row47 h (λ x hx=>hb.same (hlt x hx)) hsp
theorem FR{v:Value}{d:DataW H}{ps:List MemPlace}{sp:Nat->Bool}(h:DataW.Trod enc prog W 0 (λ _=>true) true 35 v d ps)(hb:Below W.heap.size W W')(hlt:∀x∈ps,x.block<W.heap.size)
  (hsp:∀p∈ps,sp p.block=true):DataW.Trod enc prog W' 0 sp true 35 v d ps :=
 WideElems.Trod_stays LH GH row48 h (λ x hx=>hb.same (hlt x hx)) hsp
end
def noDl:Value:=.agg #[.int .i64 0,.int .i64 0,.int .i64 0,.int .i64 0,.int .i64 0,.slice none 0 0,.slice none 0 0,.int .i64 0,.int .i64 0,.int .i64 0,.slice none 0 0,.slice none 0 0,.slice none 0 0,.slice none 0 0,.slice none 0 0,.slice none 0 0]
def noTmE{H:Type}:DataW H:=.agg [.lit (.int .i64 0),.lit (.int .i64 0),.lit (.int .i64 0),.nil,.nil]
def noDlD{H:Type}:DataW H:=.agg [.lit (.int .i64 0),.lit (.int .i64 0),noTmE,noTmE,.nil,.agg [.nil],.nil,.nil]
end
section
theorem hd_wrap{h:Hd}(n:Int)(hf:h.fits):Hd.fits { h with n:=IntKind.i64.wrap n }:=⟨hf.1,kT n,hf.2.2⟩
theorem U2{y:Ts}{h:Hd}{d:Nat}(hy:y.fits)(hf:h.fits):(∀u,cM y h d=.inl u->u.fits)/\∀h',cM y h d=.inr h'->h'.fits:=by
 refine⟨fun u hp=>?_,λ h' hp=>?_⟩
 ·obtain⟨-,c1,c2,rfl⟩:=KV hp
  exact jD _ _ (Ts.fits_hd hy (by omega))
 ·unfold cM at hp
  split at hp
  ·split at hp
   ·cases hp
   ·cases hp;exact hd_wrap _ hf
  ·cases hp;exact hf
theorem wF{y:Ts}(hy:y.fits):∀(x:Ts) (pk:Int) (i d:Nat),x.fits->(gW y pk i d x).fits
 | .nil,_,_,_,_=>trivial
 | .cons h x r,pk,i,d,hf=>by
  have hn:=U2 (d:=aX pk i d) hy hf.1
  have ir:=wF hy r pk (i+1) d hf.2.2
  have ix:=wF hy x h.k 0 (aX pk i d) hf.2.1
  simp only[gW]
  cases hp:cM y h (aX pk i d) with
  | inl u=>exact⟨(hn.1 u hp).1,(hn.1 u hp).2,ir⟩
  | inr h'=>exact⟨hn.2 h' hp,ix,ir⟩
theorem GO{y:Ts}(hy:y.fits)(t:Tm)(d:Nat)(hf:t.fits):(cK y d t).fits:=by
 have hn:=U2 (d:=d) hy hf.1
 simp only[cK]
 cases hp:cM y t.h d with
 | inl u=>exact hn.1 u hp
 | inr h'=>exact⟨hn.2 h' hp,wF hy _ _ _ _ hf.2⟩
theorem I8:∀(m:Nat) (t:Tm),pJ m t->t.fits->(eK m t).fits
 | 0,_,_,h=>h
 | m+1,⟨h,x⟩,⟨_,h2,h3⟩,hf=>by
  match x,h2,h3,hf with
  | .cons a p (.cons b q .nil),_,h3,hf=>exact I8 m ⟨b,q⟩ h3 ⟨hf.2.2.2.1,hf.2.2.2.2.1⟩
theorem uE(g:List Ag)(v:Ts)(far:Int)(i:Nat)(row:Ts)(t:Tm)(hv:v.fits)(hr:row.fits)(ht:t.fits):(cN g v far i row t).fits :=
 I8 _ _ (vM _ _ _ _ (pI far i _ _ 0 (lE row t))) (GO (nZ hv _ _) _ _ (jD _ _ (eG hr ht)))
theorem NT{a:Ts}{h:Hd}{x:Ts}(ha:a.fits)(hh:h.fits)(hx:x.fits):(a.app (.cons h x .nil)).fits:=kL ha ⟨hh,hx,trivial⟩
theorem zH(g:List Ag)(v:Ts)(far:Int)(i:Nat)(hv:v.fits):∀q e:Ts,e.fits->q.fits->(iP g v far i e q).fits
 | .nil,_,_,_=>trivial
 | .cons h x q,e,he,hq=>by
  have h1:=uE g v far i e ⟨h,x⟩ hv he ⟨hq.1,hq.2.1⟩
  exact⟨h1.1,h1.2,zH g v far i hv q _ (NT he hq.1 hq.2.1) hq.2.2⟩
theorem uH(k:Int)(z:Hd)(hk:0<=k/\k<=100)(hz:z.fits):∀r:Ts,r.fits->(mH k z r).fits
 | .nil,_=>⟨hz,trivial⟩
 | .cons h x .nil,hf=>⟨hf.1,hf.2.1⟩
 | .cons h x (.cons h2 x2 r),hf=>by
  have:=uH k z hk hz (.cons h2 x2 r) hf.2.2
  rw[mO k z h x (.cons h2 x2 r) (by simp[Ts.len])]
  exact⟨iR hk,hf.1,hf.2.1,this.1,this.2,trivial⟩
theorem oM(r:Ts)(hf:r.fits):(tup r).fits:=uH 12 (rN 1) (by decide) (eQ (by decide) (by decide) (by decide)) r hf
theorem eJ:∀(n:Nat) (t:Tm),t.fits->(aQ n t).fits
 | 0,_,_=>trivial
 | 1,t,h=>aO h
 | n+2,t,h=>⟨iR (by decide),aO h,eJ (n+1) ⟨kH 15,t.ts⟩ ⟨iR (by decide),aO h⟩⟩
theorem tJ{p:Tm}{b:Ts}{x:Tm}(hp:p.fits)(hb:b.fits)(hx:x.fits)(hl:b.len<=100000000000):(jN p b x).fits :=
 ⟨eQ (by decide) (by decide) (by omega),hp.1,hp.2,kL hb (aO hx)⟩
theorem bE(k:Int)(hk:0<=k/\k<=100):∀ {row:Ts} {t:Tm},row.fits->t.fits->(aG k row t).fits
 | .nil,_,_,h=>h
 | .cons h x r,t,hr,ht=>by
  have ih:=bE k hk (row:=r) hr.2.2 ht
  exact⟨iR hk,hr.1,hr.2.1,ih.1,ih.2,trivial⟩
theorem bD(k:Int):∀(row:Ts) (t:Tm),(aG k row t).size<=2*row.size+t.size
 | .nil,t=>by simp[aG,Ts.size]
 | .cons h x r,t=>by
  have ih:=bD k r t
  have e:(aG k (.cons h x r) t).size=1+aH h.l+x.size+(1+(aG k r t).size):=by
   rw[<-aN];simp only[aG,Tm.size,Ts.size,kH,aH];omega
  rw[e]
  simp only[Ts.size]
  omega
theorem qC(p:Tm)(b:Ts)(x:Tm):(jN p b x).size=2+p.size+b.size+x.size:=by
 have:=OF p b x
 rw[aN] at this
 omega
theorem mJ(r:Ts):(tup r).size<=2*r.size:=by
 have:=PO r
 rw[aN] at this
 omega
end
section
attribute [local simp] ty_p ty_l ty_t kH tDs cB Tm.ts rN gI ac_skip ac_label ac_region ac_seq ac_cond ac_block ac_loop ac_exit ac_ret seqK_n seqK_r seqK_e vo_nil vo_cons blkK LC rU BZ jO jP oK ev jQ gF St.out Z5 oC upd eD wV K0 asC rO mI yF oJ xE uR tU tb Dc.tk Dc.dp Dc.over Dc.app Dc.ln Dc.ds Dc.sing Dc.cont AV.cont Ds.hd Value.oneCell' GA tO AB AV.imp Dc.imp φOf eR AV.isLL AV.list AV.app AV.arg AV.isL AV.ren Dc.ren Dc.lent tmC tmA tsA iA lo? abin AV.nth Dc.own Dc.toks bV pG JD τOf
attribute [local simp] AV.room FB agC vD Ds.len Ds.dp
structure Cr where
 lv:Int
 t:Tm
 h:Bool
 b:Tm
def crC(c:Cr)(r:Dc):Dc:=.lit (.int .i64 c.lv) (.lit (.int .i64 c.t.h.k) (.lit (.int .i64 c.t.h.n) (.lit (.int .i64 c.t.h.a) (.row none 1 30 (cB ty c.t.h.l) (.row none 5 27 (tDs ty c.t.x) (.lit (.bool c.h) (.lit (.int .i64 c.b.h.k) (.lit (.int .i64 c.b.h.n) (.lit (.int .i64 c.b.h.a) (.row none 1 30 (cB ty c.b.h.l) (.row none 5 27 (tDs ty c.b.x) r)))))))))))
def crL(c:Cr):AV:=.agg (crC c .nil)
def madeT(d:Dl)(more:Ts)(typ body:Tm):Cr:=⟨d.lv,aG 4 (d.p.app more) typ,true,aG 5 (d.p.app more) body⟩
theorem EM{l a b:List Rl}(h:a++b=l):(bA l).dp (a.length*3)=bA b:=by
 rw[<-h,lS,<-aT a,Ds.dp_app]
theorem wB:∀(l:List Ag) (k0:Nat) (i:Int),i∈bP l k0->∃k:Nat,i=k/\k0<=k/\k<k0+l.length
 | [],_,_,h=>by simp[bP] at h
 | a :: r,k0,i,h=>by
  unfold bP at h
  split at h
  ·rcases List.mem_cons.1 h with rfl|h
   ·exact⟨k0,rfl,Nat.le_refl _,by simp⟩
   ·obtain⟨k,h1,h2,h3⟩:=wB r (k0+1) i h
    exact⟨k,h1,by omega,by simp;omega⟩
  ·obtain⟨k,h1,h2,h3⟩:=wB r (k0+1) i h
   exact⟨k,h1,by omega,by simp;omega⟩
structure Small (r:Rl):Prop where
 len:r.g.length<=500
 sz:dI r.g<=500
 isz:r.i.size<=500
 fit:iF r.g
 ifit:r.i.fits
theorem dp_ints{l a b:List Int}(h:a++b=l):(jL l).dp a.length=jL b:=by
 rw[<-h,J3,<-bZ a,Ds.dp_app]
def dY(n:Int):Tm:=⟨rN n,.nil⟩
theorem gN{n:Int}(h:0<=n/\n<=100000000000):(dY n).fits:=⟨eQ (by decide) h (by decide),trivial⟩
theorem A7{s:Lv}(h:∀q∈s,(-9223372036854775808<=q.1/\q.1<=9223372036854775807)/\(-9223372036854775808<=q.2/\q.2<=9223372036854775807)):(bM s).fits :=
 ⟨sU (by decide) (by decide) (by decide) (λ p hp q hq=>by
  simp only[List.mem_singleton] at hp
  subst hp
  exact h q hq),trivial⟩
theorem A6(s:Lv):(bM s).size=1+s.length:=by simp[bM,Tm.size,aH,Ts.size]
abbrev AG(s:Lv):Prop:=∀q∈s,(-9223372036854775808<=q.1/\q.1<=9223372036854775807)/\(-9223372036854775808<=q.2/\q.2<=9223372036854775807)
theorem k220(r:Rl)(hl:r.g.length<=1000):HH 250 [rlL r] (iA ((r.g.length:Int)-(bP r.g 0).length)):=by
 have h1:=oT r.g 0
 have d9:r.g.length*9 / 9=r.g.length:=by omega
 have w1:IntKind.i64.wrap ((r.g.length:Int)-(bP r.g 0).length)=(r.g.length:Int)-(bP r.g 0).length:=by rw[IntKind.wrap_i64];omega
 refine ab0 func250 ntmps250 results250 ?_
 simp[rlL,rlC,aU,d9]
 refine⟨by kernel_rfl,?_⟩
 apply aC (k47 r (by omega))<;>simp[rlL,rlC,bZ,w1]
 exact⟨[],by simp⟩
section
structure SmallD (d:Dl) (l:List Rl):Prop where
 k:d.k=3
 lv:d.lv<=1000
 pf:d.p.fits
 ps:d.p.size<=500
 sl:d.s.length<=500
 sf:AG d.s
 ml:d.m.length<=500
 mf:∀t∈d.m,t.fits/\t.size<=500
 ms:lO d.m<=500
 ll:l.length<=500
 lz:jA l<=500
 lc:l.length=d.c.length
 rs:∀r∈l,Small r
def v14:Tm:=⟨kH 14,(vT 0).ts⟩
def fN:List Cr->Ds
 | []=>.nil
 | c :: r=>.lit (.int .i64 c.lv) (.lit (.int .i64 c.t.h.k) (.lit (.int .i64 c.t.h.n) (.lit (.int .i64 c.t.h.a) (.row 1 30 (cB ty c.t.h.l) .nil (.row 5 27 (tDs ty c.t.x) .nil (.lit (.bool c.h) (.lit (.int .i64 c.b.h.k) (.lit (.int .i64 c.b.h.n) (.lit (.int .i64 c.b.h.a) (.row 1 30 (cB ty c.b.h.l) .nil (.row 5 27 (tDs ty c.b.x) .nil (fN r))))))))))))
def lF(l:List Cr):AV:=.c (.row none 12 84 (fN l) .nil)
section
variable {d:Dl} {l:List Rl}
end
end
theorem JB(l:List Cr):(fN l).good:=by
 induction l with
 | nil=>trivial
 | cons c r ih=>exact⟨rfl,rfl,rfl,rfl,eU _,trivial,cY _,trivial,rfl,rfl,rfl,rfl,eU _,trivial,cY _,trivial,ih⟩
def rQ(l:List Cr):AV:=.c (.row (some (0,0)) 12 84 (fN l) .nil)
abbrev nM:Value:=.iface 95 (.agg #[])
theorem M3(w:World):Sem.run prog (Instr.typeAssert nM 20 95 true) w=.ok (.tuple #[.agg #[],.bool true]) w:=by
 simp[Instr.typeAssert,go_sem]
abbrev JY(w:World):Ending->World->Prop:=λ e w'=>e=.panicked [{ v:=nM,recovered:=false }]/\Below w.heap.size w w'
theorem P8(p:Addr)(u:Value)(w:World)(hc:w.cell? p=some u)(hz:w.frozen? p=false) :
  CallsD prog 139 #[.pointer (some p)] (.panicking [{ v:=nM,recovered:=false }]) w λ e u' w'=>e=.returned (.tuple #[])/\u'=.panicking [{ v:=nM,recovered:=true }]/\w'=(w.alloc (.cells #[] 95)).setCell p (.slice none 0 0):=by
 refine callsD_of_wpS func139 rfl λ c₀ cs hu=>?_
 apply wpS_seq
 apply wpS_region
 simp[wpOpsS,go_sem,recoverD,hu,ntmps139,Exit.thenS]
 refine wpS_of_wp (wp_mono (Q:=λ e a w'=>e=.normal/\a.defers=[]/\w'=(w.alloc (.cells #[] 95)).setCell p (.slice none 0 0)) ?_ ?_)
 ·clear hu
  have hlt:p.block<w.heap.size:=by
   apply Nat.lt_of_not_le
   intro h
   have:w.heap[p.block]? = none:=by simp[h]
   simp[World.cell?,this] at hc
  have hc2:(w.alloc (.cells #[] 95)).cell? p=some u:=by
   rw[<-hc];exact (aA w (.cells #[] 95)).cell hlt
  have hz2:(w.alloc (.cells #[] 95)).frozen? p=false:=by
   rw[<-hz];exact (aA w (.cells #[] 95)).frozen hlt
  rw[show #[Value.pointer (some p)]++((Array.replicate 16 undef).setIfInBounds 4 nM).setIfInBounds 0 nM=#[Value.pointer (some p),nM,undef,undef,undef,nM,undef,undef,undef,undef,undef,undef,undef,undef,undef,undef,undef] from rfl]
  have hta:=M3
  go_wp2
 ·rintro e a w' ⟨rfl,hd,rfl⟩
  cases c₀
  simp_all [bodyPostS,results,results139]
theorem FJ(g:Nat)(x y:Array Value)(w:World)(hg:rX prog g)(hc:∀W,Below w.heap.size w W->Calls prog g (x++y) W (JY W)) :
  Calls prog 45 #[.func (.func g) x y] w λ e w'=>e=.returned (.slice none 0 0)/\Below w.heap.size w w':=by
 have hmf:∀(fn:Fn) (first cap:Array Value) (w:World),(Instr.makeFunc fn first cap).run prog w=.ok (.func fn first cap) w:=λ _ _ _ _=>rfl
 have hcf:∀w,(callFunc g (x++y)).run prog w=.ok (.enter g (x++y)) w:=λ w=>by
  obtain⟨fn,k1,k2,k3⟩:=hg
  simp[callFunc,k1,k2,k3]
 have hb0:Below w.heap.size w (w.alloc (.cells #[.slice none 0 0] 44)):=aA _ _
 have HC:=hid (hc _ hb0)
 have HB0:=hid hb0
 clear hc hg hb0
 go_enter_defers func45,ntmps45
 go_wp2_with fail
 refine HC.out.mono ?_
 rintro e w1 ⟨rfl,hb1⟩
 have hsz:w.heap.size<(w.alloc (.cells #[.slice none 0 0] 44)).heap.size:=by simp
 have d0:w1.cell? ⟨w.heap.size,0,none⟩=some (.slice none 0 0):=(hb1.cell (p:=⟨w.heap.size,0,none⟩) hsz).trans (by simp[go_sem])
 have f0:w1.frozen? ⟨w.heap.size,0,none⟩=false:=(hb1.frozen (p:=⟨w.heap.size,0,none⟩) hsz).trans (by simp[go_sem])
 have HB1:=hid (aB HB0.out hb1)
 clear hb1
 go_wp2
 refine leaves_cons (f:=139) (args:=#[.pointer (some ⟨w.heap.size,0,none⟩)]) (by simp) (by simp[go_sem]) ?_
 refine (P8 _ _ _ d0 f0).mono ?_
 rintro e u' w'' ⟨rfl,rfl,rfl⟩
 have hlt:(⟨w.heap.size,0,none⟩:Addr).block<w1.heap.size:=aL (nJ d0 f0)
 have d1:(w1.alloc (.cells #[] 95)).cell? ⟨w.heap.size,0,none⟩=some (.slice none 0 0):=((aA w1 (.cells #[] 95)).cell hlt).trans d0
 have c0:((w1.alloc (.cells #[] 95)).setCell ⟨w.heap.size,0,none⟩ (.slice none 0 0)).cell? ⟨w.heap.size,0,none⟩=some (.slice none 0 0):=World.cell?_setCell_same' _ _ _ (by rw[d1];rfl)
 have hB:Below w.heap.size w ((w1.alloc (.cells #[] 95)).setCell ⟨w.heap.size,0,none⟩ (.slice none 0 0)):=(aB HB1.out (aA _ _)).setCell (p:=⟨w.heap.size,0,none⟩) (Nat.le_refl _) _
 simp[Leaves,settle,results,results45,go_sem,c0]
 exact hB
theorem FI{g:Nat}{x y:AV}{t:List Cr}(hx:x.isLL=true)(hux:x.unl=true)(huy:y.unl=true)(h:Holds prog KA g (x.app y) (rQ t)):HH 45 [.fn (.func g) x y] (rQ t):=by
 refine⟨bT func45 (by decide) rfl,rfl,λ F w vs hF hG hv=>?_⟩
 obtain⟨v,rfl,ys,zs,e1,h1,h2⟩:=qF hv
 cases e1
 have hb:Below w.heap.size w (w.alloc (.cells #[.slice none 0 0] 44)):=aA _ _
 have hFW:∀b o v,F b o=some v->U (w.alloc (.cells #[.slice none 0 0] 44)) b o=some v:=λ b o v hv=>aE hb _ _ _ (aL (hF b o v hv)) (hF b o v hv)
 have hmv:∀ {a:AV} {xs:List Value},a.unl=true->RepV (bJ F w) a xs->RepV (bJ F (w.alloc (.cells #[.slice none 0 0] 44))) a xs:=λ hu h=>RepV.mv (g:=bJ F w) (g':=bJ F (w.alloc (.cells #[.slice none 0 0] 44))) (λ _ _ _ h=>h) hb.size (.inr λ b o v hlt hv=>by
  have hlt:b<w.heap.size:=hlt
  have h3:(if b<w.heap.size then U w b o else F b o)=some v:=hv
  rw[if_pos hlt] at h3
  show (if b<(w.alloc (.cells #[.slice none 0 0] 44)).heap.size then U (w.alloc (.cells #[.slice none 0 0] 44)) b o else F b o)=some v
  rw[if_pos (Nat.lt_of_lt_of_le hlt hb.size)]
  exact aE hb _ _ _ hlt h3) hu h
 have hc:=h.2.2 F _ (ys++zs) hFW (lQ _ _ hb hG) (RepV.app (hmv huy h2) (hmv hux h1) hx)
 refine (FL g ys.toArray zs.toArray w h.1 (λ v w1=>∃S,Own w1 (w.heap.size+1) (.row 12 84 (fN t) .nil .nil) [v] S/\S.Nodup) ?_).mono ?_
 ·rw[show ys.toArray++zs.toArray=(ys++zs).toArray by simp]
  refine hc.mono ?_
  rintro e w' ⟨v,fp,rfl,h3,⟨-,v',_,e2,-,how,-⟩,-⟩
  cases e2
  obtain⟨-,S,o1,o2,-⟩:=how (0,0) rfl
  obtain⟨p,n,c,rfl⟩:=mM o1
  have o3:Own w' (w.alloc (.cells #[.slice none 0 0] 44)).heap.size (.row 12 84 (fN t) .nil .nil) [.slice p n c] S:=o1
  rw[World.size_alloc] at o3
  exact⟨p,n,c,rfl,by simpa using h3,S,o3,o2⟩
 ·rintro e w' ⟨v,w1,rfl,h3,⟨S,o1,o2⟩,rfl⟩
  have hsz:w.heap.size+1<=w1.heap.size:=by have:=h3.size;simpa using this
  have hO:Own (w1.setCell ⟨w.heap.size,0,none⟩ v) w.heap.size (.row 12 84 (fN t) .nil .nil) [v] S:=(o1.setCell (p:=⟨w.heap.size,0,none⟩) (o1.notMem (Nat.lt_succ_self _)) v).lower (Nat.le_succ _)
  obtain⟨v',_,e2,h8,-⟩:=Vs.res (F:=F) (fp:=fp1 S) (Nat.le_refl _) hO
  cases e2
  refine⟨v,fp1 S,rfl,(hb.trans (h3.mono (by omega))).setCell (p:=⟨w.heap.size,0,none⟩) (Nat.le_refl _) _,⟨JB _,v,[],rfl,h8,λ j e=>?_,rfl⟩,λ k b hb=>?_,λ k k' b h1 h2=>?_⟩
  ·cases e
   exact⟨rfl,S,hO,o2,λ b hb=>mem_fp1.2 ⟨rfl,hb⟩⟩
  ·exact hO.mem b (mem_fp1.1 hb).2
  ·rw[(mem_fp1.1 h1).1,(mem_fp1.1 h2).1]
theorem TF(k:Int)(pr pc:Option Addr)(nr cr nc cc:Nat)(b o b' o':Nat)(z:Value)(w:World)(ho:k≠3∨nr≠nc)
  (h0:w.cell? ⟨b,o,none⟩=some (.int .i64 k)) (h1:w.cell? ⟨b,o+15,none⟩=some (.slice pc nc cc)) (h2:w.cell? ⟨b',o',none⟩=some (.slice pr nr cr)) :
  Calls prog 46 #[.pointer (some ⟨b,o,none⟩),.pointer (some ⟨b',o',none⟩),z] w (JY w):=by
 go_enter func46,ntmps46
 by_cases hk:k=3
 ·have b0:decide (k=3)=true:=decide_eq_true hk
  have b1:decide ((nr:Int)=(nc:Int))=false:=decide_eq_false (by omega)
  go_wp2_with fail
  exact⟨rfl,rfl,Below.refl _ _⟩
 ·have b0:decide (k=3)=false:=decide_eq_false hk
  go_wp2_with fail
  exact⟨rfl,rfl,Below.refl _ _⟩
def OutAt(w:World)(x y:Value):Prop:=∃(k:Int) (pr pc:Option Addr) (nr cr nc cc b o b' o':Nat),x=.pointer (some ⟨b,o,none⟩)/\y=.pointer (some ⟨b',o',none⟩)/\(k≠3∨nr≠nc)/\b<w.heap.size/\b'<w.heap.size /\
  w.cell? ⟨b,o,none⟩=some (.int .i64 k)/\w.cell? ⟨b,o+15,none⟩=some (.slice pc nc cc)/\w.cell? ⟨b',o',none⟩=some (.slice pr nr cr)
theorem outAt{F:Mem}{w:World}{d:Dl}{l:List Rl}{x y:Value}(ho:d.k≠3∨l.length≠d.c.length)(h:RepV (bJ F w) (.el (dlC d).ds) [x])(k:RepV (bJ F w) (.el (.row 3 54 (bA l) .nil .nil)) [y]):OutAt w x y:=by
 obtain⟨-,b,o,ys,e,hb,⟨_,rfl,_,rfl,_,rfl,_,rfl,_,rfl,_,_,rfl,-,_,_,rfl,-,_,rfl,_,rfl,_,rfl,_,_,rfl,-,_,_,rfl,-,_,_,rfl,-,_,_,rfl,-,_,_,rfl,-,v1,_,rfl,⟨p1,n1,c1,rfl,l1,-⟩,rfl⟩,hf⟩:=h
 obtain⟨-,b',o',ys',e',hb',⟨v2,_,rfl,⟨p2,n2,c2,rfl,l2,-⟩,rfl⟩,hf'⟩:=k
 cases e;cases e'
 have cell:∀ {b o:Nat} {u:Value},b<w.heap.size->(bJ F w).Fs b o=some u->w.cell? ⟨b,o,none⟩=some u:=λ {b o u} hb h=>by
  have h:(if b<w.heap.size then U w b o else F b o)=some u:=h
  rw[if_pos hb] at h
  exact aD h
 rw[bS] at l1
 rw[aT] at l2
 exact⟨_,_,_,_,_,_,_,_,_,_,_,rfl,rfl,by omega,hb,hb',cell hb (hf 0 _ rfl),cell hb (hf 15 _ rfl),cell hb' (hf' 0 _ rfl)⟩
theorem OutAt.on{w W:World}{x y:Value}(h:OutAt w x y)(hb:Below w.heap.size w W):OutAt W x y:=by
 obtain⟨k,pr,pc,nr,cr,nc,cc,b,o,b',o',e1,e2,e3,l1,l2,h0,h1,h2⟩:=h
 exact⟨k,pr,pc,nr,cr,nc,cc,b,o,b',o',e1,e2,e3,Nat.lt_of_lt_of_le l1 hb.size,Nat.lt_of_lt_of_le l2 hb.size,(hb.cell (p:=⟨b,o,none⟩) l1).trans h0,(hb.cell (p:=⟨b,o+15,none⟩) l1).trans h1,(hb.cell (p:=⟨b',o',none⟩) l2).trans h2⟩
theorem FK(d:Dl)(l:List Rl)(base:Int)(ho:d.k≠3∨l.length≠d.c.length):HH 45 [.fn (.func 46) .nil (.cons (.el (dlC d).ds) (.cons (.el (.row 3 54 (bA l) .nil .nil)) (.cons (.el (.lit (.int .i64 base) .nil)) .nil)))] (rQ []):=by
 refine⟨bT func45 (by decide) rfl,rfl,λ F w vs hF hG hv=>?_⟩
 obtain⟨v,rfl,ys,zs,e1,h1,h2⟩:=qF hv
 cases e1
 obtain rfl:ys=[]:=h1
 obtain⟨x,y,z,rfl,h3,h4,-⟩:∃x y z,zs=[x,y,z]/\RepV (bJ F w) (.el (dlC d).ds) [x]/\RepV (bJ F w) (.el (.row 3 54 (bA l) .nil .nil)) [y]/\True:=by
  obtain⟨x,_,rfl,h3,y,_,rfl,h4,z,_,rfl,h5,rfl⟩:=h2
  exact⟨x,y,z,rfl,h3,h4,trivial⟩
 have ht:=outAt ho h3 h4
 refine (FJ 46 #[] #[x,y,z] w (bT func46 (by decide) rfl) λ W hb=>?_).mono ?_
 ·obtain⟨k,pr,pc,nr,cr,nc,cc,b,o,b',o',rfl,rfl,e3,-,-,g0,g1,g2⟩:=ht.on hb
  exact TF _ _ _ _ _ _ _ _ _ _ _ _ _ e3 g0 g1 g2
 rintro e w' ⟨rfl,hb⟩
 refine⟨_,λ _=>[],rfl,hb,⟨trivial,_,[],rfl,Rd.none_ _ _ _,λ j e=>?_,rfl⟩,λ k b hb=>(by cases hb),λ k k' b hb=>(by cases hb)⟩
 cases e
 exact⟨rfl,[],⟨_,[],[],[],[],[],[],[],rfl,.inl ⟨none,rfl,rfl,rfl,rfl⟩,⟨rfl,rfl⟩,⟨rfl,rfl⟩,⟨rfl,rfl⟩,rfl⟩,by simp,λ b hb=>by cases hb⟩
theorem LJ(d:Dl)(l:List Rl)(base:Int)(C:List Cr)(h:HH 45 [.fn (.func 46) .nil (.cons (.el (dlC d).ds) (.cons (.el (.row 3 54 (bA l) .nil .nil)) (.cons (.el (.lit (.int .i64 base) .nil)) .nil)))] (rQ C)):HH 12 [dlL d,aV l,iA base] (rQ C):=by
 refine ab0 func12 ntmps12 results12 ?_
 simp[dlL,aV]
 apply aC h<;>simp[rQ]
 ·exact⟨⟨_,_,⟨rfl,rfl⟩,rfl⟩,⟨_,_,⟨rfl,rfl⟩,rfl⟩,⟨_,_,⟨rfl,rfl⟩,rfl⟩⟩
 exact⟨[((0,0),[(9,0)])],by simp⟩
theorem TG(d:Dl)(l:List Rl)(base:Int)(ho:d.k≠3∨l.length≠d.c.length):HH 12 [dlL d,aV l,iA base] (rQ []):=LJ d l base [] (FK d l base ho)
theorem CH(d:Dl)(l:List Rl)(base:Int)(hc:d.c.length<=100000000)(hl:l.length<=100000000)(ho:d.k≠3∨l.length≠d.c.length):HH 14 [dlL d,aV l,iA base] (lF []):=by
 have d6:d.c.length*6 / 6=d.c.length:=by omega
 have d3:l.length*3 / 3=l.length:=by omega
 refine ab0 func14 ntmps14 results14 ?_
 by_cases hk:d.k=3
 ·have hne:¬l.length=d.c.length:=by omega
  have hnI:¬(l.length:Int)=d.c.length:=by omega
  simp[dlL,dlC,aV,hk,aT,d3,bS,d6,hne,hnI]
  exact⟨[],by simp[lF,fN]⟩
 ·simp[dlL,dlC,aV,hk]
  exact⟨[],by simp[lF,fN]⟩
theorem k168(c:Cr):HH 72 [crL c,crL c] (.v (.bool true)):=by
 refine ab0 func72 ntmps72 results72 ?_
 simp[crL,crC]
 apply aC (k16 c.t)<;>simp
 apply aC (k16 c.b)<;>simp
 exact⟨[],by simp⟩
theorem tC(l:List Cr):(fN l).len=l.length*12:=by
 induction l with
 | nil=>rfl
 | cons a r ih=>simp[fN,Ds.len,ih];omega
theorem OE(a b:List Cr):fN (a++b)=(fN a).app (fN b):=by
 induction a with
 | nil=>rfl
 | cons x r ih=>simp[fN,Ds.app,ih]
theorem dp_crs{l a b:List Cr}(h:a++b=l):(fN l).dp (a.length*12)=fN b:=by
 rw[<-h,OE,<-tC a,Ds.dp_app]
def st96(l:List Cr)(k:Nat):St:=bV [(0,lF l),(1,lF l),(5,iA k)] [] []
theorem k96(l:List Cr)(hl:l.length<=100000000):HH 13 [lF l,lF l] (.v (.bool true)):=by
 have d0:l.length*12 / 12=l.length:=by omega
 refine ab0 func13 ntmps13 results13 ?_
 simp[lF,tC,d0]
 refine lp (α:={ q:List Cr×List Cr // q.1++q.2=l }) (λ q=>st96 l q.1.1.length) (λ q=>q.1.2.length) ⟨([],l),rfl⟩ ?_ ?_
 ·apply aK []<;>simp[AV.ok,Dc.ok,lF]
 ·rintro⟨⟨a,q⟩,hq⟩
  simp only at hq
  cases q with
  | nil =>
   have e:a=l:=by rw[<-hq];simp
   subst e
   simp[st96,lF,tC,d0]
   exact⟨[],by simp⟩
  | cons t q =>
   have h1:a.length<l.length:=by rw[<-hq];simp
   have h2:=dp_crs hq
   have hw:=wr1 (k:=a.length) (by omega)
   simp[st96,lF,tC,d0,h1,h2,fN,hw]
   refine⟨by kernel_rfl,by omega,?_⟩
   apply aC (k168 t)<;>simp[crL,crC,hw]
   refine⟨a++[t],q,by simp,by rw[List.append_assoc];exact hq,?_⟩
   apply aK []<;>simp[AV.ok,Dc.ok,hw,lF]
end
section
structure R3 (r:Rl):Prop where
 z:1+(dI r.g+r.i.size)<=300
 fit:iF r.g
 ifit:r.i.fits
theorem R3.sz{r:Rl}(h:R3 r):dI r.g<=299:=by have:=h.z;omega
theorem R3.isz{r:Rl}(h:R3 r):r.i.size<=299:=by have:=h.z;omega
theorem R3.len{r:Rl}(h:R3 r):r.g.length<=299:=Nat.le_trans (qQ _) h.sz
def zR(r:Rl):Nat:=1+(dI r.g+r.i.size)
theorem R3.zz{r:Rl}(h:R3 r):zR r<=300/\dI r.g+1<=zR r/\r.i.size+1<=zR r:=by have:=h.z;unfold zR;omega
structure D3 (d:Dl):Prop where
 lv:d.lv<=300
 pf:d.p.fits
 ps:d.p.size<=300
 sl:d.s.length<=300
 sf:AG d.s
 ml:d.m.length<=300
 cl:d.c.length<=300
abbrev W(n:Int):Int:=IntKind.i64.wrap n
def upT(t:Tm)(n:Int):Tm:=t.lift n 0
theorem bX{t:Tm}(n:Int)(h:t.fits):(upT t n).fits:=jD n 0 h
theorem eM(t:Tm)(n:Int):(upT t n).size=t.size:=kD t n 0
def eY(k:Int)(a:Tm):Tm:=⟨kH k,a.ts⟩
def eX(k:Int)(a b:Tm):Tm:=⟨kH k,.cons a.h a.x b.ts⟩
theorem kB(k:Int)(a:Tm):(eY k a).size=1+a.size:=by
 show aH []+a.ts.size=_
 rw[aN];simp[aH]
theorem fV(k:Int)(a b:Tm):(eX k a b).size=2+a.size+b.size:=by
 show aH []+(Ts.cons a.h a.x b.ts).size=_
 rw[cG,aN]
 have e1:Tm.size ⟨a.h,a.x⟩=a.size:=rfl
 simp[aH];omega
theorem fZ{k:Int}{a:Tm}(hk:0<=k/\k<=100)(ha:a.fits):(eY k a).fits:=⟨iR hk,aO ha⟩
theorem fY{k:Int}{a b:Tm}(hk:0<=k/\k<=100)(ha:a.fits)(hb:b.fits):(eX k a b).fits:=⟨iR hk,ha.1,ha.2,aO hb⟩
theorem dB(n:Int):(dY n).size=0:=rfl
theorem bF(n:Int):(vT n).size=0:=rfl
def eI(k n:Int):Tm:=⟨gI k n,.nil⟩
theorem eH(k n:Int):(eI k n).size=0:=rfl
theorem gO{k n:Int}(hk:fW k)(hn:0<=n/\n<=100000000000):(eI k n).fits:=⟨sU (by decide) hk hn (λ p hp=>by cases hp),trivial⟩
def dH(f:Nat->Tm):Nat->Ts
 | 0=>.nil
 | n+1=>(dH f n).app (f n).ts
def apJ(f:Nat->Tm):Nat->Ts
 | 0=>.nil
 | n+1=>(apJ f n).app (upT (f n) n).ts
theorem fL(f:Nat->Tm):∀n,(dH f n).len=n
 | 0=>rfl
 | n+1=>by simp[dH,Ts.app_len,fL f n,Tm.ts,Ts.len]
theorem yT(f:Nat->Tm):∀n,(apJ f n).len=n
 | 0=>rfl
 | n+1=>by simp[apJ,Ts.app_len,yT f n,Tm.ts,Ts.len]
theorem lD{f:Nat->Tm}:∀n,(∀j,j<n->(f j).fits)->(dH f n).fits
 | 0,_=>trivial
 | n+1,h=>kL (lD n λ j hj=>h j (by omega)) (aO (h n (by omega)))
theorem nI{f:Nat->Tm}:∀n,(∀j,j<n->(f j).fits)->(apJ f n).fits
 | 0,_=>trivial
 | n+1,h=>kL (nI n λ j hj=>h j (by omega)) (aO (bX _ (h n (by omega))))
theorem F7(f:Nat->Tm){i:Nat}:∀ {n:Nat},i<n->∃r,dH f n=(dH f i).app (.cons (f i).h (f i).x r)
 | 0,h=>by omega
 | n+1,h=>by
  by_cases e:i=n
  ·subst e;exact⟨.nil,rfl⟩
  ·obtain⟨r,h1⟩:=F7 f (n:=n) (i:=i) (by omega)
   exact⟨r.app (f n).ts,by rw[dH,h1,Ts.app_assoc];rfl⟩
theorem mapJ_dp(f:Nat->Tm){i n:Nat}(h:i<n):∃r,(tDs ty (dH f n)).dp (i*5)=tDs ty (.cons (f i).h (f i).x r):=by
 obtain⟨r,h1⟩:=F7 f h
 refine⟨r,?_⟩
 rw[h1]
 have:=fH (dH f i) (.cons (f i).h (f i).x r)
 rwa [fL] at this
def mA:Ts->Nat->Tm
 | .nil,_=>⟨kH 0,.nil⟩
 | .cons h x _,0=>⟨h,x⟩
 | .cons _ _ r,n+1=>mA r n
theorem AC:∀ {t:Ts} {n:Nat},n<t.len->∃r,(tDs ty t).dp (n*5)=tDs ty (.cons (mA t n).h (mA t n).x r)
 | .nil,_,h=>by simp[Ts.len] at h
 | .cons h x r,0,_=>⟨r,by simp[mA,Ds.dp]⟩
 | .cons h x r,n+1,hn=>by
  obtain⟨q,h1⟩:=AC (t:=r) (n:=n) (by simp[Ts.len] at hn;omega)
  refine⟨q,?_⟩
  rw[show (n+1)*5=n*5+1+1+1+1+1 by omega]
  simpa[tDs,Ds.dp,mA] using h1
theorem wL:∀(t:Ts) (n:Nat),(mA t n).size<=t.size
 | .nil,_=>by simp[mA,Tm.size,kH,aH,Ts.size]
 | .cons h x r,0=>by simp only[mA];rw[cG];omega
 | .cons h x r,n+1=>by
  have:=wL r n
  simp only[mA];rw[cG];omega
theorem mN:∀ {t:Ts} (n:Nat),t.fits->(mA t n).fits
 | .nil,_,_=>⟨iR (by decide),trivial⟩
 | .cons h x r,0,hf=>⟨hf.1,hf.2.1⟩
 | .cons h x r,n+1,hf=>mN n hf.2.2
theorem mV:∀(n:Nat) (t:Tm),(aQ n t).len=n
 | 0,_=>rfl
 | 1,_=>rfl
 | n+2,t=>by simp[aQ,Ts.len,mV (n+1)]
theorem R9(g:List Ag)(v:Ts)(far:Int)(i:Nat)(hv:v.fits)(e:Ts)(he:e.fits):∀q:Ts,q.fits->(mT g v far i e q).fits
 | .nil,_=>trivial
 | .cons h x q,hq=>by
  have h1:=uE g v far i e ⟨h,x⟩ hv he ⟨hq.1,hq.2.1⟩
  exact⟨h1.1,h1.2,R9 g v far i hv e he q hq.2.2⟩
theorem V9(r:Rl)(v:Ts)(far:Int)(hv:v.fits):∀q:Ts,q.fits->(kG r v far q).fits
 | .nil,_=>trivial
 | .cons h x q,hq=>by
  have h1:=uE r.g v far r.g.length .nil ⟨h,x⟩ hv trivial ⟨hq.1,hq.2.1⟩
  exact⟨h1.1,h1.2,V9 r v far hv q hq.2.2⟩
theorem sI(r:Ts)(hf:r.fits):(kZ r).fits:=uH 13 (gI 0 1) (by decide) (eQ (by decide) (by decide) (by decide)) r hf
def nR(r:Rl):Nat:=(bP r.g 0).length
def rI(r:Rl)(j:Nat):Nat:=((bP r.g 0)[j]?.getD 0).toNat
theorem S9{r:Rl}{j:Nat}(h:j<nR r):(bP r.g 0)[j]? = some ((rI r j:Nat):Int)/\rI r j<r.g.length:=by
 have h1:(bP r.g 0)[j]? = some ((bP r.g 0)[j]'h):=List.getElem?_eq_getElem h
 obtain⟨k,h2,-,h3⟩:=wB r.g 0 _ (List.mem_of_getElem? h1)
 have h4:rI r j=k:=by
  unfold rI
  rw[h1,h2]
  simp
 rw[h4]
 exact⟨by rw[h1,h2],by omega⟩
theorem mZ(r:Rl):nR r<=r.g.length:=oT r.g 0
theorem T4{r:Rl}{j:Nat}(h:j<nR r):(jL (bP r.g 0)).dp j=.lit (.int .i64 (rI r j)) (jL ((bP r.g 0).drop (j+1))):=by
 have h1:=(S9 h).1
 have h2:bP r.g 0=(bP r.g 0).take j++(((rI r j:Nat):Int) :: (bP r.g 0).drop (j+1)):=by
  obtain⟨h3,h4⟩:=List.getElem?_eq_some_iff.1 h1
  rw[<-h4,<-List.drop_eq_getElem_cons h3,List.take_append_drop]
 have h3:=dp_ints (l:=bP r.g 0) (a:=(bP r.g 0).take j) h2.symm
 rw[List.length_take,Nat.min_eq_left (Nat.le_of_lt (show j<(bP r.g 0).length from h))] at h3
 rw[h3]
 rfl
def aJ(r:Rl)(j:Nat):Ag:=r.g[rI r j]?.getD ⟨false,⟨kH 0,.nil⟩,.nil,0,.nil⟩
theorem yC{r:Rl}{j:Nat}(h:j<nR r):∃hk:rI r j<r.g.length,r.g[rI r j]=aJ r j:=by
 have h1:=(S9 h).2
 exact⟨h1,by simp[aJ,h1]⟩
theorem uL{r:Rl}{j:Nat}(h:j<nR r):aJ r j∈r.g:=by
 obtain⟨h1,h2⟩:=yC h
 rw[<-h2];exact List.getElem_mem h1
def bN(r:Rl)(x:Tm):Ts:=aQ (r.g.length-nR r) x
def tlT(r:Rl)(v:Ts)(far:Int)(j:Nat):Ts:=iP r.g v far (rI r j) .nil (aJ r j).e
def inT(r:Rl)(v:Ts)(far:Int)(j:Nat):Ts:=mT r.g v far (rI r j) (aJ r j).e (aJ r j).i
def wI(g:List Ag)(i:Int):Nat:=match g[i.toNat]? with
 | some a=>1+a.e.size+a.i.size
 | none=>1
theorem CI(g:List Ag):∀(l:List Ag) (k:Nat),(∀j (hj:j<l.length),g[k+j]? = some l[j])->((bP l k).map (wI g)).sum<=dI l
 | [],_,_=>by simp[bP]
 | a :: l,k,h=>by
  have ih:=CI g l (k+1) λ j hj=>by
   have:=h (j+1) (by simp;omega)
   rw[show k+(j+1)=k+1+j by omega] at this
   simpa using this
  have e1:dI (a :: l)=(1+a.t.size+a.e.size+a.i.size)+dI l:=by simp[dI]
  have h0:g[k]? = some a:=h 0 (by simp)
  have h1:wI g (k:Int)=1+a.e.size+a.i.size:=by
   unfold wI
   rw[show ((k:Int)).toNat=k from rfl,h0]
  rw[e1]
  unfold bP
  split
  ·rw[List.map_cons,List.sum_cons,h1]
   omega
  ·omega
def vJ(r:Rl)(j:Nat):Nat:=1+(aJ r j).e.size+(aJ r j).i.size
def FO(r:Rl)(n:Nat):Nat:=(((bP r.g 0).take n).map (wI r.g)).sum
theorem R7{r:Rl}{j:Nat}(h:j<nR r):FO r (j+1)=FO r j+vJ r j:=by
 obtain⟨h1,h2⟩:=S9 h
 have h3:wI r.g ((rI r j:Nat):Int)=vJ r j:=by
  unfold wI vJ aJ
  rw[show (((rI r j:Nat):Int)).toNat=rI r j from rfl,List.getElem?_eq_getElem h2]
  rfl
 unfold FO
 rw[List.take_add_one,h1]
 simp[h3]
theorem JZ(r:Rl):FO r (nR r)<=dI r.g:=by
 unfold FO nR
 rw[List.take_length]
 exact CI r.g r.g 0 λ j hj=>by rw[Nat.zero_add];exact List.getElem?_eq_getElem hj
theorem CA{r:Rl}{j:Nat}(hr:R3 r)(h:j<nR r):vJ r j<=299/\1+(aJ r j).e.size+(aJ r j).i.size<=vJ r j:=by
 obtain⟨h2,h3⟩:=yC h
 have h4:=mD h2
 rw[h3] at h4
 have h5:=hr.sz
 unfold vJ
 omega
theorem U4{r:Rl}{f:Nat->Tm}{c:Nat}(h:∀j,j<nR r->(f j).size+1<=c*vJ r j/\vJ r j<=299):∀n,n<=nR r->(dH f n).size<=c*FO r n
 | 0,_=>by simp[dH,Ts.size]
 | n+1,hn=>by
  have h1:=U4 h n (by omega)
  have h2:=h n (by omega)
  rw[dH,iJ,aN,R7 (by omega),Nat.mul_add]
  omega
theorem FA{r:Rl}{f:Nat->Tm}{c:Nat}(h:∀j,j<nR r->(f j).size+1<=c*vJ r j/\vJ r j<=299):∀n,n<=nR r->(apJ f n).size<=c*FO r n
 | 0,_=>by simp[apJ,Ts.size]
 | n+1,hn=>by
  have h1:=FA h n (by omega)
  have h2:=h n (by omega)
  rw[apJ,iJ,aN,eM,R7 (by omega),Nat.mul_add]
  omega
theorem U1:∀(n:Nat) (t:Tm) (j:Nat),j<n->(mA (aQ n t) j).size<=t.size+n
 | 0,t,j,h=>by omega
 | 1,t,j,h=>by
  obtain rfl:j=0:=by omega
  show Tm.size ⟨t.h,t.x⟩<=_
  have:Tm.size ⟨t.h,t.x⟩=t.size:=rfl
  omega
 | n+2,t,0,h=>by
  show Tm.size ⟨kH 14,t.ts⟩<=_
  rw[nD];omega
 | n+2,t,j+1,h=>by
  have:=U1 (n+1) ⟨kH 15,t.ts⟩ j (by omega)
  rw[nD] at this
  show (mA (aQ (n+1) ⟨kH 15,t.ts⟩) j).size<=_
  omega
theorem C4(g:List Ag)(v:Ts)(C:Nat)(hC:∀j,j<v.len->(v.tm j).size<=C)(far:Int)(i:Nat)(e:Ts):∀q:Ts,(mT g v far i e q).size<=q.size*(C+1)
 | .nil=>by simp[mT,Ts.size]
 | .cons h x q=>by
  have h1:Tm.size ⟨(cN g v far i e ⟨h,x⟩).h,(cN g v far i e ⟨h,x⟩).x⟩+1<=_:=qW g v C hC far i e ⟨h,x⟩
  have h2:=C4 g v C hC far i e q
  simp only[mT]
  rw[cG,cG,Nat.add_mul]
  omega
theorem K8(r:Rl)(v:Ts)(C:Nat)(hC:∀j,j<v.len->(v.tm j).size<=C)(far:Int):∀q:Ts,(kG r v far q).size<=q.size*(C+1)
 | .nil=>by simp[kG,Ts.size]
 | .cons h x q=>by
  have h1:Tm.size ⟨(cN r.g v far r.g.length .nil ⟨h,x⟩).h,(cN r.g v far r.g.length .nil ⟨h,x⟩).x⟩+1<=_:=qW r.g v C hC far r.g.length .nil ⟨h,x⟩
  have h2:=K8 r v C hC far q
  simp only[kG]
  rw[cG,cG,Nat.add_mul]
  omega
abbrev VB(v:Ts):Prop:=v.size<=91000/\∀j,j<v.len->(v.tm j).size<=301
section
variable {r:Rl} {d:Dl} {x y:Tm}
theorem cF(r:Rl)(hx:x.fits):(bN r x).fits:=eJ _ _ hx
theorem cP(hr:R3 r)(hx:x.size<=2):VB (bN r x):=by
 have h1:=pU (r.g.length-nR r) x
 have h2:=hr.len
 have h3:(r.g.length-nR r)*(x.size+(r.g.length-nR r)+3)<=299*(2+299+3):=Nat.mul_le_mul (by omega) (by omega)
 refine⟨by unfold bN;omega,λ j hj=>?_⟩
 have h4:=D9 (r.g.length-nR r) x j hj
 unfold bN
 omega
theorem iI{v:Ts}(far:Int){j:Nat}(hr:R3 r)(hj:j<nR r)(hv:v.fits):(tlT r v far j).fits:=zH _ _ _ _ hv _ _ trivial (hr.fit _ (uL hj)).2.1
theorem J1{v:Ts}(far:Int){j:Nat}(hr:R3 r)(hj:j<nR r)(hv:v.fits):(inT r v far j).fits:=R9 _ _ _ _ hv _ (hr.fit _ (uL hj)).2.1 _ (hr.fit _ (uL hj)).2.2
theorem iH{v:Ts}(far:Int){j:Nat}(hr:R3 r)(hj:j<nR r)(hv:VB v):(tlT r v far j).size+1<=303*vJ r j/\vJ r j<=299:=by
 have h1:=xH r.g v 301 hv.2 far (rI r j) (aJ r j).e .nil
 have h2:=CA hr hj
 unfold tlT
 omega
theorem J0{v:Ts}(far:Int){j:Nat}(hr:R3 r)(hj:j<nR r)(hv:VB v):(inT r v far j).size+1<=303*vJ r j/\vJ r j<=299:=by
 have h1:=C4 r.g v 301 hv.2 far (rI r j) (aJ r j).e (aJ r j).i
 have h2:=CA hr hj
 unfold inT
 omega
theorem BF(hr:R3 r){j:Nat}(hj:j<nR r):(aJ r j).e.len+1<=vJ r j/\vJ r j<=299:=by
 have h1:=len_le_size (aJ r j).e
 have h2:=CA hr hj
 omega
theorem Y1(hr:R3 r){v:Ts}(far:Int){j:Nat}(hj:j<nR r):(tlT r v far j).len+1<=vJ r j/\vJ r j<=299:=by
 unfold tlT
 rw[sA]
 exact BF hr hj
def aY(d:Dl)(base far:Int):Tm:=fO d (W (base+3)) far
def bW(d:Dl)(base:Int)(x:Tm)(far:Int):Tm:=atT d (W (base+2)) far x
theorem bQ(hd:D3 d)(base far:Int):(aY d base far).fits:=gD d _ far (by have:=hd.lv;omega) (kT _)
theorem bU(hd:D3 d)(base far:Int):(aY d base far).size<=2600:=by
 have h1:=gA d (W (base+3)) far (by have:=hd.lv;omega)
 have h2:=hd.ps
 unfold aY
 omega
theorem eO(hd:D3 d)(base far:Int)(hx:x.fits):(bW d base x far).fits:=nH d _ far x (by have:=hd.lv;omega) (kT _) hx
theorem eN(hd:D3 d)(base far:Int):(bW d base x far).size<=2602+2*x.size:=by
 have h1:=nG d (W (base+2)) far x (by have:=hd.lv;omega)
 have h2:=hd.ps
 unfold bW
 omega
def jB(d:Dl)(r:Rl)(base:Int)(x:Tm)(far:Int)(j:Nat):Tm:=aG 4 (tlT r (bN r x) far j) (aY d base (W (far+(tlT r (bN r x) far j).len)))
def oF(d:Dl)(r:Rl)(base:Int)(x:Tm)(far:Int):Tm:=tup (apJ (jB d r base x far) (nR r))
theorem oS(hd:D3 d)(hr:R3 r)(base:Int)(far:Int)(hx:x.fits){j:Nat}(hj:j<nR r):(jB d r base x far j).fits:=bE 4 (by decide) (iI far hr hj (cF r hx)) (bQ hd _ _)
theorem oR(hd:D3 d)(hr:R3 r)(base:Int)(far:Int)(hx:x.size<=2){j:Nat}(hj:j<nR r):(jB d r base x far j).size+1<=3300*vJ r j/\vJ r j<=299:=by
 have h1:=bD 4 (tlT r (bN r x) far j) (aY d base (W (far+(tlT r (bN r x) far j).len)))
 have h2:=iH far hr hj (cP hr hx)
 have h3:=bU hd base (W (far+(tlT r (bN r x) far j).len))
 unfold jB
 omega
theorem mP{f:Nat->Tm}{c:Nat}(hr:R3 r)(h:∀j,j<nR r->(f j).size+1<=c*vJ r j/\vJ r j<=299):(apJ f (nR r)).size<=c*dI r.g/\dI r.g<=299:=⟨Nat.le_trans (FA h _ (Nat.le_refl _)) (Nat.mul_le_mul_left _ (JZ r)),hr.sz⟩
theorem lC{f:Nat->Tm}{c:Nat}(hr:R3 r)(h:∀j,j<nR r->(f j).size+1<=c*vJ r j/\vJ r j<=299):(dH f (nR r)).size<=c*dI r.g/\dI r.g<=299:=⟨Nat.le_trans (U4 h _ (Nat.le_refl _)) (Nat.mul_le_mul_left _ (JZ r)),hr.sz⟩
theorem S5(hd:D3 d)(hr:R3 r)(base:Int)(far:Int)(hx:x.fits):(oF d r base x far).fits:=oM _ (nI _ λ _ hj=>oS hd hr base far hx hj)
theorem S4(hd:D3 d)(hr:R3 r)(base:Int)(far:Int)(hx:x.size<=2):(oF d r base x far).size<=6600*zR r/\zR r<=300:=by
 have hz:=hr.zz
 have h1:=mJ (apJ (jB d r base x far) (nR r))
 have h2:=mP (f:=jB d r base x far) hr λ j hj=>oR hd hr base far hx hj
 unfold oF
 omega
def pP(d:Dl)(c:Int)(x:Tm):Tm:=eX 13 (eI c d.c.length) x
def iO(d:Dl)(base c:Int)(x:Tm)(far:Int):Tm:=bW d base (pP d c x) far
def jM(d:Dl)(base c:Int)(x:Tm)(far:Int):Tm:=aG 4 (iO d base c x far).ts (aY d base (W (far+1)))
theorem oP(hd:D3 d){c:Int}(hc:fW c)(hx:x.fits):(pP d c x).fits:=fY (by decide) (gO hc (by have:=hd.cl;omega)) hx
theorem oO(d:Dl)(c:Int)(x:Tm):(pP d c x).size=2+x.size:=by unfold pP;rw[fV,eH]
theorem jC(hd:D3 d)(base:Int){c:Int}(hc:fW c)(far:Int)(hx:x.fits):(iO d base c x far).fits:=eO hd _ _ (oP hd hc hx)
theorem kA(hd:D3 d)(base c far:Int)(hx:x.size<=2):(iO d base c x far).size<=2610:=by
 have h1:=eN (x:=pP d c x) hd base far
 rw[oO] at h1
 unfold iO
 omega
theorem tA(hd:D3 d)(base:Int){c:Int}(hc:fW c)(far:Int)(hx:x.fits):(jM d base c x far).fits:=bE 4 (by decide) (aO (jC hd base hc far hx)) (bQ hd _ _)
theorem sZ(hd:D3 d)(base c far:Int)(hx:x.size<=2):(jM d base c x far).size<=7900:=by
 have h1:=bD 4 (iO d base c x far).ts (aY d base (W (far+1)))
 have h2:=kA hd base c far hx
 have h3:=bU hd base (W (far+1))
 rw[aN] at h1
 unfold jM
 omega
def tbA(r:Rl)(x:Tm)(far:Int)(j:Nat):Tm:=tup (tlT r (bN r x) far j)
def tbB(r:Rl)(p:Ts)(x:Tm)(far:Int)(j:Nat):Tm:=aG 5 (tup (tlT r (bN r x) far j)).ts (cL (mA p j) (aQ (tlT r (bN r x) far j).len (vT 0)))
def tbT(d:Dl)(r:Rl)(x:Tm)(far:Int):Tm:=jN (aG 5 (dY (nR r)).ts (bM d.s)) (dH (tbA r x far) (nR r)) (vT 0)
def tbM(d:Dl)(r:Rl)(base:Int)(x:Tm)(far:Int):Tm:=aG 5 (dY (nR r)).ts (aG 4 (tbT d r (upT x 2) (W (far+2))).ts (aY d base (W (far+3))))
def tbC(d:Dl)(r:Rl)(base:Int)(x y:Tm)(far:Int):Tm:=jN (tbM d r base x far) (dH (tbB r (aQ (nR r) (upT y 2)) (upT x 1) (W (far+1))) (nR r)) (eY 14 (vT 0))
def cC(d:Dl)(r:Rl)(base c:Int)(x y:Tm)(far:Int):Tm :=
 if nR r=0 then aG 5 (iO d base c x far).ts (jN (aG 5 (dY 0).ts (aY d base (W (far+2)))) .nil (vT 0))
 else aG 5 (iO d base c x far).ts (cL (tbC d r base x y far) (eY 15 (vT 0)).ts)
theorem zV(hr:R3 r)(far:Int)(hx:x.fits){j:Nat}(hj:j<nR r):(tbA r x far j).fits:=oM _ (iI far hr hj (cF r hx))
theorem zU(hr:R3 r)(far:Int)(hx:x.size<=2){j:Nat}(hj:j<nR r):(tbA r x far j).size+1<=606*vJ r j/\vJ r j<=299:=by
 have h1:=mJ (tlT r (bN r x) far j)
 have h2:=iH far hr hj (cP hr hx)
 unfold tbA
 omega
theorem vL(hr:R3 r):(dY (nR r)).fits:=gN (by have h1:=mZ r;have h2:=hr.len;omega)
theorem zM(hd:D3 d)(hr:R3 r)(far:Int)(hx:x.fits):(tbT d r x far).fits :=
 tJ (bE 5 (by decide) (aO (vL hr)) (A7 hd.sf)) (lD _ λ _ hj=>zV hr far hx hj) (bO (by decide)) (by rw[fL];have h1:=mZ r;have h2:=hr.len;omega)
theorem zL(hd:D3 d)(hr:R3 r)(far:Int)(hx:x.size<=2):(tbT d r x far).size<=606*zR r/\zR r<=300:=by
 have hz:=hr.zz
 have h1:=qC (aG 5 (dY (nR r)).ts (bM d.s)) (dH (tbA r x far) (nR r)) (vT 0)
 have h2:=lC (f:=tbA r x far) hr λ j hj=>zU hr far hx hj
 have h3:=bD 5 (dY (nR r)).ts (bM d.s)
 rw[aN,dB,A6] at h3
 rw[bF] at h1
 have h4:=hd.sl
 unfold tbT
 omega
theorem zO(hd:D3 d)(hr:R3 r)(base far:Int)(hx:x.fits):(tbM d r base x far).fits :=
 bE 5 (by decide) (aO (vL hr)) (bE 4 (by decide) (aO (zM hd hr _ (bX 2 hx))) (bQ hd _ _))
theorem zN(hd:D3 d)(hr:R3 r)(base far:Int)(hx:x.size<=2):(tbM d r base x far).size<=3900*zR r/\zR r<=300:=by
 have hz:=hr.zz
 have h1:=bD 5 (dY (nR r)).ts (aG 4 (tbT d r (upT x 2) (W (far+2))).ts (aY d base (W (far+3))))
 have h2:=bD 4 (tbT d r (upT x 2) (W (far+2))).ts (aY d base (W (far+3)))
 have h3:=zL (x:=upT x 2) hd hr (W (far+2)) (by rw[eM];exact hx)
 have h4:=bU hd base (W (far+3))
 rw[aN] at h1 h2
 rw[dB] at h1
 unfold tbM
 omega
abbrev PB(r:Rl)(p:Ts):Prop:=p.size<=91000/\∀j,j<nR r->(mA p j).size<=301
theorem qO(hr:R3 r)(hy:y.size<=2):PB r (aQ (nR r) (upT y 2)):=by
 have h1:=pU (nR r) (upT y 2)
 have h2:=mZ r
 have h3:=hr.len
 rw[eM] at h1
 have h4:nR r*(y.size+nR r+3)<=299*(2+299+3):=Nat.mul_le_mul (by omega) (by omega)
 refine⟨by omega,λ j hj=>?_⟩
 have h5:=U1 (nR r) (upT y 2) j hj
 rw[eM] at h5
 omega
theorem vU{n v:Nat}(h:n+1<=v/\v<=299):(aQ n (vT 0)).size<=303*v/\v<=299:=by
 have h1:=pU n (vT 0)
 rw[bF] at h1
 have h4:n*(0+n+3)<=v*303:=Nat.mul_le_mul (by omega) (by omega)
 omega
theorem zT{p:Ts}(hr:R3 r)(far:Int)(hp:p.fits)(hx:x.fits){j:Nat}(hj:j<nR r):(tbB r p x far j).fits :=
 bE 5 (by decide) (aO (oM _ (iI far hr hj (cF r hx)))) (iE _ _ (mN j hp) (eJ _ _ (bO (by decide))))
theorem zK{p:Ts}(hr:R3 r)(far:Int)(hp:PB r p){j:Nat}(hj:j<nR r):(cL (mA p j) (aQ (tlT r (bN r x) far j).len (vT 0))).size<=907*vJ r j/\vJ r j<=299:=by
 have h1:=jV (aQ (tlT r (bN r x) far j).len (vT 0)) (mA p j)
 have h2:=hp.2 j hj
 have h0:=CA hr hj
 have h3:=vU (Y1 hr (v:=bN r x) far hj)
 omega
theorem zS{p:Ts}(hr:R3 r)(far:Int)(hp:PB r p)(hx:x.size<=2){j:Nat}(hj:j<nR r):(tbB r p x far j).size+1<=2130*vJ r j/\vJ r j<=299:=by
 have h1:=bD 5 (tup (tlT r (bN r x) far j)).ts (cL (mA p j) (aQ (tlT r (bN r x) far j).len (vT 0)))
 have h2:=mJ (tlT r (bN r x) far j)
 have h3:=iH far hr hj (cP hr hx)
 have h4:=zK (x:=x) hr far hp hj
 rw[aN] at h1
 unfold tbB
 omega
theorem zQ(hd:D3 d)(hr:R3 r)(base far:Int)(hx:x.fits)(hy:y.fits):(tbC d r base x y far).fits :=
 tJ (zO hd hr base far hx) (lD _ λ _ hj=>zT hr _ (eJ _ _ (bX 2 hy)) (bX 1 hx) hj) (fZ (by decide) (bO (by decide))) (by rw[fL];have h1:=mZ r;have h2:=hr.len;omega)
theorem zP(hd:D3 d)(hr:R3 r)(base far:Int)(hx:x.size<=2)(hy:y.size<=2):(tbC d r base x y far).size<=6030*zR r/\zR r<=300:=by
 have hz:=hr.zz
 have h1:=qC (tbM d r base x far) (dH (tbB r (aQ (nR r) (upT y 2)) (upT x 1) (W (far+1))) (nR r)) (eY 14 (vT 0))
 have h2:=zN hd hr base far hx
 have h3:=lC (f:=tbB r (aQ (nR r) (upT y 2)) (upT x 1) (W (far+1))) hr λ j hj=>zS (x:=upT x 1) hr (W (far+1)) (qO hr hy) (by rw[eM];exact hx) hj
 rw[kB,bF] at h1
 unfold tbC
 omega
theorem zX(hd:D3 d)(base far:Int):(jN (aG 5 (dY 0).ts (aY d base far)) .nil (vT 0)).fits :=
 tJ (bE 5 (by decide) (aO (gN (by decide))) (bQ hd _ _)) trivial (bO (by decide)) (by decide)
theorem zW(hd:D3 d)(base far:Int):(jN (aG 5 (dY 0).ts (aY d base far)) .nil (vT 0)).size<=2610:=by
 have h1:=qC (aG 5 (dY 0).ts (aY d base far)) .nil (vT 0)
 have h2:=bD 5 (dY 0).ts (aY d base far)
 have h3:=bU hd base far
 rw[aN,dB] at h2
 rw[bF] at h1
 have h4:Ts.nil.size=0:=rfl
 omega
theorem zJ(hd:D3 d)(hr:R3 r)(base far:Int)(hx:x.fits)(hy:y.fits):(cL (tbC d r base x y far) (eY 15 (vT 0)).ts).fits:=iE _ _ (zQ hd hr base far hx hy) (aO (fZ (by decide) (bO (by decide))))
theorem zI(hd:D3 d)(hr:R3 r)(base far:Int)(hx:x.size<=2)(hy:y.size<=2):(cL (tbC d r base x y far) (eY 15 (vT 0)).ts).size<=6034*zR r/\zR r<=300:=by
 have hz:=hr.zz
 have h1:=jV (eY 15 (vT 0)).ts (tbC d r base x y far)
 have h2:=zP hd hr base far hx hy
 rw[aN,kB,bF] at h1
 omega
theorem nQ(hd:D3 d)(hr:R3 r)(base:Int){c:Int}(hc:fW c)(far:Int)(hx:x.fits)(hy:y.fits):(cC d r base c x y far).fits:=by
 unfold cC
 split
 ·exact bE 5 (by decide) (aO (jC hd base hc far hx)) (zX hd _ _)
 ·exact bE 5 (by decide) (aO (jC hd base hc far hx)) (zJ hd hr base far hx hy)
theorem nO(hd:D3 d)(hr:R3 r)(base c far:Int)(hx:x.size<=2)(hy:y.size<=2):(cC d r base c x y far).size<=11300*zR r/\zR r<=300:=by
 have hz:=hr.zz
 have h1:=kA hd base c far hx
 unfold cC
 split
 ·have h2:=bD 5 (iO d base c x far).ts (jN (aG 5 (dY 0).ts (aY d base (W (far+2)))) .nil (vT 0))
  have h3:=zW hd base (W (far+2))
  rw[aN] at h2
  omega
 ·have h2:=bD 5 (iO d base c x far).ts (cL (tbC d r base x y far) (eY 15 (vT 0)).ts)
  have h3:=zI hd hr base far hx hy
  rw[aN] at h2
  omega
def ixT(d:Dl)(m:Int)(l:Ts):Tm:=eX 13 (eI m d.m.length) (kZ l)
def jX(d:Dl)(r:Rl)(x:Tm)(far:Int):Tm:=ixT d r.m (kG r (bN r x) far r.i)
def jS(d:Dl)(r:Rl)(x:Tm)(far:Int)(j:Nat):Tm:=ixT d (aJ r j).m (inT r (bN r x) far j)
def pcT(r:Rl)(j:Nat):Tm:=eX 13 (eI j (nR r)) (kZ (dO 0 (aJ r j).e.len))
theorem DU(hd:D3 d){m:Int}{l:Ts}(hm:fW m)(hl:l.fits):(ixT d m l).fits:=fY (by decide) (gO hm (by have:=hd.ml;omega)) (sI _ hl)
theorem DS(d:Dl)(m:Int)(l:Ts):(ixT d m l).size<=2+2*l.size:=by
 have h1:=sH l
 rw[aN] at h1
 unfold ixT
 rw[fV,eH]
 omega
theorem wY(hr:R3 r)(far:Int)(hx:x.fits):(kG r (bN r x) far r.i).fits:=V9 _ _ _ (cF r hx) _ hr.ifit
theorem wX(hr:R3 r)(far:Int)(hx:x.size<=2):(kG r (bN r x) far r.i).size<=302*zR r/\zR r<=300:=by
 have hz:=hr.zz
 have h1:=K8 r (bN r x) 301 (cP hr hx).2 far r.i
 omega
theorem yW(hd:D3 d)(hr:R3 r)(hm:fW r.m)(far:Int)(hx:x.fits):(jX d r x far).fits:=DU hd hm (wY hr far hx)
theorem yV(hr:R3 r)(far:Int)(hx:x.size<=2):(jX d r x far).size<=606*zR r/\zR r<=300:=by
 have hz:=hr.zz
 have h1:=DS d r.m (kG r (bN r x) far r.i)
 have h2:=wX hr far hx
 unfold jX
 omega
theorem qK(hd:D3 d)(hr:R3 r)(far:Int)(hx:x.fits){j:Nat}(hj:j<nR r)(hm:fW (aJ r j).m):(jS d r x far j).fits:=DU hd hm (J1 far hr hj (cF r hx))
theorem qJ(hr:R3 r)(far:Int)(hx:x.size<=2){j:Nat}(hj:j<nR r):(jS d r x far j).size<=608*vJ r j/\vJ r j<=299:=by
 have h1:=DS d (aJ r j).m (inT r (bN r x) far j)
 have h2:=J0 far hr hj (cP hr hx)
 unfold jS
 omega
theorem D8(hr:R3 r){j:Nat}(hj:j<nR r):(pcT r j).fits:=fY (by decide) (gO (by have h1:=mZ r;have h2:=hr.len;unfold fW;omega) (by have h1:=mZ r;have h2:=hr.len;omega)) (sI _ (gV _ _))
theorem D7(hr:R3 r){j:Nat}(hj:j<nR r):(pcT r j).size<=4*vJ r j/\vJ r j<=299:=by
 have h1:=sH (dO 0 (aJ r j).e.len)
 have h2:=BF hr hj
 rw[aN,gU] at h1
 unfold pcT
 rw[fV,eH]
 omega
def kidX(d:Dl)(r:Rl)(x h:Tm)(far:Int)(j:Nat):Tm:=cL (upT h (tlT r (bN r x) far j).len) (two' (pcT r j) (jS d r x far j))
where two' (a b:Tm):Ts:=.cons a.h a.x b.ts
def iV(d:Dl)(r:Rl)(x h:Tm)(far:Int)(j:Nat):Tm:=aG 4 (tlT r (bN r x) far j) (kidX d r x h far j)
def fA(d:Dl)(r:Rl)(x h:Tm)(far:Int):Tm:=tup (apJ (iV d r x h far) (nR r))
def iQ(r:Rl):Prop:=fW r.m/\∀a∈r.g,fW a.m
theorem wR(hd:D3 d)(hr:R3 r)(hm:iQ r)(far:Int)(hx:x.fits){h:Tm}(hh:h.fits){j:Nat}(hj:j<nR r):(kidX d r x h far j).fits:=by
 have h1:=D8 hr hj
 have h2:=qK hd hr far hx hj (hm.2 _ (uL hj))
 exact iE _ _ (bX _ hh) ⟨h1.1,h1.2,aO h2⟩
theorem wQ(hr:R3 r)(far:Int)(hx:x.size<=2){h:Tm}(hh:h.size<=2){j:Nat}(hj:j<nR r):(kidX d r x h far j).size<=1232*vJ r j/\vJ r j<=299:=by
 have h1:=jV (.cons (pcT r j).h (pcT r j).x (jS d r x far j).ts) (upT h (tlT r (bN r x) far j).len)
 have h2:=D7 hr hj
 have h3:=qJ (d:=d) hr far hx hj
 have h0:=CA hr hj
 rw[cG,aN,eM] at h1
 have e:Tm.size ⟨(pcT r j).h,(pcT r j).x⟩=(pcT r j).size:=rfl
 unfold kidX kidX.two'
 omega
theorem pC(hd:D3 d)(hr:R3 r)(hm:iQ r)(far:Int)(hx:x.fits){h:Tm}(hh:h.fits){j:Nat}(hj:j<nR r):(iV d r x h far j).fits:=bE 4 (by decide) (iI far hr hj (cF r hx)) (wR hd hr hm far hx hh hj)
theorem pB(hr:R3 r)(far:Int)(hx:x.size<=2){h:Tm}(hh:h.size<=2){j:Nat}(hj:j<nR r):(iV d r x h far j).size+1<=1840*vJ r j/\vJ r j<=299:=by
 have h1:=bD 4 (tlT r (bN r x) far j) (kidX d r x h far j)
 have h2:=iH far hr hj (cP hr hx)
 have h3:=wQ (d:=d) hr far hx hh hj
 unfold iV
 omega
theorem H9(hd:D3 d)(hr:R3 r)(hm:iQ r)(far:Int)(hx:x.fits){h:Tm}(hh:h.fits):(fA d r x h far).fits:=oM _ (nI _ λ _ hj=>pC hd hr hm far hx hh hj)
theorem H6(hr:R3 r)(far:Int)(hx:x.size<=2){h:Tm}(hh:h.size<=2):(fA d r x h far).size<=3680*zR r/\zR r<=300:=by
 have hz:=hr.zz
 have h1:=mJ (apJ (iV d r x h far) (nR r))
 have h2:=mP (f:=iV d r x h far) hr λ j hj=>pB (d:=d) hr far hx hh hj
 unfold fA
 omega
def idT(a b c:Tm):Tm:=⟨kH 19,.cons a.h a.x (.cons b.h b.x c.ts)⟩
theorem vH{a b c:Tm}(ha:a.fits)(hb:b.fits)(hc:c.fits):(idT a b c).fits:=⟨iR (by decide),ha.1,ha.2,hb.1,hb.2,aO hc⟩
theorem vG(a b c:Tm):(idT a b c).size=3+a.size+b.size+c.size:=by
 show aH []+(Ts.cons a.h a.x (.cons b.h b.x c.ts)).size=_
 rw[cG,cG,aN]
 have e1:Tm.size ⟨a.h,a.x⟩=a.size:=rfl
 have e2:Tm.size ⟨b.h,b.x⟩=b.size:=rfl
 simp[aH];omega
theorem dR(hd:D3 d){base:Int}(hb:fW base)(far:Int):(aS d base far).fits :=
 fY (a:=dY d.m.length) (by decide) (gN (by have:=hd.ml;omega)) (nH d base _ (vT 0) (by have:=hd.lv;omega) hb (bO (by decide)))
theorem dQ(hd:D3 d)(base far:Int):(aS d base far).size<=2620:=by
 have h1:=fV 12 (dY d.m.length) (atT d base (W (far+1)) (vT 0))
 have h2:=nG d base (W (far+1)) (vT 0) (by have:=hd.lv;omega)
 have h3:=hd.ps
 rw[dB] at h1
 rw[bF] at h2
 show (eX 12 (dY d.m.length) (atT d base (W (far+1)) (vT 0))).size<=_
 omega
theorem xJ(hd:D3 d)(base far:Int):(fU d base far).fits :=
 fY (a:=dY d.c.length) (by decide) (gN (by have:=hd.cl;omega)) (nH d _ _ (vT 0) (by have:=hd.lv;omega) (kT _) (bO (by decide)))
theorem xI(hd:D3 d)(base far:Int):(fU d base far).size<=2620:=by
 have h1:=fV 12 (dY d.c.length) (atT d (W (base+1)) (W (far+1)) (vT 0))
 have h2:=nG d (W (base+1)) (W (far+1)) (vT 0) (by have:=hd.lv;omega)
 have h3:=hd.ps
 rw[dB] at h1
 rw[bF] at h2
 show (eX 12 (dY d.c.length) (atT d (W (base+1)) (W (far+1)) (vT 0))).size<=_
 omega
def isT(d:Dl)(r:Rl)(base far n:Int):Tm:=idT (aS d base (W (far+n))) (jX d r (upT (vT 3) n) (W (far+n))) (upT (vT 0) n)
def jJ(d:Dl)(r:Rl)(base c far:Int):Tm:=idT (jM d base c (upT (vT 3) 1) (W (far+1))) (cC d r base c (upT (vT 3) 1) (vT 0) (W (far+1))) (upT (vT 2) 1)
def fG(d:Dl)(r:Rl)(base c far:Int):Tm :=
 if nR r=0 then eX 12 (idT (jM d base c (vT 3) far) (cC d r base c (vT 3) ⟨⟨0,0,0,[]⟩,.nil⟩ far) (vT 2)) (isT d r base far 1)
 else eX 12 (oF d r base (vT 3) far) (eX 12 (jJ d r base c far) (eX 12 (isT d r base far 2) (fA d r (upT (vT 3) 3) (upT (vT 1) 3) (W (far+3)))))
theorem kW(n k:Int)(hn:0<=n/\n<=100000000000):(upT (vT n) k).fits/\(upT (vT n) k).size<=2:=⟨bX k (bO hn),by rw[eM,bF];omega⟩
theorem vF(hd:D3 d)(hr:R3 r)(hm:iQ r){base:Int}(hb:fW base)(far n:Int):(isT d r base far n).fits:=vH (dR hd hb _) (yW hd hr hm.1 _ (kW 3 n (by decide)).1) (kW 0 n (by decide)).1
theorem vE(hd:D3 d)(hr:R3 r)(base far n:Int):(isT d r base far n).size<=3300*zR r/\zR r<=300:=by
 have hz:=hr.zz
 have h1:=vG (aS d base (W (far+n))) (jX d r (upT (vT 3) n) (W (far+n))) (upT (vT 0) n)
 have h2:=dQ hd base (W (far+n))
 have h3:=yV (d:=d) hr (W (far+n)) (kW 3 n (by decide)).2
 rw[eM,bF] at h1
 unfold isT
 omega
theorem B7(hd:D3 d)(hr:R3 r)(base:Int){c:Int}(hc:fW c)(far:Int):(jJ d r base c far).fits:=vH (tA hd base hc _ (kW 3 1 (by decide)).1) (nQ hd hr base hc _ (kW 3 1 (by decide)).1 (bO (by decide))) (kW 2 1 (by decide)).1
theorem B6(hd:D3 d)(hr:R3 r)(base c far:Int):(jJ d r base c far).size<=19300*zR r/\zR r<=300:=by
 have hz:=hr.zz
 have h1:=vG (jM d base c (upT (vT 3) 1) (W (far+1))) (cC d r base c (upT (vT 3) 1) (vT 0) (W (far+1))) (upT (vT 2) 1)
 have h2:=sZ hd base c (W (far+1)) (kW 3 1 (by decide)).2
 have h3:=nO (y:=vT 0) hd hr base c (W (far+1)) (kW 3 1 (by decide)).2 (by rw[bF];omega)
 rw[eM,bF] at h1
 unfold jJ
 omega
theorem rF(hd:D3 d)(hr:R3 r)(hm:iQ r){base c:Int}(hb:fW base)(hc:fW c)(far:Int):(fG d r base c far).fits:=by
 unfold fG
 split
 ·exact fY (by decide) (vH (tA hd base hc far (bO (by decide))) (nQ hd hr base hc far (bO (by decide)) ⟨eQ (by decide) (by decide) (by decide),trivial⟩) (bO (by decide))) (vF hd hr hm hb far 1)
 ·exact fY (by decide) (S5 hd hr base far (bO (by decide))) (fY (by decide) (B7 hd hr base hc far) (fY (by decide) (vF hd hr hm hb far 2) (H9 hd hr hm _ (kW 3 3 (by decide)).1 (kW 1 3 (by decide)).1)))
theorem rE(hd:D3 d)(hr:R3 r)(base c far:Int):(fG d r base c far).size<=33000*zR r/\zR r<=300:=by
 have hz:=hr.zz
 unfold fG
 split
 ·rw[fV,vG]
  have h2:=sZ (x:=vT 3) hd base c far (by rw[bF];omega)
  have h3:=nO (x:=vT 3) (y:=⟨⟨0,0,0,[]⟩,.nil⟩) hd hr base c far (by rw[bF];omega) (by decide)
  have h4:=vE hd hr base far 1
  rw[bF]
  omega
 ·rw[fV,fV,fV]
  have h1:=S4 (x:=vT 3) hd hr base far (by rw[bF];omega)
  have h2:=B6 hd hr base c far
  have h3:=vE hd hr base far 2
  have h4:=H6 (d:=d) hr (W (far+3)) (kW 3 3 (by decide)).2 (kW 1 3 (by decide)).2
  omega
end
end
section
def iN(a b:Tm):Ts:=.cons a.h a.x b.ts
def gQ(a b c:Tm):Ts:=.cons a.h a.x (iN b c)
def kS(a b c d:Tm):Ts:=.cons a.h a.x (gQ b c d)
def yG(a b c d e:Tm):Ts:=.cons a.h a.x (kS b c d e)
theorem jY(a b:Tm):(iN a b).size=2+a.size+b.size:=by
 show (Ts.cons a.h a.x b.ts).size=_
 rw[cG,aN]
 have e1:Tm.size ⟨a.h,a.x⟩=a.size:=rfl
 omega
theorem mK(a b c:Tm):(gQ a b c).size=3+a.size+b.size+c.size:=by
 show (Ts.cons a.h a.x (iN b c)).size=_
 rw[cG,jY]
 have e1:Tm.size ⟨a.h,a.x⟩=a.size:=rfl
 omega
theorem S6(a b c d:Tm):(kS a b c d).size=4+a.size+b.size+c.size+d.size:=by
 show (Ts.cons a.h a.x (gQ b c d)).size=_
 rw[cG,mK]
 have e1:Tm.size ⟨a.h,a.x⟩=a.size:=rfl
 omega
theorem MM(a b c d e:Tm):(yG a b c d e).size=5+a.size+b.size+c.size+d.size+e.size:=by
 show (Ts.cons a.h a.x (kS b c d e)).size=_
 rw[cG,S6]
 have e1:Tm.size ⟨a.h,a.x⟩=a.size:=rfl
 omega
theorem jZ{a b:Tm}(ha:a.fits)(hb:b.fits):(iN a b).fits:=⟨ha.1,ha.2,aO hb⟩
theorem mL{a b c:Tm}(ha:a.fits)(hb:b.fits)(hc:c.fits):(gQ a b c).fits:=⟨ha.1,ha.2,jZ hb hc⟩
theorem S7{a b c d:Tm}(ha:a.fits)(hb:b.fits)(hc:c.fits)(hd:d.fits):(kS a b c d).fits:=⟨ha.1,ha.2,mL hb hc hd⟩
theorem MN{a b c d e:Tm}(ha:a.fits)(hb:b.fits)(hc:c.fits)(hd:d.fits)(he:e.fits):(yG a b c d e).fits:=⟨ha.1,ha.2,S7 hb hc hd he⟩
section
variable {d:Dl} {x:Tm}
theorem OM(hd:D3 d)(num far:Int)(x:Tm):(atT d num far x).size<=2602+2*x.size:=by
 have h1:=nG d num far x (by have:=hd.lv;omega)
 have h2:=hd.ps
 omega
theorem ON(hd:D3 d){num:Int}(far:Int)(hn:fW num)(hx:x.fits):(atT d num far x).fits:=nH d num far x (by have:=hd.lv;omega) hn hx
def fTT(d:Dl)(base:Int)(x:Tm)(far:Int):Tm:=aG 4 (bW d base x far).ts (aY d base (W (far+1)))
def hTT(d:Dl)(base:Int)(x:Tm)(far:Int):Tm:=aG 4 (iN (bW d base x far) (aS d base (W (far+1)))) (bM d.s)
theorem nV(hd:D3 d):(bM d.s).size<=301:=by rw[A6];have:=hd.sl;omega
theorem mE(hd:D3 d):(bM d.s).fits:=A7 hd.sf
theorem EK(hd:D3 d)(base far:Int)(hx:x.fits):(fTT d base x far).fits:=bE 4 (by decide) (aO (eO hd _ _ hx)) (bQ hd _ _)
theorem EJ(hd:D3 d)(base far:Int)(hx:x.size<=10):(fTT d base x far).size<=7900:=by
 have h1:=bD 4 (bW d base x far).ts (aY d base (W (far+1)))
 have h2:=eN (x:=x) hd base far
 have h3:=bU hd base (W (far+1))
 rw[aN] at h1
 unfold fTT
 omega
theorem DZ(hd:D3 d){base:Int}(hb:fW base)(far:Int)(hx:x.fits):(hTT d base x far).fits:=bE 4 (by decide) (jZ (eO hd _ _ hx) (dR hd hb _)) (mE hd)
theorem DY(hd:D3 d)(base far:Int)(hx:x.size<=10):(hTT d base x far).size<=10900:=by
 have h1:=bD 4 (iN (bW d base x far) (aS d base (W (far+1)))) (bM d.s)
 have h2:=eN (x:=x) hd base far
 have h3:=dQ hd base (W (far+1))
 have h4:=nV hd
 rw[jY] at h1
 unfold hTT
 omega
def prT(a b:Tm):Tm:=eX 13 a b
theorem dE{a b:Tm}(ha:a.fits)(hb:b.fits):(prT a b).fits:=fY (by decide) ha hb
theorem iL(a b:Tm):(prT a b).size=2+a.size+b.size:=fV _ _ _
def gM(d:Dl)(base n:Int):Tm:=aG 5 (dY n).ts (aG 4 (kS (atT d (W (base+1)) 5 (vT 0)) (fTT d base (prT (vT 1) (vT 0)) 6) (hTT d base (prT (vT 2) (vT 1)) 7) (aS d base 8)) (bM d.s))
def gB(d:Dl)(base n c:Int)(r:Rl):Tm:=aG 5 (kS (atT d (W (base+1)) 4 (eI c n)) (fTT d base (prT (eI c n) (vT 0)) 5) (hTT d base (prT (eI c n) (vT 1)) 6) (aS d base 7)) (fG d r base c 8)
def gBs(d:Dl)(base n:Int):List Rl->Nat->Ts
 | [],_=>.nil
 | r :: l,k=>.cons (gB d base n k r).h (gB d base n k r).x (gBs d base n l (k+1))
theorem BB(d:Dl)(base n:Int):∀(a b:List Rl) (k:Nat),gBs d base n (a++b) k=(gBs d base n a k).app (gBs d base n b (k+a.length))
 | [],_,_=>rfl
 | r :: a,b,k=>by
  simp only[List.cons_append,gBs,Ts.app,List.length_cons]
  rw[BB d base n a b (k+1),show k+1+a.length=k+(a.length+1) by omega]
theorem sY(d:Dl)(base n:Int):∀(a:List Rl) (k:Nat),(gBs d base n a k).len=a.length
 | [],_=>rfl
 | r :: a,k=>by simp only[gBs,Ts.len,sY d base n a,List.length_cons]
theorem sV(hd:D3 d)(base:Int){e:Tm}(he:e.size=0)(f1 f2 f3 f4:Int)(a b:Tm)(ha:a.size<=4)(hb:b.size<=4):(kS (atT d (W (base+1)) f1 e) (fTT d base a f2) (hTT d base b f3) (aS d base f4)).size<=24100:=by
 have h1:=OM hd (W (base+1)) f1 e
 have h2:=EJ hd base f2 (x:=a) (by omega)
 have h3:=DY hd base f3 (x:=b) (by omega)
 have h4:=dQ hd base f4
 rw[S6]
 omega
theorem sW(hd:D3 d){base:Int}(hbs:fW base){e:Tm}(he:e.fits)(f1 f2 f3 f4:Int){a b:Tm}(ha:a.fits)(hb:b.fits):(kS (atT d (W (base+1)) f1 e) (fTT d base a f2) (hTT d base b f3) (aS d base f4)).fits :=
 S7 (ON hd _ (kT _) he) (EK hd _ _ ha) (DZ hd hbs _ hb) (dR hd hbs _)
theorem AX(hd:D3 d)(base n:Int):(gM d base n).size<=48600:=by
 have h1:=sV hd base (e:=vT 0) rfl 5 6 7 8 (prT (vT 1) (vT 0)) (prT (vT 2) (vT 1)) (by rw[iL,bF,bF];omega) (by rw[iL,bF,bF];omega)
 have h2:=bD 4 (kS (atT d (W (base+1)) 5 (vT 0)) (fTT d base (prT (vT 1) (vT 0)) 6) (hTT d base (prT (vT 2) (vT 1)) 7) (aS d base 8)) (bM d.s)
 have h3:=bD 5 (dY n).ts (aG 4 (kS (atT d (W (base+1)) 5 (vT 0)) (fTT d base (prT (vT 1) (vT 0)) 6) (hTT d base (prT (vT 2) (vT 1)) 7) (aS d base 8)) (bM d.s))
 have h4:=nV hd
 rw[aN,dB] at h3
 unfold gM
 omega
theorem vTf(n:Int)(h:0<=n/\n<=100000000000):(vT n).fits:=bO h
theorem AY(hd:D3 d){base:Int}(hb:fW base){n:Int}(hn:0<=n/\n<=100000000000):(gM d base n).fits :=
 bE 5 (by decide) (aO (gN hn)) (bE 4 (by decide) (sW hd hb (vTf 0 (by decide)) 5 6 7 8 (dE (vTf 1 (by decide)) (vTf 0 (by decide))) (dE (vTf 2 (by decide)) (vTf 1 (by decide)))) (mE hd))
theorem gB_size(hd:D3 d)(base n c:Int){r:Rl}(hr:R3 r):(gB d base n c r).size+1<=81300*zR r/\zR r<=300:=by
 have hz:=hr.zz
 have h1:=sV hd base (e:=eI c n) rfl 4 5 6 7 (prT (eI c n) (vT 0)) (prT (eI c n) (vT 1)) (by rw[iL,bF,eH];omega) (by rw[iL,bF,eH];omega)
 have h2:=bD 5 (kS (atT d (W (base+1)) 4 (eI c n)) (fTT d base (prT (eI c n) (vT 0)) 5) (hTT d base (prT (eI c n) (vT 1)) 6) (aS d base 7)) (fG d r base c 8)
 have h3:=rE hd hr base c 8
 unfold gB
 omega
theorem gB_fits(hd:D3 d){base:Int}(hb:fW base){n c:Int}(hn:0<=n/\n<=100000000000)(hc:fW c){r:Rl}(hr:R3 r)(hm:iQ r):(gB d base n c r).fits :=
 bE 5 (by decide) (sW hd hb (gO hc hn) 4 5 6 7 (dE (gO hc hn) (vTf 0 (by decide))) (dE (gO hc hn) (vTf 1 (by decide)))) (rF hd hr hm hb hc 8)
theorem vI(hd:D3 d)(base n:Int):∀(l:List Rl) (k:Nat),(∀r∈l,R3 r)->(gBs d base n l k).size<=jA l*81300
 | [],_,_=>by simp[gBs,Ts.size]
 | r :: l,k,h=>by
  have h1:=vI hd base n l (k+1) λ q hq=>h q (by simp[hq])
  have h2:=gB_size hd base n k (h r (by simp))
  have e1:Tm.size ⟨(gB d base n k r).h,(gB d base n k r).x⟩=(gB d base n k r).size:=rfl
  have e2:1+(dI r.g+r.i.size)=zR r:=rfl
  rw[gBs,cG,sE,e2,Nat.add_mul]
  omega
theorem vK(hd:D3 d){base:Int}(hb:fW base){n:Int}(hn:0<=n/\n<=100000000000):∀(l:List Rl) (k:Nat),l.length+k<=1000->(∀r∈l,R3 r/\iQ r)->(gBs d base n l k).fits
 | [],_,_,_=>trivial
 | r :: l,k,hl,h=>by
  simp only[List.length_cons] at hl
  have h1:=vK hd hb hn l (k+1) (by omega) λ q hq=>h q (by simp[hq])
  have h2:=gB_fits (c:=k) hd hb hn (by unfold fW;omega) (h r (by simp)).1 (h r (by simp)).2
  exact⟨h2.1,h2.2,h1⟩
structure G3 (d:Dl) (l:List Rl):Prop extends D3 d where
 k:d.k=3
 lc:l.length=d.c.length
 rs:∀r∈l,R3 r/\iQ r
 ss:jA l<=300
def gC(d:Dl)(l:List Rl)(base:Int):Tm:=jN (gM d base l.length) (gBs d base l.length l 0) (eY 14 (vT 2))
def gX(d:Dl)(l:List Rl)(base:Int):Tm:=cL (gC d l base) (gQ (eY 15 (vT 2)) (vT 1) (vT 0))
def gS(d:Dl)(l:List Rl)(base:Int):Tm:=aG 5 (gQ (fU d base 1) (fTT d base (vT 0) 2) (hTT d base (vT 1) 3)) (gX d l base)
def gP(d:Dl)(base:Int):Tm:=aG 5 (aY d base 1).ts (aG 4 (aS d base 2).ts (bM d.s))
def wU(d:Dl)(l:List Rl)(base:Int):Tm:=⟨kH 18,yG (fU d base 1) (bW d base (vT 0) 2) (gP d base) (gS d l base) (vT 0)⟩
def gTy(d:Dl)(base:Int):Tm:=aG 4 (aS d base 1).ts (bM d.s)
def xW(d:Dl)(l:List Rl)(base:Int):Cr:=madeT d (aY d base 0).ts (gTy d base) (wU d l base)
variable {l:List Rl}
theorem G3.ll(h:G3 d l):l.length<=300:=by rw[h.lc];exact h.cl
theorem AZ(h:G3 d l)(base:Int):(gC d l base).size<=24440000:=by
 have h1:=qC (gM d base l.length) (gBs d base l.length l 0) (eY 14 (vT 2))
 have h2:=AX h.toD3 base l.length
 have h3:=vI h.toD3 base l.length l 0 λ r hr=>(h.rs r hr).1
 have h4:=h.ss
 rw[kB,bF] at h1
 unfold gC
 omega
theorem lN(h:G3 d l):0<=(l.length:Int)/\(l.length:Int)<=100000000000:=by have:=h.ll;omega
theorem BA(h:G3 d l){base:Int}(hb:fW base):(gC d l base).fits :=
 tJ (AY h.toD3 hb (lN h)) (vK h.toD3 hb (lN h) l 0 (by have:=h.ll;omega) h.rs) (fZ (by decide) (vTf 2 (by decide))) (by rw[sY];have:=h.ll;omega)
theorem K2:(gQ (eY 15 (vT 2)) (vT 1) (vT 0)).fits:=mL (fZ (by decide) (vTf 2 (by decide))) (vTf 1 (by decide)) (vTf 0 (by decide))
theorem K1:(gQ (eY 15 (vT 2)) (vT 1) (vT 0)).size=4:=by rw[mK,kB,bF,bF,bF]
theorem AR(h:G3 d l)(base:Int):(gX d l base).size<=24450000:=by
 have h1:=jV (gQ (eY 15 (vT 2)) (vT 1) (vT 0)) (gC d l base)
 have h2:=AZ h base
 rw[K1] at h1
 unfold gX
 omega
theorem AS(h:G3 d l){base:Int}(hb:fW base):(gX d l base).fits:=iE _ _ (BA h hb) K2
theorem K3(h:D3 d)(base:Int):(gQ (fU d base 1) (fTT d base (vT 0) 2) (hTT d base (vT 1) 3)).size<=21500:=by
 have h1:=xI h base 1
 have h2:=EJ h base 2 (x:=vT 0) (by rw[bF];omega)
 have h3:=DY h base 3 (x:=vT 1) (by rw[bF];omega)
 rw[mK]
 omega
theorem K4(h:D3 d){base:Int}(hb:fW base):(gQ (fU d base 1) (fTT d base (vT 0) 2) (hTT d base (vT 1) 3)).fits:=mL (xJ h base 1) (EK h base 2 (vTf 0 (by decide))) (DZ h hb 3 (vTf 1 (by decide)))
theorem AU(h:G3 d l)(base:Int):(gS d l base).size<=24500000:=by
 have h1:=bD 5 (gQ (fU d base 1) (fTT d base (vT 0) 2) (hTT d base (vT 1) 3)) (gX d l base)
 have h2:=K3 h.toD3 base
 have h3:=AR h base
 unfold gS
 omega
theorem AW(h:G3 d l){base:Int}(hb:fW base):(gS d l base).fits:=bE 5 (by decide) (K4 h.toD3 hb) (AS h hb)
theorem sQ(h:D3 d){base:Int}(hb:fW base)(far:Int):(aG 4 (aS d base far).ts (bM d.s)).fits:=bE 4 (by decide) (aO (dR h hb far)) (mE h)
theorem pY(h:D3 d)(base far:Int):(aG 4 (aS d base far).ts (bM d.s)).size<=5600:=by
 have h1:=bD 4 (aS d base far).ts (bM d.s)
 have h2:=dQ h base far
 have h3:=nV h
 rw[aN] at h1
 omega
theorem gP_size(h:D3 d)(base:Int):(gP d base).size<=10900:=by
 have h1:=bD 5 (aY d base 1).ts (aG 4 (aS d base 2).ts (bM d.s))
 have h2:=bU h base 1
 have h3:=pY h base 2
 rw[aN] at h1
 unfold gP
 omega
theorem gP_fits(h:D3 d){base:Int}(hb:fW base):(gP d base).fits:=bE 5 (by decide) (aO (bQ h _ _)) (sQ h hb 2)
theorem EB(h:G3 d l)(base:Int):(yG (fU d base 1) (bW d base (vT 0) 2) (gP d base) (gS d l base) (vT 0)).size<=24520000:=by
 have h1:=xI h.toD3 base 1
 have h2:=eN (x:=vT 0) h.toD3 base 2
 have h3:=gP_size h.toD3 base
 have h4:=AU h base
 rw[bF] at h2
 rw[MM,bF]
 omega
theorem EC(h:G3 d l){base:Int}(hb:fW base):(yG (fU d base 1) (bW d base (vT 0) 2) (gP d base) (gS d l base) (vT 0)).fits:=MN (xJ h.toD3 _ _) (eO h.toD3 _ _ (vTf 0 (by decide))) (gP_fits h.toD3 hb) (AW h hb) (vTf 0 (by decide))
theorem wT(h:G3 d l)(base:Int):(wU d l base).size<=24520000:=by
 have h1:=EB h base
 show aH []+(yG (fU d base 1) (bW d base (vT 0) 2) (gP d base) (gS d l base) (vT 0)).size<=_
 have e:aH []=0:=rfl
 omega
theorem V6(h:G3 d l){base:Int}(hb:fW base):(wU d l base).fits:=⟨iR (by decide),EC h hb⟩
end
end
section
def QCC(q:List (Value×List VC)):List Value:=q.map (·.1)
def QCP(q:List (Value×List VC)):List Value:=q.flatMap λ x=>CsP x.2
def QCL(q:List (Value×List VC)):List Value:=q.flatMap λ x=>CsL x.2
def QCT(q:List (Value×List VC)):List Value:=q.flatMap λ x=>CsT x.2
def QCS(q:List (Value×List VC)):Nat:=(q.map λ x=>CsS x.2+1).sum
theorem Z1(l:List (Value×List VC)):l.length<=QCS l/\(QCC l).length<=QCS l/\(QCP l).length<=QCS l/\(QCL l).length<=QCS l/\(QCT l).length<=QCS l:=by
 induction l with
 | nil=>exact⟨Nat.le_refl _,Nat.le_refl _,Nat.le_refl _,Nat.le_refl _,Nat.le_refl _⟩
 | cons a l ih =>
  have:=BJ a.2
  simp only[QCC,QCP,QCL,QCT,QCS,List.flatMap_cons,List.map_cons,List.sum_cons,List.length_append,List.length_cons] at ih ⊢
  omega
def f0':Nat->List Value:=λ _=>[]
def fq(q:List (Value×List VC)):Nat->List Value:=eC (qH f0' (QCC q)) (QCP q) (QCL q) (QCT q)
theorem fq7(q:List (Value×List VC)):fq q 7=QCP q:=by simp[fq,eC,qH,f0']
theorem fq8(q:List (Value×List VC)):fq q 8=QCL q:=by simp[fq,eC,qH,f0']
theorem fq9(q:List (Value×List VC)):fq q 9=QCT q:=by simp[fq,eC,qH,f0']
theorem fq15(q:List (Value×List VC)):fq q 15=QCC q:=by simp[fq,eC,qH,f0']
theorem fq_nil:fq []=f0':=by
 funext j
 simp[fq,eC,qH,f0',QCC,QCP,QCL,QCT]
theorem M6(qs:List (Value×List VC))(ql:Option Addr)(cl N:Nat)(BP BL BT BC:List Nat)(w:World)(hcl:qs.length<=cl)(hcm:cl<=maxLen)(hc:0<qs.length->∃b o,ql=some ⟨b,o,none⟩/\b<w.heap.size/\∀i q,qs[i]? = some q->U w b (o+i)=some q.1)
  (hk:∀q∈qs,OX w.heap.size q.1 q.2.length λ b o=>GCs (U w) w.heap.size q.2 b o) (hP:Ows w 0 2 68 N (QCP qs) BP) (hL:Ows w 0 1 30 N (QCL qs) BL) (hT:Ows w 0 5 27 N (QCT qs) BT) (hC:Ows w 0 12 84 N (QCC qs) BC) (hn:(BP++(BL++(BT++BC))).Nodup) (hN:N<=1000000000) (hs:QCS qs<=400000000) :
  Calls prog 17 #[.slice ql qs.length cl] w λ e w'=>e=.returned (.bool true)/\Tb (λ b=>b∈BP++(BL++(BT++BC))) w w':=by
 unfold maxLen at hcm
 obtain⟨n,hq⟩:∃n,qs.length=n:=⟨_,rfl⟩
 have HQ:=hid hq
 rw[hq] at hcl hc ⊢
 have hn0:n<=400000000:=by have:=(Z1 qs).1;omega
 obtain⟨zs,hzs⟩:∃zs:Array Value,zs=#[.slice none 0 0,.slice none 0 0,.slice none 0 0,.slice none 0 0,.slice none 0 0,.slice none 0 0,.slice none 0 0,.slice none 0 0,.slice none 0 0,.slice none 0 0,.slice none 0 0,.slice none 0 0,.slice none 0 0,.slice none 0 0,.slice none 0 0,.slice none 0 0,.slice none 0 0]:=⟨_,rfl⟩
 have hg:=heap_alloc_new w (.cells zs 140)
 have hb0:=aA w (.cells zs 140)
 obtain⟨wb,hwb⟩:∃wb,w.alloc (.cells zs 140)=wb:=⟨_,rfl⟩
 obtain⟨β,hβ⟩:∃β,w.heap.size=β:=⟨_,rfl⟩
 rw[hwb] at hg hb0
 have HBAG:Hid (BagAt wb β w.heap.size f0'):=hid ⟨by omega,_,by rw[<-hβ];exact hg,by rw[hzs];rfl,λ i hi=>by
  refine⟨.slice none 0 0,?_,λ _=>rfl,rfl,.inl ⟨rfl,rfl⟩⟩
  rw[hzs]
  match i,hi with
  | 0,_ | 1,_ | 2,_ | 3,_ | 4,_ | 5,_ | 6,_ | 7,_ | 8,_ | 9,_ | 10,_ | 11,_ | 12,_ | 13,_ | 14,_ | 15,_ | 16,_=>rfl
  | k+17,h=>exact absurd h (by omega)⟩
 subst hzs
 have HB0:=hid hb0
 have HC:=hid hc
 have HK:=hid hk
 have HP:=hid hP
 have HL:=hid hL
 have HT:=hid hT
 have HCC:=hid hC
 clear hg hb0 hc hk hP hL hT hC hq
 go_enter func17,ntmps17
 go_wp2_with fail
 clear hwb
 go_loopw [4] (λ i wr=>∃q1 q2:List (Value×List VC),q1++q2=qs/\i=.int .i64 q1.length/\BagAt wr β w.heap.size (fq q1)/\Below w.heap.size w wr) (λ i _=>n-(intOf i).toNat)
 case atStart=>exact⟨[],qs,rfl,rfl,by rw[fq_nil];exact HBAG.out,HB0.out⟩
 case round =>
  clear HBAG
  obtain⟨q1,q2,hqq,rfl,hG,hB⟩:=hrel
  obtain⟨j,hj⟩:∃j,q1.length=j:=⟨_,rfl⟩
  rw[hj]
  have hlen2:q1.length+q2.length=n:=by rw[<-List.length_append,hqq];exact HQ.out
  cases q2 with
  | nil =>
   obtain rfl:j=n:=by rw[<-hj];simpa using hlen2
   have r1:decide ((j:Int)<(j:Int))=false:=decide_eq_false (by omega)
   rw[List.append_nil] at hqq
   rw[hqq] at hG
   have hl:=Z1 qs
   have hty:∀ {sz e:Nat} {vs:List Value} {Bs:List Nat},Ows w 0 sz e N vs Bs->Ows wr 0 sz e N vs Bs:=λ h=>h.kept λ b hm=>hB.block b (by obtain⟨-,cur,q⟩:=h.typed b hm;exact bC q)
   obtain⟨n1,n2,n3⟩:=List.nodup_append.1 hn
   obtain⟨n4,n5,n6⟩:=List.nodup_append.1 n2
   obtain⟨n7,n8,n9⟩:=List.nodup_append.1 n5
   have HA:=hid (JK β w.heap.size N (fq qs) BP BL BT BC wr hG (λ i h7 h8 h9 h15=>by simp[fq,eC,qH,h7,h8,h9,h15,f0']) hN (by rw[fq7];exact hty HP.out) (by rw[fq8];exact hty HL.out) (by rw[fq9];exact hty HT.out) (by rw[fq15];exact hty HCC.out)
    n1 n4 n7 n8 (by rw[fq7];omega) (by rw[fq8];omega) (by rw[fq9];omega) (by rw[fq15];omega))
   have HB:=hid hB
   clear hG hB hqq hlen2 hj hl hty n1 n2 n3 n4 n5 n6 n7 n8 n9
   go_wp2_with fail
   refine HA.out.mono ?_
   rintro e w3 ⟨rfl,h1⟩
   have H1:=hid ((Tb.of_below HB.out).trans h1)
   clear h1 HA
   go_wp2_with fail
   go_ret
   exact⟨rfl,H1.out⟩
  | cons a r =>
   have hlt:j<n:=by rw[<-hj];simp at hlen2;omega
   have r1:decide ((j:Int)<(n:Int))=true:=decide_eq_true (by omega)
   obtain⟨b,o,rfl,hbw,hcs⟩:=HC.out (by omega)
   have ha:qs[j]? = some a:=by rw[<-hqq,List.getElem?_append_right (by omega)];simp[hj]
   have hu:=aE hB _ _ _ hbw (hcs j a ha)
   have hgk:=HK.out a (List.mem_of_getElem? ha)
   obtain⟨p,c,hp,-⟩:=id hgk
   obtain⟨v,x⟩:=a
   obtain rfl:v=.slice p x.length c:=hp
   have hl1:=Z1 q1
   have hsz:QCS q1+(CsS x+1)<=400000000:=by
    have:QCS qs=QCS q1+(CsS x+1+QCS r):=by rw[<-hqq];simp[QCS]
    omega
   have HO:=hid (Z6 β w.heap.size (U w) (fq q1) _ x wr hG (λ b o u hl hu=>aE hB b o u hl hu) hB.size hgk (by rw[fq15];omega) (by rw[fq7];omega) (by rw[fq8];omega) (by rw[fq9];omega))
   have e0:eC (qH (fq q1) [.slice p x.length c]) (CsP x) (CsL x) (CsT x)=fq (q1++[(.slice p x.length c,x)]):=by
    unfold fq
    rw[NV,NW]
    simp[QCC,QCP,QCL,QCT]
   rw[e0] at HO
   have hx2:(q1++[(Value.slice p x.length c,x)])++r=qs:=by rw[List.append_assoc];exact hqq
   have hj1:(q1++[(Value.slice p x.length c,x)]).length=j+1:=by simp[hj]
   have HX2:=hid hx2
   have HJ1:=hid hj1
   have HBB:=hid hB
   have hcu:=aD hu
   obtain⟨z,hz⟩:∃z,q1++[(Value.slice p x.length c,x)]=z:=⟨_,rfl⟩
   obtain⟨m,hm⟩:∃m,x.length=m:=⟨_,rfl⟩
   rw[hz] at HO HX2 HJ1
   rw[hm] at HO hcu
   clear e0 hx2 hj1 hB hu hgk hl1 hsz hG hqq hlen2 hcs ha hbw hj hz hm
   go_wp2_with fail
   refine HO.out.mono ?_
   rintro e w3 ⟨rfl,h1,h2⟩
   have H1:=hid h1
   have H2:=hid (HBB.out.trans h2.below)
   clear h1 h2 HO HBB hcu
   go_wp2_with fail
   go_roundw
   case rel=>exact⟨z,r,HX2.out,by rw[HJ1.out];go_num,H1.out,H2.out⟩
   case measure=>simp[intOf];omega
theorem KW{w:World}{base:Nat}{h:Hd}{x:Ts}{xs:List Value}{S:List Nat}(hO:Own w base (tDs ty (.cons h x .nil)) xs S):∃(us:List Value) (vl vk:Value) (X:VT),xs=[.int .i64 h.k,.int .i64 h.n,.int .i64 h.a,vl,vk]/\GL (U w) w.heap.size vl us/\GK (U w) w.heap.size vk X/\us.length+X.size+2<=2*(aH h.l+x.size+1) /\
  ∃BP BL BT,Ows w base 2 68 (aH h.l+x.size+1) (us++X.P) BP/\Ows w base 1 30 (aH h.l+x.size+1) (vl :: X.L) BL/\Ows w base 5 27 (aH h.l+x.size+1) (vk :: X.T) BT/\(BP++(BL++BT)).Perm S:=by
 obtain⟨_,rfl,_,rfl,_,rfl,vl,_,ls,sp,Bl,S1,S2,S3,rfl,h1,h2,h3,⟨vk,ys,ks,sp2,Bk,T1,T2,T3,rfl,k1,k2,k3,k4,rfl⟩,rfl⟩:=hO
 obtain⟨rfl,rfl⟩:=h3
 obtain⟨rfl,rfl⟩:=k3
 obtain⟨rfl,rfl⟩:=k4
 obtain⟨hl1,hl2⟩:=E0 h2
 obtain⟨X,hx1,hx2,hx3,XP,XL,XT,hx4,hx5,hx6,hx7⟩:=MR k2
 have hls:ls.length=h.l.length:=by have:=h2.len;rw[gL] at this;exact this
 have hll:h.l.length<=aH h.l:=by
  have:∀l:List Lv,l.length<=aH l:=by
   intro l
   induction l with
   | nil=>simp
   | cons a r ih=>simp only[List.length_cons,aH];omega
  exact this _
 have hs1:x.len<=x.size:=len_le_size x
 rw[List.append_nil] at h1 k1
 have h1':RowO w base 1 30 vl (ls.length*1) ls Bl:=by
  rw[gL,<-hls] at h1
  rw[Nat.mul_one];exact h1
 have k1':RowO w base 5 27 vk (X.len*5) ks Bk:=by
  rw[aF,<-hx1] at k1;exact k1
 refine⟨ls,vl,vk,X,rfl,?_,?_,by omega,S1++XP,Bl++XL,Bk++XT,?_,?_,?_,?_⟩
 ·obtain⟨p,c,rfl,q1,q2,q3⟩:=h1'.rowV (by decide)
  refine⟨p,c,rfl,q1,q2,λ h0=>?_⟩
  obtain⟨b',rfl,q4,q5⟩:=q3 h0
  exact⟨b',0,rfl,q4,λ i u hu=>⟨q5 i u hu,hl2 u (List.mem_of_getElem? hu)⟩⟩
 ·obtain⟨p,c,rfl,q1,q2,q3⟩:=k1'.rowV (by decide)
  refine⟨p,c,rfl,q1,q2,λ h0=>?_⟩
  obtain⟨b',rfl,q4,q5⟩:=q3 h0
  exact⟨b',0,rfl,q4,hx3 b' 0 q5⟩
 ·exact (hx4.mono (by omega)).app (hl1.mono (by omega))
 ·exact⟨Bl,XL,⟨_,_,h1',by rw[hls];exact Nat.mul_le_mul_right _ (by omega)⟩,hx5.mono (by omega),rfl⟩
 ·exact⟨Bk,XT,⟨_,_,k1',by rw[hx1];exact Nat.mul_le_mul_right _ (by omega)⟩,hx6.mono (by omega),rfl⟩
 ·refine List.perm_iff_count.2 λ a=>?_
  have e1:=List.perm_iff_count.1 hx7 a
  simp only[List.count_append,List.count_nil] at e1 ⊢
  omega
theorem JA(l:List Cr):(fN l).len=l.length*12:=by
 induction l with
 | nil=>rfl
 | cons a r ih=>simp[fN,Ds.len,ih];omega
def yD(l:List Cr):Nat:=(l.map λ c=>c.t.size+c.b.size+2).sum
theorem MT{w:World}{base:Nat}{l:List Cr}:∀ {xs:List Value} {S:List Nat},Own w base (fN l) xs S->∃V:List VC,V.length=l.length/\CsS V<=2*yD l /\
  (∀b o,(∀j u,xs[j]? = some u->U w b (o+j)=some u)->GCs (U w) w.heap.size V b o) /\
  ∃BP BL BT,Ows w base 2 68 (yD l) (CsP V) BP/\Ows w base 1 30 (yD l) (CsL V) BL/\Ows w base 5 27 (yD l) (CsT V) BT/\(BP++(BL++BT)).Perm S:=by
 induction l with
 | nil=>rintro xs S ⟨rfl,rfl⟩;exact⟨[],rfl,Nat.zero_le _,λ _ _ _ i c hc=>by simp at hc,[],[],[],rfl,rfl,rfl,List.Perm.refl _⟩
 | cons c r ih =>
  rintro xs S ⟨_,rfl,_,rfl,_,rfl,_,rfl,v1,_,ls1,sp1,B1,S11,S12,S13,rfl,a1,a2,a3,⟨v2,_,ks1,sp2,B2,S21,S22,S23,rfl,b1,b2,b3,⟨_,rfl,_,rfl,_,rfl,_,rfl,v3,_,ls3,sp3,B3,S31,S32,S33,rfl,c1,c2,c3,⟨v4,ys,ks4,sp4,B4,S41,S42,S43,rfl,d1,d2,d3,hr,rfl⟩,rfl⟩,rfl⟩,rfl⟩
  obtain⟨us,vl,vk,X,e1,e2,e3,e4,AP,AL,AT,e5,e6,e7,e8⟩:=KW (w:=w) (base:=base) (h:=c.t.h) (x:=c.t.x) (xs:=[.int .i64 c.t.h.k,.int .i64 c.t.h.n,.int .i64 c.t.h.a,v1,v2]) (S:=B1++(S11++(S12++(B2++(S21++(S22++[]))))))
   ⟨_,rfl,_,rfl,_,rfl,v1,_,ls1,sp1,B1,S11,S12,_,rfl,a1,a2,a3,⟨v2,[],ks1,sp2,B2,S21,S22,[],rfl,b1,b2,b3,⟨rfl,rfl⟩,rfl⟩,rfl⟩
  obtain⟨us',vl',vk',X',f1,f2,f3,f4,DP,DL,DT,f5,f6,f7,f8⟩:=KW (w:=w) (base:=base) (h:=c.b.h) (x:=c.b.x) (xs:=[.int .i64 c.b.h.k,.int .i64 c.b.h.n,.int .i64 c.b.h.a,v3,v4]) (S:=B3++(S31++(S32++(B4++(S41++(S42++[]))))))
   ⟨_,rfl,_,rfl,_,rfl,v3,_,ls3,sp3,B3,S31,S32,_,rfl,c1,c2,c3,⟨v4,[],ks4,sp4,B4,S41,S42,[],rfl,d1,d2,d3,⟨rfl,rfl⟩,rfl⟩,rfl⟩
  simp only[List.cons.injEq,and_true,true_and] at e1 f1
  obtain⟨rfl,rfl⟩:=e1
  obtain⟨rfl,rfl⟩:=f1
  obtain⟨V,g1,g2,g3,RP,RL,RT,g4,g5,g6,g7⟩:=ih hr
  have z0:yD (c :: r)=(c.t.size+c.b.size+2)+yD r:=by simp[yD]
  have z1:c.t.size=aH c.t.h.l+c.t.x.size:=rfl
  have z2:c.b.size=aH c.b.h.l+c.b.x.size:=rfl
  refine⟨⟨us,v1,v2,X,us',v3,v4,X'⟩ :: V,by simp[g1],?_,λ b o hc i q hq=>?_,(AP++DP)++RP,(AL++DL)++RL,(AT++DT)++RT,?_,?_,?_,?_⟩
  ·simp only[CsS,VC.size,List.map_cons,List.sum_cons] at g2 ⊢
   omega
  ·cases i with
   | zero =>
    simp at hq;subst hq
    rw[Nat.zero_mul,Nat.add_zero]
    exact⟨⟨_,_,_,_,by simpa using hc 0 _ rfl,hc 1 _ rfl,hc 2 _ rfl,hc 3 _ rfl⟩,hc 4 _ rfl,hc 5 _ rfl,⟨_,_,_,_,hc 6 _ rfl,hc 7 _ rfl,hc 8 _ rfl,hc 9 _ rfl⟩,hc 10 _ rfl,hc 11 _ rfl,e2,e3,f2,f3⟩
   | succ i =>
    have:=g3 b (o+12) (λ j u hu=>by
     have:=hc (j+12) u (by simpa using hu)
     rw[show o+12+j=o+(j+12) by omega];exact this) i q (by simpa using hq)
    rw[show o+(i+1)*12=o+12+i*12 by omega];exact this
  ·have:CsP (⟨us,v1,v2,X,us',v3,v4,X'⟩ :: V)=((us++X.P)++(us'++X'.P))++CsP V:=rfl
   rw[this]
   exact (g4.mono (by omega)).app ((f5.mono (by omega)).app (e5.mono (by omega)))
  ·have:CsL (⟨us,v1,v2,X,us',v3,v4,X'⟩ :: V)=((v1 :: X.L)++(v3 :: X'.L))++CsL V:=rfl
   rw[this]
   exact (g5.mono (by omega)).app ((f6.mono (by omega)).app (e6.mono (by omega)))
  ·have:CsT (⟨us,v1,v2,X,us',v3,v4,X'⟩ :: V)=((v2 :: X.T)++(v4 :: X'.T))++CsT V:=rfl
   rw[this]
   exact (g6.mono (by omega)).app ((f7.mono (by omega)).app (e7.mono (by omega)))
  ·refine List.perm_iff_count.2 λ a=>?_
   have p1:=List.perm_iff_count.1 e8 a
   have p2:=List.perm_iff_count.1 f8 a
   have p3:=List.perm_iff_count.1 g7 a
   simp only[List.count_append,List.count_nil] at p1 p2 p3 ⊢
   omega
def BK:List (List Cr)->Ds
 | []=>.nil
 | l :: r=>.row 12 84 (fN l) .nil (BK r)
def nU(l:List (List Cr)):Nat:=(l.map λ t=>yD t+1).sum
theorem IZ(l:List Cr):l.length<=yD l:=by
 induction l with
 | nil=>exact Nat.le_refl _
 | cons a r ih=>simp only[yD,List.map_cons,List.sum_cons,List.length_cons] at *;omega
theorem RS{w:World}{base:Nat}{ls:List (List Cr)}:∀ {vs:List Value} {S:List Nat},Own w base (BK ls) vs S->∃qs:List (Value×List VC),qs.map (·.1)=vs/\(∀q∈qs,OX w.heap.size q.1 q.2.length λ b o=>GCs (U w) w.heap.size q.2 b o)/\QCS qs<=2*nU ls /\
  ∃BP BL BT BC,Ows w base 2 68 (nU ls) (QCP qs) BP/\Ows w base 1 30 (nU ls) (QCL qs) BL/\Ows w base 5 27 (nU ls) (QCT qs) BT/\Ows w base 12 84 (nU ls) (QCC qs) BC/\(BP++(BL++(BT++BC))).Perm S:=by
 induction ls with
 | nil=>rintro vs S ⟨rfl,rfl⟩;exact⟨[],rfl,(λ q hq=>by cases hq),Nat.zero_le _,[],[],[],[],rfl,rfl,rfl,rfl,List.Perm.refl _⟩
 | cons l r ih =>
  rintro vs S ⟨v,ys,zs,us,B,S1,S2,S3,rfl,h1,h2,h3,h4,rfl⟩
  obtain⟨rfl,rfl⟩:=h3
  obtain⟨V,v1,v2,v3,AP,AL,AT,v4,v5,v6,v7⟩:=MT h2
  obtain⟨qs,q1,q2,q3,CP,CL,CT,CC,q4,q5,q6,q7,q8⟩:=ih h4
  have z0:nU (l :: r)=yD l+1+nU r:=by simp[nU]
  have z1:=IZ l
  rw[List.append_nil] at h1
  have h1':RowO w base 12 84 v (V.length*12) zs B:=by
   rw[JA,<-v1] at h1;exact h1
  refine⟨(v,V) :: qs,by simp[q1],λ q hq=>?_,?_,AP++CP,AL++CL,AT++CT,B++CC,(q4.mono (by omega)).app (v4.mono (by omega)),(q5.mono (by omega)).app (v5.mono (by omega)),(q6.mono (by omega)).app (v6.mono (by omega)),⟨B,CC,⟨_,_,h1',by rw[v1];exact Nat.mul_le_mul_right _ (by omega)⟩,q7.mono (by omega),rfl⟩,?_⟩
  ·rcases List.mem_cons.1 hq with rfl|hq
   ·obtain⟨p,c,rfl,k1,k2,k3⟩:=h1'.rowV (by decide)
    refine⟨p,c,rfl,k1,k2,λ h0=>?_⟩
    obtain⟨b',rfl,k4,k5⟩:=k3 h0
    exact⟨b',0,rfl,k4,v3 b' 0 k5⟩
   ·exact q2 q hq
  ·simp only[QCS,nU,List.map_cons,List.sum_cons] at q3 ⊢
   omega
  ·refine List.perm_iff_count.2 λ a=>?_
   have e1:=List.perm_iff_count.1 v7 a
   have e2:=List.perm_iff_count.1 q8 a
   simp only[List.count_append,List.count_nil] at e1 e2 ⊢
   omega
theorem Q0(ls:List (List Cr))(vs:List Value)(S:List Nat)(base:Nat)(ql:Option Addr)(cl:Nat)(w:World)(hcl:vs.length<=cl)(hcm:cl<=maxLen)(hc:0<vs.length->∃b o,ql=some ⟨b,o,none⟩/\b<w.heap.size/\∀i v,vs[i]? = some v->U w b (o+i)=some v)
  (h:Own w base (BK ls) vs S) (hn:S.Nodup) (hs:nU ls<=100000000) :
  Calls prog 17 #[.slice ql vs.length cl] w λ e w'=>e=.returned (.bool true)/\Tb (λ b=>b∈S) w w':=by
 obtain⟨qs,q1,q2,q3,BP,BL,BT,BC,q4,q5,q6,q7,q8⟩:=RS h
 have lw:∀ {sz e:Nat} {us:List Value} {Bs:List Nat},Ows w base sz e (nU ls) us Bs->Ows w 0 sz e (nU ls) us Bs:=by
  intro sz e us
  induction us with
  | nil=>intro Bs h;exact h
  | cons u us ih =>
   rintro Bs ⟨B,B',h1,h2,rfl⟩
   exact⟨B,B',h1.lower (Nat.zero_le _),ih h2,rfl⟩
 have hl:qs.length=vs.length:=by rw[<-q1,List.length_map]
 have:=M6 qs ql cl (nU ls) BP BL BT BC w (by omega) hcm (λ h0=>by
  obtain⟨b,o,e,hb,hcs⟩:=hc (by omega)
  refine⟨b,o,e,hb,λ i q hq=>hcs i q.1 ?_⟩
  rw[<-q1,List.getElem?_map,hq];rfl) q2 (lw q4) (lw q5) (lw q6) (lw q7) (q8.nodup_iff.2 hn) (by omega) (by omega)
 rw[hl] at this
 refine this.mono λ e w' h=>⟨h.1,h.2.mono λ b _ hb=>q8.mem_iff.1 hb⟩
end
section
attribute [local simp] ty_p ty_l ty_t kH tDs cB Tm.ts rN gI ac_skip ac_label ac_region ac_seq ac_cond ac_block ac_loop ac_exit ac_ret seqK_n seqK_r seqK_e vo_nil vo_cons blkK LC rU BZ jO jP oK ev jQ gF St.out Z5 oC upd eD wV K0 asC rO mI yF oJ xE uR tU tb Dc.tk Dc.dp Dc.over Dc.app Dc.ln Dc.ds Dc.sing Dc.cont AV.cont Ds.hd Value.oneCell' GA tO AB AV.imp Dc.imp φOf eR AV.isLL AV.list AV.app AV.arg AV.isL AV.ren Dc.ren Dc.lent tmC tmA tsA iA lo? abin AV.nth Dc.own Dc.toks bV pG JD τOf
attribute [local simp] AV.room FB agC vD Ds.len Ds.dp
section
theorem BX(t:Tm)(n:Int)(hf:t.fits)(hs:t.size<=100000000):HH 151 [tmL t,iA n] (tmL (upT t n)):=by
 have q:=h60 t n 0 hf hs
 change HH 147 _ (tmO (upT t n)) at q
 generalize upT t n=U at *
 refine ab0 func151 ntmps151 results151 ?_
 simp
 apply aC q<;>simp
 exact⟨[],by simp⟩
theorem tL(k:Int)(x:Ts)(hk:0<=k/\k<=100)(hf:x.fits)(hs:x.size<=100000000):HH 57 [iA k,tsA none x] (tmL ⟨kH k,x⟩):=by
 refine ab0 func57 ntmps57 results57 ?_
 simp
 apply aC (NQ ⟨kH k,x⟩ ⟨iR hk,hf⟩ (by show aH []+x.size<=100000000;simp[aH];exact hs))<;>simp
 exact⟨[],by simp⟩
theorem w_v(n:Int):HH 63 [iA n] (.agg (.lit (.int .i64 1) (.lit (.int .i64 n) (.lit (.int .i64 0) (.nilr 1 30 (.nilr 5 27 .nil)))))):=by
 refine ab0 func63 ntmps63 results63 ?_
 simp
 exact⟨[],by simp⟩
theorem JT(n:Int):HH 48 [iA n] (.agg (.lit (.int .i64 22) (.lit (.int .i64 n) (.lit (.int .i64 0) (.nilr 1 30 (.nilr 5 27 .nil)))))):=by
 refine ab0 func48 ntmps48 results48 ?_
 simp
 exact⟨[],by simp⟩
theorem X6(k n:Int):HH 64 [iA k,iA n] (.agg (.lit (.int .i64 23) (.lit (.int .i64 k) (.lit (.int .i64 n) (.nilr 1 30 (.nilr 5 27 .nil)))))):=by
 refine ab0 func64 ntmps64 results64 ?_
 simp
 exact⟨[],by simp⟩
section
variable {r:Rl} {d:Dl} {x y:Tm}
theorem D3.lv'(h:D3 d):d.lv<=1000:=by have:=h.lv;omega
theorem D3.ps'(h:D3 d):d.p.size<=10000000:=by have:=h.ps;omega
theorem D3.ml'(h:D3 d):d.m.length<=10000000:=by have:=h.ml;omega
theorem D3.cl'(h:D3 d):d.c.length<=10000000:=by have:=h.cl;omega
theorem X8(hd:D3 d)(base far:Int):HH 60 [dlL d,iA base,iA far] (tmL (aY d base far)):=by
 have q:=k98 d (W (base+3)) far hd.lv' hd.ps' (kT _)
 change HH 53 _ (tmL (aY d base far)) at q
 generalize aY d base far=X at *
 refine ab0 func60 ntmps60 results60 ?_
 simp[dlL,dlC]
 apply aC q<;>simp[dlL,dlC]
 exact⟨[],by simp⟩
theorem w_Place(hd:D3 d)(base far:Int)(hx:x.fits)(hxs:x.size<=30000000):HH 55 [dlL d,iA base,tmL x,iA far] (tmL (bW d base x far)):=by
 have c2:=gA d (W (base+2)) far hd.lv'
 have ps:=hd.ps
 have q1:=k98 d (W (base+2)) far hd.lv' hd.ps' (kT _)
 have q2:=k95 (fO d (W (base+2)) far) x.ts (gD d _ far hd.lv' (kT _)) (by omega) (aO hx) (by rw[aN];omega)
 change HH 52 _ (tmL (bW d base x far)) at q2
 generalize bW d base x far=X at *
 generalize fO d (W (base+2)) far=C at *
 refine ab0 func55 ntmps55 results55 ?_
 simp[dlL,dlC]
 refine⟨by kernel_rfl,?_⟩
 apply aC q1<;>simp[dlL,dlC]
 apply aC q2<;>simp
 exact⟨[],by simp⟩
def rwC(d:Dl)(r:Rl)(base c:Int)(x:Tm)(far:Int):Dc:=(rlC r).app ((dlC d).app (.lit (.int .i64 base) (.lit (.int .i64 c) ((tmC none none x.h x.x).app (.lit (.int .i64 far) (.row none 1 3 (jL (bP r.g 0)) .nil))))))
def rwL(d:Dl)(r:Rl)(base c:Int)(x:Tm)(far:Int):AV:=.agg (rwC d r base c x far)
theorem w_at(hr:R3 r)(base c far:Int):HH 65 [dlL d,rlL r,iA base,iA c,tmL x,iA far] (rwL d r base c x far):=by
 have q:=k46 r (by have:=hr.len;omega)
 refine ab0 func65 ntmps65 results65 ?_
 simp[dlL,dlC,rlL,rlC]
 refine⟨by kernel_rfl,?_⟩
 apply aC q<;>simp[rlL,rlC]
 exact⟨[],by simp[rwL,rwC,rlC,dlC]⟩
theorem Q7(base c far n:Int)(hx:x.fits)(hxs:x.size<=1000):HH 150 [rwL d r base c x far,iA n] (rwL d r base c (upT x n) (W (far+n))):=by
 have q:=BX x n hx (by omega)
 generalize upT x n=U at *
 refine ab0 func150 ntmps150 results150 ?_
 simp[rwL,rwC,rlC,dlC]
 refine⟨by kernel_rfl,?_⟩
 apply aC q<;>simp
 exact⟨[],by simp[rwL,rwC,rlC,dlC]⟩
theorem yX(base c far:Int)(hr:R3 r)(hx:x.fits)(hxs:x.size<=2):HH 221 [rwL d r base c x far] (tsA none (bN r x)):=by
 have h1:=mZ r
 have h2:=hr.len
 have d9:r.g.length*9 / 9=r.g.length:=by omega
 have w1:IntKind.i64.wrap ((r.g.length:Int)-nR r)=(r.g.length:Int)-nR r:=by rw[IntKind.wrap_i64];omega
 have q:=k15g x ((r.g.length:Int)-nR r) hx (by omega) (by omega)
 rw[show ((r.g.length:Int)-nR r).toNat=r.g.length-nR r by omega] at q
 change HH 196 _ (tsA (some (0,0)) (bN r x)) at q
 generalize bN r x=V at *
 unfold nR at *
 refine ab0 func221 ntmps221 results221 ?_
 simp[rwL,rwC,rlC,dlC,aU,d9,bZ,w1]
 apply aC q<;>simp
 exact⟨[],by simp⟩
theorem w_tele0(hr:R3 r)(v:Ts)(far:Int){j:Nat}(hj:j<nR r)(hv:v.fits)(hvs:VB v):HH 243 [rlL r,iA (rI r j),tsA none v,iA far] (tsA (some (0,0)) (tlT r v far j)):=by
 obtain⟨h1,h2⟩:=yC hj
 have h3:=hr.len
 have h4:=hr.sz
 have m1:rI r j*(v.size+1)<=299*91001:=Nat.mul_le_mul (by omega) (by omega)
 have q:=k38 r v far (rI r j) h1 (by omega) (by omega) hr.fit hv (by omega) (by omega)
 rw[h2] at q
 exact q
theorem PI(hr:R3 r)(v:Ts)(far:Int){j:Nat}(hj:j<nR r)(hv:v.fits)(hvs:VB v):HH 246 [rlL r,iA (rI r j),tsA none v,iA far] (tsA (some (0,0)) (inT r v far j)):=by
 obtain⟨h1,h2⟩:=yC hj
 have h3:=hr.len
 have h4:=hr.sz
 have m1:rI r j*(v.size+1)<=299*91001:=Nat.mul_le_mul (by omega) (by omega)
 have q:=k39 r v far (rI r j) h1 (by omega) (by omega) hr.fit hv (by omega) (by omega)
 rw[h2] at q
 exact q
theorem X5(base c far:Int)(hr:R3 r)(hx:x.fits)(hxs:x.size<=2){j:Nat}(hj:j<nR r):HH 198 [rwL d r base c x far,iA j] (tsA none (tlT r (bN r x) far j)):=by
 have q1:=yX (d:=d) base c far hr hx hxs
 have q2:=w_tele0 hr (bN r x) far hj (cF r hx) (cP hr hxs)
 have hj':j<(bP r.g 0).length:=hj
 have e1:=T4 hj
 generalize tlT r (bN r x) far j=T at *
 generalize bN r x=V at *
 refine ab0 func198 ntmps198 results198 ?_
 simp[rwL,rwC,rlC,dlC,e1]
 refine⟨by kernel_rfl,by rw[bZ];omega,?_⟩
 apply aC q1<;>simp[rwL,rwC,rlC,dlC]
 apply aC q2<;>simp[rlL,rlC]
 exact⟨[],by simp⟩
theorem X4(hd:D3 d)(base c far n:Int):HH 194 [rwL d r base c x far,iA n] (tmL (aY d base (W (far+n)))):=by
 have q:=X8 hd base (W (far+n))
 generalize aY d base (W (far+n))=X at *
 refine ab0 func194 ntmps194 results194 ?_
 simp[rwL,rwC,rlC,dlC]
 apply aC q<;>simp[dlL,dlC]
 exact⟨[],by simp⟩
theorem w_shape(hd:D3 d)(base far:Int){c:Int}(hc:fW c)(hx:x.fits)(hxs:x.size<=2):HH 241 [rwL d r base c x far] (tmL (pP d c x)):=by
 have q:=tL 13 (.cons (gI c d.c.length) .nil x.ts) (by decide) ⟨(gO hc (by have:=hd.cl;omega)).1,trivial,aO hx⟩ (by rw[cG,aN];have:Tm.size ⟨gI c d.c.length,.nil⟩=0:=rfl;omega)
 change HH 57 _ (tmL (pP d c x)) at q
 generalize pP d c x=X at *
 have d6:d.c.length*6 / 6=d.c.length:=by omega
 refine ab0 func241 ntmps241 results241 ?_
 simp[rwL,rwC,rlC,dlC,bS,d6]
 refine⟨by kernel_rfl,?_⟩
 apply aC (X6 c d.c.length)<;>simp
 apply aC q<;>simp
 exact⟨[],by simp⟩
theorem yY(hd:D3 d)(base far:Int){c:Int}(hc:fW c)(hx:x.fits)(hxs:x.size<=2):HH 195 [rwL d r base c x far] (tmL (iO d base c x far)):=by
 have q1:=w_shape (r:=r) hd base far hc hx hxs
 have q2:=w_Place (x:=pP d c x) hd base far (oP hd hc hx) (by rw[oO];omega)
 change HH 55 _ (tmL (iO d base c x far)) at q2
 generalize iO d base c x far=X at *
 generalize pP d c x=S at *
 refine ab0 func195 ntmps195 results195 ?_
 simp[rwL,rwC,rlC,dlC]
 refine⟨by kernel_rfl,?_⟩
 apply aC q1<;>simp[rwL,rwC,rlC,dlC]
 apply aC q2<;>simp[dlL,dlC]
 exact⟨[],by simp⟩
theorem xF(hd:D3 d)(base far:Int){c:Int}(hc:fW c)(hx:x.fits)(hxs:x.size<=2):HH 152 [rwL d r base c x far] (tmL (jM d base c x far)):=by
 have q1:=X4 (r:=r) (x:=x) hd base c far 1
 have q2:=yY (r:=r) hd base far hc hx hxs
 have s1:=kA hd base c far hxs
 have s2:=bU hd base (W (far+1))
 have q3:=k91 (iO d base c x far).ts (aY d base (W (far+1))) (aO (jC hd base hc far hx)) (by rw[aN];omega) (bQ hd _ _) (by omega)
 change HH 59 _ (tmL (jM d base c x far)) at q3
 generalize jM d base c x far=X at *
 generalize iO d base c x far=S at *
 generalize aY d base (W (far+1))=T at *
 refine ab0 func152 ntmps152 results152 ?_
 simp[rwL,rwC,rlC,dlC]
 refine⟨by kernel_rfl,?_⟩
 apply aC q1<;>simp[rwL,rwC,rlC,dlC]
 apply aC q2<;>simp[rwL,rwC,rlC,dlC]
 apply aC q3<;>simp
 exact⟨[],by simp⟩
end
end
section
section
variable {r:Rl} {d:Dl} {x y:Tm}
theorem w_row1(hd:D3 d)(base c far j:Int)(t:Ts)(ht:t.fits)(hts:t.size<=100000):HH 203 [iA j,tsA none t,.el (rwC d r base c x far).ds] (tmL (aG 4 t (aY d base (W (far+t.len))))):=by
 have d0:t.len*5 / 5=t.len:=by omega
 have s1:=bU hd base (W (far+t.len))
 have q1:=X4 (r:=r) (x:=x) hd base c far t.len
 have q2:=k165 t (aY d base (W (far+t.len))) ht (by omega) (bQ hd _ _) (by omega)
 generalize aY d base (W (far+t.len))=T at *
 refine ab0 func203 ntmps203 results203 ?_
 simp[rwC,rlC,dlC,aF,d0]
 apply aC q1<;>simp[rwL,rwC,rlC,dlC]
 apply aC q2<;>simp
 exact⟨[],by simp⟩
abbrev JW(d:Dl)(r:Rl)(base c:Int)(x:Tm)(far:Int):AV:=.fn (.func 203) .nil (.cons (.el (rwC d r base c x far).ds) .nil)
def stR(d:Dl)(r:Rl)(base c:Int)(x:Tm)(far:Int)(k:Nat):St:=bV [(1,JW d r base c x far),(2,.bx 3 0),(4,.bx 5 0),(5,.c (.blk 24 (k+1) 5 27 (.seg none (tDs ty (apJ (jB d r base x far) k)) .nil) .nil)),(9,iA (nR r)),(10,iA k)] [(3,105,rwC d r base c x far),(5,27,zC)] [(24,k+1)]
theorem PD(hd:D3 d)(hr:R3 r)(base c far:Int)(hx:x.fits)(hxs:x.size<=2):HH 199 [rwL d r base c x far,JW d r base c x far] (tmL (oF d r base x far)):=by
 have hn:=mZ r
 have hl:=hr.len
 have hN:(bP r.g 0).length=nR r:=rfl
 have q12:=h12 (apJ (jB d r base x far) (nR r)) (nI _ λ _ hj=>oS hd hr base far hx hj) (by have:=mP (f:=jB d r base x far) hr λ j hj=>oR hd hr base far hxs hj;omega)
 change HH 197 _ (tmO (oF d r base x far)) at q12
 refine ab0 func199 ntmps199 results199 ?_
 simp[rwL,rwC,rlC,dlC,JW,bZ,hN]
 refine lp (α:={ k:Nat // k<=nR r }) (λ k=>stR d r base c x far k.1) (λ k=>nR r-k.1) ⟨0,Nat.zero_le _⟩ ?_ ?_
 ·apply aK [((24,0),[(24,0)])]<;>simp[AV.ok,Dc.ok,apJ,rwC,rlC,dlC]
 ·rintro⟨k,hk⟩
  have hw:=wr1 (k:=k) (by omega)
  by_cases hlt:k<nR r
  ·have q1:=X5 (d:=d) base c far hr hx hxs hlt
   have s1:=iH far hr hlt (cP hr hxs)
   have q2:=w_row1 (r:=r) (x:=x) hd base c far k (tlT r (bN r x) far k) (iI far hr hlt (cF r hx)) (by omega)
   change HH 203 _ (tmL (jB d r base x far k)) at q2
   have s2:=oR hd hr base far hxs hlt
   have q3:=BX (jB d r base x far k) k (oS hd hr base far hx hlt) (by omega)
   have e1:apJ (jB d r base x far) (k+1)=(apJ (jB d r base x far) k).app (upT (jB d r base x far k) k).ts:=rfl
   have e2:=yT (jB d r base x far) k
   simp only[stR]
   generalize upT (jB d r base x far k) k=U at *
   generalize jB d r base x far k=E at *
   generalize tlT r (bN r x) far k=T at *
   generalize hAk:apJ (jB d r base x far) k=A at *
   generalize hAs:apJ (jB d r base x far) (k+1)=B at *
   subst e1
   simp[hlt,hw,rwC,rlC,dlC]
   apply aC q1<;>simp[rwL,rwC,rlC,dlC]
   apply aC q2<;>simp[rwC,rlC,dlC]
   apply aC q3<;>simp
   refine⟨by rw[aF,e2];omega,k+1,by omega,by omega,?_⟩
   apply aK [((24,0),[(24,0)])]<;>simp[AV.ok,Dc.ok,hw,hAs,rwC,rlC,dlC]
   rw[bG];rfl
  ·obtain rfl:k=nR r:=by omega
   simp only[stR]
   generalize oF d r base x far=P at *
   generalize apJ (jB d r base x far) (nR r)=A at *
   simp[Ds.app_nil]
   apply aC q12<;>simp[Ds.app_nil]
   exact⟨[],by simp⟩
theorem w_row(hd:D3 d)(hr:R3 r)(base c far:Int)(hx:x.fits)(hxs:x.size<=2):HH 109 [rwL d r base c x far] (tmL (oF d r base x far)):=by
 have q:=PD hd hr base c far hx hxs
 generalize oF d r base x far=P at *
 refine ab0 func109 ntmps109 results109 ?_
 simp[rwL,rwC,rlC,dlC]
 apply aC q<;>simp[rwL,rwC,rlC,dlC,JW]
 ·exact⟨_,_,⟨rfl,rfl⟩,rfl⟩
 exact⟨[],by simp⟩
def stT(d:Dl)(r:Rl)(base c:Int)(x y:Tm)(far:Int)(k:Nat):St :=
 bV [(2,.bx 3 0),(3,.bx 4 0),(4,.bx 5 0),(5,iA (nR r)),(6,.bx 7 0),(7,.c (.blk 50 (k+1) 5 27 (.seg none (tDs ty (dH (tbA r (upT x 2) (W (far+2))) k)) .nil) .nil)),
  (8,.c (.blk 69 (k+1) 5 27 (.seg none (tDs ty (dH (tbB r (aQ (nR r) (upT y 2)) (upT x 1) (W (far+1))) k)) .nil) .nil)),(9,tsA none (aQ (nR r) (upT y 2))),(38,iA (nR r)),(39,iA k)]
  [(3,105,rwC d r base c x far),(4,27,tmC none none y.h y.x),(5,27,zC),(7,105,rwC d r base c (upT x 1) (W (far+1)))] [(50,k+1),(69,k+1)]
theorem PH(hd:D3 d)(hr:R3 r)(base far:Int){c:Int}(hc:fW c)(hx:x.fits)(hxs:x.size<=2)(h0:bP r.g 0=[]):HH 107 [rwL d r base c x far,tmL y] (tmL (cC d r base c x y far)):=by
 have hN:nR r=0:=by unfold nR;rw[h0];rfl
 have e0:cC d r base c x y far=aG 5 (iO d base c x far).ts (jN (aG 5 (dY 0).ts (aY d base (W (far+2)))) .nil (vT 0)):=by unfold cC;rw[if_pos hN]
 have s1:=bU hd base (W (far+2))
 have s2:=kA hd base c far hxs
 have s3:=zW hd base (W (far+2))
 have a1:=bD 5 (dY 0).ts (aY d base (W (far+2)))
 rw[aN,dB] at a1
 have f1:=bE 5 (by decide) (aO (gN (n:=0) (by decide))) (bQ hd base (W (far+2)))
 have q1:=Q7 (d:=d) (r:=r) base c far 1 hx (by omega)
 have q2:=X4 (r:=r) (x:=x) hd base c far 2
 have q3:=k88 (dY 0).ts (aY d base (W (far+2))) (aO (gN (by decide))) (by rw[aN,dB];omega) (bQ hd _ _) (by omega)
 have q4:=g14 (aG 5 (dY 0).ts (aY d base (W (far+2)))) .nil (vT 0) f1 trivial (bO (by decide)) (by rw[bF];show _+0+0<=_;omega) (by decide)
 have q5:=yY (r:=r) hd base far hc hx hxs
 have q6:=k88 (iO d base c x far).ts (jN (aG 5 (dY 0).ts (aY d base (W (far+2)))) .nil (vT 0)) (aO (jC hd base hc far hx)) (by rw[aN];omega) (zX hd base _) (by omega)
 rw[e0]
 clear e0
 generalize aG 5 (iO d base c x far).ts (jN (aG 5 (dY 0).ts (aY d base (W (far+2)))) .nil (vT 0))=R at *
 generalize jN (aG 5 (dY 0).ts (aY d base (W (far+2)))) .nil (vT 0)=C at *
 generalize aG 5 (dY 0).ts (aY d base (W (far+2)))=A at *
 generalize iO d base c x far=S at *
 generalize aY d base (W (far+2))=T at *
 refine ab0 func107 ntmps107 results107 ?_
 simp[rwL,rwC,rlC,dlC,h0,jL]
 refine⟨by kernel_rfl,?_⟩
 apply aC q1<;>simp[rwL,rwC,rlC,dlC,h0,jL]
 refine⟨by kernel_rfl,?_⟩
 apply aC q2<;>simp[rwL,rwC,rlC,dlC,h0,jL]
 apply aC (JT 0)<;>simp
 apply aC q3<;>simp[dY]
 apply aC (w_v 0)<;>simp
 apply aC q4<;>simp[vT]
 apply aC q5<;>simp[rwL,rwC,rlC,dlC,h0,jL]
 apply aC q6<;>simp
 exact⟨[],by simp⟩
theorem PG(hd:D3 d)(hr:R3 r)(base far:Int){c:Int}(hc:fW c)(hx:x.fits)(hxs:x.size<=2)(hy:y.fits)(hys:y.size<=2)(h0:bP r.g 0≠[]):HH 107 [rwL d r base c x far,tmL y] (tmL (cC d r base c x y far)):=by
 have hn:=mZ r
 have hl:=hr.len
 have hN:(bP r.g 0).length=nR r:=rfl
 have hne:nR r≠0:=λ h=>h0 (List.eq_nil_of_length_eq_zero h)
 have hneI:((nR r:Nat):Int)≠0:=by omega
 have e0:cC d r base c x y far=aG 5 (iO d base c x far).ts (cL (tbC d r base x y far) (eY 15 (vT 0)).ts):=by unfold cC;rw[if_neg hne]
 rw[e0]
 clear e0
 generalize hR:aG 5 (iO d base c x far).ts (cL (tbC d r base x y far) (eY 15 (vT 0)).ts)=R
 have q1:=Q7 (d:=d) (r:=r) base c far 1 hx (by omega)
 have q0:=BX y 2 hy (by omega)
 have q15:=k15g (upT y 2) (nR r) (bX 2 hy) (by omega) (by rw[eM];omega)
 rw[show ((nR r:Nat):Int).toNat=nR r by omega] at q15
 refine ab0 func107 ntmps107 results107 ?_
 simp[rwL,rwC,rlC,dlC,bZ,hN,hneI]
 refine⟨by kernel_rfl,?_⟩
 apply aC q1<;>simp[rwL,rwC,rlC,dlC,bZ,hN,hne]
 apply aC q0<;>simp
 apply aC q15<;>simp[bZ,hN]
 refine lp (α:={ k:Nat // k<=nR r }) (λ k=>stT d r base c x y far k.1) (λ k=>nR r-k.1) ⟨0,Nat.zero_le _⟩ ?_ ?_
 ·apply aK [((50,0),[(50,0)]),((69,0),[(69,0)])]<;>simp[AV.ok,Dc.ok,dH,rwC,rlC,dlC]
 ·rintro⟨k,hk⟩
  have hw:=wr1 (k:=k) (by omega)
  have hx1:(upT x 1).size<=2:=by rw[eM];exact hxs
  have hx2:(upT x 2).size<=2:=by rw[eM];exact hxs
  by_cases hlt:k<nR r
  ·have q2:=Q7 (d:=d) (r:=r) base c far 2 hx (by omega)
   have q3:=X5 (d:=d) base c (W (far+2)) hr (bX 2 hx) hx2 hlt
   have s3:=iH (W (far+2)) hr hlt (cP hr hx2)
   have q4:=h12 (tlT r (bN r (upT x 2)) (W (far+2)) k) (iI _ hr hlt (cF r (bX 2 hx))) (by omega)
   change HH 197 _ (tmO (tbA r (upT x 2) (W (far+2)) k)) at q4
   have q5:=X5 (d:=d) base c (W (far+1)) hr (bX 1 hx) hx1 hlt
   have s5:=iH (W (far+1)) hr hlt (cP hr hx1)
   have t5:=iI (W (far+1)) hr hlt (cF r (bX 1 hx))
   have l5:=Y1 hr (v:=bN r (upT x 1)) (W (far+1)) hlt
   have q6:=k15g (vT 0) (tlT r (bN r (upT x 1)) (W (far+1)) k).len (bO (by decide)) (by omega) (by rw[bF];omega)
   rw[show (((tlT r (bN r (upT x 1)) (W (far+1)) k).len:Nat):Int).toNat=(tlT r (bN r (upT x 1)) (W (far+1)) k).len by omega] at q6
   have sP:=qO hr hys
   have fP:=eJ (nR r) _ (bX 2 hy)
   have n1:=wL (aQ (nR r) (upT y 2)) k
   have p9:=vU l5
   have q7:=k95 (mA (aQ (nR r) (upT y 2)) k) (aQ (tlT r (bN r (upT x 1)) (W (far+1)) k).len (vT 0)) (mN k fP) (by omega) (eJ _ _ (bO (by decide))) (by omega)
   have x7:=zK (x:=upT x 1) hr (W (far+1)) sP hlt
   have q8:=h12 (tlT r (bN r (upT x 1)) (W (far+1)) k) t5 (by omega)
   have u8:=mJ (tlT r (bN r (upT x 1)) (W (far+1)) k)
   have q9:=k88 (tup (tlT r (bN r (upT x 1)) (W (far+1)) k)).ts (cL (mA (aQ (nR r) (upT y 2)) k) (aQ (tlT r (bN r (upT x 1)) (W (far+1)) k).len (vT 0))) (aO (oM _ t5)) (by rw[aN];omega) (iE _ _ (mN k fP) (eJ _ _ (bO (by decide)))) (by omega)
   change HH 62 _ (tmL (tbB r (aQ (nR r) (upT y 2)) (upT x 1) (W (far+1)) k)) at q9
   obtain⟨rest,hdp⟩:=AC (t:=aQ (nR r) (upT y 2)) (n:=k) (by rw[mV];exact hlt)
   have eA:dH (tbA r (upT x 2) (W (far+2))) (k+1)=(dH (tbA r (upT x 2) (W (far+2))) k).app (tbA r (upT x 2) (W (far+2)) k).ts:=rfl
   have eB:dH (tbB r (aQ (nR r) (upT y 2)) (upT x 1) (W (far+1))) (k+1)=(dH (tbB r (aQ (nR r) (upT y 2)) (upT x 1) (W (far+1))) k).app (tbB r (aQ (nR r) (upT y 2)) (upT x 1) (W (far+1)) k).ts:=rfl
   have lA:=fL (tbA r (upT x 2) (W (far+2))) k
   have lB:=fL (tbB r (aQ (nR r) (upT y 2)) (upT x 1) (W (far+1))) k
   have lP:=mV (nR r) (upT y 2)
   simp only[stT]
   generalize hA1:dH (tbA r (upT x 2) (W (far+2))) (k+1)=A1 at *
   generalize hB1:dH (tbB r (aQ (nR r) (upT y 2)) (upT x 1) (W (far+1))) (k+1)=B1 at *
   generalize dH (tbA r (upT x 2) (W (far+2))) k=A0 at *
   generalize dH (tbB r (aQ (nR r) (upT y 2)) (upT x 1) (W (far+1))) k=B0 at *
   generalize tbA r (upT x 2) (W (far+2)) k=Ak at *
   generalize tbB r (aQ (nR r) (upT y 2)) (upT x 1) (W (far+1)) k=Bk at *
   generalize cL (mA (aQ (nR r) (upT y 2)) k) (aQ (tlT r (bN r (upT x 1)) (W (far+1)) k).len (vT 0))=X7 at *
   generalize tup (tlT r (bN r (upT x 1)) (W (far+1)) k)=U8 at *
   generalize mA (aQ (nR r) (upT y 2)) k=N7 at *
   generalize aQ (nR r) (upT y 2)=PP at *
   generalize hV:vT 0=V0 at *
   generalize hT5:tlT r (bN r (upT x 1)) (W (far+1)) k=T5 at *
   generalize aQ T5.len V0=P9 at *
   generalize tlT r (bN r (upT x 2)) (W (far+2)) k=T3 at *
   subst eA eB
   have d5:T5.len*5 / 5=T5.len:=by omega
   simp[hlt,hw,rwC,rlC,dlC]
   apply aC q2<;>simp[rwL,rwC,rlC,dlC]
   apply aC q3<;>simp[rwL,rwC,rlC,dlC]
   apply aC q4<;>simp
   refine⟨by rw[aF,lA];omega,?_⟩
   apply aC q5<;>simp[rwL,rwC,rlC,dlC]
   refine⟨by kernel_rfl,?_⟩
   simp[hdp,aF,d5]
   refine⟨by omega,?_⟩
   apply aC (w_v 0)<;>simp
   subst hV
   apply aC q6<;>simp[vT,aF,d5]
   apply aC q7<;>simp
   apply aC q8<;>simp
   apply aC q9<;>simp
   refine⟨by rw[aF,lB];omega,k+1,by omega,by omega,?_⟩
   apply aK [((50,0),[(50,0)]),((69,0),[(69,0)])]<;>simp[AV.ok,Dc.ok,hw,hA1,hB1,rwC,rlC,dlC]
   refine⟨?_,?_⟩<;>(rw[bG];rfl)
  ·obtain rfl:k=nR r:=by omega
   have fF:(dY (nR r)).fits:=vL hr
   have q1:=k161 d.s (by have:=hd.sl;omega)
   have s1:=nV hd
   have q2:=k88 (dY (nR r)).ts (bM d.s) (aO fF) (by rw[aN,dB];omega) (mE hd) (by omega)
   have a2:=bD 5 (dY (nR r)).ts (bM d.s)
   rw[aN,dB] at a2
   have m2:=lC (f:=tbA r (upT x 2) (W (far+2))) hr λ j hj=>zU (x:=upT x 2) hr (W (far+2)) hx2 hj
   have q3:=g14 (aG 5 (dY (nR r)).ts (bM d.s)) (dH (tbA r (upT x 2) (W (far+2))) (nR r)) (vT 0) (bE 5 (by decide) (aO fF) (mE hd)) (lD _ λ _ hj=>zV hr _ (bX 2 hx) hj) (bO (by decide)) (by rw[bF];omega) (by rw[fL];omega)
   change HH 67 _ (tmO (tbT d r (upT x 2) (W (far+2)))) at q3
   have s3:=zL hd hr (W (far+2)) hx2
   have f3:=zM hd hr (W (far+2)) (bX 2 hx)
   have q4:=X4 (r:=r) (x:=x) hd base c far 3
   have s4:=bU hd base (W (far+3))
   have q5:=k91 (tbT d r (upT x 2) (W (far+2))).ts (aY d base (W (far+3))) (aO f3) (by rw[aN];omega) (bQ hd _ _) (by omega)
   have a5:=bD 4 (tbT d r (upT x 2) (W (far+2))).ts (aY d base (W (far+3)))
   rw[aN] at a5
   have q6:=k88 (dY (nR r)).ts (aG 4 (tbT d r (upT x 2) (W (far+2))).ts (aY d base (W (far+3)))) (aO fF) (by rw[aN,dB];omega) (bE 4 (by decide) (aO f3) (bQ hd _ _)) (by omega)
   change HH 62 _ (tmL (tbM d r base x far)) at q6
   have s6:=zN hd hr base far hxs
   have q7:=tL 14 (vT 0).ts (by decide) (aO (bO (by decide))) (by decide)
   change HH 57 _ (tmL (eY 14 (vT 0))) at q7
   have m8:=lC (f:=tbB r (aQ (nR r) (upT y 2)) (upT x 1) (W (far+1))) hr λ j hj=>zS (x:=upT x 1) hr (W (far+1)) (qO hr hys) hx1 hj
   have q8:=g14 (tbM d r base x far) (dH (tbB r (aQ (nR r) (upT y 2)) (upT x 1) (W (far+1))) (nR r)) (eY 14 (vT 0)) (zO hd hr base far hx) (lD _ λ _ hj=>zT hr _ (eJ _ _ (bX 2 hy)) (bX 1 hx) hj) (fZ (by decide) (bO (by decide))) (by rw[kB,bF];omega) (by rw[fL];omega)
   change HH 67 _ (tmO (tbC d r base x y far)) at q8
   have s8:=zP hd hr base far hxs hys
   have q9:=tL 15 (vT 0).ts (by decide) (aO (bO (by decide))) (by decide)
   change HH 57 _ (tmL (eY 15 (vT 0))) at q9
   have q10:=k95 (tbC d r base x y far) (eY 15 (vT 0)).ts (zQ hd hr base far hx hy) (by omega) (aO (fZ (by decide) (bO (by decide)))) (by decide)
   have s10:=zI hd hr base far hxs hys
   have q11:=yY (r:=r) hd base far hc hx hxs
   have s11:=kA hd base c far hxs
   have q12:=k88 (iO d base c x far).ts (cL (tbC d r base x y far) (eY 15 (vT 0)).ts) (aO (jC hd base hc far hx)) (by rw[aN];omega) (zJ hd hr base far hx hy) (by omega)
   simp only[stT]
   rw[hR] at q12
   clear hR
   generalize iO d base c x far=S at *
   generalize cL (tbC d r base x y far) (eY 15 (vT 0)).ts=Z at *
   generalize tbC d r base x y far=C at *
   generalize tbM d r base x far=M at *
   generalize dH (tbB r (aQ (nR r) (upT y 2)) (upT x 1) (W (far+1))) (nR r)=B0 at *
   generalize dH (tbA r (upT x 2) (W (far+2))) (nR r)=A0 at *
   generalize aQ (nR r) (upT y 2)=PP at *
   generalize aG 4 (tbT d r (upT x 2) (W (far+2))).ts (aY d base (W (far+3)))=A5 at *
   generalize aG 5 (dY (nR r)).ts (bM d.s)=A2 at *
   generalize tbT d r (upT x 2) (W (far+2))=TT at *
   generalize aY d base (W (far+3))=TR at *
   generalize hSo:bM d.s=SO at *
   generalize hv14:eY 14 (vT 0)=V14 at *
   generalize hv15:eY 15 (vT 0)=V15 at *
   simp[rwC,rlC,dlC,Ds.app_nil]
   apply aC q1<;>simp[lvA]
   apply aC (JT (nR r))<;>simp
   apply aC q2<;>simp[dY]
   apply aC (w_v 0)<;>simp
   apply aC q3<;>simp[vT,Ds.app_nil]
   refine⟨by kernel_rfl,?_⟩
   apply aC q4<;>simp[rwL,rwC,rlC,dlC]
   apply aC q5<;>simp
   apply aC (JT (nR r))<;>simp
   apply aC q6<;>simp[dY]
   refine⟨by kernel_rfl,?_⟩
   apply aC (w_v 0)<;>simp
   apply aC q7<;>simp[vT]
   apply aC q8<;>simp[Ds.app_nil]
   apply aC (w_v 0)<;>simp
   apply aC q9<;>simp[vT]
   apply aC q10<;>simp
   apply aC q11<;>simp[rwL,rwC,rlC,dlC]
   apply aC q12<;>simp
   exact⟨[],by simp⟩
theorem JR(hd:D3 d)(hr:R3 r)(base far:Int){c:Int}(hc:fW c)(hx:x.fits)(hxs:x.size<=2)(hy:y.fits)(hys:y.size<=2):HH 107 [rwL d r base c x far,tmL y] (tmL (cC d r base c x y far)):=by
 by_cases h0:bP r.g 0=[]
 ·exact PH hd hr base far hc hx hxs h0
 ·exact PG hd hr base far hc hx hxs hy hys h0
end
end
section
section
variable {r:Rl} {d:Dl} {x y:Tm}
theorem JS(hd:D3 d)(base c far:Int){m:Int}{l:Ts}(hm:fW m)(hl:l.fits)(hls:l.size<=100000):HH 219 [rwL d r base c x far,iA m,tsA none l] (tmL (ixT d m l)):=by
 have hml:=hd.ml
 have u:=sH l
 rw[aN] at u
 have q1:=h13 l hl (by omega)
 have q2:=tL 13 (.cons (gI m d.m.length) .nil (kZ l).ts) (by decide) ⟨(gO hm (by omega)).1,trivial,aO (sI _ hl)⟩ (by rw[cG,aN];have:Tm.size ⟨gI m d.m.length,.nil⟩=0:=rfl;omega)
 change HH 57 _ (tmL (ixT d m l)) at q2
 generalize ixT d m l=X at *
 generalize kZ l=P at *
 refine ab0 func219 ntmps219 results219 ?_
 simp[rwL,rwC,rlC,dlC,aW]
 apply aC (X6 m d.m.length)<;>simp
 apply aC q1<;>simp
 apply aC q2<;>simp
 exact⟨[],by simp⟩
theorem PC(hd:D3 d)(hr:R3 r)(hm:fW r.m)(base c far:Int)(hx:x.fits)(hxs:x.size<=2):HH 124 [rwL d r base c x far] (tmL (jX d r x far)):=by
 have hl:=hr.len
 have sv:=cP hr hxs
 have m1:r.g.length*((bN r x).size+1)<=299*91001:=Nat.mul_le_mul hl (by omega)
 have hi:=hr.isz
 have q1:=yX (d:=d) base c far hr hx hxs
 have q2:=k40 r (bN r x) far (by omega) (cF r hx) (by omega) (by omega) hr.ifit (by omega)
 have s2:=wX hr far hxs
 have q3:=JS (r:=r) (x:=x) hd base c far hm (wY hr far hx) (by omega)
 change HH 219 _ (tmL (jX d r x far)) at q3
 generalize jX d r x far=X at *
 generalize kG r (bN r x) far r.i=E at *
 generalize bN r x=V at *
 refine ab0 func124 ntmps124 results124 ?_
 simp[rwL,rwC,rlC,dlC]
 refine⟨by kernel_rfl,?_⟩
 apply aC q1<;>simp[rwL,rwC,rlC,dlC]
 apply aC q2<;>simp[rlL,rlC]
 apply aC q3<;>simp[rwL,rwC,rlC,dlC]
 exact⟨[],by simp⟩
theorem dp_aJ{j:Nat}(hj:j<nR r):∃q,(cA r.g).dp (rI r j*9)=cA (aJ r j :: q):=by
 obtain⟨h1,h2⟩:=yC hj
 refine⟨r.g.drop (rI r j+1),?_⟩
 rw[lX h1,h2]
theorem w_rec(base c far:Int){j:Nat}(hj:j<nR r):HH 245 [rwL d r base c x far,iA j] (agL (aJ r j)):=by
 have h0:¬(j:Int)<0:=by omega
 have hN:(bP r.g 0).length=nR r:=rfl
 have hge:¬nR r<=j:=by omega
 have e1:=T4 hj
 obtain⟨q,e2⟩:=dp_aJ hj
 have hlt:=(S9 hj).2
 generalize aJ r j=b at *
 refine ab0 func245 ntmps245 results245 ?_
 simp[rwL,rwC,rlC,dlC,h0,hge,bZ,hN,e1,e2,cA,aU]
 refine⟨by kernel_rfl,by omega,by omega,[],by simp[agL]⟩
theorem w_place(hr:R3 r)(base c far:Int){j:Nat}(hj:j<nR r):HH 201 [rwL d r base c x far,iA j] (tmL (pcT r j)):=by
 have h1:=mZ r
 have h2:=hr.len
 have hN:(bP r.g 0).length=nR r:=rfl
 have hel:=BF hr hj
 have d0:(aJ r j).e.len*5 / 5=(aJ r j).e.len:=by omega
 have u:=sH (dO 0 (aJ r j).e.len)
 rw[aN,gU] at u
 have q1:=w_rec (d:=d) (x:=x) base c far hj
 have q2:=SZ (aJ r j).e.len 0 (by omega)
 have q3:=h13 (dO 0 (aJ r j).e.len) (gV _ _) (by rw[gU];omega)
 have q4:=tL 13 (.cons (gI j (nR r)) .nil (kZ (dO 0 (aJ r j).e.len)).ts) (by decide) ⟨(gO (k:=j) (by unfold fW;omega) (by omega)).1,trivial,aO (sI _ (gV _ _))⟩ (by rw[cG,aN];have:Tm.size ⟨gI j (nR r),.nil⟩=0:=rfl;omega)
 change HH 57 _ (tmL (pcT r j)) at q4
 generalize pcT r j=X at *
 generalize kZ (dO 0 (aJ r j).e.len)=P at *
 generalize dO 0 (aJ r j).e.len=V at *
 generalize aJ r j=b at *
 refine ab0 func201 ntmps201 results201 ?_
 simp[rwL,rwC,rlC,dlC,bZ,hN]
 refine⟨by kernel_rfl,?_⟩
 apply aC (X6 j (nR r))<;>simp
 apply aC q1<;>simp[rwL,rwC,rlC,dlC,agL,agC,aF,d0]
 apply aC q2<;>simp
 apply aC q3<;>simp
 apply aC q4<;>simp
 exact⟨[],by simp⟩
theorem w_wants(hd:D3 d)(hr:R3 r)(hm:iQ r)(base c far:Int)(hx:x.fits)(hxs:x.size<=2){j:Nat}(hj:j<nR r):HH 202 [rwL d r base c x far,iA j] (tmL (jS d r x far j)):=by
 have hj':j<(bP r.g 0).length:=hj
 have e1:=T4 hj
 have sv:=cP hr hxs
 have q1:=w_rec (d:=d) (x:=x) base c far hj
 have q2:=yX (d:=d) base c far hr hx hxs
 have q3:=PI hr (bN r x) far hj (cF r hx) sv
 have s3:=J0 far hr hj sv
 have q4:=JS (r:=r) (x:=x) hd base c far (hm.2 _ (uL hj)) (J1 far hr hj (cF r hx)) (by omega)
 change HH 219 _ (tmL (jS d r x far j)) at q4
 generalize jS d r x far j=X at *
 generalize inT r (bN r x) far j=E at *
 generalize bN r x=V at *
 generalize aJ r j=b at *
 refine ab0 func202 ntmps202 results202 ?_
 simp[rwL,rwC,rlC,dlC,e1]
 refine⟨by kernel_rfl,?_⟩
 apply aC q1<;>simp[rwL,rwC,rlC,dlC,agL,agC,e1]
 refine⟨by rw[bZ];omega,?_⟩
 apply aC q2<;>simp[rwL,rwC,rlC,dlC]
 apply aC q3<;>simp[rlL,rlC]
 apply aC q4<;>simp[rwL,rwC,rlC,dlC]
 exact⟨[],by simp⟩
theorem w_kids1(hd:D3 d)(hr:R3 r)(hm:iQ r)(base c far:Int)(hx:x.fits)(hxs:x.size<=2){h:Tm}(hh:h.fits)(hhs:h.size<=2){j:Nat}(hj:j<nR r) :
  HH 200 [iA j,tsA none (tlT r (bN r x) far j),.el (tmC none none h.h h.x).ds,.el (rwC d r base c x far).ds] (tmL (iV d r x h far j)):=by
 have f1:=iI far hr hj (cF r hx)
 have s1:=iH far hr hj (cP hr hxs)
 have q1:=BX h (tlT r (bN r x) far j).len hh (by omega)
 have q2:=w_place (d:=d) (x:=x) hr base c far hj
 have q3:=w_wants hd hr hm base c far hx hxs hj
 have p1:=D8 hr hj
 have p2:=qK hd hr far hx hj (hm.2 _ (uL hj))
 have z1:=D7 hr hj
 have z2:=qJ (d:=d) hr far hxs hj
 have z3:Tm.size ⟨(pcT r j).h,(pcT r j).x⟩=(pcT r j).size:=rfl
 have q4:=k95 (upT h (tlT r (bN r x) far j).len) (.cons (pcT r j).h (pcT r j).x (jS d r x far j).ts) (bX _ hh) (by rw[eM];omega) ⟨p1.1,p1.2,aO p2⟩ (by rw[cG,aN];omega)
 change HH 52 _ (tmL (kidX d r x h far j)) at q4
 have z5:=wQ (d:=d) hr far hxs hhs hj
 have q5:=k165 (tlT r (bN r x) far j) (kidX d r x h far j) f1 (by omega) (wR hd hr hm far hx hh hj) (by omega)
 change HH 70 _ (tmL (iV d r x h far j)) at q5
 generalize iV d r x h far j=X at *
 generalize kidX d r x h far j=K at *
 generalize jS d r x far j=w at *
 generalize pcT r j=p at *
 generalize upT h (tlT r (bN r x) far j).len=u at *
 generalize hT:tlT r (bN r x) far j=T at *
 have d0:T.len*5 / 5=T.len:=by omega
 refine ab0 func200 ntmps200 results200 ?_
 simp[rwC,rlC,dlC,aF,d0]
 refine⟨by kernel_rfl,?_⟩
 apply aC q1<;>simp
 apply aC q2<;>simp[rwL,rwC,rlC,dlC]
 apply aC q3<;>simp[rwL,rwC,rlC,dlC]
 apply aC q4<;>simp
 apply aC q5<;>simp
 exact⟨[],by simp⟩
abbrev JX(d:Dl)(r:Rl)(base c:Int)(x h:Tm)(far:Int):AV:=.fn (.func 200) .nil (.cons (.el (tmC none none h.h h.x).ds) (.cons (.el (rwC d r base c x far).ds) .nil))
def stK(d:Dl)(r:Rl)(base c:Int)(x h:Tm)(far:Int)(k:Nat):St:=bV [(1,JX d r base c x h far),(2,.bx 3 0),(4,.bx 5 0),(5,.c (.blk 24 (k+1) 5 27 (.seg none (tDs ty (apJ (iV d r x h far) k)) .nil) .nil)),(9,iA (nR r)),(10,iA k)] [(3,105,rwC d r base c x far),(5,27,zC)] [(24,k+1)]
theorem PE(hd:D3 d)(hr:R3 r)(hm:iQ r)(base c far:Int)(hx:x.fits)(hxs:x.size<=2){h:Tm}(hh:h.fits)(hhs:h.size<=2):HH 199 [rwL d r base c x far,JX d r base c x h far] (tmL (fA d r x h far)):=by
 have hn:=mZ r
 have hl:=hr.len
 have hN:(bP r.g 0).length=nR r:=rfl
 have q12:=h12 (apJ (iV d r x h far) (nR r)) (nI _ λ _ hj=>pC hd hr hm far hx hh hj) (by have:=mP (f:=iV d r x h far) hr λ j hj=>pB (d:=d) hr far hxs hhs hj;omega)
 change HH 197 _ (tmO (fA d r x h far)) at q12
 refine ab0 func199 ntmps199 results199 ?_
 simp[rwL,rwC,rlC,dlC,JX,bZ,hN]
 refine lp (α:={ k:Nat // k<=nR r }) (λ k=>stK d r base c x h far k.1) (λ k=>nR r-k.1) ⟨0,Nat.zero_le _⟩ ?_ ?_
 ·apply aK [((24,0),[(24,0)])]<;>simp[AV.ok,Dc.ok,apJ,rwC,rlC,dlC]
 ·rintro⟨k,hk⟩
  have hw:=wr1 (k:=k) (by omega)
  by_cases hlt:k<nR r
  ·have q1:=X5 (d:=d) base c far hr hx hxs hlt
   have q2:=w_kids1 hd hr hm base c far hx hxs hh hhs hlt
   have s2:=pB (d:=d) hr far hxs hhs hlt
   have q3:=BX (iV d r x h far k) k (pC hd hr hm far hx hh hlt) (by omega)
   have e1:apJ (iV d r x h far) (k+1)=(apJ (iV d r x h far) k).app (upT (iV d r x h far k) k).ts:=rfl
   have e2:=yT (iV d r x h far) k
   simp only[stK]
   generalize upT (iV d r x h far k) k=U at *
   generalize iV d r x h far k=E at *
   generalize tlT r (bN r x) far k=T at *
   generalize hAk:apJ (iV d r x h far) k=A at *
   generalize hAs:apJ (iV d r x h far) (k+1)=B at *
   subst e1
   simp[hlt,hw,rwC,rlC,dlC]
   apply aC q1<;>simp[rwL,rwC,rlC,dlC]
   apply aC q2<;>simp[rwC,rlC,dlC]
   apply aC q3<;>simp
   refine⟨by rw[aF,e2];omega,k+1,by omega,by omega,?_⟩
   apply aK [((24,0),[(24,0)])]<;>simp[AV.ok,Dc.ok,hw,hAs,rwC,rlC,dlC]
   rw[bG];rfl
  ·obtain rfl:k=nR r:=by omega
   simp only[stK]
   generalize fA d r x h far=P at *
   generalize apJ (iV d r x h far) (nR r)=A at *
   simp[Ds.app_nil]
   apply aC q12<;>simp[Ds.app_nil]
   exact⟨[],by simp⟩
theorem w_kids(hd:D3 d)(hr:R3 r)(hm:iQ r)(base c far:Int)(hx:x.fits)(hxs:x.size<=2){h:Tm}(hh:h.fits)(hhs:h.size<=2):HH 108 [rwL d r base c x far,tmL h] (tmL (fA d r x h far)):=by
 have q:=PE hd hr hm base c far hx hxs hh hhs
 generalize fA d r x h far=P at *
 refine ab0 func108 ntmps108 results108 ?_
 simp[rwL,rwC,rlC,dlC]
 apply aC q<;>simp[rwL,rwC,rlC,dlC,JX]
 ·exact⟨⟨_,_,⟨rfl,rfl⟩,rfl⟩,⟨_,_,⟨rfl,rfl⟩,rfl⟩⟩
 exact⟨[],by simp⟩
theorem w_Want(hd:D3 d)(hr:R3 r)(hm:fW r.m)(far:Int)(hx:x.fits)(hxs:x.size<=2):HH 38 [dlL d,rlL r,tmL x,iA far] (tmL (jX d r x far)):=by
 have q1:=w_at (d:=d) (x:=x) hr 0 0 far
 have q2:=PC hd hr hm 0 0 far hx hxs
 generalize jX d r x far=P at *
 refine ab0 func38 ntmps38 results38 ?_
 simp[dlL,dlC,rlL,rlC]
 apply aC q1<;>simp[dlL,dlC,rlL,rlC]
 apply aC q2<;>simp[rwL,rwC,rlC,dlC]
 exact⟨[],by simp⟩
end
end
section
section
variable {r:Rl} {d:Dl} {x y:Tm}
theorem w_is(hd:D3 d)(hr:R3 r)(hm:iQ r){base:Int}(hb:fW base)(c far n:Int):HH 149 [iA n,.el (rwC d r base c (vT 3) far).ds,.el (tmC none none (vT 0).h (vT 0).x).ds] (tmL (isT d r base far n)):=by
 have q1:=k100 d base (W (far+n)) hd.lv' hd.ps' hb hd.ml'
 have q2:=Q7 (d:=d) (r:=r) (x:=vT 3) base c far n (bO (by decide)) (by decide)
 have q3:=PC hd hr hm.1 base c (W (far+n)) (kW 3 n (by decide)).1 (kW 3 n (by decide)).2
 have q4:=BX (vT 0) n (bO (by decide)) (by decide)
 have s1:=dQ hd base (W (far+n))
 have s2:=yV (d:=d) hr (W (far+n)) (kW 3 n (by decide)).2
 have s3:=(kW 0 n (by decide)).2
 have f1:=dR hd hb (W (far+n))
 have f2:=yW hd hr hm.1 (W (far+n)) (kW 3 n (by decide)).1
 have f3:=(kW 0 n (by decide)).1
 have q5:=tL 19 (gQ (aS d base (W (far+n))) (jX d r (upT (vT 3) n) (W (far+n))) (upT (vT 0) n)) (by decide) (mL f1 f2 f3) (by rw[mK];omega)
 change HH 57 _ (tmL (isT d r base far n)) at q5
 generalize isT d r base far n=X at *
 generalize aS d base (W (far+n))=I at *
 generalize jX d r (upT (vT 3) n) (W (far+n))=w at *
 generalize upT (vT 0) n=u0 at *
 generalize upT (vT 3) n=u3 at *
 generalize vT 0=V0 at *
 generalize vT 3=V3 at *
 refine ab0 func149 ntmps149 results149 ?_
 simp[rwC,rlC,dlC]
 refine⟨by kernel_rfl,?_⟩
 apply aC q1<;>simp[dlL,dlC]
 apply aC q2<;>simp[rwL,rwC,rlC,dlC]
 apply aC q3<;>simp[rwL,rwC,rlC,dlC]
 apply aC q4<;>simp
 apply aC q5<;>simp[gQ,iN]
 exact⟨[],by simp⟩
theorem PK(hd:D3 d)(hr:R3 r)(hm:iQ r){base c:Int}(hb:fW base)(hc:fW c)(far:Int)(h0:bP r.g 0=[]):HH 66 [rwL d r base c (vT 3) far] (tmL (fG d r base c far)):=by
 have hN:nR r=0:=by unfold nR;rw[h0];rfl
 have e0:fG d r base c far=eX 12 (idT (jM d base c (vT 3) far) (cC d r base c (vT 3) ⟨⟨0,0,0,[]⟩,.nil⟩ far) (vT 2)) (isT d r base far 1):=by unfold fG;rw[if_pos hN]
 have z0:Tm.fits ⟨⟨0,0,0,[]⟩,.nil⟩:=⟨eQ (by decide) (by decide) (by decide),trivial⟩
 have f3:(vT 3).fits:=bO (by decide)
 have s3:(vT 3).size<=2:=by decide
 have q1:=xF (r:=r) hd base far hc f3 s3
 have q2:=JR (y:=⟨⟨0,0,0,[]⟩,.nil⟩) hd hr base far hc f3 s3 z0 (by decide)
 have t1:=tA hd base hc far f3
 have t2:=nQ (y:=⟨⟨0,0,0,[]⟩,.nil⟩) hd hr base hc far f3 z0
 have u1:=sZ hd base c far s3
 have u2:=nO (y:=⟨⟨0,0,0,[]⟩,.nil⟩) hd hr base c far s3 (by decide)
 have q3:=tL 19 (gQ (jM d base c (vT 3) far) (cC d r base c (vT 3) ⟨⟨0,0,0,[]⟩,.nil⟩ far) (vT 2)) (by decide) (mL t1 t2 (vTf 2 (by decide))) (by rw[mK,bF];omega)
 change HH 57 _ (tmL (idT (jM d base c (vT 3) far) (cC d r base c (vT 3) ⟨⟨0,0,0,[]⟩,.nil⟩ far) (vT 2))) at q3
 have u3:=vG (jM d base c (vT 3) far) (cC d r base c (vT 3) ⟨⟨0,0,0,[]⟩,.nil⟩ far) (vT 2)
 rw[bF] at u3
 have t3:=vH t1 t2 (vTf 2 (by decide))
 have q4:=w_is hd hr hm hb c far 1
 have u4:=vE hd hr base far 1
 have t4:=vF hd hr hm hb far 1
 have q5:=tL 12 (iN (idT (jM d base c (vT 3) far) (cC d r base c (vT 3) ⟨⟨0,0,0,[]⟩,.nil⟩ far) (vT 2)) (isT d r base far 1)) (by decide) (jZ t3 t4) (by rw[jY];omega)
 change HH 57 _ (tmL (eX 12 (idT (jM d base c (vT 3) far) (cC d r base c (vT 3) ⟨⟨0,0,0,[]⟩,.nil⟩ far) (vT 2)) (isT d r base far 1))) at q5
 rw[e0]
 clear e0 u1 u2 u3 u4 t1 t2 t3 t4
 generalize eX 12 (idT (jM d base c (vT 3) far) (cC d r base c (vT 3) ⟨⟨0,0,0,[]⟩,.nil⟩ far) (vT 2)) (isT d r base far 1)=X at *
 generalize idT (jM d base c (vT 3) far) (cC d r base c (vT 3) ⟨⟨0,0,0,[]⟩,.nil⟩ far) (vT 2)=I at *
 generalize isT d r base far 1=S at *
 generalize cC d r base c (vT 3) ⟨⟨0,0,0,[]⟩,.nil⟩ far=T at *
 generalize jM d base c (vT 3) far=F at *
 refine ab0 func66 ntmps66 results66 ?_
 simp[rwL,rwC,rlC,dlC,h0,jL]
 apply aC (w_v 2)<;>simp
 apply aC (w_v 1)<;>simp
 apply aC (w_v 0)<;>simp[h0,jL]
 refine⟨by kernel_rfl,?_⟩
 apply aC q1<;>simp[rwL,rwC,rlC,dlC,h0,jL]
 apply aC q2<;>simp[rwL,rwC,rlC,dlC,h0,jL]
 apply aC q3<;>simp[gQ,iN,vT]
 apply aC q4<;>simp[rwC,rlC,dlC,h0,jL,vT]
 ·exact⟨⟨_,_,⟨rfl,rfl⟩,rfl⟩,⟨_,_,⟨rfl,rfl⟩,rfl⟩⟩
 apply aC q5<;>simp[iN]
 exact⟨[],by simp⟩
theorem PJ(hd:D3 d)(hr:R3 r)(hm:iQ r){base c:Int}(hb:fW base)(hc:fW c)(far:Int)(h0:bP r.g 0≠[]):HH 66 [rwL d r base c (vT 3) far] (tmL (fG d r base c far)):=by
 have hN:(bP r.g 0).length=nR r:=rfl
 have hne:nR r≠0:=λ h=>h0 (List.eq_nil_of_length_eq_zero h)
 have hneI:((nR r:Nat):Int)≠0:=by omega
 have e0:fG d r base c far=eX 12 (oF d r base (vT 3) far) (eX 12 (jJ d r base c far) (eX 12 (isT d r base far 2) (fA d r (upT (vT 3) 3) (upT (vT 1) 3) (W (far+3))))):=by unfold fG;rw[if_neg hne]
 have f3:(vT 3).fits:=bO (by decide)
 have s3:(vT 3).size<=2:=by decide
 have a1:=kW 3 1 (by decide)
 have a3:=kW 3 3 (by decide)
 have b3:=kW 1 3 (by decide)
 have c1:=kW 2 1 (by decide)
 have q1:=Q7 (d:=d) (r:=r) (x:=vT 3) base c far 1 f3 (by decide)
 have q2:=xF (r:=r) hd base (W (far+1)) hc a1.1 a1.2
 have q3:=JR (y:=vT 0) hd hr base (W (far+1)) hc a1.1 a1.2 (vTf 0 (by decide)) (by decide)
 have q4:=BX (vT 2) 1 (vTf 2 (by decide)) (by decide)
 have t2:=tA hd base hc (W (far+1)) a1.1
 have t3:=nQ (y:=vT 0) hd hr base hc (W (far+1)) a1.1 (vTf 0 (by decide))
 have u2:=sZ hd base c (W (far+1)) a1.2
 have u3:=nO (y:=vT 0) hd hr base c (W (far+1)) a1.2 (by decide)
 have q5:=tL 19 (gQ (jM d base c (upT (vT 3) 1) (W (far+1))) (cC d r base c (upT (vT 3) 1) (vT 0) (W (far+1))) (upT (vT 2) 1)) (by decide) (mL t2 t3 c1.1) (by rw[mK];have:=c1.2;omega)
 change HH 57 _ (tmL (jJ d r base c far)) at q5
 have q6:=w_row hd hr base c far f3 s3
 have q7:=w_is hd hr hm hb c far 2
 have q8:=Q7 (d:=d) (r:=r) (x:=vT 3) base c far 3 f3 (by decide)
 have q9:=BX (vT 1) 3 (vTf 1 (by decide)) (by decide)
 have q10:=w_kids hd hr hm base c (W (far+3)) a3.1 a3.2 b3.1 b3.2
 have t5:=B7 hd hr base hc far
 have u5:=B6 hd hr base c far
 have t6:=S5 hd hr base far f3
 have u6:=S4 hd hr base far s3
 have t7:=vF hd hr hm hb far 2
 have u7:=vE hd hr base far 2
 have t10:=H9 hd hr hm (W (far+3)) a3.1 b3.1
 have u10:=H6 (d:=d) hr (W (far+3)) a3.2 b3.2
 have q11:=tL 12 (iN (isT d r base far 2) (fA d r (upT (vT 3) 3) (upT (vT 1) 3) (W (far+3)))) (by decide) (jZ t7 t10) (by rw[jY];omega)
 change HH 57 _ (tmL (eX 12 (isT d r base far 2) (fA d r (upT (vT 3) 3) (upT (vT 1) 3) (W (far+3))))) at q11
 have t11:=fY (k:=12) (by decide) t7 t10
 have u11:=fV 12 (isT d r base far 2) (fA d r (upT (vT 3) 3) (upT (vT 1) 3) (W (far+3)))
 have q12:=tL 12 (iN (jJ d r base c far) (eX 12 (isT d r base far 2) (fA d r (upT (vT 3) 3) (upT (vT 1) 3) (W (far+3))))) (by decide) (jZ t5 t11) (by rw[jY];omega)
 change HH 57 _ (tmL (eX 12 (jJ d r base c far) (eX 12 (isT d r base far 2) (fA d r (upT (vT 3) 3) (upT (vT 1) 3) (W (far+3)))))) at q12
 have t12:=fY (k:=12) (by decide) t5 t11
 have u12:=fV 12 (jJ d r base c far) (eX 12 (isT d r base far 2) (fA d r (upT (vT 3) 3) (upT (vT 1) 3) (W (far+3))))
 have q13:=tL 12 (iN (oF d r base (vT 3) far) (eX 12 (jJ d r base c far) (eX 12 (isT d r base far 2) (fA d r (upT (vT 3) 3) (upT (vT 1) 3) (W (far+3)))))) (by decide) (jZ t6 t12) (by rw[jY];omega)
 change HH 57 _ (tmL (eX 12 (oF d r base (vT 3) far) (eX 12 (jJ d r base c far) (eX 12 (isT d r base far 2) (fA d r (upT (vT 3) 3) (upT (vT 1) 3) (W (far+3))))))) at q13
 rw[e0]
 clear e0 u2 u3 u5 u6 u7 u10 u11 u12 t2 t3 t5 t6 t7 t10 t11 t12 a1 a3 b3 c1
 generalize eX 12 (oF d r base (vT 3) far) (eX 12 (jJ d r base c far) (eX 12 (isT d r base far 2) (fA d r (upT (vT 3) 3) (upT (vT 1) 3) (W (far+3)))))=X at *
 generalize eX 12 (jJ d r base c far) (eX 12 (isT d r base far 2) (fA d r (upT (vT 3) 3) (upT (vT 1) 3) (W (far+3))))=X12 at *
 generalize eX 12 (isT d r base far 2) (fA d r (upT (vT 3) 3) (upT (vT 1) 3) (W (far+3)))=X11 at *
 generalize fA d r (upT (vT 3) 3) (upT (vT 1) 3) (W (far+3))=K at *
 generalize isT d r base far 2=S at *
 generalize oF d r base (vT 3) far=R at *
 generalize jJ d r base c far=M at *
 generalize cC d r base c (upT (vT 3) 1) (vT 0) (W (far+1))=T at *
 generalize jM d base c (upT (vT 3) 1) (W (far+1))=F at *
 generalize upT (vT 3) 1=A1 at *
 generalize upT (vT 3) 3=A3 at *
 generalize upT (vT 1) 3=B3 at *
 generalize upT (vT 2) 1=C1 at *
 refine ab0 func66 ntmps66 results66 ?_
 simp[rwL,rwC,rlC,dlC,bZ,hN,hneI]
 apply aC (w_v 2)<;>simp
 apply aC (w_v 1)<;>simp
 apply aC (w_v 0)<;>simp[bZ,hN,hne]
 apply aC q1<;>simp[rwL,rwC,rlC,dlC,vT]
 refine⟨by kernel_rfl,?_⟩
 apply aC q2<;>simp[rwL,rwC,rlC,dlC]
 apply aC (w_v 0)<;>simp
 apply aC q3<;>simp[rwL,rwC,rlC,dlC,vT]
 apply aC q4<;>simp[vT]
 apply aC q5<;>simp[gQ,iN]
 refine⟨by kernel_rfl,?_⟩
 apply aC q6<;>simp[rwL,rwC,rlC,dlC,vT]
 apply aC q7<;>simp[rwC,rlC,dlC,vT]
 ·exact⟨⟨_,_,⟨rfl,rfl⟩,rfl⟩,⟨_,_,⟨rfl,rfl⟩,rfl⟩⟩
 apply aC q8<;>simp[rwL,rwC,rlC,dlC,vT]
 apply aC q9<;>simp[vT]
 apply aC q10<;>simp[rwL,rwC,rlC,dlC]
 apply aC q11<;>simp[iN]
 apply aC q12<;>simp[iN]
 apply aC q13<;>simp[iN]
 exact⟨[],by simp⟩
theorem w_holds(hd:D3 d)(hr:R3 r)(hm:iQ r){base c:Int}(hb:fW base)(hc:fW c)(far:Int):HH 66 [rwL d r base c (vT 3) far] (tmL (fG d r base c far)):=by
 by_cases h0:bP r.g 0=[]
 ·exact PK hd hr hm hb hc far h0
 ·exact PJ hd hr hm hb hc far h0
end
end
end
end Go.Proofs.YtlfnfiihfjggoaaGreatDoor
