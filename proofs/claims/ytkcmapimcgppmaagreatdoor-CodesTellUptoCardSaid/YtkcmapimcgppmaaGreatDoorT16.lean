/-
  The document's rules of a block, if it has any, and what follows. Conditions: as each lemma states them.
-/
import Derived.Test.YtkcmapimcgppmaaGreatDoorT15
import Derived.Test.YtkcmapimcgppmaaGreatDoorT08
import Derived.Test.YtkcmapimcgppmaaGreatDoorT09
import Derived.Test.YtkcmapimcgppmaaGreatDoorT07
import Derived.Test.YtkcmapimcgppmaaGreatDoorT05
set_option linter.all false
set_option linter.unusedVariables false
set_option linter.unusedSimpArgs false
set_option linter.unnecessarySimpa false
set_option maxHeartbeats 8000000
set_option maxRecDepth 100000
namespace Go.Proofs.YtkcmapimcgppmaaGreatDoor
section
open Go.RowKit
attribute [local simp] ty_p ty_l ty_t kH tDs bN Tm.ts kI oI ac_skip ac_label ac_region ac_seq ac_cond ac_block ac_loop ac_exit ac_ret seqK_n seqK_r seqK_e vo_nil vo_cons blkK JP oN I8 gA gB lG ev gU fF St.out A7 kX upd dD sU K0 asC oH jO tY lF tD qU pV tb Dc.tk Dc.dp Dc.over Dc.app Dc.ln Dc.ds Dc.sing Dc.cont AV.cont Ds.hd Value.oneCell' DE pP C0 AV.imp Dc.imp φOf dY AV.isLL AV.list AV.app AV.arg AV.isL AV.ren Dc.ren Dc.lent tmC tmA tsA iA lo? abin AV.nth Dc.own Dc.toks bP rI Z6 τOf
attribute [local simp] AV.room R8 agC rH Ds.len Ds.dp
def qB(f:Ct->Rl×Int):List Ct->Option Int
 | []=>none
 | c :: l=>if (f c).2=0 then qB f l else some (f c).2
def stRu(d:Dl)(l:List Rl):St:=bP [(1,.bx 2 0),(4,.c (.blk 35 (l.length+1) 3 65 (.seg none (aO l) .nil) .nil)),(5,iA l.length)] [(2,47,dlC d)] [(35,l.length+1)]
structure OkRs (d:Dl) (l:List Rl):Prop where
 gf:∀r∈l,dW r.g/\r.i.fits/\r.g.length<=10
 s:fY l<=gT d.c
 l:l.length<=d.c.length
theorem L6(f:Ct->Rl×Int):∀l:List Ct,(∀c∈l,OkRl c.t (f c).1)->(∀r∈l.map (λ c=>(f c).1),dW r.g/\r.i.fits/\r.g.length<=10)/\fY (l.map λ c=>(f c).1)<=gT l
 | [],_=>⟨fun r hr=>(by cases hr),Nat.le_refl _⟩
 | c :: l,h=>by
  obtain⟨h1,h2⟩:=L6 f l λ a ha=>h a (by simp[ha])
  have h3:=h c (by simp)
  refine⟨fun r hr=>?_,?_⟩
  ·rcases List.mem_cons.1 hr with rfl|hr
   ·exact⟨h3.gf,h3.xf,h3.l⟩
   ·exact h1 r hr
  ·have:=h3.s
   simp only[List.map_cons,lI,rW]
   omega
theorem rulesT(d:Dl)(hc:∀c∈d.c,c.t.fits)(hs:gT d.c<=10000000)(hm:d.m.length<=10000000):∃l e,HH 27 [dlL d] (.tup (AV.list [aP l,iA e]))/\OkRs d l:=by
 have hcl:d.c.length<=10000000:=Nat.le_trans (jW _) hs
 have dc:(dU d.c).len=d.c.length*6:=bL _
 have d0:d.c.length*6 / 6=d.c.length:=by omega
 by_cases hk:d.k=3
 ·obtain⟨f,hF⟩:=Classical.axiomOfChoice (r:=λ (c:Ct) (p:Rl×Int)=>c∈d.c->HH 74 [dlL d,.agg (cCt c)] (.tup (AV.list [rlL p.1,iA p.2]))/\OkRl c.t p.1) (λ c=>by
   by_cases h:c∈d.c
   ·obtain⟨k,hk,rfl⟩:=List.getElem_of_mem h
    have hsz:=oT hk
    obtain⟨r,e,h1⟩:=oneT d d.c[k] (hc _ h) (by omega) hm
    exact⟨(r,e),λ _=>h1⟩
   ·exact⟨(⟨0,[],.nil⟩,0),λ h2=>absurd h2 h⟩)
  obtain⟨h5,h6⟩:=L6 f d.c λ c h=>(hF c h).2
  obtain⟨l,e,hsome,hnone,hok⟩:∃l:List Rl,∃e:Int,(∀v,qB f d.c=some v->l=[]/\e=v)/\(qB f d.c=none->l=d.c.map (λ c=>(f c).1)/\e=0)/\OkRs d l:=by
   cases hE:qB f d.c with
   | some v=>exact⟨[],v,λ v' h=>⟨rfl,by cases h;rfl⟩,λ h=>(by cases h),λ r hr=>(by cases hr),Nat.zero_le _,Nat.zero_le _⟩
   | none=>exact⟨d.c.map (λ c=>(f c).1),0,λ v' h=>(by cases h),λ _=>⟨rfl,rfl⟩,h5,h6,by simp⟩
  refine⟨l,e,?_,hok⟩
  clear hok h5 h6
  refine ab Tryz.func27 Tryz.ntmps27 Tryz.results27 rfl (by decide) (by simp) rfl rfl ?_
  simp[dlL,dlC,hk]
  refine lp (α:={ q:List Ct×List Ct // q.1++q.2=d.c/\qB f q.2=qB f d.c }) (λ q=>stRu d (q.1.1.map λ c=>(f c).1)) (λ q=>q.1.2.length) ⟨([],d.c),rfl,rfl⟩ ?_ ?_
  ·refine aI [((35,0),[(35,0)])] ?_ ?_ ?_<;>simp[AV.ok,Dc.ok,aO,dlC,hk]
  ·rintro⟨⟨a,q⟩,hq,hq0⟩
   simp only at hq hq0
   cases q with
   | nil =>
    have ea:a=d.c:=by rw[<-hq];simp
    obtain⟨rfl,rfl⟩:=hnone (by rw[<-hq0];rfl)
    have hal:a.length=d.c.length:=by rw[ea]
    simp[stRu,dlC,dc,d0,hal]
    exact⟨[],by simp[aP,ea,Ds.app_nil]⟩
   | cons c q =>
    have h1:a.length<d.c.length:=by rw[<-hq];simp
    have hmem:c∈d.c:=by rw[<-hq];simp
    have hdp:(dU d.c).dp (a.length*6)=dU (c :: q):=by
     have h2:(dU a).len=a.length*6:=bL a
     rw[<-hq,rL,<-h2,Ds.dp_app]
    have hw:IntKind.i64.wrap ((a.length:Int)+1)=a.length+1:=by rw[IntKind.wrap_i64];omega
    obtain⟨q4,-⟩:=hF c hmem
    simp only[qB] at hq0
    obtain⟨u,hu⟩:∃u,(f c).1=u:=⟨_,rfl⟩
    obtain⟨v,hv⟩:∃v,(f c).2=v:=⟨_,rfl⟩
    rw[hu,hv] at q4
    rw[hv] at hq0
    by_cases hz:v=0
    ·subst hz
     rw[if_pos rfl] at hq0
     simp[stRu,dlC,dc,d0,h1,hdp,dU]
     refine⟨by kernel_rfl,by omega,?_⟩
     refine aE q4 ?_ ?_ ?_<;>simp[dlL,dlC,cCt,rlL,rlC]
     refine⟨by rw[aN];simp;omega,a++[c],q,by simp,⟨by rw[List.append_assoc];exact hq,hq0⟩,?_⟩
     refine aI [((35,0),[(35,0)])] ?_ ?_ ?_<;>simp[AV.ok,Dc.ok,hw,hu,dlC,gK]
     rfl
    ·rw[if_neg hz] at hq0
     obtain⟨rfl,rfl⟩:=hsome v hq0.symm
     simp[stRu,dlC,dc,d0,h1,hdp,dU]
     refine⟨by kernel_rfl,by omega,?_⟩
     refine aE q4 ?_ ?_ ?_<;>simp[dlL,dlC,cCt,rlL,rlC,hz]
     exact⟨[],by simp[aP,aO]⟩
 ·refine⟨[],2,?_,λ r hr=>(by cases hr),Nat.zero_le _,Nat.zero_le _⟩
  refine ab Tryz.func27 Tryz.ntmps27 Tryz.results27 rfl (by decide) (by simp) rfl rfl ?_
  simp[dlL,dlC,hk]
  exact⟨[],by simp[aP,aO]⟩
end
section
open Go.ChangeShapes Go.WideShapes Go.ChangeAt Go.RowKit
theorem P9:Tryz.prog.cellsOf 80=1:=by kernel_rfl
theorem P7:Tryz.prog.cellsOf 85=6:=by kernel_rfl
theorem LP:Tryz.prog.cellsOf 40=1:=by kernel_rfl
theorem LN:Tryz.prog.cellsOf 44=1:=by kernel_rfl
theorem LM:Tryz.prog.cellsOf 45=1:=by kernel_rfl
theorem LL:Tryz.prog.cellsOf 47=16:=by kernel_rfl
theorem IM{α:Type}{l:List α}(h:l.length=6):∃a b c d e f,l=[a,b,c,d,e,f]:=by
 obtain⟨a,l,rfl⟩:=List.exists_cons_of_length_pos (l:=l) (by omega)
 obtain⟨b,c,d,e,f,rfl⟩:=mP (l:=l) (by simp at h;omega)
 exact⟨a,b,c,d,e,f,rfl⟩
theorem LB{α:Type}{l:List α}(h:l.length=8):∃a b c d e f g i,l=[a,b,c,d,e,f,g,i]:=by
 obtain⟨a,l,rfl⟩:=List.exists_cons_of_length_pos (l:=l) (by omega)
 obtain⟨b,l,rfl⟩:=List.exists_cons_of_length_pos (l:=l) (by simp at h;omega)
 obtain⟨c,d,e,f,g,i,rfl⟩:=IM (l:=l) (by simp at h;omega)
 exact⟨a,b,c,d,e,f,g,i,rfl⟩
theorem U4{α:Type}{l:List α}(h:l.length=16):∃a b c d e f g i j k m n o p q r,l=[a,b,c,d,e,f,g,i,j,k,m,n,o,p,q,r]:=by
 obtain⟨a,l,rfl⟩:=List.exists_cons_of_length_pos (l:=l) (by omega)
 obtain⟨b,l,rfl⟩:=List.exists_cons_of_length_pos (l:=l) (by simp at h;omega)
 obtain⟨c,l,rfl⟩:=List.exists_cons_of_length_pos (l:=l) (by simp at h;omega)
 obtain⟨d,l,rfl⟩:=List.exists_cons_of_length_pos (l:=l) (by simp at h;omega)
 obtain⟨e,l,rfl⟩:=List.exists_cons_of_length_pos (l:=l) (by simp at h;omega)
 obtain⟨f,l,rfl⟩:=List.exists_cons_of_length_pos (l:=l) (by simp at h;omega)
 obtain⟨g,l,rfl⟩:=List.exists_cons_of_length_pos (l:=l) (by simp at h;omega)
 obtain⟨i,j,k,m,n,o,p,q,r,rfl⟩:=BJ (l:=l) (by simp at h;omega)
 exact⟨a,b,c,d,e,f,g,i,j,k,m,n,o,p,q,r,rfl⟩
theorem JL:∀ {ys:List (Ts×Ds×Nat)},(∀y∈ys,y.2.1=aZ [y.1]/\y.1.fits/\1+y.1.size<=y.2.2) ->
  lE (ys.map λ y=>y.2.1)=aZ (ys.map (·.1))/\(∀a∈ys.map (·.1),a.fits)/\iC (ys.map (·.1))<=(ys.map λ y=>y.2.2).sum
 | [],_=>⟨rfl,λ q hq=>by simp at hq,Nat.zero_le _⟩
 | y :: ys,h=>by
  obtain⟨h1,h2,h3⟩:=JL (ys:=ys) λ z hz=>h z (List.mem_cons.2 (.inr hz))
  obtain⟨k1,k2,k3⟩:=h y (List.mem_cons.2 (.inl rfl))
  refine⟨?_,λ q hq=>?_,?_⟩
  ·simp only[List.map_cons,lE,k1,h1];rfl
  ·rcases List.mem_cons.1 hq with rfl|hq
   ·exact k2
   ·exact h2 q hq
  ·simp only[List.map_cons,rV,List.sum_cons] at *
   omega
theorem LH:∀ {ys:List (Ct×Ds×Nat)},(∀y∈ys,y.2.1=dU [y.1]/\y.1.t.fits/\1+y.1.t.size<=y.2.2) ->
  lE (ys.map λ y=>y.2.1)=dU (ys.map (·.1))/\(∀a∈ys.map (·.1),a.t.fits)/\gT (ys.map (·.1))<=(ys.map λ y=>y.2.2).sum
 | [],_=>⟨rfl,λ q hq=>by simp at hq,Nat.zero_le _⟩
 | y :: ys,h=>by
  obtain⟨h1,h2,h3⟩:=LH (ys:=ys) λ z hz=>h z (List.mem_cons.2 (.inr hz))
  obtain⟨k1,k2,k3⟩:=h y (List.mem_cons.2 (.inl rfl))
  refine⟨?_,λ q hq=>?_,?_⟩
  ·simp only[List.map_cons,lE,k1,h1];rfl
  ·rcases List.mem_cons.1 hq with rfl|hq
   ·exact k2
   ·exact h2 q hq
  ·simp only[List.map_cons,rW,List.sum_cons] at *
   omega
theorem IR:∀ {ys:List (Rl×Ds×Nat)},(∀y∈ys,y.2.1=aO [y.1]/\y.1.fits/\1+(cF y.1.g+y.1.i.size)<=y.2.2) ->
  lE (ys.map λ y=>y.2.1)=aO (ys.map (·.1))/\(∀a∈ys.map (·.1),a.fits)/\fY (ys.map (·.1))<=(ys.map λ y=>y.2.2).sum
 | [],_=>⟨rfl,λ q hq=>by simp at hq,Nat.zero_le _⟩
 | y :: ys,h=>by
  obtain⟨h1,h2,h3⟩:=IR (ys:=ys) λ z hz=>h z (List.mem_cons.2 (.inr hz))
  obtain⟨k1,k2,k3⟩:=h y (List.mem_cons.2 (.inl rfl))
  refine⟨?_,λ q hq=>?_,?_⟩
  ·simp only[List.map_cons,lE,k1,h1];rfl
  ·rcases List.mem_cons.1 hq with rfl|hq
   ·exact k2
   ·exact h2 q hq
  ·simp only[List.map_cons,lI,List.sum_cons] at *
   omega
structure FitD (d:Dl):Prop where
 p:d.p.fits
 s:∀q∈d.s,xU q
 m:∀a∈d.m,a.fits
 c:∀a∈d.c,a.t.fits
section
variable {H:Type} {enc:TypeId×Value->H} {W W':World}
theorem K9{held:Bool}{n:Nat}{cs:List Value}{x:DataW H×List MemPlace}(h:DataW.trod enc Tryz.prog W 0 (λ _=>true) held n 80 cs=some x)(hz:gS W x.2) :
  ∃t:Ts,t.fits/\1+t.size<=Rows.uptoBulk x.1/\Vs (U W) W.heap.size (aZ [t]) cs:=by
 obtain⟨xs,n',rfl,rfl,hl,hxs,hf⟩:=DataW.trod_struct Tryz.underlying80 h
 rw[P9] at hl
 obtain⟨c0,rfl⟩:=one_of hl
 obtain⟨x0,rfl⟩:=one_of hxs
 have h0:DataW.trod enc Tryz.prog W 0 (λ _=>true) held n' 22 (([c0].drop 0).take (Tryz.prog.cellsOf 22))=some x0:=hf 0 _ rfl
 rw[oM] at h0
 obtain⟨v,hv,t,h1,h2,h3⟩:=eU _ _ _ h0 (by simpa using hz)
 cases hv
 exact⟨t,h1,by simp[Rows.uptoBulk,Rows.uptoBulkAll];omega,_,[],rfl,h3,rfl⟩
theorem B7{held:Bool}{n:Nat}{cs:List Value}{x:DataW H×List MemPlace}(h:DataW.trod enc Tryz.prog W 0 (λ _=>true) held n 44 cs=some x)(hz:gS W x.2) :
  ∃v,cs=[v]/\∃l:List Ts,(∀a∈l,a.fits)/\1+iC l<=Rows.uptoBulk x.1/\Rd (U W) W.heap.size v 1 (aZ l) .nil:=by
 obtain⟨v,hv,ys,h1,h2,h3⟩:=gE (α:=Ts) Tryz.underlying44 P9 (by decide) (λ y d s=>d=aZ [y]/\y.fits/\1+y.size<=s) h hz (λ n' cs' x' _ h' hz'=>by
  obtain⟨a,g1,g2,g3⟩:=K9 h' hz'
  exact⟨a,_,_,⟨rfl,g1,g2⟩,Nat.le_refl _,g3⟩)
 obtain⟨e1,e2,e3⟩:=JL h1
 refine⟨v,hv,ys.map (·.1),e2,by omega,?_⟩
 rw[<-e1];exact h3
theorem DO{held:Bool}{n:Nat}{cs:List Value}{x:DataW H×List MemPlace}(h:DataW.trod enc Tryz.prog W 0 (λ _=>true) held n 85 cs=some x)(hz:gS W x.2) :
  ∃c:Ct,c.t.fits/\1+c.t.size<=Rows.uptoBulk x.1/\Vs (U W) W.heap.size (dU [c]) cs:=by
 obtain⟨xs,n',rfl,rfl,hl,hxs,hf⟩:=DataW.trod_struct Tryz.underlying85 h
 rw[P7] at hl
 obtain⟨c0,c1,c2,c3,c4,c5,rfl⟩:=IM hl
 obtain⟨x0,x1,rfl⟩:=zO hxs
 have h0:DataW.trod enc Tryz.prog W 0 (λ _=>true) held n' 3 (([c0,c1,c2,c3,c4,c5].drop 0).take (Tryz.prog.cellsOf 3))=some x0:=hf 0 _ rfl
 have h1:DataW.trod enc Tryz.prog W 0 (λ _=>true) held n' 26 (([c0,c1,c2,c3,c4,c5].drop 1).take (Tryz.prog.cellsOf 26))=some x1:=hf 1 _ rfl
 rw[mR] at h0
 rw[oL] at h1
 obtain⟨m,e0,rfl,g0⟩:=open_int Tryz.underlying3 h0
 obtain⟨k,nn,at',v,w,e1,l,t,f1,f2,s1,r1,r2⟩:=gW h1 (by simpa using hz) λ n2 cs2 x2 _ h2 hz2=>eU n2 cs2 x2 h2 hz2
 cases e0
 cases e1
 refine⟨⟨m,⟨⟨k,nn,at',l⟩,t⟩⟩,⟨f1,f2⟩,?_,_,rfl,_,rfl,_,rfl,_,rfl,_,_,rfl,r1,_,_,rfl,r2,rfl⟩
 simp[Rows.uptoBulk,Rows.uptoBulkAll,Tm.size]
 omega
theorem W5{held:Bool}{n:Nat}{cs:List Value}{x:DataW H×List MemPlace}(h:DataW.trod enc Tryz.prog W 0 (λ _=>true) held n 45 cs=some x)(hz:gS W x.2) :
  ∃v,cs=[v]/\∃l:List Ct,(∀a∈l,a.t.fits)/\1+gT l<=Rows.uptoBulk x.1/\Rd (U W) W.heap.size v 6 (dU l) .nil:=by
 obtain⟨v,hv,ys,h1,h2,h3⟩:=gE (α:=Ct) Tryz.underlying45 P7 (by decide) (λ y d s=>d=dU [y]/\y.t.fits/\1+y.t.size<=s) h hz (λ n' cs' x' _ h' hz'=>by
  obtain⟨a,g1,g2,g3⟩:=DO h' hz'
  exact⟨a,_,_,⟨rfl,g1,g2⟩,Nat.le_refl _,g3⟩)
 obtain⟨e1,e2,e3⟩:=LH h1
 refine⟨v,hv,ys.map (·.1),e2,by omega,?_⟩
 rw[<-e1];exact h3
theorem V9{held:Bool}{n:Nat}{cs:List Value}{x:DataW H×List MemPlace}(h:DataW.trod enc Tryz.prog W 0 (λ _=>true) held n 65 cs=some x)(hz:gS W x.2) :
  ∃r:Rl,r.fits/\1+(cF r.g+r.i.size)<=Rows.uptoBulk x.1/\Vs (U W) W.heap.size (aO [r]) cs:=by
 obtain⟨xs,n',rfl,rfl,hl,hxs,hf⟩:=DataW.trod_struct Tryz.underlying65 h
 rw[Q5] at hl
 obtain⟨c0,c1,c2,rfl⟩:=I9 hl
 obtain⟨x0,x1,x2,rfl⟩:=I9 hxs
 have h0:DataW.trod enc Tryz.prog W 0 (λ _=>true) held n' 3 (([c0,c1,c2].drop 0).take (Tryz.prog.cellsOf 3))=some x0:=hf 0 _ rfl
 have h1:DataW.trod enc Tryz.prog W 0 (λ _=>true) held n' 63 (([c0,c1,c2].drop 1).take (Tryz.prog.cellsOf 63))=some x1:=hf 1 _ rfl
 have h2:DataW.trod enc Tryz.prog W 0 (λ _=>true) held n' 22 (([c0,c1,c2].drop 2).take (Tryz.prog.cellsOf 22))=some x2:=hf 2 _ rfl
 rw[mR] at h0
 rw[LK] at h1
 rw[oM] at h2
 obtain⟨m,e0,rfl,g0⟩:=open_int Tryz.underlying3 h0
 have hz':gS W (x1.2++x2.2):=by simpa using hz
 obtain⟨z1,z2⟩:=fC hz'
 obtain⟨va,e1,l,fa,sa,ra⟩:=DQ h1 z1
 obtain⟨vi,e2,ti,fi,si,ri⟩:=eU _ _ _ h2 z2
 cases e0
 cases e1
 cases e2
 refine⟨⟨m,l,ti⟩,⟨fa,fi⟩,?_,_,rfl,_,_,rfl,ra,_,_,rfl,ri,rfl⟩
 simp[Rows.uptoBulk,Rows.uptoBulkAll]
 omega
theorem V8{held:Bool}{n:Nat}{cs:List Value}{x:DataW H×List MemPlace}(h:DataW.trod enc Tryz.prog W 0 (λ _=>true) held n 48 cs=some x)(hz:gS W x.2) :
  ∃v,cs=[v]/\∃l:List Rl,(∀a∈l,a.fits)/\1+fY l<=Rows.uptoBulk x.1/\Rd (U W) W.heap.size v 3 (aO l) .nil:=by
 obtain⟨v,hv,ys,h1,h2,h3⟩:=gE (α:=Rl) Tryz.underlying48 Q5 (by decide) (λ y d s=>d=aO [y]/\y.fits/\1+(cF y.g+y.i.size)<=s) h hz (λ n' cs' x' _ h' hz'=>by
  obtain⟨a,g1,g2,g3⟩:=V9 h' hz'
  exact⟨a,_,_,⟨rfl,g1,g2⟩,Nat.le_refl _,g3⟩)
 obtain⟨e1,e2,e3⟩:=IR h1
 refine⟨v,hv,ys.map (·.1),e2,by omega,?_⟩
 rw[<-e1];exact h3
theorem DN{held:Bool}{n:Nat}{cs:List Value}{x:DataW H×List MemPlace}(h:DataW.trod enc Tryz.prog W 0 (λ _=>true) held n 47 cs=some x)(hz:gS W x.2) :
  ∃d:Dl,FitD d/\1+d.t.size+d.b.size+d.p.size+d.s.length+iC d.m+gT d.c<=Rows.uptoBulk x.1/\∀v,v=Value.agg cs.toArray->RepV (bE (U W) W) (dlL d) [v]:=by
 obtain⟨xs,n',rfl,rfl,hl,hxs,hf⟩:=DataW.trod_struct Tryz.underlying47 h
 rw[LL] at hl
 obtain⟨c0,c1,c2,c3,c4,c5,c6,c7,c8,c9,c10,c11,c12,c13,c14,c15,rfl⟩:=U4 hl
 obtain⟨x0,x1,x2,x3,x4,x5,x6,x7,rfl⟩:=LB hxs
 have h0:DataW.trod enc Tryz.prog W 0 (λ _=>true) held n' 40 (([c0,c1,c2,c3,c4,c5,c6,c7,c8,c9,c10,c11,c12,c13,c14,c15].drop 0).take (Tryz.prog.cellsOf 40))=some x0:=hf 0 _ rfl
 have h1:DataW.trod enc Tryz.prog W 0 (λ _=>true) held n' 3 (([c0,c1,c2,c3,c4,c5,c6,c7,c8,c9,c10,c11,c12,c13,c14,c15].drop 1).take (Tryz.prog.cellsOf 3))=some x1:=hf 1 _ rfl
 have h2:DataW.trod enc Tryz.prog W 0 (λ _=>true) held n' 26 (([c0,c1,c2,c3,c4,c5,c6,c7,c8,c9,c10,c11,c12,c13,c14,c15].drop 2).take (Tryz.prog.cellsOf 26))=some x2:=hf 2 _ rfl
 have h3:DataW.trod enc Tryz.prog W 0 (λ _=>true) held n' 26 (([c0,c1,c2,c3,c4,c5,c6,c7,c8,c9,c10,c11,c12,c13,c14,c15].drop 7).take (Tryz.prog.cellsOf 26))=some x3:=hf 3 _ rfl
 have h4:DataW.trod enc Tryz.prog W 0 (λ _=>true) held n' 22 (([c0,c1,c2,c3,c4,c5,c6,c7,c8,c9,c10,c11,c12,c13,c14,c15].drop 12).take (Tryz.prog.cellsOf 22))=some x4:=hf 4 _ rfl
 have h5:DataW.trod enc Tryz.prog W 0 (λ _=>true) held n' 43 (([c0,c1,c2,c3,c4,c5,c6,c7,c8,c9,c10,c11,c12,c13,c14,c15].drop 13).take (Tryz.prog.cellsOf 43))=some x5:=hf 5 _ rfl
 have h6:DataW.trod enc Tryz.prog W 0 (λ _=>true) held n' 44 (([c0,c1,c2,c3,c4,c5,c6,c7,c8,c9,c10,c11,c12,c13,c14,c15].drop 14).take (Tryz.prog.cellsOf 44))=some x6:=hf 6 _ rfl
 have h7:DataW.trod enc Tryz.prog W 0 (λ _=>true) held n' 45 (([c0,c1,c2,c3,c4,c5,c6,c7,c8,c9,c10,c11,c12,c13,c14,c15].drop 15).take (Tryz.prog.cellsOf 45))=some x7:=hf 7 _ rfl
 rw[LP] at h0
 rw[mR] at h1
 rw[oL] at h2 h3
 rw[oM] at h4
 rw[wW] at h5
 rw[LN] at h6
 rw[LM] at h7
 obtain⟨k,e0,rfl,g0⟩:=open_int Tryz.underlying40 h0
 obtain⟨lv,e1,rfl,g1⟩:=open_int Tryz.underlying3 h1
 have hz':gS W (x2.2++(x3.2++(x4.2++(x5.2++(x6.2++x7.2))))):=by simpa using hz
 obtain⟨z2,hz'⟩:=fC hz'
 obtain⟨z3,hz'⟩:=fC hz'
 obtain⟨z4,hz'⟩:=fC hz'
 obtain⟨z5,hz'⟩:=fC hz'
 obtain⟨z6,z7⟩:=fC hz'
 obtain⟨tk,tn,ta,tv,tw,e2,tl,tx,f2,f2',s2,r2,r2'⟩:=gW h2 z2 λ n2 cs2 x2 _ h2 hz2=>eU n2 cs2 x2 h2 hz2
 obtain⟨bk,bn,ba,bv,bw,e3,bl,bx,f3,f3',s3,r3,r3'⟩:=gW h3 z3 λ n2 cs2 x2 _ h2 hz2=>eU n2 cs2 x2 h2 hz2
 obtain⟨vp,e4,p,f4,s4,r4⟩:=eU _ _ _ h4 z4
 obtain⟨vs,e5,s,f5,s5,r5⟩:=vL h5 z5
 obtain⟨vm,e6,m,f6,s6,r6⟩:=B7 h6 z6
 obtain⟨vc,e7,c,f7,s7,r7⟩:=W5 h7 z7
 cases e0
 cases e1
 cases e2
 cases e3
 cases e4
 cases e5
 cases e6
 cases e7
 refine⟨⟨k,lv,⟨⟨tk,tn,ta,tl⟩,tx⟩,⟨⟨bk,bn,ba,bl⟩,bx⟩,p,s,m,c⟩,⟨f4,f5,f6,f7⟩,?_,?_⟩
 ·simp[Rows.uptoBulk,Rows.uptoBulkAll,Tm.size]
  omega
 ·rintro _ rfl
  exact⟨_,rfl,rfl,_,rfl,rfl,_,rfl,rfl,_,rfl,rfl,_,rfl,rfl,_,rfl,cT _,_,_,rfl,r2,Gh.Ow_none,bQ _,_,_,rfl,r2',Gh.Ow_none,
   rfl,_,rfl,rfl,_,rfl,rfl,_,rfl,cT _,_,_,rfl,r3,Gh.Ow_none,bQ _,_,_,rfl,r3',Gh.Ow_none,bQ _,_,_,rfl,r4,Gh.Ow_none,fU _,_,_,rfl,r5,Gh.Ow_none,nM _,_,_,rfl,r6,Gh.Ow_none,sX _,_,_,rfl,r7,Gh.Ow_none,rfl⟩
set_option maxRecDepth 100000
theorem V2:Tryz.prog.readableRec 47=true:=by kernel_rfl
theorem row47:47<Tryz.prog.types.size:=of_decide_eq_true (by kernel_rfl)
theorem V1:Tryz.prog.readableRec 48=true:=by kernel_rfl
theorem row48:48<Tryz.prog.types.size:=of_decide_eq_true (by kernel_rfl)
theorem in_decl{b0:Nat}{v:Value}{d:DataW H}{ps:List MemPlace}(hval:Value.okWide Tryz.prog W .any b0 47 v)(h:DataW.Trod enc Tryz.prog W 0 (λ _=>true) true 47 v d ps)
  (hz:gS W ps):∃r:Dl,FitD r/\1+r.t.size+r.b.size+r.p.size+r.s.length+iC r.m+gT r.c<=Rows.uptoBulk d/\RepV (bE (U W) W) (dlL r) [v]:=by
 obtain⟨cs,rfl,-⟩:=okWide_struct Tryz.underlying47 hval
 obtain⟨fuel,hf⟩:=h
 obtain⟨t,h1,h2,h3⟩:=DN hf hz
 exact⟨t,h1,h2,h3 _ (by simp[Value.cells])⟩
theorem KG{b0:Nat}{v:Value}{d:DataW H}{ps:List MemPlace}(hval:Value.okWide Tryz.prog W .any b0 48 v)(h:DataW.Trod enc Tryz.prog W 0 (λ _=>true) true 48 v d ps)
  (hz:gS W ps):∃l:List Rl,(∀a∈l,a.fits)/\1+fY l<=Rows.uptoBulk d/\Rd (U W) W.heap.size v 3 (aO l) .nil:=by
 obtain⟨a,len,cap,rfl⟩:=okWide_slice Tryz.underlying48 hval
 obtain⟨fuel,hf⟩:=h
 obtain⟨v',e,t,h1,h2,h3⟩:=V8 hf hz
 have hv:(Value.slice a len cap).cells.toList=[.slice a len cap]:=rfl
 rw[hv] at e
 cases e
 exact⟨t,h1,h2,h3⟩
theorem CY{v:Value}{d:DataW H}{ps:List MemPlace}{sp:Nat->Bool}(h:DataW.Trod enc Tryz.prog W 0 (λ _=>true) true 47 v d ps)(hb:Below W.heap.size W W')(hlt:∀x∈ps,x.block<W.heap.size)
  (hsp:∀p∈ps,sp p.block=true):DataW.Trod enc Tryz.prog W' 0 sp true 47 v d ps :=
 WideElems.Trod_stays BR V2 row47 h (λ x hx=>hb.same (hlt x hx)) hsp
theorem T9{v:Value}{d:DataW H}{ps:List MemPlace}{sp:Nat->Bool}(h:DataW.Trod enc Tryz.prog W 0 (λ _=>true) true 48 v d ps)(hb:Below W.heap.size W W')(hlt:∀x∈ps,x.block<W.heap.size)
  (hsp:∀p∈ps,sp p.block=true):DataW.Trod enc Tryz.prog W' 0 sp true 48 v d ps :=
 WideElems.Trod_stays BR V1 row48 h (λ x hx=>hb.same (hlt x hx)) hsp
end
def noDl:Value:=.agg #[.int .i64 0,.int .i64 0,.int .i64 0,.int .i64 0,.int .i64 0,.slice none 0 0,.slice none 0 0,.int .i64 0,.int .i64 0,.int .i64 0,.slice none 0 0,.slice none 0 0,.slice none 0 0,.slice none 0 0,.slice none 0 0,.slice none 0 0]
def noTmE{H:Type}:DataW H:=.agg [.lit (.int .i64 0),.lit (.int .i64 0),.lit (.int .i64 0),.nil,.nil]
def noDlD{H:Type}:DataW H:=.agg [.lit (.int .i64 0),.lit (.int .i64 0),noTmE,noTmE,.nil,.agg [.nil],.nil,.nil]
end
section
open Go.RowKit
theorem hd_wrap{h:Hd}(n:Int)(hf:h.fits):Hd.fits { h with n:=IntKind.i64.wrap n }:=⟨hf.1,pN n,hf.2.2⟩
theorem yO{y:Ts}{h:Hd}{d:Nat}(hy:y.fits)(hf:h.fits):(∀u,cA y h d=.inl u->u.fits)/\∀h',cA y h d=.inr h'->h'.fits:=by
 refine⟨fun u hp=>?_,λ h' hp=>?_⟩
 ·obtain⟨-,c1,c2,rfl⟩:=BG hp
  exact gO _ _ (Ts.fits_hd hy (by omega))
 ·unfold cA at hp
  split at hp
  ·split at hp
   ·cases hp
   ·cases hp;exact hd_wrap _ hf
  ·cases hp;exact hf
theorem sE{y:Ts}(hy:y.fits):∀(x:Ts) (pk:Int) (i d:Nat),x.fits->(eR y pk i d x).fits
 | .nil,_,_,_,_=>trivial
 | .cons h x r,pk,i,d,hf=>by
  have hn:=yO (d:=aU pk i d) hy hf.1
  have ir:=sE hy r pk (i+1) d hf.2.2
  have ix:=sE hy x h.k 0 (aU pk i d) hf.2.1
  simp only[eR]
  cases hp:cA y h (aU pk i d) with
  | inl u=>exact⟨(hn.1 u hp).1,(hn.1 u hp).2,ir⟩
  | inr h'=>exact⟨hn.2 h' hp,ix,ir⟩
theorem V3{y:Ts}(hy:y.fits)(t:Tm)(d:Nat)(hf:t.fits):(bT y d t).fits:=by
 have hn:=yO (d:=d) hy hf.1
 simp only[bT]
 cases hp:cA y t.h d with
 | inl u=>exact hn.1 u hp
 | inr h'=>exact⟨hn.2 h' hp,sE hy _ _ _ _ hf.2⟩
theorem wE:∀(m:Nat) (t:Tm),lT m t->t.fits->(cM m t).fits
 | 0,_,_,h=>h
 | m+1,⟨h,x⟩,⟨_,h2,h3⟩,hf=>by
  match x,h2,h3,hf with
  | .cons a p (.cons b q .nil),_,h3,hf=>exact wE m ⟨b,q⟩ h3 ⟨hf.2.2.2.1,hf.2.2.2.2.1⟩
theorem vO(g:List Ag)(v:Ts)(far:Int)(i:Nat)(row:Ts)(t:Tm)(hv:v.fits)(hr:row.fits)(ht:t.fits):(fG g v far i row t).fits :=
 wE _ _ (rK _ _ _ _ (jU far i _ _ 0 (fT row t))) (V3 (pJ hv _ _) _ _ (gO _ _ (eC hr ht)))
theorem EL{a:Ts}{h:Hd}{x:Ts}(ha:a.fits)(hh:h.fits)(hx:x.fits):(a.app (.cons h x .nil)).fits:=fS ha ⟨hh,hx,trivial⟩
theorem uU(g:List Ag)(v:Ts)(far:Int)(i:Nat)(hv:v.fits):∀q e:Ts,e.fits->q.fits->(eM g v far i e q).fits
 | .nil,_,_,_=>trivial
 | .cons h x q,e,he,hq=>by
  have h1:=vO g v far i e ⟨h,x⟩ hv he ⟨hq.1,hq.2.1⟩
  exact⟨h1.1,h1.2,uU g v far i hv q _ (EL he hq.1 hq.2.1) hq.2.2⟩
theorem gJ(g:List Ag):∀(l:List Ag) (k n:Nat),dW l->(bG g l k n).fits
 | [],_,_,_=>trivial
 | a :: r,k,n,hf=>by
  have hr:dW r:=λ b hb=>hf b (by simp[hb])
  simp only[bG]
  split
  ·exact gJ g r _ _ hr
  ·have h1:=vO g (bZ 0 n) n k .nil a.t (lZ n) trivial (hf a (by simp)).1
   exact⟨h1.1,h1.2,gJ g r _ _ hr⟩
theorem wM(k:Int)(z:Hd)(hk:0<=k/\k<=100)(hz:z.fits):∀r:Ts,r.fits->(jN k z r).fits
 | .nil,_=>⟨hz,trivial⟩
 | .cons h x .nil,hf=>⟨hf.1,hf.2.1⟩
 | .cons h x (.cons h2 x2 r),hf=>by
  have:=wM k z hk hz (.cons h2 x2 r) hf.2.2
  rw[jT k z h x (.cons h2 x2 r) (by simp[Ts.len])]
  exact⟨eZ hk,hf.1,hf.2.1,this.1,this.2,trivial⟩
theorem uO(r:Ts)(hf:r.fits):(tup r).fits:=wM 12 (kI 1) (by decide) (dV (by decide) (by decide) (by decide)) r hf
theorem tL:∀(n:Nat) (t:Tm),t.fits->(dQ n t).fits
 | 0,_,_=>trivial
 | 1,t,h=>aW h
 | n+2,t,h=>⟨eZ (by decide),aW h,tL (n+1) ⟨kH 15,t.ts⟩ ⟨eZ (by decide),aW h⟩⟩
theorem pI{p:Tm}{b:Ts}{x:Tm}(hp:p.fits)(hb:b.fits)(hx:x.fits)(hl:b.len<=100000000000):(pW p b x).fits :=
 ⟨dV (by decide) (by decide) (by omega),hp.1,hp.2,fS hb (aW hx)⟩
theorem eB(k:Int)(hk:0<=k/\k<=100):∀ {row:Ts} {t:Tm},row.fits->t.fits->(aK k row t).fits
 | .nil,_,_,h=>h
 | .cons h x r,t,hr,ht=>by
  have ih:=eB k hk (row:=r) hr.2.2 ht
  exact⟨eZ hk,hr.1,hr.2.1,ih.1,ih.2,trivial⟩
theorem dN(k:Int):∀(row:Ts) (t:Tm),(aK k row t).size<=2*row.size+t.size
 | .nil,t=>by simp[aK,Ts.size]
 | .cons h x r,t=>by
  have ih:=dN k r t
  have e:(aK k (.cons h x r) t).size=1+aH h.l+x.size+(1+(aK k r t).size):=by
   rw[<-bA];simp only[aK,Tm.size,Ts.size,kH,aH];omega
  rw[e]
  simp only[Ts.size]
  omega
theorem mS(p:Tm)(b:Ts)(x:Tm):(pW p b x).size=2+p.size+b.size+x.size:=by
 have:=EZ p b x
 rw[bA] at this
 omega
theorem yA(r:Ts):(tup r).size<=2*r.size:=by
 have:=FT r
 rw[bA] at this
 omega
end
section
open Go.RowKit
attribute [local simp] ty_p ty_l ty_t kH tDs bN Tm.ts kI oI ac_skip ac_label ac_region ac_seq ac_cond ac_block ac_loop ac_exit ac_ret seqK_n seqK_r seqK_e vo_nil vo_cons blkK JP oN I8 gA gB lG ev gU fF St.out A7 kX upd dD sU K0 asC oH jO tY lF tD qU pV tb Dc.tk Dc.dp Dc.over Dc.app Dc.ln Dc.ds Dc.sing Dc.cont AV.cont Ds.hd Value.oneCell' DE pP C0 AV.imp Dc.imp φOf dY AV.isLL AV.list AV.app AV.arg AV.isL AV.ren Dc.ren Dc.lent tmC tmA tsA iA lo? abin AV.nth Dc.own Dc.toks bP rI Z6 τOf
attribute [local simp] AV.room R8 agC rH Ds.len Ds.dp
structure Cr where
 lv:Int
 t:Tm
 h:Bool
 b:Tm
def crC(c:Cr)(r:Dc):Dc:=.lit (.int .i64 c.lv) (.lit (.int .i64 c.t.h.k) (.lit (.int .i64 c.t.h.n) (.lit (.int .i64 c.t.h.a) (.row none 1 43 (bN ty c.t.h.l) (.row none 5 26 (tDs ty c.t.x) (.lit (.bool c.h) (.lit (.int .i64 c.b.h.k) (.lit (.int .i64 c.b.h.n) (.lit (.int .i64 c.b.h.a) (.row none 1 43 (bN ty c.b.h.l) (.row none 5 26 (tDs ty c.b.x) r)))))))))))
def crL(c:Cr):AV:=.agg (crC c .nil)
def fH(d:Dl)(more:Ts)(typ body:Tm):Cr:=⟨d.lv,aK 4 (d.p.app more) typ,true,aK 5 (d.p.app more) body⟩
theorem k94(d:Dl)(l:List Rl)(base:Int)(more:Ts)(typ body:Tm)(hp:d.p.fits)(hps:d.p.size<=10000000)(hm:more.fits)(hms:more.size<=10000000)(ht:typ.fits)(hts:typ.size<=100000000)(hb:body.fits)(hbs:body.size<=100000000) :
  HH 94 [.agg (bkC d l base),tmL typ,tmL body,tsA none more] (crL (fH d more typ body)):=by
 have e0:gR [d.p,more]=d.p.app more:=by simp[gR,Ts.app_nil]
 have hl:=len_le_size d.p
 have hl2:=len_le_size more
 have q0:=k166 [d.p,more] (by simp) (by rw[e0,Ts.app_len];omega)
 rw[e0] at q0
 have hs:(d.p.app more).size<=100000000:=by rw[fO];omega
 have q1:=k91 (d.p.app more) typ (fS hp hm) hs ht hts
 have q2:=k88 (d.p.app more) body (fS hp hm) hs hb hbs
 refine ab Tryz.func94 Tryz.ntmps94 Tryz.results94 rfl (by decide) (by simp) rfl rfl ?_
 simp[bkC,dlC]
 refine aE q0 ?_ ?_ ?_<;>simp[aZ]
 refine⟨by kernel_rfl,?_⟩
 refine aE q1 ?_ ?_ ?_<;>simp
 refine aE q2 ?_ ?_ ?_<;>simp
 exact⟨[],by simp[crL,crC,fH]⟩
theorem k177(d:Dl)(more:Ts)(typ body:Tm)(hp:d.p.fits)(hps:d.p.size<=10000000)(hm:more.fits)(hms:more.size<=10000000)(ht:typ.fits)(hts:typ.size<=100000000)(hb:body.fits)(hbs:body.size<=100000000) :
  HH 177 [dlL d,tsA none more,tmL typ,tmL body] (crL (fH d more typ body)):=by
 have hl:=len_le_size d.p
 have hl2:=len_le_size more
 have hs:(d.p.app more).size<=100000000:=by rw[fO];omega
 have q1:=k221 (d.p.app more) typ (fS hp hm) hs ht hts
 have q2:=k196 (d.p.app more) body (fS hp hm) hs hb hbs
 have eA:=bC ty d.p more
 refine ab Tryz.func177 Tryz.ntmps177 Tryz.results177 rfl (by decide) (by simp) rfl rfl ?_
 simp[dlL,dlC]
 refine⟨by rw[aF];omega,by rw[aF,aF];omega,by kernel_rfl,?_⟩
 refine aE q1 ?_ ?_ ?_<;>simp[eA,Ds.app_nil]
 refine aE q2 ?_ ?_ ?_<;>simp[eA,Ds.app_nil]
 exact⟨[],by simp[crL,crC,fH]⟩
abbrev fv82:Value:=.func (.func 82) #[] #[]
@[simp] theorem calleeOf_82:dY (.v (.func (.func 82) #[] #[]))=some (82,.nil,.nil):=rfl
def bX(t:Ts):Tm:=tup (MO 1 0 t)
theorem k82(t:Ts)(hf:t.fits)(hs:t.size<=100000000):HH 82 [tsA none t] (tmL (bX t)):=by
 refine ab Tryz.func82 Tryz.ntmps82 Tryz.results82 rfl (by decide) (by simp) rfl rfl ?_
 simp
 refine aE (k83 t hf hs) ?_ ?_ ?_<;>simp
 refine aE (h12 (MO 1 0 t) (iX 1 t 0 hf) (by rw[iW];exact hs)) ?_ ?_ ?_<;>simp[bX]
 exact⟨[],by simp⟩
theorem k85(t:Ts)(hf:t.fits)(hs:t.size<=100000000):HH 85 [.agg (.row none 5 26 (tDs ty t) .nil),.el (.lit fv82 .nil)] (tmL (bX t)):=by
 refine ab Tryz.func85 Tryz.ntmps85 Tryz.results85 rfl (by decide) (by simp) rfl rfl ?_
 simp
 refine aE (k82 t hf hs) ?_ ?_ ?_<;>simp
 exact⟨[],by simp⟩
theorem k87(r:Rl)(hl:r.g.length<=500)(hs:cF r.g<=1000)(hf:dW r.g):HH 87 [rlL r,.el (.lit fv82 .nil)] (tmL (bX (bG r.g r.g 0 0))):=by
 have e1:=iP r.g r.g.length r.g 0 0 (by omega)
 have e2:cF r.g*(r.g.length+1)<=1000*501:=Nat.mul_le_mul (by omega) (by omega)
 have q:=k82 (bG r.g r.g 0 0) (gJ r.g r.g 0 0 hf) (by omega)
 refine ab Tryz.func87 Tryz.ntmps87 Tryz.results87 rfl (by decide) (by simp) rfl rfl ?_
 simp[rlL,rlC]
 refine⟨by kernel_rfl,?_⟩
 refine aE (k37 r hl (by omega) hf) ?_ ?_ ?_<;>simp[rlL,rlC]
 refine aE q ?_ ?_ ?_<;>simp
 exact⟨[],by simp⟩
def gQ:List Ts->Ts
 | []=>.nil
 | t :: r=>.cons (bX t).h (bX t).x (gQ r)
def dZ:List Rl->Ts
 | []=>.nil
 | r :: l=>.cons (bX (bG r.g r.g 0 0)).h (bX (bG r.g r.g 0 0)).x (dZ l)
theorem vK:∀a b:List Ts,gQ (a++b)=(gQ a).app (gQ b)
 | [],_=>rfl
 | t :: a,b=>by simp only[List.cons_append,gQ,Ts.app,vK a b]
theorem kA:∀a:List Ts,(gQ a).len=a.length
 | []=>rfl
 | t :: a=>by simp only[gQ,Ts.len,kA a,List.length_cons]
theorem tB:∀a b:List Rl,dZ (a++b)=(dZ a).app (dZ b)
 | [],_=>rfl
 | t :: a,b=>by simp only[List.cons_append,dZ,Ts.app,tB a b]
theorem iI:∀a:List Rl,(dZ a).len=a.length
 | []=>rfl
 | t :: a=>by simp only[dZ,Ts.len,iI a,List.length_cons]
theorem CD{l a b:List Ts}(h:a++b=l):(aZ l).dp a.length=aZ b:=by
 rw[<-h,jY,<-aS a,Ds.dp_app]
theorem rJ{l a b:List Rl}(h:a++b=l):(aO l).dp (a.length*3)=aO b:=by
 rw[<-h,gK,<-aN a,Ds.dp_app]
def kC(l:List Ts):AV:=.c (.row none 1 80 (aZ l) .nil)
abbrev CB(f:Nat):AV:=.fn (.func f) .nil (.cons (.el (.lit fv82 .nil)) .nil)
def st84(l a:List Ts):St:=bP [(1,CB 85),(4,.c (.blk 19 (a.length+1) 5 26 (.seg none (tDs ty (gQ a)) .nil) .nil)),(7,kC l),(8,iA l.length),(9,iA a.length)] [] [(19,a.length+1)]
theorem k84(l:List Ts)(hl:l.length<=1000)(hf:∀t∈l,t.fits/\t.size<=100000000):HH 84 [kC l,CB 85] (tsA none (gQ l)):=by
 refine ab Tryz.func84 Tryz.ntmps84 Tryz.results84 rfl (by decide) (by simp) rfl rfl ?_
 simp[kC,aS]
 refine lp (α:={ q:List Ts×List Ts // q.1++q.2=l }) (λ q=>st84 l q.1.1) (λ q=>q.1.2.length) ⟨([],l),rfl⟩ ?_ ?_
 ·refine aI [((19,0),[(19,0)])] ?_ ?_ ?_<;>simp[AV.ok,Dc.ok,gQ,kC]
 ·rintro⟨⟨a,q⟩,hq⟩
  simp only at hq
  cases q with
  | nil =>
   have e:a=l:=by rw[<-hq];simp
   subst e
   simp[st84,Ds.app_nil]
   exact⟨[],by simp⟩
  | cons t q =>
   have h1:a.length<l.length:=by rw[<-hq];simp
   have h2:=CD hq
   obtain⟨h3,h4⟩:=hf t (by rw[<-hq];simp)
   have hw:IntKind.i64.wrap ((a.length:Int)+1)=a.length+1:=by rw[IntKind.wrap_i64];omega
   have e1:gQ (a++[t])=(gQ a).app (.cons (bX t).h (bX t).x .nil):=by rw[vK];rfl
   have q1:=k85 t h3 h4
   generalize bX t=P at *
   simp[st84,kC,h1,h2,aZ]
   refine⟨by rw[aS];omega,?_⟩
   refine aE q1 ?_ ?_ ?_<;>simp
   refine⟨by rw[aF,kA];omega,a++[t],q,by simp,by rw[List.append_assoc];exact hq,?_⟩
   refine aI [((19,0),[(19,0)])] ?_ ?_ ?_<;>simp[AV.ok,Dc.ok,hw,e1]
   rw[bC];rfl
def st86(l a:List Rl):St:=bP [(1,CB 87),(4,.c (.blk 19 (a.length+1) 5 26 (.seg none (tDs ty (dZ a)) .nil) .nil)),(7,aP l),(8,iA l.length),(9,iA a.length)] [] [(19,a.length+1)]
theorem k86(l:List Rl)(hl:l.length<=1000)(hf:∀r∈l,r.g.length<=500/\cF r.g<=1000/\dW r.g):HH 86 [aP l,CB 87] (tsA none (dZ l)):=by
 have d0:l.length*3 / 3=l.length:=by omega
 refine ab Tryz.func86 Tryz.ntmps86 Tryz.results86 rfl (by decide) (by simp) rfl rfl ?_
 simp[aP,aN,d0]
 refine lp (α:={ q:List Rl×List Rl // q.1++q.2=l }) (λ q=>st86 l q.1.1) (λ q=>q.1.2.length) ⟨([],l),rfl⟩ ?_ ?_
 ·refine aI [((19,0),[(19,0)])] ?_ ?_ ?_<;>simp[AV.ok,Dc.ok,dZ,aP]
 ·rintro⟨⟨a,q⟩,hq⟩
  simp only at hq
  cases q with
  | nil =>
   have e:a=l:=by rw[<-hq];simp
   subst e
   simp[st86,Ds.app_nil]
   exact⟨[],by simp⟩
  | cons t q =>
   have h1:a.length<l.length:=by rw[<-hq];simp
   have h2:=rJ hq
   obtain⟨h3,h4,h5⟩:=hf t (by rw[<-hq];simp)
   have hw:IntKind.i64.wrap ((a.length:Int)+1)=a.length+1:=by rw[IntKind.wrap_i64];omega
   have e1:dZ (a++[t])=(dZ a).app (.cons (bX (bG t.g t.g 0 0)).h (bX (bG t.g t.g 0 0)).x .nil):=by rw[tB];rfl
   have q1:=k87 t h3 h4 h5
   generalize bX (bG t.g t.g 0 0)=P at *
   simp[st86,aP,h1,h2,aO]
   refine⟨by rw[aN];omega,?_⟩
   refine aE q1 ?_ ?_ ?_<;>simp[rlL,rlC]
   refine⟨by rw[aF,iI];omega,a++[t],q,by simp,by rw[List.append_assoc];exact hq,?_⟩
   refine aI [((19,0),[(19,0)])] ?_ ?_ ?_<;>simp[AV.ok,Dc.ok,hw,e1]
   rw[bC];rfl
theorem oV:∀(l:List Ag) (k0:Nat) (i:Int),i∈aY l k0->∃k:Nat,i=k/\k0<=k/\k<k0+l.length
 | [],_,_,h=>by simp[aY] at h
 | a :: r,k0,i,h=>by
  unfold aY at h
  split at h
  ·rcases List.mem_cons.1 h with rfl|h
   ·exact⟨k0,rfl,Nat.le_refl _,by simp⟩
   ·obtain⟨k,h1,h2,h3⟩:=oV r (k0+1) i h
    exact⟨k,h1,by omega,by simp;omega⟩
  ·obtain⟨k,h1,h2,h3⟩:=oV r (k0+1) i h
   exact⟨k,h1,by omega,by simp;omega⟩
structure Small (r:Rl):Prop where
 len:r.g.length<=500
 sz:cF r.g<=500
 isz:r.i.size<=500
 fit:dW r.g
 ifit:r.i.fits
def jD(r:Rl)(v:Ts)(i:Int):Ts:=match r.g[i.toNat]? with
 | some a=>eM r.g v 3 i.toNat .nil a.e
 | none=>.nil
def brT(r:Rl)(v:Ts)(i:Int):Tm:=tup (jD r v i)
def iH(r:Rl)(v:Ts):List Int->Ts
 | []=>.nil
 | i :: l=>.cons (brT r v i).h (brT r v i).x (iH r v l)
theorem wY(r:Rl)(v:Ts):∀a b:List Int,iH r v (a++b)=(iH r v a).app (iH r v b)
 | [],_=>rfl
 | t :: a,b=>by simp only[List.cons_append,iH,Ts.app,wY r v a b]
theorem lU(r:Rl)(v:Ts):∀a:List Int,(iH r v a).len=a.length
 | []=>rfl
 | t :: a=>by simp only[iH,Ts.len,lU r v a,List.length_cons]
theorem J0{r:Rl}{v:Ts}{k:Nat}(hk:k<r.g.length):jD r v k=eM r.g v 3 k .nil r.g[k].e:=by
 have:r.g[(k:Int).toNat]? = some r.g[k]:=by simp[hk]
 simp only[jD,this]
 simp
theorem mE(r:Rl)(v:Ts)(i:Int)(hv:v.fits)(hf:dW r.g):(jD r v i).fits:=by
 unfold jD
 split
 ·rename_i a ha
  exact uU _ _ _ _ hv _ _ trivial (hf a (List.mem_of_getElem? ha)).2.1
 ·trivial
theorem tG(r:Rl)(v:Ts)(C:Nat)(hC:∀j,j<v.len->(v.tm j).size<=C)(i:Int):(jD r v i).size<=cF r.g*(C+1):=by
 unfold jD
 split
 ·rename_i a ha
  obtain⟨hk,rfl⟩:=List.getElem?_eq_some_iff.1 ha
  have h1:=nH r.g v C hC 3 i.toNat r.g[i.toNat].e .nil
  have h2:=jH hk
  exact Nat.le_trans h1 (Nat.mul_le_mul_right _ (by omega))
 ·simp[Ts.size]
theorem pK(r:Rl)(v:Ts)(hv:v.fits)(hf:dW r.g):∀l:List Int,(iH r v l).fits
 | []=>trivial
 | i :: l=>⟨(uO _ (mE r v i hv hf)).1,(uO _ (mE r v i hv hf)).2,pK r v hv hf l⟩
theorem R3(r:Rl)(v:Ts)(C:Nat)(hC:∀j,j<v.len->(v.tm j).size<=C):∀(l:List Ag) (k:Nat),(∀j (hj:j<l.length),r.g[k+j]? = some l[j])->(iH r v (aY l k)).size<=cF l*(2*(C+1))
 | [],_,_=>by simp[aY,iH,Ts.size]
 | a :: l,k,h=>by
  have ih:=R3 r v C hC l (k+1) λ j hj=>by
   have:=h (j+1) (by simp;omega)
   rw[show k+(j+1)=k+1+j by omega] at this
   simpa using this
  have e1:cF (a :: l)=(1+a.t.size+a.e.size+a.i.size)+cF l:=by simp[cF]
  have h0:r.g[k]? = some a:=h 0 (by simp)
  rw[e1,Nat.add_mul]
  unfold aY
  split
  ·have h1:(jD r v k).size<=a.e.size*(C+1):=by
    have e:jD r v k=eM r.g v 3 k .nil a.e:=by
     unfold jD
     rw[show ((k:Int)).toNat=k from rfl,h0]
    rw[e]
    exact nH r.g v C hC 3 k a.e .nil
   have h2:=yA (jD r v k)
   have h4:Tm.size ⟨(brT r v k).h,(brT r v k).x⟩=(tup (jD r v k)).size:=rfl
   have h5:(1+a.e.size)*(2*(C+1))<=(1+a.t.size+a.e.size+a.i.size)*(2*(C+1)):=Nat.mul_le_mul_right _ (by omega)
   have h6:(1+a.e.size)*(2*(C+1))=2*(C+1)+2*(a.e.size*(C+1)):=by
    rw[Nat.add_mul,Nat.one_mul,<-Nat.mul_assoc,Nat.mul_comm a.e.size 2,Nat.mul_assoc]
   simp only[iH]
   rw[eJ,h4]
   omega
  ·exact Nat.le_trans ih (Nat.le_add_left _ _)
abbrev plA(r:Rl)(v:Ts):AV:=.fn (.func 164) .nil (.cons (.el (rlC r).ds) (.cons (.el (.row 5 26 (tDs ty v) .nil .nil)) .nil))
theorem k164(r:Rl)(v:Ts)(i:Int)(hi:i∈aY r.g 0)(hr:Small r)(hv:v.fits)(hvs:v.size<=125750)(hC:∀j,j<v.len->(v.tm j).size<=500):HH 164 [iA i,.el (rlC r).ds,.el (.row 5 26 (tDs ty v) .nil .nil)] (tmL (brT r v i)):=by
 obtain⟨k,rfl,-,hk⟩:=oV _ _ _ hi
 rw[Nat.zero_add] at hk
 have hl:=hr.len
 have h1:=hr.sz
 have m1:k*(v.size+1)<=500*125751:=Nat.mul_le_mul (by omega) (by omega)
 have q1:=k38 r v 3 k hk (by omega) (by omega) hr.fit hv (by omega) (by omega)
 rw[<-J0 hk] at q1
 have h2:=tG r v 500 hC k
 have h3:cF r.g*(500+1)<=500*501:=Nat.mul_le_mul (by omega) (by omega)
 have q2:=h12 (jD r v k) (mE r v k hv hr.fit) (by omega)
 change HH 12 _ (tmO (brT r v k)) at q2
 generalize brT r v k=B at *
 generalize jD r v k=T at *
 refine ab Tryz.func164 Tryz.ntmps164 Tryz.results164 rfl (by decide) (by simp) rfl rfl ?_
 simp[rlC]
 refine aE q1 ?_ ?_ ?_<;>simp[rlL,rlC]
 refine aE q2 ?_ ?_ ?_<;>simp
 exact⟨[],by simp⟩
def oA(l:List Int):AV:=.c (.row none 1 3 (kN l) .nil)
theorem CE{l a b:List Int}(h:a++b=l):(kN l).dp a.length=kN b:=by
 rw[<-h,wF,<-fB a,Ds.dp_app]
def ID(r:Rl)(v:Ts)(l a:List Int):St:=bP [(1,plA r v),(4,.c (.blk 19 (a.length+1) 5 26 (.seg none (tDs ty (iH r v a)) .nil) .nil)),(7,oA l),(8,iA l.length),(9,iA a.length)] [] [(19,a.length+1)]
theorem k163(r:Rl)(v:Ts)(l:List Int)(hl:l.length<=1000)(hm:∀i∈l,i∈aY r.g 0)(hr:Small r)(hv:v.fits)(hvs:v.size<=125750)(hC:∀j,j<v.len->(v.tm j).size<=500):HH 163 [oA l,plA r v] (tsA none (iH r v l)):=by
 refine ab Tryz.func163 Tryz.ntmps163 Tryz.results163 rfl (by decide) (by simp) rfl rfl ?_
 simp[oA,fB]
 refine lp (α:={ q:List Int×List Int // q.1++q.2=l }) (λ q=>ID r v l q.1.1) (λ q=>q.1.2.length) ⟨([],l),rfl⟩ ?_ ?_
 ·refine aI [((19,0),[(19,0)])] ?_ ?_ ?_<;>simp[AV.ok,Dc.ok,iH,oA]
 ·rintro⟨⟨a,q⟩,hq⟩
  simp only at hq
  cases q with
  | nil =>
   have e:a=l:=by rw[<-hq];simp
   subst e
   simp[ID,Ds.app_nil]
   exact⟨[],by simp⟩
  | cons t q =>
   have h1:a.length<l.length:=by rw[<-hq];simp
   have h2:=CE hq
   have h3:=hm t (by rw[<-hq];simp)
   have hw:IntKind.i64.wrap ((a.length:Int)+1)=a.length+1:=by rw[IntKind.wrap_i64];omega
   have e1:iH r v (a++[t])=(iH r v a).app (.cons (brT r v t).h (brT r v t).x .nil):=by rw[wY];rfl
   have q1:=k164 r v t h3 hr hv hvs hC
   generalize brT r v t=P at *
   simp[ID,oA,h1,h2,kN]
   refine⟨by rw[fB];omega,?_⟩
   refine aE q1 ?_ ?_ ?_<;>simp
   refine⟨by rw[aF,lU];omega,a++[t],q,by simp,by rw[List.append_assoc];exact hq,?_⟩
   refine aI [((19,0),[(19,0)])] ?_ ?_ ?_<;>simp[AV.ok,Dc.ok,hw,e1]
   rw[bC];rfl
theorem k81(d:Dl)(l:List Rl)(base:Int)(hs:d.s.length<=100000000):HH 81 [.agg (bkC d l base)] (tmL (bF d.s)):=by
 refine ab Tryz.func81 Tryz.ntmps81 Tryz.results81 rfl (by decide) (by simp) rfl rfl ?_
 simp[bkC,dlC]
 refine aE (k161 d.s hs) ?_ ?_ ?_<;>simp[lvA]
 exact⟨[],by simp⟩
def bK(n:Int):Tm:=⟨kI n,.nil⟩
theorem bY{n:Int}(h:0<=n/\n<=100000000000):(bK n).fits:=⟨dV (by decide) h (by decide),trivial⟩
theorem eQ{s:Lv}(h:∀q∈s,(-9223372036854775808<=q.1/\q.1<=9223372036854775807)/\(-9223372036854775808<=q.2/\q.2<=9223372036854775807)):(bF s).fits :=
 ⟨uF (by decide) (by decide) (by decide) (λ p hp q hq=>by
  simp only[List.mem_singleton] at hp
  subst hp
  exact h q hq),trivial⟩
theorem eO(s:Lv):(bF s).size=1+s.length:=by simp[bF,Tm.size,aH,Ts.size]
abbrev lC(s:Lv):Prop:=∀q∈s,(-9223372036854775808<=q.1/\q.1<=9223372036854775807)/\(-9223372036854775808<=q.2/\q.2<=9223372036854775807)
def cK(r:Rl):Ts:=dQ (r.g.length-(aY r.g 0).length) (vT 1)
theorem iR(r:Rl):(cK r).fits:=tL _ _ (bM (by decide))
theorem tK{r:Rl}(hr:Small r):(cK r).size<=125750:=by
 have h1:=vH (r.g.length-(aY r.g 0).length) (vT 1)
 have h2:=hr.len
 have h3:(vT 1).size=0:=rfl
 rw[h3] at h1
 have h4:(r.g.length-(aY r.g 0).length)*(2*0+(r.g.length-(aY r.g 0).length)+3)<=500*(2*0+500+3):=Nat.mul_le_mul (by omega) (by omega)
 unfold cK
 omega
theorem nQ{r:Rl}(hr:Small r)(j:Nat)(h:j<(cK r).len):((cK r).tm j).size<=500:=by
 have h1:=vI (r.g.length-(aY r.g 0).length) (vT 1) j h
 have h2:=hr.len
 have h3:(vT 1).size=0:=rfl
 unfold cK
 omega
def mX(s:Lv)(r:Rl):Tm:=pW (aK 5 (bK (aY r.g 0).length).ts (bF s)) (iH r (cK r) (aY r.g 0)) (vT 0)
def dJ(s:Lv)(r:Rl):Tm:=if aY r.g 0=[] then bK 0 else ⟨kH 12,.cons (kI (aY r.g 0).length) .nil (mX s r).ts⟩
theorem R2{r:Rl}(hr:Small r):(iH r (cK r) (aY r.g 0)).size<=cF r.g*1002 :=
 R3 r (cK r) 500 (nQ hr) r.g 0 λ j hj=>by rw[Nat.zero_add];exact List.getElem?_eq_getElem hj
theorem zH{r:Rl}(hr:Small r):(iH r (cK r) (aY r.g 0)).size<=501000:=by
 have h1:=R2 hr
 have h2:=hr.sz
 omega
theorem qJ{s:Lv}{r:Rl}(hr:Small r)(hs:s.length<=500):(mX s r).size<=cF r.g*1002+600:=by
 have h1:=R2 hr
 have h2:=dN 5 (bK (aY r.g 0).length).ts (bF s)
 rw[eO,bA] at h2
 have h3:(bK (aY r.g 0).length).size=0:=rfl
 have h4:(vT 0).size=0:=rfl
 unfold mX
 rw[mS,h4]
 omega
theorem qK{s:Lv}{r:Rl}(hr:Small r)(hs:lC s):(mX s r).fits:=by
 have h1:=gL r.g 0
 have h2:=hr.len
 exact pI (eB 5 (by decide) (aW (bY (by omega))) (eQ hs)) (pK _ _ (iR r) hr.fit _) (bM (by decide)) (by rw[lU];omega)
theorem jI{s:Lv}{r:Rl}(hr:Small r)(hs:s.length<=500):(dJ s r).size<=cF r.g*1002+700:=by
 unfold dJ
 split
 ·show (bK 0).size<=_
  rw[show (bK 0).size=0 from rfl]
  exact Nat.zero_le _
 ·have:=qJ hr hs
  show aH []+Ts.size (.cons (kI _) .nil (mX s r).ts)<=cF r.g*1002+700
  have h4:Tm.size ⟨kI (aY r.g 0).length,.nil⟩=0:=rfl
  have h5:aH []=0:=rfl
  rw[eJ,bA,h4,h5]
  omega
theorem jJ{s:Lv}{r:Rl}(hr:Small r)(hs:lC s):(dJ s r).fits:=by
 unfold dJ
 have h1:=gL r.g 0
 have h2:=hr.len
 split
 ·exact bY (by decide)
 ·exact⟨eZ (by decide),dV (by decide) (by omega) (by decide),trivial,aW (qK hr hs)⟩
theorem k89(d:Dl)(l:List Rl)(base:Int)(r:Rl)(hr:Small r)(hs:d.s.length<=500)(hsf:lC d.s):HH 89 [.agg (bkC d l base),rlL r] (tmL (dJ d.s r)):=by
 have h1:=gL r.g 0
 have h2:=hr.len
 have d9:r.g.length*9 / 9=r.g.length:=by omega
 have q46:=k46 r (by omega)
 have q81:=k81 d l base (by omega)
 have c0:=hr.sz
 have c1:=qJ hr hs
 have c2:=qK hr hsf
 have c3:=zH hr
 have c4:=pK r (cK r) (iR r) hr.fit (aY r.g 0)
 have c5:=tK hr
 have q15:=k15g (vT 1) ((r.g.length:Int)-(aY r.g 0).length) (bM (by decide)) (by omega) (by have:(vT 1).size=0:=rfl;omega)
 have e15:((r.g.length:Int)-(aY r.g 0).length).toNat=r.g.length-(aY r.g 0).length:=by omega
 rw[e15] at q15
 change HH 15 _ (tsA (some (0,0)) (cK r)) at q15
 have w1:IntKind.i64.wrap ((r.g.length:Int)-(aY r.g 0).length)=(r.g.length:Int)-(aY r.g 0).length:=by rw[IntKind.wrap_i64];omega
 have q163:=k163 r (cK r) (aY r.g 0) (by omega) (λ i hi=>hi) hr (iR r) (by omega) (nQ hr)
 have q88:=k88 (bK (aY r.g 0).length).ts (bF d.s) (aW (bY (by omega))) (by rw[bA];have h3:(bK (aY r.g 0).length).size=0:=rfl;omega) (eQ hsf) (by rw[eO];omega)
 have q14:=g14 (aK 5 (bK (aY r.g 0).length).ts (bF d.s)) (iH r (cK r) (aY r.g 0)) (vT 0) (eB 5 (by decide) (aW (bY (by omega))) (eQ hsf)) c4 (bM (by decide)) (by
  have h2:=dN 5 (bK (aY r.g 0).length).ts (bF d.s)
  rw[eO,bA] at h2
  have h3:(bK (aY r.g 0).length).size=0:=rfl
  have h4:(vT 0).size=0:=rfl
  omega) (by rw[lU];omega)
 change HH 14 _ (tmO (mX d.s r)) at q14
 have q59:=g59 12 (.cons (kI (aY r.g 0).length) .nil (mX d.s r).ts) (by decide) ⟨dV (by decide) (by omega) (by decide),trivial,aW c2⟩ (by simp only[Ts.size,aH,kI,bA];omega)
 refine ab Tryz.func89 Tryz.ntmps89 Tryz.results89 rfl (by decide) (by simp) rfl rfl ?_
 by_cases h0:aY r.g 0=[]
 ·have e0:dJ d.s r=bK 0:=by unfold dJ;rw[if_pos h0]
  rw[e0]
  rw[h0] at q46
  simp[bkC,dlC,rlL,rlC]
  refine aE q46 ?_ ?_ ?_<;>simp[rlL,rlC,kN]
  refine aE (g57 0) ?_ ?_ ?_<;>simp[bK]
  exact⟨[],by simp⟩
 ·have e0:dJ d.s r=⟨kH 12,.cons (kI (aY r.g 0).length) .nil (mX d.s r).ts⟩:=by unfold dJ;rw[if_neg h0]
  have hne:(aY r.g 0).length≠0:=λ h=>h0 (List.eq_nil_of_length_eq_zero h)
  rw[e0]
  clear e0 h0
  generalize mX d.s r=C at *
  generalize hA:aK 5 (bK (aY r.g 0).length).ts (bF d.s)=A at *
  generalize hBr:iH r (cK r) (aY r.g 0)=B at *
  generalize cK r=V at *
  generalize hR:aY r.g 0=R at *
  simp[bkC,dlC,rlL,rlC]
  refine aE q46 ?_ ?_ ?_<;>simp[rlL,rlC,fB,hne]
  refine⟨by kernel_rfl,?_⟩
  refine aE (g92 1) ?_ ?_ ?_<;>simp[aT,d9,fB,w1]
  refine aE q15 ?_ ?_ ?_<;>simp[vT,fB]
  refine aE (g57 R.length) ?_ ?_ ?_<;>simp
  refine⟨by kernel_rfl,?_⟩
  refine aE q81 ?_ ?_ ?_<;>simp[bkC,dlC]
  refine aE q88 ?_ ?_ ?_<;>simp[bK]
  refine aE q163 ?_ ?_ ?_<;>simp[oA,rlC]
  ·exact⟨⟨_,_,⟨rfl,rfl⟩,rfl⟩,⟨_,_,⟨rfl,rfl⟩,rfl⟩⟩
  refine aE (g92 0) ?_ ?_ ?_<;>simp
  refine aE q14 ?_ ?_ ?_<;>simp[vT]
  refine aE q59 ?_ ?_ ?_<;>simp[bK]
  exact⟨[],by simp⟩
theorem k220(r:Rl)(hl:r.g.length<=1000):HH 220 [rlL r] (iA ((r.g.length:Int)-(aY r.g 0).length)):=by
 have h1:=gL r.g 0
 have d9:r.g.length*9 / 9=r.g.length:=by omega
 have w1:IntKind.i64.wrap ((r.g.length:Int)-(aY r.g 0).length)=(r.g.length:Int)-(aY r.g 0).length:=by rw[IntKind.wrap_i64];omega
 refine ab Tryz.func220 Tryz.ntmps220 Tryz.results220 rfl (by decide) (by simp) rfl rfl ?_
 simp[rlL,rlC,aT,d9]
 refine⟨by kernel_rfl,?_⟩
 refine aE (k47 r (by omega)) ?_ ?_ ?_<;>simp[rlL,rlC,fB,w1]
 exact⟨[],by simp⟩
def IB(d:Dl)(r:Rl)(a:List Int):St:=bP [(3,.bx 4 0),(4,.bx 5 0),(5,.bx 6 0),(6,oA (aY r.g 0)),(7,.c (.blk 39 (a.length+1) 5 26 (.seg none (tDs ty (iH r (cK r) a)) .nil) .nil)),(8,iA a.length)] [(4,65,rlC r),(5,26,zC),(6,26,tmC none none (bF d.s).h (bF d.s).x)] [(39,a.length+1)]
theorem k173(d:Dl)(r:Rl)(hr:Small r)(hs:d.s.length<=500)(hsf:lC d.s):HH 173 [dlL d,rlL r] (tmL (dJ d.s r)):=by
 have h1:=gL r.g 0
 have h2:=hr.len
 have d9:r.g.length*9 / 9=r.g.length:=by omega
 have q47:=k47 r (by omega)
 have q169:=k169 d.s (by omega)
 refine ab Tryz.func173 Tryz.ntmps173 Tryz.results173 rfl (by decide) (by simp) rfl rfl ?_
 by_cases h0:aY r.g 0=[]
 ·have e0:dJ d.s r=bK 0:=by unfold dJ;rw[if_pos h0]
  rw[e0]
  rw[h0] at q47
  simp[dlL,dlC,rlL,rlC]
  refine aE q169 ?_ ?_ ?_<;>simp[lvA]
  refine aE q47 ?_ ?_ ?_<;>simp[rlL,rlC,kN]
  refine aE (g62 0) ?_ ?_ ?_<;>simp[bK]
  exact⟨[],by simp⟩
 ·have e0:dJ d.s r=⟨kH 12,.cons (kI (aY r.g 0).length) .nil (mX d.s r).ts⟩:=by unfold dJ;rw[if_neg h0]
  have hne:(aY r.g 0).length≠0:=λ h=>h0 (List.eq_nil_of_length_eq_zero h)
  have c0:=hr.sz
  have c1:=qJ hr hs
  have c2:=qK hr hsf
  have c3:=zH hr
  have c4:=pK r (cK r) (iR r) hr.fit (aY r.g 0)
  have c5:=tK hr
  have c6:=iR r
  have e15:((r.g.length:Int)-(aY r.g 0).length).toNat=r.g.length-(aY r.g 0).length:=by omega
  have q220:=k220 r (by omega)
  have q21:=g21 (r.g.length-(aY r.g 0).length) ((r.g.length:Int)-(aY r.g 0).length) (vT 1) e15 (bM (by decide)) (by omega) (by have:(vT 1).size=0:=rfl;omega)
  rw[e15] at q21
  change HH 21 _ (tsA none (cK r)) at q21
  rw[e0]
  clear e0 h0
  simp[dlL,dlC,rlL,rlC]
  refine aE q169 ?_ ?_ ?_<;>simp[lvA]
  refine aE q47 ?_ ?_ ?_<;>simp[rlL,rlC,fB,hne]
  refine lp (α:={ q:List Int×List Int // q.1++q.2=aY r.g 0 }) (λ q=>IB d r q.1.1) (λ q=>q.1.2.length) ⟨([],aY r.g 0),rfl⟩ ?_ ?_
  ·refine aI [((39,0),[(39,0)])] ?_ ?_ ?_<;>simp[AV.ok,Dc.ok,iH,oA,rlC]
  ·rintro⟨⟨a,q⟩,hq⟩
   simp only at hq
   cases q with
   | nil =>
    have e:a=aY r.g 0:=by rw[<-hq];simp
    subst e
    have q171:=JZ (bK (aY r.g 0).length) (bF d.s) (bY (by omega)) (by have h3:(bK (aY r.g 0).length).size=0:=rfl;omega) (eQ hsf) (by rw[eO];omega)
    have q19:=g19 (aK 5 (bK (aY r.g 0).length).ts (bF d.s)) (iH r (cK r) (aY r.g 0)) (vT 0) (eB 5 (by decide) (aW (bY (by omega))) (eQ hsf)) c4 (bM (by decide)) (by
     have h2:=dN 5 (bK (aY r.g 0).length).ts (bF d.s)
     rw[eO,bA] at h2
     have h3:(bK (aY r.g 0).length).size=0:=rfl
     have h4:(vT 0).size=0:=rfl
     omega) (by rw[lU];omega)
    change HH 19 _ (tmL (mX d.s r)) at q19
    simp only[IB]
    generalize mX d.s r=C at *
    generalize aK 5 (bK (aY r.g 0).length).ts (bF d.s)=A at *
    generalize iH r (cK r) (aY r.g 0)=B at *
    generalize hR:aY r.g 0=R at *
    simp[oA,fB,Ds.app_nil]
    refine⟨by kernel_rfl,?_⟩
    refine aE (g62 R.length) ?_ ?_ ?_<;>simp
    refine aE (g62 R.length) ?_ ?_ ?_<;>simp
    refine aE q171 ?_ ?_ ?_<;>simp[bK]
    refine aE (O1 0) ?_ ?_ ?_<;>simp
    refine aE q19 ?_ ?_ ?_<;>simp[vT,Ds.app_nil]
    refine aE (g64 12 (bK R.length) C) ?_ ?_ ?_<;>simp[bK]
    exact⟨[],by simp⟩
   | cons t q =>
    have hm:t∈aY r.g 0:=by rw[<-hq];simp
    have h1:a.length<(aY r.g 0).length:=by rw[<-hq];simp
    have h2':=CE hq
    obtain⟨k,rfl,-,hk⟩:=oV _ _ _ hm
    rw[Nat.zero_add] at hk
    have hw:IntKind.i64.wrap ((a.length:Int)+1)=a.length+1:=by rw[IntKind.wrap_i64];omega
    have e1:iH r (cK r) (a++[(k:Int)])=(iH r (cK r) a).app (.cons (brT r (cK r) k).h (brT r (cK r) k).x .nil):=by rw[wY];rfl
    have m1:k*((cK r).size+1)<=500*125751:=Nat.mul_le_mul (by omega) (by omega)
    have hsz:=hr.sz
    have q42:=k42 r (cK r) 3 k hk (by omega) (by omega) hr.fit c6 (by omega) (by omega)
    rw[<-J0 hk] at q42
    have t2:=tG r (cK r) 500 (nQ hr) k
    have t3:cF r.g*(500+1)<=500*501:=Nat.mul_le_mul (by omega) (by omega)
    have q17:=h17 (jD r (cK r) k) (mE r (cK r) k c6 hr.fit) (by omega)
    change HH 17 _ (tmL (brT r (cK r) k)) at q17
    simp only[IB]
    rw[show ((k:Int))=((k:Nat):Int) from rfl] at *
    generalize brT r (cK r) k=B at *
    generalize jD r (cK r) k=T at *
    simp[oA,fB,h1,h2',kN,rlC]
    refine⟨by kernel_rfl,by omega,?_⟩
    refine aE (O1 1) ?_ ?_ ?_<;>simp
    refine aE q220 ?_ ?_ ?_<;>simp[rlL,rlC]
    refine aE q21 ?_ ?_ ?_<;>simp[vT]
    refine aE q42 ?_ ?_ ?_<;>simp[rlL,rlC]
    refine aE q17 ?_ ?_ ?_<;>simp
    refine⟨by rw[aF,lU];omega,a++[(k:Int)],q,by simp,by rw[List.append_assoc];exact hq,?_⟩
    refine aI [((39,0),[(39,0)])] ?_ ?_ ?_<;>simp[AV.ok,Dc.ok,hw,e1,oA,rlC]
    rw[bC];rfl
section
structure SmallD (d:Dl) (l:List Rl):Prop where
 k:d.k=3
 lv:d.lv<=1000
 pf:d.p.fits
 ps:d.p.size<=500
 sl:d.s.length<=500
 sf:lC d.s
 ml:d.m.length<=500
 mf:∀t∈d.m,t.fits/\t.size<=500
 ms:iC d.m<=500
 ll:l.length<=500
 lz:fY l<=500
 lc:l.length=d.c.length
 rs:∀r∈l,Small r
def ctT(k n:Int):Tm:=⟨⟨23,k,n,[]⟩,.nil⟩
theorem kK{k n:Int}(hk:0<=k/\k<=100000000000)(hn:0<=n/\n<=100000000000):(ctT k n).fits:=⟨dV (by decide) hk hn,trivial⟩
def gM(d:Dl)(n base1:Int)(r:Rl)(k:Nat):Tm:=aK 5 (atT d base1 1 (ctT k n)).ts (dJ d.s r)
def plT(d:Dl)(n base1:Int):List Rl->Nat->Ts
 | [],_=>.nil
 | r :: l,k=>.cons (gM d n base1 r k).h (gM d n base1 r k).x (plT d n base1 l (k+1))
theorem uC(d:Dl)(n base1:Int):∀(a b:List Rl) (k:Nat),plT d n base1 (a++b) k=(plT d n base1 a k).app (plT d n base1 b (k+a.length))
 | [],_,_=>rfl
 | t :: a,b,k=>by
  simp only[List.cons_append,plT,Ts.app,List.length_cons]
  rw[uC d n base1 a b,show k+1+a.length=k+(a.length+1) by omega]
theorem kQ(d:Dl)(n base1:Int):∀(a:List Rl) (k:Nat),(plT d n base1 a k).len=a.length
 | [],_=>rfl
 | t :: a,k=>by simp only[plT,Ts.len,kQ d n base1 a,List.length_cons]
theorem V5{d:Dl}{n base1:Int}{r:Rl}{k:Nat}(hl:d.lv<=1000)(hp:d.p.size<=500)(hs:d.s.length<=500)(hr:Small r):(gM d n base1 r k).size<=cF r.g*1002+7000:=by
 have h1:=dN 5 (atT d base1 1 (ctT k n)).ts (dJ d.s r)
 have h2:=rQ d base1 1 (ctT k n) hl
 have h3:=jI hr hs
 have h4:(ctT k n).size=0:=rfl
 rw[bA] at h1
 unfold gM
 omega
theorem V6{d:Dl}{n base1:Int}{r:Rl}{k:Nat}(hl:d.lv<=1000)(hb:fW base1)(hf:lC d.s)(hr:Small r)(hn:0<=n/\n<=100000000000)(hk:k<=100000000000):(gM d n base1 r k).fits :=
 eB 5 (by decide) (aW (rR d base1 1 (ctT k n) hl hb (kK (by omega) hn))) (jJ hr hf)
theorem K2{d:Dl}{n base1:Int}(hl:d.lv<=1000)(hp:d.p.size<=500)(hs:d.s.length<=500):∀(a:List Rl) (k:Nat),(∀r∈a,Small r)->(plT d n base1 a k).size<=fY a*8002
 | [],_,_=>Nat.zero_le _
 | t :: a,k,h=>by
  have h1:=V5 (n:=n) (base1:=base1) (k:=k) hl hp hs (h t (by simp))
  have h2:=K2 (n:=n) (base1:=base1) hl hp hs a (k+1) (λ r hr=>h r (by simp[hr]))
  have h4:Tm.size ⟨(gM d n base1 t k).h,(gM d n base1 t k).x⟩=(gM d n base1 t k).size:=rfl
  simp only[plT]
  rw[eJ,h4,lI]
  omega
theorem K3{d:Dl}{n base1:Int}(hl:d.lv<=1000)(hb:fW base1)(hf:lC d.s)(hn:0<=n/\n<=100000000000):∀(a:List Rl) (k:Nat),k+a.length<=100000000000->(∀r∈a,Small r)->(plT d n base1 a k).fits
 | [],_,_,_=>trivial
 | t :: a,k,hk,h=>by
  have h1:=V6 (k:=k) hl hb hf (h t (by simp)) hn (by omega)
  exact⟨h1.1,h1.2,K3 hl hb hf hn a (k+1) (by simp at hk;omega) (λ r hr=>h r (by simp[hr]))⟩
theorem mO{t:Ts}(h:t.fits):(bX t).fits:=uO _ (iX 1 t 0 h)
theorem rD(t:Ts):(bX t).size<=2*t.size:=by
 have:=yA (MO 1 0 t)
 rw[iW] at this
 exact this
theorem yM:∀(l:List Ts),(∀t∈l,t.fits)->(gQ l).fits
 | [],_=>trivial
 | t :: l,h=>⟨(mO (h t (by simp))).1,(mO (h t (by simp))).2,yM l λ u hu=>h u (by simp[hu])⟩
theorem yL:∀(l:List Ts),(gQ l).size<=2*iC l
 | []=>Nat.zero_le _
 | t :: l=>by
  have h1:=yL l
  have h2:=rD t
  have h4:Tm.size ⟨(bX t).h,(bX t).x⟩=(bX t).size:=rfl
  simp only[gQ]
  rw[eJ,h4,rV]
  omega
theorem xC:∀(l:List Rl),(∀r∈l,Small r)->(dZ l).fits
 | [],_=>trivial
 | r :: l,h=>by
  have h1:=mO (gJ r.g r.g 0 0 (h r (by simp)).fit)
  exact⟨h1.1,h1.2,xC l λ u hu=>h u (by simp[hu])⟩
theorem xB:∀(l:List Rl),(∀r∈l,Small r)->(dZ l).size<=fY l*1100
 | [],_=>Nat.zero_le _
 | r :: l,h=>by
  have h1:=xB l λ u hu=>h u (by simp[hu])
  have h2:=rD (bG r.g r.g 0 0)
  have hr:=h r (by simp)
  have h3:=hr.len
  have e1:=iP r.g r.g.length r.g 0 0 (by omega)
  have e2:cF r.g*(r.g.length+1)<=cF r.g*501:=Nat.mul_le_mul_left _ (by omega)
  have h4:Tm.size ⟨(bX (bG r.g r.g 0 0)).h,(bX (bG r.g r.g 0 0)).x⟩=(bX (bG r.g r.g 0 0)).size:=rfl
  simp only[dZ]
  rw[eJ,h4,lI]
  omega
def c1P(d:Dl):Tm:=aK 5 (bK d.m.length).ts (bF d.s)
def c1B(d:Dl):Tm:=pW (c1P d) (gQ d.m) (vT 0)
def c2P(d:Dl)(l:List Rl):Tm:=aK 5 (bK l.length).ts (bF d.s)
def c2B(d:Dl)(l:List Rl):Tm:=pW (c2P d l) (dZ l) (vT 0)
def rN(d:Dl)(base1:Int):Tm:=aK 4 (atT d base1 2 (vT 0)).ts (bF d.s)
def sZ(d:Dl)(n base1:Int):Tm:=aK 5 (bK n).ts (rN d base1)
def v14:Tm:=⟨kH 14,(vT 0).ts⟩
def v15:Tm:=⟨kH 15,(vT 0).ts⟩
def c3C(d:Dl)(l:List Rl)(base1:Int):Tm:=pW (sZ d l.length base1) (plT d l.length base1 l 0) v14
def c3B(d:Dl)(l:List Rl)(base1:Int):Tm:=fL (c3C d l base1) v15.ts
def c4B(d:Dl)(base:Int):Tm:=⟨kH 16,.cons (cB d base 0).h (cB d base 0).x (atT d (IntKind.i64.wrap (base+2)) 1 (vT 0)).ts⟩
def jC(d:Dl)(l:List Rl)(base:Int):List Cr :=
 [fH d (bK d.m.length).ts (bF d.s) (c1B d),fH d (bK l.length).ts (bF d.s) (c2B d l),fH d (cB d base 0).ts (bF d.s) (c3B d l (IntKind.i64.wrap (base+1))),fH d .nil (bF d.s) (c4B d base)]
def dX:List Cr->Ds
 | []=>.nil
 | c :: r=>.lit (.int .i64 c.lv) (.lit (.int .i64 c.t.h.k) (.lit (.int .i64 c.t.h.n) (.lit (.int .i64 c.t.h.a) (.row 1 43 (bN ty c.t.h.l) .nil (.row 5 26 (tDs ty c.t.x) .nil (.lit (.bool c.h) (.lit (.int .i64 c.b.h.k) (.lit (.int .i64 c.b.h.n) (.lit (.int .i64 c.b.h.a) (.row 1 43 (bN ty c.b.h.l) .nil (.row 5 26 (tDs ty c.b.x) .nil (dX r))))))))))))
def jP(l:List Cr):AV:=.c (.row none 12 89 (dX l) .nil)
section
variable {d:Dl} {l:List Rl}
theorem SmallD.c1Pf(h:SmallD d l):(c1P d).fits:=eB 5 (by decide) (aW (bY (by have:=h.ml;omega))) (eQ h.sf)
theorem SmallD.c2Pf(h:SmallD d l):(c2P d l).fits:=eB 5 (by decide) (aW (bY (by have:=h.ll;omega))) (eQ h.sf)
theorem SmallD.c1Ps(h:SmallD d l):(c1P d).size<=600:=by
 have h1:=dN 5 (bK d.m.length).ts (bF d.s)
 rw[eO,bA] at h1
 have h3:(bK d.m.length).size=0:=rfl
 have:=h.sl
 unfold c1P
 omega
theorem SmallD.c2Ps(h:SmallD d l):(c2P d l).size<=600:=by
 have h1:=dN 5 (bK l.length).ts (bF d.s)
 rw[eO,bA] at h1
 have h3:(bK l.length).size=0:=rfl
 have:=h.sl
 unfold c2P
 omega
theorem SmallD.owf(h:SmallD d l):(gQ d.m).fits:=yM _ λ t ht=>(h.mf t ht).1
theorem SmallD.ows(h:SmallD d l):(gQ d.m).size<=1000:=by
 have h1:=yL d.m
 have:=h.ms
 omega
theorem SmallD.arf(h:SmallD d l):(dZ l).fits:=xC _ h.rs
theorem SmallD.ars(h:SmallD d l):(dZ l).size<=550000:=by
 have h1:=xB l h.rs
 have:=h.lz
 omega
theorem SmallD.c1Bf(h:SmallD d l):(c1B d).fits:=pI h.c1Pf h.owf (bM (by decide)) (by rw[kA];have:=h.ml;omega)
theorem SmallD.c2Bf(h:SmallD d l):(c2B d l).fits:=pI h.c2Pf h.arf (bM (by decide)) (by rw[iI];have:=h.ll;omega)
theorem SmallD.c1Bs(h:SmallD d l):(c1B d).size<=3000:=by
 have h1:=h.c1Ps
 have h2:=h.ows
 have h4:(vT 0).size=0:=rfl
 unfold c1B
 rw[mS,h4]
 omega
theorem SmallD.c2Bs(h:SmallD d l):(c2B d l).size<=600000:=by
 have h1:=h.c2Ps
 have h2:=h.ars
 have h4:(vT 0).size=0:=rfl
 unfold c2B
 rw[mS,h4]
 omega
theorem SmallD.atf(h:SmallD d l){x:Tm}{num:Int}(far:Int)(hn:fW num)(hx:x.fits):(atT d num far x).fits:=rR d num far x h.lv hn hx
theorem SmallD.ats(h:SmallD d l)(num far:Int){x:Tm}(hx:x.size=0):(atT d num far x).size<=3100:=by
 have h1:=rQ d num far x h.lv
 have:=h.ps
 omega
theorem SmallD.codAf(h:SmallD d l){base1:Int}(hb:fW base1):(rN d base1).fits:=eB 4 (by decide) (aW (h.atf 2 hb (bM (by decide)))) (eQ h.sf)
theorem SmallD.codAs(h:SmallD d l)(base1:Int):(rN d base1).size<=8000:=by
 have h1:=dN 4 (atT d base1 2 (vT 0)).ts (bF d.s)
 rw[eO,bA] at h1
 have h2:=h.ats base1 2 (x:=vT 0) rfl
 have:=h.sl
 unfold rN
 omega
theorem SmallD.codf(h:SmallD d l){base1 n:Int}(hb:fW base1)(hn:0<=n/\n<=100000000000):(sZ d n base1).fits:=eB 5 (by decide) (aW (bY hn)) (h.codAf hb)
theorem SmallD.cods(h:SmallD d l)(base1 n:Int):(sZ d n base1).size<=8010:=by
 have h1:=dN 5 (bK n).ts (rN d base1)
 rw[bA] at h1
 have h3:(bK n).size=0:=rfl
 have:=h.codAs base1
 unfold sZ
 omega
theorem SmallD.plf(h:SmallD d l){base1:Int}(hb:fW base1):(plT d l.length base1 l 0).fits:=K3 h.lv hb h.sf (by have:=h.ll;omega) l 0 (by have:=h.ll;omega) h.rs
theorem SmallD.pls(h:SmallD d l)(base1:Int):(plT d l.length base1 l 0).size<=4100000:=by
 have h1:=K2 (n:=l.length) (base1:=base1) h.lv h.ps h.sl l 0 h.rs
 have:=h.lz
 omega
theorem uM:v14.fits:=⟨eZ (by decide),aW (bM (by decide))⟩
theorem uL:v15.fits:=⟨eZ (by decide),aW (bM (by decide))⟩
theorem SmallD.c3Cf(h:SmallD d l){base1:Int}(hb:fW base1):(c3C d l base1).fits:=pI (h.codf hb (by have:=h.ll;omega)) (h.plf hb) ⟨eZ (by decide),aW (bM (by decide))⟩ (by rw[kQ];have:=h.ll;omega)
theorem SmallD.c3Cs(h:SmallD d l)(base1:Int):(c3C d l base1).size<=4200000:=by
 have h1:=h.cods base1 l.length
 have h2:=h.pls base1
 have h4:v14.size=1:=rfl
 unfold c3C
 rw[mS,h4]
 omega
theorem SmallD.c3Bf(h:SmallD d l){base1:Int}(hb:fW base1):(c3B d l base1).fits:=mU _ _ (h.c3Cf hb) (aW ⟨eZ (by decide),aW (bM (by decide))⟩)
theorem SmallD.c3Bs(h:SmallD d l)(base1:Int):(c3B d l base1).size<=4300000:=by
 have h1:=mT v15.ts (c3C d l base1)
 have h2:=h.c3Cs base1
 have h4:v15.size=1:=rfl
 rw[bA,h4] at h1
 unfold c3B
 omega
theorem SmallD.shf(h:SmallD d l)(base:Int):(cB d base 0).fits:=⟨eZ (by decide),dV (by decide) (by have:=h.ll;have:=h.lc;omega) (by decide),trivial,aW (h.atf _ (pN _) (bM (by decide)))⟩
theorem SmallD.shs(h:SmallD d l)(base:Int):(cB d base 0).size<=3200:=by
 have h1:=h.ats (IntKind.i64.wrap (base+1)) (IntKind.i64.wrap (0+1)) (x:=vT 0) rfl
 simp only[cB,Tm.size,Ts.size,kH,aH,kI,bA]
 simp only[Tm.size] at h1
 omega
theorem SmallD.c4xf(h:SmallD d l)(base:Int):Ts.fits (.cons (cB d base 0).h (cB d base 0).x (atT d (IntKind.i64.wrap (base+2)) 1 (vT 0)).ts):=⟨(h.shf base).1,(h.shf base).2,aW (h.atf _ (pN _) (bM (by decide)))⟩
theorem SmallD.c4xs(h:SmallD d l)(base:Int):Ts.size (.cons (cB d base 0).h (cB d base 0).x (atT d (IntKind.i64.wrap (base+2)) 1 (vT 0)).ts)<=7000:=by
 have h1:=h.shs base
 have h2:=h.ats (IntKind.i64.wrap (base+2)) 1 (x:=vT 0) rfl
 have h4:Tm.size ⟨(cB d base 0).h,(cB d base 0).x⟩=(cB d base 0).size:=rfl
 rw[eJ,h4,bA]
 omega
theorem SmallD.c4Bf(h:SmallD d l)(base:Int):(c4B d base).fits:=⟨eZ (by decide),h.c4xf base⟩
theorem SmallD.c4Bs(h:SmallD d l)(base:Int):(c4B d base).size<=7000:=by
 have h1:=h.c4xs base
 have e:(c4B d base).size=Ts.size (.cons (cB d base 0).h (cB d base 0).x (atT d (IntKind.i64.wrap (base+2)) 1 (vT 0)).ts):=by simp only[c4B,Tm.size,kH,aH];omega
 omega
theorem SmallD.stf(h:SmallD d l):(bF d.s).fits:=eQ h.sf
theorem SmallD.sts(h:SmallD d l):(bF d.s).size<=501:=by rw[eO];have:=h.sl;omega
end
end
def DA(d:Dl)(l:List Rl)(base:Int)(b1:Int)(a:List Rl):St:=bP [(0,.el (dlC d).ds),(1,.el (.row 3 65 (aO l) .nil .nil)),(2,.el (.lit (.int .i64 base) .nil)),(4,.bx 5 0),(5,.bx 6 0),(6,.bx 7 0),(7,.bx 8 0),(9,tsA none (gQ d.m)),(10,tsA none (dZ l)),(11,.c (.blk 70 (a.length+1) 5 26 (.seg none (tDs ty (plT d l.length b1 a 0)) .nil) .nil)),(49,aP l),(50,iA l.length),(51,iA a.length)] [(5,130,bkC d l base),(6,26,tmC none none (bF d.s).h (bF d.s).x),(7,26,tmC none none (bK d.m.length).h (bK d.m.length).x),(8,26,tmC none none (bK l.length).h (bK l.length).x)] [(70,a.length+1)]
theorem k80(d:Dl)(l:List Rl)(base:Int)(h:SmallD d l):HH 80 [.el (dlC d).ds,.el (.row 3 65 (aO l) .nil .nil),.el (.lit (.int .i64 base) .nil)] (jP (jC d l base)):=by
 have hk:=h.k
 have hlv:=h.lv
 have hps:=h.ps
 have hsl:=h.sl
 have hml:=h.ml
 have hll:=h.ll
 have d6:d.c.length*6 / 6=d.c.length:=by omega
 have d3:l.length*3 / 3=l.length:=by omega
 have hlc:=h.lc
 have hb1:fW (IntKind.i64.wrap (base+1)):=pN _
 have q81:=k81 d l base (by omega)
 have q84:=k84 d.m (by omega) (λ t ht=>⟨(h.mf t ht).1,by have:=(h.mf t ht).2;omega⟩)
 have q86:=k86 l (by omega) (λ r hr=>⟨by have:=(h.rs r hr).len;omega,by have:=(h.rs r hr).sz;omega,(h.rs r hr).fit⟩)
 refine ab Tryz.func80 Tryz.ntmps80 Tryz.results80 rfl (by decide) (by simp) rfl rfl ?_
 generalize hB:IntKind.i64.wrap (base+1)=b1 at *
 simp[dlC,hk,aN,d3,bL,d6,hlc,aS]
 refine⟨by kernel_rfl,?_⟩
 refine aE q81 ?_ ?_ ?_<;>simp[bkC,dlC,hk,aS]
 refine aE (g57 d.m.length) ?_ ?_ ?_<;>simp[aN,d3]
 refine aE (g57 l.length) ?_ ?_ ?_<;>simp
 refine aE q84 ?_ ?_ ?_<;>simp[kC]
 ·exact⟨_,_,⟨rfl,rfl⟩,rfl⟩
 refine aE q86 ?_ ?_ ?_<;>simp[aP]
 ·exact⟨_,_,⟨rfl,rfl⟩,rfl⟩
 simp[aN,d3]
 refine lp (α:={ q:List Rl×List Rl // q.1++q.2=l }) (λ q=>DA d l base b1 q.1.1) (λ q=>q.1.2.length) ⟨([],l),rfl⟩ ?_ ?_
 ·refine aI [((70,0),[(70,0)])] ?_ ?_ ?_<;>simp[AV.ok,Dc.ok,plT,aP,bkC,dlC,bK,hk]
 ·rintro⟨⟨a,q⟩,hq⟩
  simp only at hq
  cases q with
  | nil =>
   have e:a=l:=by rw[<-hq];simp
   subst e
   have q90b:=k90 d a base 1 2 (vT 0) hlv (by omega) (bM (by decide)) (by decide)
   rw[hB] at q90b
   have q91:=k91 (atT d b1 2 (vT 0)).ts (bF d.s) (aW (h.atf 2 hb1 (bM (by decide)))) (by rw[bA];have:=h.ats b1 2 (x:=vT 0) rfl;omega) h.stf (by have:=h.sts;omega)
   change HH 91 _ (tmL (rN d b1)) at q91
   have q88b:=k88 (bK a.length).ts (rN d b1) (aW (bY (by omega))) (by rw[bA];have h3:(bK a.length).size=0:=rfl;omega) (h.codAf hb1) (by have:=h.codAs b1;omega)
   change HH 88 _ (tmL (sZ d a.length b1)) at q88b
   have q93:=k93 d base 0 hlv (by omega) (by omega)
   have q88c:=k88 (bK d.m.length).ts (bF d.s) (aW (bY (by omega))) (by rw[bA];have h3:(bK d.m.length).size=0:=rfl;omega) h.stf (by have:=h.sts;omega)
   change HH 88 _ (tmL (c1P d)) at q88c
   have q14a:=g14 (c1P d) (gQ d.m) (vT 0) h.c1Pf h.owf (bM (by decide)) (by have:=h.c1Ps;have:=h.ows;have h4:(vT 0).size=0:=rfl;omega) (by rw[kA];omega)
   change HH 14 _ (tmO (c1B d)) at q14a
   have q94a:=k94 d a base (bK d.m.length).ts (bF d.s) (c1B d) h.pf (by omega) (aW (bY (by omega))) (by rw[bA];have h3:(bK d.m.length).size=0:=rfl;omega) h.stf (by have:=h.sts;omega) h.c1Bf (by have:=h.c1Bs;omega)
   have q88d:=k88 (bK a.length).ts (bF d.s) (aW (bY (by omega))) (by rw[bA];have h3:(bK a.length).size=0:=rfl;omega) h.stf (by have:=h.sts;omega)
   change HH 88 _ (tmL (c2P d a)) at q88d
   have q14b:=g14 (c2P d a) (dZ a) (vT 0) h.c2Pf h.arf (bM (by decide)) (by have:=h.c2Ps;have:=h.ars;have h4:(vT 0).size=0:=rfl;omega) (by rw[iI];omega)
   change HH 14 _ (tmO (c2B d a)) at q14b
   have q94b:=k94 d a base (bK a.length).ts (bF d.s) (c2B d a) h.pf (by omega) (aW (bY (by omega))) (by rw[bA];have h3:(bK a.length).size=0:=rfl;omega) h.stf (by have:=h.sts;omega) h.c2Bf (by have:=h.c2Bs;omega)
   have q59a:=g59 14 (vT 0).ts (by decide) (aW (bM (by decide))) (by decide)
   change HH 59 _ (tmO v14) at q59a
   have q14c:=g14 (sZ d a.length b1) (plT d a.length b1 a 0) v14 (h.codf hb1 (by omega)) (h.plf hb1) uM (by have:=h.cods b1 a.length;have:=h.pls b1;have h4:v14.size=1:=rfl;omega) (by rw[kQ];omega)
   change HH 14 _ (tmO (c3C d a b1)) at q14c
   have q59b:=g59 15 (vT 0).ts (by decide) (aW (bM (by decide))) (by decide)
   change HH 59 _ (tmO v15) at q59b
   have q95:=k95 (c3C d a b1) v15.ts (h.c3Cf hb1) (by have:=h.c3Cs b1;omega) (aW uL) (by rw[bA];decide)
   change HH 95 _ (tmL (c3B d a b1)) at q95
   have q94c:=k94 d a base (cB d base 0).ts (bF d.s) (c3B d a b1) h.pf (by omega) (aW (h.shf base)) (by rw[bA];have:=h.shs base;omega) h.stf (by have:=h.sts;omega) (h.c3Bf hb1) (by have:=h.c3Bs b1;omega)
   have q90d:=k90 d a base 2 1 (vT 0) hlv (by omega) (bM (by decide)) (by decide)
   have q59c:=g59 16 (.cons (cB d base 0).h (cB d base 0).x (atT d (IntKind.i64.wrap (base+2)) 1 (vT 0)).ts) (by decide) (h.c4xf base) (by have:=h.c4xs base;omega)
   change HH 59 _ (tmO (c4B d base)) at q59c
   have q94d:=k94 d a base .nil (bF d.s) (c4B d base) h.pf (by omega) trivial (by simp[Ts.size]) h.stf (by have:=h.sts;omega) (h.c4Bf base) (by have:=h.c4Bs base;omega)
   simp only[jC,hB]
   generalize fH d (bK d.m.length).ts (bF d.s) (c1B d)=C1 at *
   generalize fH d (bK a.length).ts (bF d.s) (c2B d a)=C2 at *
   generalize fH d (cB d base 0).ts (bF d.s) (c3B d a b1)=C3 at *
   generalize fH d .nil (bF d.s) (c4B d base)=C4 at *
   generalize atT d (IntKind.i64.wrap (base+2)) 1 (vT 0)=A2 at *
   generalize atT d b1 2 (vT 0)=A1 at *
   generalize cB d base 0=SH at *
   generalize c1B d=B1 at *
   generalize c2B d a=B2 at *
   generalize c3B d a b1=B3 at *
   generalize c4B d base=B4 at *
   generalize c3C d a b1=C at *
   generalize c1P d=P1 at *
   generalize c2P d a=P2 at *
   generalize sZ d a.length b1=CT at *
   generalize rN d b1=CA at *
   generalize v14=V14 at *
   generalize v15=V15 at *
   simp only[DA]
   clear h q84 q86 q81
   generalize bF d.s=S at *
   generalize hM:bK d.m.length=M at *
   generalize hR:bK a.length=R at *
   generalize gQ d.m=OW at *
   generalize dZ a=AR at *
   generalize plT d a.length b1 a 0=PL at *
   simp[bkC,dlC,hk]
   refine⟨by kernel_rfl,?_⟩
   refine aE (g92 0) ?_ ?_ ?_<;>simp
   refine aE q90b ?_ ?_ ?_<;>simp[bkC,dlC,hk,vT]
   refine aE q91 ?_ ?_ ?_<;>simp
   refine aE q88b ?_ ?_ ?_<;>simp
   refine aE q93 ?_ ?_ ?_<;>simp[dlL,dlC,hk]
   refine⟨by kernel_rfl,?_⟩
   refine aE q88c ?_ ?_ ?_<;>simp
   refine aE (g92 0) ?_ ?_ ?_<;>simp
   refine aE q14a ?_ ?_ ?_<;>simp[vT]
   refine aE q94a ?_ ?_ ?_<;>simp[bkC,dlC,hk,crL,crC]
   refine aE q88d ?_ ?_ ?_<;>simp
   refine aE (g92 0) ?_ ?_ ?_<;>simp
   refine aE q14b ?_ ?_ ?_<;>simp[vT]
   refine aE q94b ?_ ?_ ?_<;>simp[bkC,dlC,hk,crL,crC]
   refine aE (g92 0) ?_ ?_ ?_<;>simp
   refine aE q59a ?_ ?_ ?_<;>simp[vT]
   refine aE q14c ?_ ?_ ?_<;>simp[Ds.app_nil]
   refine aE (g92 0) ?_ ?_ ?_<;>simp
   refine aE q59b ?_ ?_ ?_<;>simp[vT]
   refine aE q95 ?_ ?_ ?_<;>simp
   refine aE q94c ?_ ?_ ?_<;>simp[bkC,dlC,hk,crL,crC]
   refine aE (g92 0) ?_ ?_ ?_<;>simp
   refine aE q90d ?_ ?_ ?_<;>simp[bkC,dlC,hk,vT]
   refine aE q59c ?_ ?_ ?_<;>simp
   refine aE q94d ?_ ?_ ?_<;>simp[bkC,dlC,hk,crL,crC]
   exact⟨[],by simp[jP,dX]⟩
  | cons t q =>
   have h1:a.length<l.length:=by rw[<-hq];simp
   have h2:=rJ hq
   have ht:t∈l:=by rw[<-hq];simp
   have hw:IntKind.i64.wrap ((a.length:Int)+1)=a.length+1:=by rw[IntKind.wrap_i64];omega
   have e1:plT d l.length b1 (a++[t]) 0=(plT d l.length b1 a 0).app (.cons (gM d l.length b1 t a.length).h (gM d l.length b1 t a.length).x .nil):=by rw[uC,Nat.zero_add];rfl
   have q89:=k89 d l base t (h.rs t ht) hsl h.sf
   have q90:=k90 d l base 1 1 (ctT a.length l.length) hlv (by omega) (kK (by omega) (by omega)) (by have h3:(ctT a.length l.length).size=0:=rfl;omega)
   rw[hB] at q90
   have q88:=k88 (atT d b1 1 (ctT a.length l.length)).ts (dJ d.s t) (aW (h.atf 1 hb1 (kK (by omega) (by omega)))) (by rw[bA];have:=h.ats b1 1 (x:=ctT a.length l.length) rfl;omega) (jJ (h.rs t ht) h.sf) (by have:=jI (h.rs t ht) hsl;have:=(h.rs t ht).sz;omega)
   change HH 88 _ (tmL (gM d l.length b1 t a.length)) at q88
   simp only[DA]
   generalize gM d l.length b1 t a.length=P at *
   generalize atT d b1 1 (ctT a.length l.length)=A at *
   generalize dJ d.s t=Q at *
   simp[aP,h1,h2,aO,bkC,dlC,hk]
   refine⟨by rw[aN];omega,by kernel_rfl,?_⟩
   refine aE q89 ?_ ?_ ?_<;>simp[bkC,dlC,hk,rlL,rlC,aN,d3]
   refine aE (g58 a.length l.length) ?_ ?_ ?_<;>simp
   refine aE q90 ?_ ?_ ?_<;>simp[bkC,dlC,hk,ctT]
   refine aE q88 ?_ ?_ ?_<;>simp
   refine⟨by rw[aF,kQ];omega,a++[t],q,by simp,by rw[List.append_assoc];exact hq,?_⟩
   refine aI [((70,0),[(70,0)])] ?_ ?_ ?_<;>simp[AV.ok,Dc.ok,hw,e1]
   rw[bC];rfl
def sa97(d:Dl)(l:List Rl)(base:Int)(a:List Ts):St:=bP [(1,aP l),(2,iA base),(3,.bx 4 0),(7,.bx 8 0),(8,iA d.m.length),(9,iA l.length),(10,.c (.blk 53 (a.length+1) 5 26 (.seg none (tDs ty (gQ a)) .nil) .nil)),(11,.v (.slice none 0 0)),(12,.v (.slice none 0 0)),(13,iA a.length)] [(4,47,dlC d),(8,26,tmC none none (bF d.s).h (bF d.s).x)] [(53,a.length+1)]
def sb97(d:Dl)(l:List Rl)(base:Int)(b1:Int)(a:List Rl):St:=bP [(1,aP l),(2,iA base),(3,.bx 4 0),(7,.bx 8 0),(8,iA d.m.length),(9,iA l.length),(10,tsA none (gQ d.m)),(11,.c (.blk 68 (a.length+1) 5 26 (.seg none (tDs ty (dZ a)) .nil) .nil)),(12,.c (.blk 85 (a.length+1) 5 26 (.seg none (tDs ty (plT d l.length b1 a 0)) .nil) .nil)),(14,iA a.length)] [(4,47,dlC d),(8,26,tmC none none (bF d.s).h (bF d.s).x)] [(68,a.length+1),(85,a.length+1)]
theorem k97(d:Dl)(l:List Rl)(base:Int)(h:SmallD d l):HH 97 [dlL d,aP l,iA base] (jP (jC d l base)):=by
 have hk:=h.k
 have hlv:=h.lv
 have hps:=h.ps
 have hsl:=h.sl
 have hml:=h.ml
 have hll:=h.ll
 have d6:d.c.length*6 / 6=d.c.length:=by omega
 have d3:l.length*3 / 3=l.length:=by omega
 have hlc:=h.lc
 have hb1:fW (IntKind.i64.wrap (base+1)):=pN _
 have q169:=k169 d.s (by omega)
 refine ab Tryz.func97 Tryz.ntmps97 Tryz.results97 rfl (by decide) (by simp) rfl rfl ?_
 generalize hB:IntKind.i64.wrap (base+1)=b1 at *
 simp[dlL,dlC,hk,aP,aN,d3,bL,d6,hlc,aS]
 refine aE q169 ?_ ?_ ?_<;>simp[lvA,aN,d3,aS,hlc]
 simp only[<-hlc]
 refine lp (α:={ q:List Ts×List Ts // q.1++q.2=d.m }) (λ q=>sa97 d l base q.1.1) (λ q=>q.1.2.length) ⟨([],d.m),rfl⟩ ?_ ?_
 ·refine aI [((53,0),[(53,0)])] ?_ ?_ ?_<;>simp[AV.ok,Dc.ok,gQ,aP,dlC,hk]
 ·rintro⟨⟨a,q⟩,hq⟩
  simp only at hq
  cases q with
  | cons t q =>
   have h1:a.length<d.m.length:=by rw[<-hq];simp
   have h2:=CD hq
   obtain⟨h3,h4⟩:=h.mf t (by rw[<-hq];simp)
   have hw:IntKind.i64.wrap ((a.length:Int)+1)=a.length+1:=by rw[IntKind.wrap_i64];omega
   have e1:gQ (a++[t])=(gQ a).app (.cons (bX t).h (bX t).x .nil):=by rw[vK];rfl
   have q170:=k170 t h3 (by omega)
   have q17:=h17 (MO 1 0 t) (iX 1 t 0 h3) (by rw[iW];omega)
   change HH 17 _ (tmL (bX t)) at q17
   simp only[sa97]
   generalize bX t=P at *
   simp[dlC,hk,h1,h2,aZ]
   refine⟨by rw[aS];omega,?_⟩
   refine aE q170 ?_ ?_ ?_<;>simp
   refine aE q17 ?_ ?_ ?_<;>simp
   refine⟨by rw[aF,kA];omega,a++[t],q,by simp,by rw[List.append_assoc];exact hq,?_⟩
   refine aI [((53,0),[(53,0)])] ?_ ?_ ?_<;>simp[AV.ok,Dc.ok,hw,e1,dlC,hk,aP]
   rw[bC];rfl
  | nil =>
   have e:a=d.m:=by rw[<-hq];simp
   subst e
   simp[sa97,dlC,hk]
   refine lp (α:={ q:List Rl×List Rl // q.1++q.2=l }) (λ q=>sb97 d l base b1 q.1.1) (λ q=>q.1.2.length) ⟨([],l),rfl⟩ ?_ ?_
   ·refine aI [((68,0),[(68,0)]),((85,0),[(85,0)])] ?_ ?_ ?_<;>simp[AV.ok,Dc.ok,dZ,plT,aP,dlC,hk,Ds.app_nil]
   ·rintro⟨⟨a,q⟩,hq⟩
    simp only at hq
    cases q with
    | cons t q =>
     have h1:a.length<l.length:=by rw[<-hq];simp
     have h2:=rJ hq
     have ht:t∈l:=by rw[<-hq];simp
     have hr:=h.rs t ht
     have hrl:=hr.len
     have hrs:=hr.sz
     have hw:IntKind.i64.wrap ((a.length:Int)+1)=a.length+1:=by rw[IntKind.wrap_i64];omega
     have e1:plT d l.length b1 (a++[t]) 0=(plT d l.length b1 a 0).app (.cons (gM d l.length b1 t a.length).h (gM d l.length b1 t a.length).x .nil):=by rw[uC,Nat.zero_add];rfl
     have e2:dZ (a++[t])=(dZ a).app (.cons (bX (bG t.g t.g 0 0)).h (bX (bG t.g t.g 0 0)).x .nil):=by rw[tB];rfl
     have q41:=k41 t (by omega) (by omega) hr.fit
     have t1:=iP t.g t.g.length t.g 0 0 (by omega)
     have t2:cF t.g*(t.g.length+1)<=500*501:=Nat.mul_le_mul hr.sz (by omega)
     have q170:=k170 (bG t.g t.g 0 0) (gJ t.g t.g 0 0 hr.fit) (by omega)
     have q17:=h17 (MO 1 0 (bG t.g t.g 0 0)) (iX 1 _ 0 (gJ t.g t.g 0 0 hr.fit)) (by rw[iW];omega)
     change HH 17 _ (tmL (bX (bG t.g t.g 0 0))) at q17
     have q172:=JY d b1 1 (ctT a.length l.length) hlv (by omega) hb1 (kK (by omega) (by omega)) (by have h3:(ctT a.length l.length).size=0:=rfl;omega)
     have q173:=k173 d t hr hsl h.sf
     have q171:=JZ (atT d b1 1 (ctT a.length l.length)) (dJ d.s t) (h.atf 1 hb1 (kK (by omega) (by omega))) (by have:=h.ats b1 1 (x:=ctT a.length l.length) rfl;omega) (jJ hr h.sf) (by have:=jI hr hsl;omega)
     change HH 171 _ (tmL (gM d l.length b1 t a.length)) at q171
     simp only[sb97]
     generalize gM d l.length b1 t a.length=P at *
     generalize atT d b1 1 (ctT a.length l.length)=A at *
     generalize dJ d.s t=Q at *
     generalize bX (bG t.g t.g 0 0)=Z at *
     generalize MO 1 0 (bG t.g t.g 0 0)=Y at *
     generalize bG t.g t.g 0 0=X at *
     simp[aP,h1,h2,aO,dlC,hk]
     refine⟨by rw[aN];omega,?_⟩
     refine aE q41 ?_ ?_ ?_<;>simp[rlL,rlC]
     refine aE q170 ?_ ?_ ?_<;>simp
     refine aE q17 ?_ ?_ ?_<;>simp[h1,h2,aO,hB]
     refine⟨by rw[aF,iI];omega,by kernel_rfl,?_⟩
     refine aE (g65 a.length l.length) ?_ ?_ ?_<;>simp[hB]
     refine aE q172 ?_ ?_ ?_<;>simp[dlL,dlC,hk,ctT,hB,h2,aO]
     refine⟨by rw[aN];omega,?_⟩
     refine aE q173 ?_ ?_ ?_<;>simp[dlL,dlC,hk,rlL,rlC]
     refine aE q171 ?_ ?_ ?_<;>simp
     refine⟨by rw[aF,kQ];omega,a++[t],q,by simp,by rw[List.append_assoc];exact hq,?_⟩
     refine aI [((68,0),[(68,0)]),((85,0),[(85,0)])] ?_ ?_ ?_<;>simp[AV.ok,Dc.ok,hw,e1,e2,aP,dlC,hk]
     exact⟨by rw[bC];rfl,by rw[bC];rfl⟩
    | nil =>
     have e:a=l:=by rw[<-hq];simp
     subst e
     have z0:(vT 0).size=0:=rfl
     have zM:(bK d.m.length).size=0:=rfl
     have zR:(bK a.length).size=0:=rfl
     have fM:(bK d.m.length).fits:=bY (by omega)
     have fR:(bK a.length).fits:=bY (by omega)
     have sS:=h.sts
     have f0:(vT 0).fits:=bM (by decide)
     have q172a:=JY d b1 2 (vT 0) hlv (by omega) hb1 f0 (by omega)
     have s1:=h.ats b1 2 (x:=vT 0) rfl
     have q174:=k174 (atT d b1 2 (vT 0)) (bF d.s) (h.atf 2 hb1 f0) (by omega) h.stf (by omega)
     change HH 174 _ (tmL (rN d b1)) at q174
     have s2:=h.codAs b1
     have q171a:=JZ (bK a.length) (rN d b1) fR (by omega) (h.codAf hb1) (by omega)
     change HH 171 _ (tmL (sZ d a.length b1)) at q171a
     have q66a:=g66 14 (vT 0)
     change HH 66 _ (tmL v14) at q66a
     have s3:=h.cods b1 a.length
     have s4:=h.pls b1
     have z14:v14.size=1:=rfl
     have z15:v15.size=1:=rfl
     have q19a:=g19 (sZ d a.length b1) (plT d a.length b1 a 0) v14 (h.codf hb1 (by omega)) (h.plf hb1) uM (by omega) (by rw[kQ];omega)
     change HH 19 _ (tmL (c3C d a b1)) at q19a
     have q66b:=g66 15 (vT 0)
     change HH 66 _ (tmL v15) at q66b
     have s5:=h.c3Cs b1
     have q176:=k176 (c3C d a b1) v15 (h.c3Cf hb1) (by omega) uL (by omega)
     change HH 176 _ (tmL (c3B d a b1)) at q176
     have q171b:=JZ (bK d.m.length) (bF d.s) fM (by omega) h.stf (by omega)
     change HH 171 _ (tmL (c1P d)) at q171b
     have s6:=h.c1Ps
     have s7:=h.ows
     have q19b:=g19 (c1P d) (gQ d.m) (vT 0) h.c1Pf h.owf f0 (by omega) (by rw[kA];omega)
     change HH 19 _ (tmL (c1B d)) at q19b
     have s8:=h.c1Bs
     have q177a:=k177 d (bK d.m.length).ts (bF d.s) (c1B d) h.pf (by omega) (aW fM) (by rw[bA];omega) h.stf (by omega) h.c1Bf (by omega)
     have q171c:=JZ (bK a.length) (bF d.s) fR (by omega) h.stf (by omega)
     change HH 171 _ (tmL (c2P d a)) at q171c
     have s9:=h.c2Ps
     have s10:=h.ars
     have q19c:=g19 (c2P d a) (dZ a) (vT 0) h.c2Pf h.arf f0 (by omega) (by rw[iI];omega)
     change HH 19 _ (tmL (c2B d a)) at q19c
     have s11:=h.c2Bs
     have q177b:=k177 d (bK a.length).ts (bF d.s) (c2B d a) h.pf (by omega) (aW fR) (by rw[bA];omega) h.stf (by omega) h.c2Bf (by omega)
     have q102:=k102 d base 0 hlv (by omega) (by omega)
     have s12:=h.shs base
     have s13:=h.c3Bs b1
     have q177c:=k177 d (cB d base 0).ts (bF d.s) (c3B d a b1) h.pf (by omega) (aW (h.shf base)) (by rw[bA];omega) h.stf (by omega) (h.c3Bf hb1) (by omega)
     have q172b:=JY d (IntKind.i64.wrap (base+2)) 1 (vT 0) hlv (by omega) (pN _) f0 (by omega)
     have q64:=g64 16 (cB d base 0) (atT d (IntKind.i64.wrap (base+2)) 1 (vT 0))
     change HH 64 _ (tmL (c4B d base)) at q64
     have s14:=h.c4Bs base
     have q177d:=k177 d .nil (bF d.s) (c4B d base) h.pf (by omega) trivial (by simp[Ts.size]) h.stf (by omega) (h.c4Bf base) (by omega)
     simp only[jC,hB]
     clear s1 s2 s3 s4 s5 s6 s7 s8 s9 s10 s11 s12 s13 s14 z0 zM zR z14 z15 fM fR f0 sS
     generalize fH d (bK d.m.length).ts (bF d.s) (c1B d)=C1 at *
     generalize fH d (bK a.length).ts (bF d.s) (c2B d a)=C2 at *
     generalize fH d (cB d base 0).ts (bF d.s) (c3B d a b1)=C3 at *
     generalize fH d .nil (bF d.s) (c4B d base)=C4 at *
     generalize atT d (IntKind.i64.wrap (base+2)) 1 (vT 0)=A2 at *
     generalize atT d b1 2 (vT 0)=A1 at *
     generalize cB d base 0=SH at *
     generalize c1B d=B1 at *
     generalize c2B d a=B2 at *
     generalize c3B d a b1=B3 at *
     generalize c4B d base=B4 at *
     generalize c3C d a b1=C at *
     generalize c1P d=P1 at *
     generalize c2P d a=P2 at *
     generalize sZ d a.length b1=CT at *
     generalize rN d b1=CA at *
     generalize v14=V14 at *
     generalize v15=V15 at *
     simp only[sb97]
     clear h q169
     generalize bF d.s=S at *
     generalize gQ d.m=OW at *
     generalize dZ a=AR at *
     generalize plT d a.length b1 a 0=PL at *
     simp[dlC,hk]
     refine⟨by kernel_rfl,?_⟩
     refine aE (g62 a.length) ?_ ?_ ?_<;>simp[hB]
     refine aE (O1 0) ?_ ?_ ?_<;>simp
     refine aE q172a ?_ ?_ ?_<;>simp[dlL,dlC,hk,vT]
     refine aE q174 ?_ ?_ ?_<;>simp
     refine aE q171a ?_ ?_ ?_<;>simp[bK]
     refine aE (O1 0) ?_ ?_ ?_<;>simp
     refine⟨by kernel_rfl,?_⟩
     refine aE q66a ?_ ?_ ?_<;>simp[vT]
     refine aE q19a ?_ ?_ ?_<;>simp[Ds.app_nil]
     refine aE q66b ?_ ?_ ?_<;>simp[vT]
     refine aE q176 ?_ ?_ ?_<;>simp
     refine⟨by kernel_rfl,?_⟩
     refine aE (g62 d.m.length) ?_ ?_ ?_<;>simp
     refine aE (g62 d.m.length) ?_ ?_ ?_<;>simp
     refine aE q171b ?_ ?_ ?_<;>simp[bK]
     refine aE q19b ?_ ?_ ?_<;>simp[vT]
     refine aE q177a ?_ ?_ ?_<;>simp[dlL,dlC,hk,crL,crC,bK]
     refine aE (g62 a.length) ?_ ?_ ?_<;>simp
     refine aE (g62 a.length) ?_ ?_ ?_<;>simp
     refine aE q171c ?_ ?_ ?_<;>simp[bK]
     refine aE q19c ?_ ?_ ?_<;>simp[vT,Ds.app_nil]
     refine aE q177b ?_ ?_ ?_<;>simp[dlL,dlC,hk,crL,crC,bK]
     refine aE q102 ?_ ?_ ?_<;>simp[dlL,dlC,hk]
     refine aE q177c ?_ ?_ ?_<;>simp[dlL,dlC,hk,crL,crC]
     refine aE q102 ?_ ?_ ?_<;>simp[dlL,dlC,hk]
     refine aE q172b ?_ ?_ ?_<;>simp[dlL,dlC,hk,vT]
     refine aE q64 ?_ ?_ ?_<;>simp
     refine aE q177d ?_ ?_ ?_<;>simp[dlL,dlC,hk,crL,crC]
     exact⟨[],by simp[jP,dX]⟩
theorem k168(c:Cr):HH 168 [crL c,crL c] (.v (.bool true)):=by
 refine ab Tryz.func168 Tryz.ntmps168 Tryz.results168 rfl (by decide) (by simp) rfl rfl ?_
 simp[crL,crC]
 refine aE (k16 c.t) ?_ ?_ ?_<;>simp
 refine aE (k16 c.b) ?_ ?_ ?_<;>simp
 exact⟨[],by simp⟩
theorem pB(l:List Cr):(dX l).len=l.length*12:=by
 induction l with
 | nil=>rfl
 | cons a r ih=>simp[dX,Ds.len,ih];omega
theorem EU(a b:List Cr):dX (a++b)=(dX a).app (dX b):=by
 induction a with
 | nil=>rfl
 | cons x r ih=>simp[dX,Ds.app,ih]
theorem dp_crs{l a b:List Cr}(h:a++b=l):(dX l).dp (a.length*12)=dX b:=by
 rw[<-h,EU,<-pB a,Ds.dp_app]
def st96(l:List Cr)(k:Nat):St:=bP [(0,jP l),(1,jP l),(5,iA k)] [] []
theorem k96(l:List Cr)(hl:l.length<=100000000):HH 96 [jP l,jP l] (.v (.bool true)):=by
 have d0:l.length*12 / 12=l.length:=by omega
 refine ab Tryz.func96 Tryz.ntmps96 Tryz.results96 rfl (by decide) (by simp) rfl rfl ?_
 simp[jP,pB,d0]
 refine lp (α:={ q:List Cr×List Cr // q.1++q.2=l }) (λ q=>st96 l q.1.1.length) (λ q=>q.1.2.length) ⟨([],l),rfl⟩ ?_ ?_
 ·refine aI [] ?_ ?_ ?_<;>simp[AV.ok,Dc.ok,jP]
 ·rintro⟨⟨a,q⟩,hq⟩
  simp only at hq
  cases q with
  | nil =>
   have e:a=l:=by rw[<-hq];simp
   subst e
   simp[st96,jP,pB,d0]
   exact⟨[],by simp⟩
  | cons t q =>
   have h1:a.length<l.length:=by rw[<-hq];simp
   have h2:=dp_crs hq
   have hw:IntKind.i64.wrap ((a.length:Int)+1)=a.length+1:=by rw[IntKind.wrap_i64];omega
   simp[st96,jP,pB,d0,h1,h2,dX,hw]
   refine⟨by kernel_rfl,by omega,?_⟩
   refine aE (k168 t) ?_ ?_ ?_<;>simp[crL,crC,hw]
   refine⟨a++[t],q,by simp,by rw[List.append_assoc];exact hq,?_⟩
   refine aI [] ?_ ?_ ?_<;>simp[AV.ok,Dc.ok,hw,jP]
theorem sl_c{d:Dc}(h:(match d with | .row _ _ _ _ .nil=>true|_=>false)=true):∀g v,RepV g (.c d) [v]->∃p n c,v=.slice p n c:=by
 intro g v hv
 cases d with
 | row k sz e x r =>
  cases r with
  | nil =>
   obtain⟨-,v1,_,e1,h1,-⟩:=hv
   cases e1
   obtain⟨p,n,c,rfl,-⟩:=id h1
   exact⟨p,n,c,rfl⟩
  | _=>simp at h
 | _=>simp at h
theorem k30(d:Dl)(l:List Rl)(base:Int)(h:SmallD d l):HH 30 [dlL d,aP l,iA base] (jP (jC d l base)):=by
 have q79:=qR (g:=80) (x:=.nil) (y:=.cons (.el (dlC d).ds) (.cons (.el (.row 3 65 (aO l) .nil .nil)) (.cons (.el (.lit (.int .i64 base) .nil)) .nil))) rfl rfl rfl (k80 d l base h) (sl_c rfl)
 change HH 79 _ (jP (jC d l base)) at q79
 generalize jC d l base=C at *
 refine ab Tryz.func30 Tryz.ntmps30 Tryz.results30 rfl (by decide) (by simp) rfl rfl ?_
 simp[dlL,aP]
 refine aE q79 ?_ ?_ ?_<;>simp[jP]
 ·exact⟨⟨_,_,⟨rfl,rfl⟩,rfl⟩,⟨_,_,⟨rfl,rfl⟩,rfl⟩,⟨_,_,⟨rfl,rfl⟩,rfl⟩⟩
 exact⟨[],by simp⟩
theorem Y9(l:List Cr):(dX l).good:=by
 induction l with
 | nil=>trivial
 | cons c r ih=>exact⟨rfl,rfl,rfl,rfl,cT _,trivial,bQ _,trivial,rfl,rfl,rfl,rfl,cT _,trivial,bQ _,trivial,ih⟩
def EV(c:Cr):Dc:=.lit (.int .i64 c.lv) (.lit (.int .i64 c.t.h.k) (.lit (.int .i64 c.t.h.n) (.lit (.int .i64 c.t.h.a) (.row (some (0,0)) 1 43 (bN ty c.t.h.l) (.row (some (0,1)) 5 26 (tDs ty c.t.x) (.lit (.bool c.h) (.lit (.int .i64 c.b.h.k) (.lit (.int .i64 c.b.h.n) (.lit (.int .i64 c.b.h.a) (.row (some (0,2)) 1 43 (bN ty c.b.h.l) (.row (some (0,3)) 5 26 (tDs ty c.b.x) .nil)))))))))))
def crO(c:Cr):AV:=.agg (EV c)
def rM(l:List Cr):AV:=.c (.row (some (0,0)) 12 89 (dX l) .nil)
theorem xV(p:Addr)(u:Value)(w:World)(hc:w.cell? p=some u)(hz:w.frozen? p=false) :
  CallsD Tryz.prog 160 #[.pointer (some p)] (.panicking [{ v:=nG,recovered:=false }]) w λ e u' w'=>e=.returned (.tuple #[])/\u'=.panicking [{ v:=nG,recovered:=true }]/\w'=(w.alloc (.cells #[] 128)).setCell p (.slice none 0 0):=by
 refine callsD_of_wpS Tryz.func160 rfl λ c₀ cs hu=>?_
 apply wpS_seq
 apply wpS_region
 simp[wpOpsS,go_sem,recoverD,hu,Tryz.ntmps160,Exit.thenS]
 refine wpS_of_wp (wp_mono (Q:=λ e a w'=>e=.normal/\a.defers=[]/\w'=(w.alloc (.cells #[] 128)).setCell p (.slice none 0 0)) ?_ ?_)
 ·clear hu
  have hlt:p.block<w.heap.size:=by
   apply Nat.lt_of_not_le
   intro h
   have:w.heap[p.block]? = none:=by simp[h]
   simp[World.cell?,this] at hc
  have hc2:(w.alloc (.cells #[] 128)).cell? p=some u:=by
   rw[<-hc];exact (aB w (.cells #[] 128)).cell hlt
  have hz2:(w.alloc (.cells #[] 128)).frozen? p=false:=by
   rw[<-hz];exact (aB w (.cells #[] 128)).frozen hlt
  rw[show #[Value.pointer (some p)]++((Array.replicate 16 undef).setIfInBounds 4 nG).setIfInBounds 0 nG=#[Value.pointer (some p),nG,undef,undef,undef,nG,undef,undef,undef,undef,undef,undef,undef,undef,undef,undef,undef] from rfl]
  have hta:=xW
  go_wp2
 ·rintro e a w' ⟨rfl,hd,rfl⟩
  cases c₀
  simp_all [bodyPostS,results,Tryz.results160]
theorem S9(g:Nat)(x y:Array Value)(w:World)(hg:qN Tryz.prog g)(hc:∀W,Below w.heap.size w W->Calls Tryz.prog g (x++y) W (AM W)) :
  Calls Tryz.prog 79 #[.func (.func g) x y] w λ e w'=>e=.returned (.slice none 0 0)/\Below w.heap.size w w':=by
 have hmf:∀(fn:Fn) (first cap:Array Value) (w:World),(Instr.makeFunc fn first cap).run Tryz.prog w=.ok (.func fn first cap) w:=λ _ _ _ _=>rfl
 have hcf:∀w,(callFunc g (x++y)).run Tryz.prog w=.ok (.enter g (x++y)) w:=λ w=>by
  obtain⟨fn,k1,k2,k3⟩:=hg
  simp[callFunc,k1,k2,k3]
 have hb0:Below w.heap.size w (w.alloc (.cells #[.slice none 0 0] 56)):=aB _ _
 have HC:=hid (hc _ hb0)
 have HB0:=hid hb0
 clear hc hg hb0
 go_enter_defers Tryz.func79,Tryz.ntmps79
 go_wp2_with fail
 refine HC.out.mono ?_
 rintro e w1 ⟨rfl,hb1⟩
 have hsz:w.heap.size<(w.alloc (.cells #[.slice none 0 0] 56)).heap.size:=by simp
 have d0:w1.cell? ⟨w.heap.size,0,none⟩=some (.slice none 0 0):=(hb1.cell (p:=⟨w.heap.size,0,none⟩) hsz).trans (by simp[go_sem])
 have f0:w1.frozen? ⟨w.heap.size,0,none⟩=false:=(hb1.frozen (p:=⟨w.heap.size,0,none⟩) hsz).trans (by simp[go_sem])
 have HB1:=hid (aA HB0.out hb1)
 clear hb1
 go_wp2
 refine leaves_cons (f:=160) (args:=#[.pointer (some ⟨w.heap.size,0,none⟩)]) (by simp) (by simp[go_sem]) ?_
 refine (xV _ _ _ d0 f0).mono ?_
 rintro e u' w'' ⟨rfl,rfl,rfl⟩
 have hlt:(⟨w.heap.size,0,none⟩:Addr).block<w1.heap.size:=aM (kM d0 f0)
 have d1:(w1.alloc (.cells #[] 128)).cell? ⟨w.heap.size,0,none⟩=some (.slice none 0 0):=((aB w1 (.cells #[] 128)).cell hlt).trans d0
 have c0:((w1.alloc (.cells #[] 128)).setCell ⟨w.heap.size,0,none⟩ (.slice none 0 0)).cell? ⟨w.heap.size,0,none⟩=some (.slice none 0 0):=World.cell?_setCell_same' _ _ _ (by rw[d1];rfl)
 have hB:Below w.heap.size w ((w1.alloc (.cells #[] 128)).setCell ⟨w.heap.size,0,none⟩ (.slice none 0 0)):=(aA HB1.out (aB _ _)).setCell (p:=⟨w.heap.size,0,none⟩) (Nat.le_refl _) _
 simp[Leaves,settle,results,Tryz.results79,go_sem,c0]
 exact hB
theorem S8{g:Nat}{x y:AV}{t:List Cr}(hx:x.isLL=true)(hux:x.unl=true)(huy:y.unl=true)(h:Holds Tryz.prog KA g (x.app y) (rM t)):HH 79 [.fn (.func g) x y] (rM t):=by
 refine⟨bO Tryz.func79 (by decide) rfl,rfl,λ F w vs hF hG hv=>?_⟩
 obtain⟨v,rfl,ys,zs,e1,h1,h2⟩:=kD hv
 cases e1
 have hb:Below w.heap.size w (w.alloc (.cells #[.slice none 0 0] 56)):=aB _ _
 have hFW:∀b o v,F b o=some v->U (w.alloc (.cells #[.slice none 0 0] 56)) b o=some v:=λ b o v hv=>aD hb _ _ _ (aM (hF b o v hv)) (hF b o v hv)
 have hmv:∀ {a:AV} {xs:List Value},a.unl=true->RepV (bE F w) a xs->RepV (bE F (w.alloc (.cells #[.slice none 0 0] 56))) a xs:=λ hu h=>RepV.mv (g:=bE F w) (g':=bE F (w.alloc (.cells #[.slice none 0 0] 56))) (λ _ _ _ h=>h) hb.size (.inr λ b o v hlt hv=>by
  have hlt:b<w.heap.size:=hlt
  have h3:(if b<w.heap.size then U w b o else F b o)=some v:=hv
  rw[if_pos hlt] at h3
  show (if b<(w.alloc (.cells #[.slice none 0 0] 56)).heap.size then U (w.alloc (.cells #[.slice none 0 0] 56)) b o else F b o)=some v
  rw[if_pos (Nat.lt_of_lt_of_le hlt hb.size)]
  exact aD hb _ _ _ hlt h3) hu h
 have hc:=h.2.2 F _ (ys++zs) hFW (iD _ _ hb hG) (RepV.app (hmv huy h2) (hmv hux h1) hx)
 refine (uQ g ys.toArray zs.toArray w h.1 (λ v w1=>∃S,Own w1 (w.heap.size+1) (.row 12 89 (dX t) .nil .nil) [v] S/\S.Nodup) ?_).mono ?_
 ·rw[show ys.toArray++zs.toArray=(ys++zs).toArray by simp]
  refine hc.mono ?_
  rintro e w' ⟨v,fp,rfl,h3,⟨-,v',_,e2,-,how,-⟩,-⟩
  cases e2
  obtain⟨-,S,o1,o2,-⟩:=how (0,0) rfl
  obtain⟨p,n,c,rfl⟩:=jR o1
  have o3:Own w' (w.alloc (.cells #[.slice none 0 0] 56)).heap.size (.row 12 89 (dX t) .nil .nil) [.slice p n c] S:=o1
  rw[World.size_alloc] at o3
  exact⟨p,n,c,rfl,by simpa using h3,S,o3,o2⟩
 ·rintro e w' ⟨v,w1,rfl,h3,⟨S,o1,o2⟩,rfl⟩
  have hsz:w.heap.size+1<=w1.heap.size:=by have:=h3.size;simpa using this
  have hO:Own (w1.setCell ⟨w.heap.size,0,none⟩ v) w.heap.size (.row 12 89 (dX t) .nil .nil) [v] S:=(o1.setCell (p:=⟨w.heap.size,0,none⟩) (o1.notMem (Nat.lt_succ_self _)) v).lower (Nat.le_succ _)
  obtain⟨v',_,e2,h8,-⟩:=Vs.res (F:=F) (fp:=fp1 S) (Nat.le_refl _) hO
  cases e2
  refine⟨v,fp1 S,rfl,(hb.trans (h3.mono (by omega))).setCell (p:=⟨w.heap.size,0,none⟩) (Nat.le_refl _) _,⟨Y9 _,v,[],rfl,h8,λ j e=>?_,rfl⟩,λ k b hb=>?_,λ k k' b h1 h2=>?_⟩
  ·cases e
   exact⟨rfl,S,hO,o2,λ b hb=>mem_fp1.2 ⟨rfl,hb⟩⟩
  ·exact hO.mem b (mem_fp1.1 hb).2
  ·rw[(mem_fp1.1 h1).1,(mem_fp1.1 h2).1]
theorem EW(k:Int)(pr pc:Option Addr)(nr cr nc cc:Nat)(b o b' o':Nat)(z:Value)(w:World)(ho:k≠3∨nr≠nc)
  (h0:w.cell? ⟨b,o,none⟩=some (.int .i64 k)) (h1:w.cell? ⟨b,o+15,none⟩=some (.slice pc nc cc)) (h2:w.cell? ⟨b',o',none⟩=some (.slice pr nr cr)) :
  Calls Tryz.prog 80 #[.pointer (some ⟨b,o,none⟩),.pointer (some ⟨b',o',none⟩),z] w (AM w):=by
 go_enter Tryz.func80,Tryz.ntmps80
 by_cases hk:k=3
 ·have b0:decide (k=3)=true:=decide_eq_true hk
  have b1:decide ((nr:Int)=(nc:Int))=false:=decide_eq_false (by omega)
  go_wp2_with fail
  exact⟨rfl,rfl,Below.refl _ _⟩
 ·have b0:decide (k=3)=false:=decide_eq_false hk
  go_wp2_with fail
  exact⟨rfl,rfl,Below.refl _ _⟩
def OutAt(w:World)(x y:Value):Prop:=∃(k:Int) (pr pc:Option Addr) (nr cr nc cc b o b' o':Nat),x=.pointer (some ⟨b,o,none⟩)/\y=.pointer (some ⟨b',o',none⟩)/\(k≠3∨nr≠nc)/\b<w.heap.size/\b'<w.heap.size /\
  w.cell? ⟨b,o,none⟩=some (.int .i64 k)/\w.cell? ⟨b,o+15,none⟩=some (.slice pc nc cc)/\w.cell? ⟨b',o',none⟩=some (.slice pr nr cr)
theorem outAt{F:Mem}{w:World}{d:Dl}{l:List Rl}{x y:Value}(ho:d.k≠3∨l.length≠d.c.length)(h:RepV (bE F w) (.el (dlC d).ds) [x])(k:RepV (bE F w) (.el (.row 3 65 (aO l) .nil .nil)) [y]):OutAt w x y:=by
 obtain⟨-,b,o,ys,e,hb,⟨_,rfl,_,rfl,_,rfl,_,rfl,_,rfl,_,_,rfl,-,_,_,rfl,-,_,rfl,_,rfl,_,rfl,_,_,rfl,-,_,_,rfl,-,_,_,rfl,-,_,_,rfl,-,_,_,rfl,-,v1,_,rfl,⟨p1,n1,c1,rfl,l1,-⟩,rfl⟩,hf⟩:=h
 obtain⟨-,b',o',ys',e',hb',⟨v2,_,rfl,⟨p2,n2,c2,rfl,l2,-⟩,rfl⟩,hf'⟩:=k
 cases e;cases e'
 have cell:∀ {b o:Nat} {u:Value},b<w.heap.size->(bE F w).Fs b o=some u->w.cell? ⟨b,o,none⟩=some u:=λ {b o u} hb h=>by
  have h:(if b<w.heap.size then U w b o else F b o)=some u:=h
  rw[if_pos hb] at h
  exact aC h
 rw[bL] at l1
 rw[aN] at l2
 exact⟨_,_,_,_,_,_,_,_,_,_,_,rfl,rfl,by omega,hb,hb',cell hb (hf 0 _ rfl),cell hb (hf 15 _ rfl),cell hb' (hf' 0 _ rfl)⟩
theorem OutAt.on{w W:World}{x y:Value}(h:OutAt w x y)(hb:Below w.heap.size w W):OutAt W x y:=by
 obtain⟨k,pr,pc,nr,cr,nc,cc,b,o,b',o',e1,e2,e3,l1,l2,h0,h1,h2⟩:=h
 exact⟨k,pr,pc,nr,cr,nc,cc,b,o,b',o',e1,e2,e3,Nat.lt_of_lt_of_le l1 hb.size,Nat.lt_of_lt_of_le l2 hb.size,(hb.cell (p:=⟨b,o,none⟩) l1).trans h0,(hb.cell (p:=⟨b,o+15,none⟩) l1).trans h1,(hb.cell (p:=⟨b',o',none⟩) l2).trans h2⟩
theorem T4(d:Dl)(l:List Rl)(base:Int)(ho:d.k≠3∨l.length≠d.c.length):HH 79 [.fn (.func 80) .nil (.cons (.el (dlC d).ds) (.cons (.el (.row 3 65 (aO l) .nil .nil)) (.cons (.el (.lit (.int .i64 base) .nil)) .nil)))] (rM []):=by
 refine⟨bO Tryz.func79 (by decide) rfl,rfl,λ F w vs hF hG hv=>?_⟩
 obtain⟨v,rfl,ys,zs,e1,h1,h2⟩:=kD hv
 cases e1
 obtain rfl:ys=[]:=h1
 obtain⟨x,y,z,rfl,h3,h4,-⟩:∃x y z,zs=[x,y,z]/\RepV (bE F w) (.el (dlC d).ds) [x]/\RepV (bE F w) (.el (.row 3 65 (aO l) .nil .nil)) [y]/\True:=by
  obtain⟨x,_,rfl,h3,y,_,rfl,h4,z,_,rfl,h5,rfl⟩:=h2
  exact⟨x,y,z,rfl,h3,h4,trivial⟩
 have ht:=outAt ho h3 h4
 refine (S9 80 #[] #[x,y,z] w (bO Tryz.func80 (by decide) rfl) λ W hb=>?_).mono ?_
 ·obtain⟨k,pr,pc,nr,cr,nc,cc,b,o,b',o',rfl,rfl,e3,-,-,g0,g1,g2⟩:=ht.on hb
  exact EW _ _ _ _ _ _ _ _ _ _ _ _ _ e3 g0 g1 g2
 rintro e w' ⟨rfl,hb⟩
 refine⟨_,λ _=>[],rfl,hb,⟨trivial,_,[],rfl,Rd.none_ _ _ _,λ j e=>?_,rfl⟩,λ k b hb=>(by cases hb),λ k k' b hb=>(by cases hb)⟩
 cases e
 exact⟨rfl,[],⟨_,[],[],[],[],[],[],[],rfl,.inl ⟨none,rfl,rfl,rfl,rfl⟩,⟨rfl,rfl⟩,⟨rfl,rfl⟩,⟨rfl,rfl⟩,rfl⟩,by simp,λ b hb=>by cases hb⟩
theorem P6(d:Dl)(l:List Rl)(base:Int)(C:List Cr)(h:HH 79 [.fn (.func 80) .nil (.cons (.el (dlC d).ds) (.cons (.el (.row 3 65 (aO l) .nil .nil)) (.cons (.el (.lit (.int .i64 base) .nil)) .nil)))] (rM C)):HH 30 [dlL d,aP l,iA base] (rM C):=by
 refine ab Tryz.func30 Tryz.ntmps30 Tryz.results30 rfl (by decide) (by simp) rfl rfl ?_
 simp[dlL,aP]
 refine aE h ?_ ?_ ?_<;>simp[rM]
 ·exact⟨⟨_,_,⟨rfl,rfl⟩,rfl⟩,⟨_,_,⟨rfl,rfl⟩,rfl⟩,⟨_,_,⟨rfl,rfl⟩,rfl⟩⟩
 exact⟨[((0,0),[(9,0)])],by simp⟩
theorem zE(d:Dl)(l:List Rl)(base:Int)(ho:d.k≠3∨l.length≠d.c.length):HH 30 [dlL d,aP l,iA base] (rM []):=P6 d l base [] (T4 d l base ho)
theorem A0(d:Dl)(l:List Rl)(base:Int)(hc:d.c.length<=100000000)(hl:l.length<=100000000)(ho:d.k≠3∨l.length≠d.c.length):HH 97 [dlL d,aP l,iA base] (jP []):=by
 have d6:d.c.length*6 / 6=d.c.length:=by omega
 have d3:l.length*3 / 3=l.length:=by omega
 refine ab Tryz.func97 Tryz.ntmps97 Tryz.results97 rfl (by decide) (by simp) rfl rfl ?_
 by_cases hk:d.k=3
 ·have hne:¬l.length=d.c.length:=by omega
  have hnI:¬(l.length:Int)=d.c.length:=by omega
  simp[dlL,dlC,aP,hk,aN,d3,bL,d6,hne,hnI]
  exact⟨[],by simp[jP,dX]⟩
 ·simp[dlL,dlC,aP,hk]
  exact⟨[],by simp[jP,dX]⟩
theorem o_clams(t:Ts)(b:Tm)(hf:t.fits)(hs:t.size<=100000000)(hbf:b.fits)(hbs:b.size<=100000000):HH 88 [tmL b,tsA none t] (tmO (aK 5 t b)):=by
 refine ab Tryz.func88 Tryz.ntmps88 Tryz.results88 rfl (by decide) (by simp) rfl rfl ?_
 simp
 refine aE (o_lams t b hf hs hbf hbs) ?_ ?_ ?_<;>simp
 exact⟨[((0,0),[(8,0)]),((0,1),[(8,1)])],by simp⟩
theorem o_cpis(t:Ts)(b:Tm)(hf:t.fits)(hs:t.size<=100000000)(hbf:b.fits)(hbs:b.size<=100000000):HH 91 [tmL b,tsA none t] (tmO (aK 4 t b)):=by
 refine ab Tryz.func91 Tryz.ntmps91 Tryz.results91 rfl (by decide) (by simp) rfl rfl ?_
 simp
 refine aE (o_pis t b hf hs hbf hbs) ?_ ?_ ?_<;>simp
 exact⟨[((0,0),[(8,0)]),((0,1),[(8,1)])],by simp⟩
theorem C5(d:Dl)(l:List Rl)(base:Int)(more:Ts)(typ body:Tm)(hp:d.p.fits)(hps:d.p.size<=10000000)(hm:more.fits)(hms:more.size<=10000000)(ht:typ.fits)(hts:typ.size<=100000000)(hb:body.fits)(hbs:body.size<=100000000) :
  HH 94 [.agg (bkC d l base),tmL typ,tmL body,tsA none more] (crO (fH d more typ body)):=by
 have e0:gR [d.p,more]=d.p.app more:=by simp[gR,Ts.app_nil]
 have hl:=len_le_size d.p
 have hl2:=len_le_size more
 have q0:=k166 [d.p,more] (by simp) (by rw[e0,Ts.app_len];omega)
 rw[e0] at q0
 have hs:(d.p.app more).size<=100000000:=by rw[fO];omega
 have q1:=o_cpis (d.p.app more) typ (fS hp hm) hs ht hts
 have q2:=o_clams (d.p.app more) body (fS hp hm) hs hb hbs
 refine ab Tryz.func94 Tryz.ntmps94 Tryz.results94 rfl (by decide) (by simp) rfl rfl ?_
 simp[bkC,dlC]
 refine aE q0 ?_ ?_ ?_<;>simp[aZ]
 refine⟨by kernel_rfl,?_⟩
 refine aE q1 ?_ ?_ ?_<;>simp
 refine aE q2 ?_ ?_ ?_<;>simp
 exact⟨[((0,0),[(22,0)]),((0,1),[(22,1)]),((0,2),[(25,0)]),((0,3),[(25,1)])],by simp[crO,EV,fH]⟩
theorem JG(d:Dl)(l:List Rl)(base:Int)(h:SmallD d l):HH 80 [.el (dlC d).ds,.el (.row 3 65 (aO l) .nil .nil),.el (.lit (.int .i64 base) .nil)] (rM (jC d l base)):=by
 have hk:=h.k
 have hlv:=h.lv
 have hps:=h.ps
 have hsl:=h.sl
 have hml:=h.ml
 have hll:=h.ll
 have d6:d.c.length*6 / 6=d.c.length:=by omega
 have d3:l.length*3 / 3=l.length:=by omega
 have hlc:=h.lc
 have hb1:fW (IntKind.i64.wrap (base+1)):=pN _
 have q81:=k81 d l base (by omega)
 have q84:=k84 d.m (by omega) (λ t ht=>⟨(h.mf t ht).1,by have:=(h.mf t ht).2;omega⟩)
 have q86:=k86 l (by omega) (λ r hr=>⟨by have:=(h.rs r hr).len;omega,by have:=(h.rs r hr).sz;omega,(h.rs r hr).fit⟩)
 refine ab Tryz.func80 Tryz.ntmps80 Tryz.results80 rfl (by decide) (by simp) rfl rfl ?_
 generalize hB:IntKind.i64.wrap (base+1)=b1 at *
 simp[dlC,hk,aN,d3,bL,d6,hlc,aS]
 refine⟨by kernel_rfl,?_⟩
 refine aE q81 ?_ ?_ ?_<;>simp[bkC,dlC,hk,aS]
 refine aE (g57 d.m.length) ?_ ?_ ?_<;>simp[aN,d3]
 refine aE (g57 l.length) ?_ ?_ ?_<;>simp
 refine aE q84 ?_ ?_ ?_<;>simp[kC]
 ·exact⟨_,_,⟨rfl,rfl⟩,rfl⟩
 refine aE q86 ?_ ?_ ?_<;>simp[aP]
 ·exact⟨_,_,⟨rfl,rfl⟩,rfl⟩
 simp[aN,d3]
 refine lp (α:={ q:List Rl×List Rl // q.1++q.2=l }) (λ q=>DA d l base b1 q.1.1) (λ q=>q.1.2.length) ⟨([],l),rfl⟩ ?_ ?_
 ·refine aI [((70,0),[(70,0)])] ?_ ?_ ?_<;>simp[AV.ok,Dc.ok,plT,aP,bkC,dlC,bK,hk]
 ·rintro⟨⟨a,q⟩,hq⟩
  simp only at hq
  cases q with
  | nil =>
   have e:a=l:=by rw[<-hq];simp
   subst e
   have q90b:=k90 d a base 1 2 (vT 0) hlv (by omega) (bM (by decide)) (by decide)
   rw[hB] at q90b
   have q91:=k91 (atT d b1 2 (vT 0)).ts (bF d.s) (aW (h.atf 2 hb1 (bM (by decide)))) (by rw[bA];have:=h.ats b1 2 (x:=vT 0) rfl;omega) h.stf (by have:=h.sts;omega)
   change HH 91 _ (tmL (rN d b1)) at q91
   have q88b:=k88 (bK a.length).ts (rN d b1) (aW (bY (by omega))) (by rw[bA];have h3:(bK a.length).size=0:=rfl;omega) (h.codAf hb1) (by have:=h.codAs b1;omega)
   change HH 88 _ (tmL (sZ d a.length b1)) at q88b
   have q93:=k93 d base 0 hlv (by omega) (by omega)
   have q88c:=k88 (bK d.m.length).ts (bF d.s) (aW (bY (by omega))) (by rw[bA];have h3:(bK d.m.length).size=0:=rfl;omega) h.stf (by have:=h.sts;omega)
   change HH 88 _ (tmL (c1P d)) at q88c
   have q14a:=g14 (c1P d) (gQ d.m) (vT 0) h.c1Pf h.owf (bM (by decide)) (by have:=h.c1Ps;have:=h.ows;have h4:(vT 0).size=0:=rfl;omega) (by rw[kA];omega)
   change HH 14 _ (tmO (c1B d)) at q14a
   have q94a:=C5 d a base (bK d.m.length).ts (bF d.s) (c1B d) h.pf (by omega) (aW (bY (by omega))) (by rw[bA];have h3:(bK d.m.length).size=0:=rfl;omega) h.stf (by have:=h.sts;omega) h.c1Bf (by have:=h.c1Bs;omega)
   have q88d:=k88 (bK a.length).ts (bF d.s) (aW (bY (by omega))) (by rw[bA];have h3:(bK a.length).size=0:=rfl;omega) h.stf (by have:=h.sts;omega)
   change HH 88 _ (tmL (c2P d a)) at q88d
   have q14b:=g14 (c2P d a) (dZ a) (vT 0) h.c2Pf h.arf (bM (by decide)) (by have:=h.c2Ps;have:=h.ars;have h4:(vT 0).size=0:=rfl;omega) (by rw[iI];omega)
   change HH 14 _ (tmO (c2B d a)) at q14b
   have q94b:=C5 d a base (bK a.length).ts (bF d.s) (c2B d a) h.pf (by omega) (aW (bY (by omega))) (by rw[bA];have h3:(bK a.length).size=0:=rfl;omega) h.stf (by have:=h.sts;omega) h.c2Bf (by have:=h.c2Bs;omega)
   have q59a:=g59 14 (vT 0).ts (by decide) (aW (bM (by decide))) (by decide)
   change HH 59 _ (tmO v14) at q59a
   have q14c:=g14 (sZ d a.length b1) (plT d a.length b1 a 0) v14 (h.codf hb1 (by omega)) (h.plf hb1) uM (by have:=h.cods b1 a.length;have:=h.pls b1;have h4:v14.size=1:=rfl;omega) (by rw[kQ];omega)
   change HH 14 _ (tmO (c3C d a b1)) at q14c
   have q59b:=g59 15 (vT 0).ts (by decide) (aW (bM (by decide))) (by decide)
   change HH 59 _ (tmO v15) at q59b
   have q95:=k95 (c3C d a b1) v15.ts (h.c3Cf hb1) (by have:=h.c3Cs b1;omega) (aW uL) (by rw[bA];decide)
   change HH 95 _ (tmL (c3B d a b1)) at q95
   have q94c:=C5 d a base (cB d base 0).ts (bF d.s) (c3B d a b1) h.pf (by omega) (aW (h.shf base)) (by rw[bA];have:=h.shs base;omega) h.stf (by have:=h.sts;omega) (h.c3Bf hb1) (by have:=h.c3Bs b1;omega)
   have q90d:=k90 d a base 2 1 (vT 0) hlv (by omega) (bM (by decide)) (by decide)
   have q59c:=g59 16 (.cons (cB d base 0).h (cB d base 0).x (atT d (IntKind.i64.wrap (base+2)) 1 (vT 0)).ts) (by decide) (h.c4xf base) (by have:=h.c4xs base;omega)
   change HH 59 _ (tmO (c4B d base)) at q59c
   have q94d:=C5 d a base .nil (bF d.s) (c4B d base) h.pf (by omega) trivial (by simp[Ts.size]) h.stf (by have:=h.sts;omega) (h.c4Bf base) (by have:=h.c4Bs base;omega)
   simp only[jC,hB]
   generalize fH d (bK d.m.length).ts (bF d.s) (c1B d)=C1 at *
   generalize fH d (bK a.length).ts (bF d.s) (c2B d a)=C2 at *
   generalize fH d (cB d base 0).ts (bF d.s) (c3B d a b1)=C3 at *
   generalize fH d .nil (bF d.s) (c4B d base)=C4 at *
   generalize atT d (IntKind.i64.wrap (base+2)) 1 (vT 0)=A2 at *
   generalize atT d b1 2 (vT 0)=A1 at *
   generalize cB d base 0=SH at *
   generalize c1B d=B1 at *
   generalize c2B d a=B2 at *
   generalize c3B d a b1=B3 at *
   generalize c4B d base=B4 at *
   generalize c3C d a b1=C at *
   generalize c1P d=P1 at *
   generalize c2P d a=P2 at *
   generalize sZ d a.length b1=CT at *
   generalize rN d b1=CA at *
   generalize v14=V14 at *
   generalize v15=V15 at *
   simp only[DA]
   clear h q84 q86 q81
   generalize bF d.s=S at *
   generalize hM:bK d.m.length=M at *
   generalize hR:bK a.length=R at *
   generalize gQ d.m=OW at *
   generalize dZ a=AR at *
   generalize plT d a.length b1 a 0=PL at *
   simp[bkC,dlC,hk]
   refine⟨by kernel_rfl,?_⟩
   refine aE (g92 0) ?_ ?_ ?_<;>simp
   refine aE q90b ?_ ?_ ?_<;>simp[bkC,dlC,hk,vT]
   refine aE q91 ?_ ?_ ?_<;>simp
   refine aE q88b ?_ ?_ ?_<;>simp
   refine aE q93 ?_ ?_ ?_<;>simp[dlL,dlC,hk]
   refine⟨by kernel_rfl,?_⟩
   refine aE q88c ?_ ?_ ?_<;>simp
   refine aE (g92 0) ?_ ?_ ?_<;>simp
   refine aE q14a ?_ ?_ ?_<;>simp[vT]
   refine aE q94a ?_ ?_ ?_<;>simp[bkC,dlC,hk,crO,EV]
   refine aE q88d ?_ ?_ ?_<;>simp
   refine aE (g92 0) ?_ ?_ ?_<;>simp
   refine aE q14b ?_ ?_ ?_<;>simp[vT]
   refine aE q94b ?_ ?_ ?_<;>simp[bkC,dlC,hk,crO,EV]
   refine aE (g92 0) ?_ ?_ ?_<;>simp
   refine aE q59a ?_ ?_ ?_<;>simp[vT]
   refine aE q14c ?_ ?_ ?_<;>simp[Ds.app_nil]
   refine aE (g92 0) ?_ ?_ ?_<;>simp
   refine aE q59b ?_ ?_ ?_<;>simp[vT]
   refine aE q95 ?_ ?_ ?_<;>simp
   refine aE q94c ?_ ?_ ?_<;>simp[bkC,dlC,hk,crO,EV]
   refine aE (g92 0) ?_ ?_ ?_<;>simp
   refine aE q90d ?_ ?_ ?_<;>simp[bkC,dlC,hk,vT]
   refine aE q59c ?_ ?_ ?_<;>simp
   refine aE q94d ?_ ?_ ?_<;>simp[bkC,dlC,hk,crO,EV]
   exact⟨[((0,0),[(133,0),(95,0),(95,1),(95,2),(95,3),(107,0),(107,1),(107,2),(107,3),(123,0),(123,1),(123,2),(123,3),(132,0),(132,1),(132,2),(132,3)])],by simp[rM,dX]⟩
  | cons t q =>
   have h1:a.length<l.length:=by rw[<-hq];simp
   have h2:=rJ hq
   have ht:t∈l:=by rw[<-hq];simp
   have hw:IntKind.i64.wrap ((a.length:Int)+1)=a.length+1:=by rw[IntKind.wrap_i64];omega
   have e1:plT d l.length b1 (a++[t]) 0=(plT d l.length b1 a 0).app (.cons (gM d l.length b1 t a.length).h (gM d l.length b1 t a.length).x .nil):=by rw[uC,Nat.zero_add];rfl
   have q89:=k89 d l base t (h.rs t ht) hsl h.sf
   have q90:=k90 d l base 1 1 (ctT a.length l.length) hlv (by omega) (kK (by omega) (by omega)) (by have h3:(ctT a.length l.length).size=0:=rfl;omega)
   rw[hB] at q90
   have q88:=k88 (atT d b1 1 (ctT a.length l.length)).ts (dJ d.s t) (aW (h.atf 1 hb1 (kK (by omega) (by omega)))) (by rw[bA];have:=h.ats b1 1 (x:=ctT a.length l.length) rfl;omega) (jJ (h.rs t ht) h.sf) (by have:=jI (h.rs t ht) hsl;have:=(h.rs t ht).sz;omega)
   change HH 88 _ (tmL (gM d l.length b1 t a.length)) at q88
   simp only[DA]
   generalize gM d l.length b1 t a.length=P at *
   generalize atT d b1 1 (ctT a.length l.length)=A at *
   generalize dJ d.s t=Q at *
   simp[aP,h1,h2,aO,bkC,dlC,hk]
   refine⟨by rw[aN];omega,by kernel_rfl,?_⟩
   refine aE q89 ?_ ?_ ?_<;>simp[bkC,dlC,hk,rlL,rlC,aN,d3]
   refine aE (g58 a.length l.length) ?_ ?_ ?_<;>simp
   refine aE q90 ?_ ?_ ?_<;>simp[bkC,dlC,hk,ctT]
   refine aE q88 ?_ ?_ ?_<;>simp
   refine⟨by rw[aF,kQ];omega,a++[t],q,by simp,by rw[List.append_assoc];exact hq,?_⟩
   refine aI [((70,0),[(70,0)])] ?_ ?_ ?_<;>simp[AV.ok,Dc.ok,hw,e1]
   rw[bC];rfl
theorem o_codes(d:Dl)(l:List Rl)(base:Int)(h:SmallD d l):HH 30 [dlL d,aP l,iA base] (rM (jC d l base)) :=
 P6 d l base _ (S8 rfl rfl rfl (JG d l base h))
structure SmallG (d:Dl) (l:List Rl):Prop where
 lv:d.lv<=500
 pf:d.p.fits
 sf:lC d.s
 mf:∀t∈d.m,t.fits
 rf:∀r∈l,dW r.g/\r.i.fits
 z:d.p.size+d.s.length+iC d.m+gT d.c<=500
 lz:fY l<=500
theorem SmallG.toD{d:Dl}{l:List Rl}(h:SmallG d l)(hk:d.k=3)(hl:l.length=d.c.length):SmallD d l:=by
 have hz:=h.z
 have hlz:=h.lz
 have h1:=jV d.m
 have h2:=nI l
 refine⟨hk,by have:=h.lv;omega,h.pf,by omega,by omega,h.sf,by omega,λ t ht=>⟨h.mf t ht,?_⟩,by omega,by omega,by omega,hl,λ r hr=>?_⟩
 ·obtain⟨k,hk,rfl⟩:=List.getElem_of_mem ht
  have:=oS hk
  omega
 ·obtain⟨k,hk,rfl⟩:=List.getElem_of_mem hr
  have h3:=oR hk
  have h4:=nJ l[k].g
  obtain⟨f1,f2⟩:=h.rf _ hr
  exact⟨by omega,by omega,by omega,f1,f2⟩
theorem BD(d:Dl)(l:List Rl)(base far:Int)(C:List Cr)(h:SmallG d l)(hb:fW base)(hC:C.length<=100000000)(q30:HH 30 [dlL d,aP l,iA base] (jP C))(q97:HH 97 [dlL d,aP l,iA base] (jP C)):HH 31 [dlL d,aP l,iA base,iA far] (.v (.bool true)):=by
 have hlv:=h.lv
 have hz:=h.z
 have hml:=jV d.m
 have hcl:=jW d.c
 have q96:=k96 C hC
 have q98:=k98 d base far (by omega) (by omega) hb
 have q99:=k99 d base far (by omega) (by omega) hb
 have q100:=k100 d base far (by omega) (by omega) hb (by omega)
 have q101:=k101 d base far (by omega) (by omega) hb
 have q93:=k93 d base far (by omega) (by omega) (by omega)
 have q102:=k102 d base far (by omega) (by omega) (by omega)
 generalize gX d base far=T1 at *
 generalize sT d base far=T2 at *
 generalize cB d base far=T3 at *
 refine ab Tryz.func31 Tryz.ntmps31 Tryz.results31 rfl (by decide) (by simp) rfl rfl ?_
 simp[dlL,dlC,aP]
 refine⟨by kernel_rfl,?_⟩
 refine aE q30 ?_ ?_ ?_<;>simp[dlL,dlC,aP,jP]
 refine aE q97 ?_ ?_ ?_<;>simp[dlL,dlC,aP,jP]
 refine aE q96 ?_ ?_ ?_<;>simp[jP]
 refine aE q98 ?_ ?_ ?_<;>simp[dlL,dlC]
 refine aE q99 ?_ ?_ ?_<;>simp[dlL,dlC]
 refine aE (k16 T1) ?_ ?_ ?_<;>simp
 refine aE q100 ?_ ?_ ?_<;>simp[dlL,dlC]
 refine aE q101 ?_ ?_ ?_<;>simp[dlL,dlC]
 refine aE (k16 T2) ?_ ?_ ?_<;>simp
 refine aE q93 ?_ ?_ ?_<;>simp[dlL,dlC]
 refine aE q102 ?_ ?_ ?_<;>simp[dlL,dlC]
 refine aE (k16 T3) ?_ ?_ ?_<;>simp
 exact⟨[],by simp⟩
theorem J3(d:Dl)(l:List Rl)(base far:Int)(h:SmallG d l)(hb:fW base):HH 31 [dlL d,aP l,iA base,iA far] (.v (.bool true)):=by
 by_cases ho:d.k=3/\l.length=d.c.length
 ·have hD:=h.toD ho.1 ho.2
  exact BD d l base far (jC d l base) h hb (by show 4<=100000000;decide) (k30 d l base hD) (k97 d l base hD)
 ·have ho':d.k≠3∨l.length≠d.c.length:=by
   by_cases hk:d.k=3
   ·exact .inr λ e=>ho ⟨hk,e⟩
   ·exact .inl hk
  have h1:=jW d.c
  have h2:=nI l
  have h3:=h.z
  have h4:=h.lz
  exact BD d l base far [] h hb (by simp) (zE d l base ho').frz (A0 d l base (by omega) (by omega) ho')
theorem EX(d:Dl)(l:List Rl)(base:Int)(h:SmallG d l):∃C:List Cr,HH 30 [dlL d,aP l,iA base] (rM C)/\(C.map λ c=>c.t.size+c.b.size+2).sum<=20000000:=by
 by_cases ho:d.k=3/\l.length=d.c.length
 ·have hD:=h.toD ho.1 ho.2
  refine⟨_,o_codes d l base hD,?_⟩
  have h1:=hD.c1Bs
  have h2:=hD.c2Bs
  have h3:=hD.c3Bs (IntKind.i64.wrap (base+1))
  have h4:=hD.c4Bs base
  have hs:=hD.sts
  have hh:=hD.shs base
  have hp:=hD.ps
  have mz:∀(more:Ts) (typ body:Tm),(fH d more typ body).t.size+(fH d more typ body).b.size<=4*(d.p.size+more.size)+typ.size+body.size:=λ more typ body=>by
   have e1:=dN 4 (d.p.app more) typ
   have e2:=dN 5 (d.p.app more) body
   rw[fO] at e1 e2
   show (aK 4 _ typ).size+(aK 5 _ body).size<=_
   omega
  have m1:=mz (bK d.m.length).ts (bF d.s) (c1B d)
  have m2:=mz (bK l.length).ts (bF d.s) (c2B d l)
  have m3:=mz (cB d base 0).ts (bF d.s) (c3B d l (IntKind.i64.wrap (base+1)))
  have m4:=mz .nil (bF d.s) (c4B d base)
  have f0:∀n:Int,(bK n).size=0:=λ n=>rfl
  have f1:Ts.size .nil=0:=rfl
  rw[bA,f0] at m1 m2
  rw[bA] at m3
  rw[f1] at m4
  simp only[jC,List.map_cons,List.map_nil,List.sum_cons,List.sum_nil]
  omega
 ·have ho':d.k≠3∨l.length≠d.c.length:=by
   by_cases hk:d.k=3
   ·exact .inr λ e=>ho ⟨hk,e⟩
   ·exact .inl hk
  exact⟨[],zE d l base ho',by simp⟩
end
section
open Go.RowKit
def QCC(q:List (Value×List VC)):List Value:=q.map (·.1)
def QCP(q:List (Value×List VC)):List Value:=q.flatMap λ x=>CsP x.2
def QCL(q:List (Value×List VC)):List Value:=q.flatMap λ x=>CsL x.2
def QCT(q:List (Value×List VC)):List Value:=q.flatMap λ x=>CsT x.2
def QCS(q:List (Value×List VC)):Nat:=(q.map λ x=>CsS x.2+1).sum
theorem A4(l:List (Value×List VC)):l.length<=QCS l/\(QCC l).length<=QCS l/\(QCP l).length<=QCS l/\(QCL l).length<=QCS l/\(QCT l).length<=QCS l:=by
 induction l with
 | nil=>exact⟨Nat.le_refl _,Nat.le_refl _,Nat.le_refl _,Nat.le_refl _,Nat.le_refl _⟩
 | cons a l ih =>
  have:=G7 a.2
  simp only[QCC,QCP,QCL,QCT,QCS,List.flatMap_cons,List.map_cons,List.sum_cons,List.length_append,List.length_cons] at ih ⊢
  omega
def f0':Nat->List Value:=λ _=>[]
def fq(q:List (Value×List VC)):Nat->List Value:=dC (mY f0' (QCC q)) (QCP q) (QCL q) (QCT q)
theorem fq7(q:List (Value×List VC)):fq q 7=QCP q:=by simp[fq,dC,mY,f0']
theorem fq8(q:List (Value×List VC)):fq q 8=QCL q:=by simp[fq,dC,mY,f0']
theorem fq9(q:List (Value×List VC)):fq q 9=QCT q:=by simp[fq,dC,mY,f0']
theorem fq15(q:List (Value×List VC)):fq q 15=QCC q:=by simp[fq,dC,mY,f0']
theorem fq_nil:fq []=f0':=by
 funext j
 simp[fq,dC,mY,f0',QCC,QCP,QCL,QCT]
theorem xE(qs:List (Value×List VC))(ql:Option Addr)(cl N:Nat)(BP BL BT BC:List Nat)(w:World)(hcl:qs.length<=cl)(hcm:cl<=maxLen)(hc:0<qs.length->∃b o,ql=some ⟨b,o,none⟩/\b<w.heap.size/\∀i q,qs[i]? = some q->U w b (o+i)=some q.1)
  (hk:∀q∈qs,FO w.heap.size q.1 q.2.length λ b o=>GCs (U w) w.heap.size q.2 b o) (hP:Ows w 0 2 77 N (QCP qs) BP) (hL:Ows w 0 1 43 N (QCL qs) BL) (hT:Ows w 0 5 26 N (QCT qs) BT) (hC:Ows w 0 12 89 N (QCC qs) BC) (hn:(BP++(BL++(BT++BC))).Nodup) (hN:N<=1000000000) (hs:QCS qs<=400000000) :
  Calls Tryz.prog 34 #[.slice ql qs.length cl] w λ e w'=>e=.returned (.bool true)/\Tb (λ b=>b∈BP++(BL++(BT++BC))) w w':=by
 unfold maxLen at hcm
 obtain⟨n,hq⟩:∃n,qs.length=n:=⟨_,rfl⟩
 have HQ:=hid hq
 rw[hq] at hcl hc ⊢
 have hn0:n<=400000000:=by have:=(A4 qs).1;omega
 obtain⟨zs,hzs⟩:∃zs:Array Value,zs=#[.slice none 0 0,.slice none 0 0,.slice none 0 0,.slice none 0 0,.slice none 0 0,.slice none 0 0,.slice none 0 0,.slice none 0 0,.slice none 0 0,.slice none 0 0,.slice none 0 0,.slice none 0 0,.slice none 0 0,.slice none 0 0,.slice none 0 0,.slice none 0 0,.slice none 0 0]:=⟨_,rfl⟩
 have hg:=heap_alloc_new w (.cells zs 114)
 have hb0:=aB w (.cells zs 114)
 obtain⟨wb,hwb⟩:∃wb,w.alloc (.cells zs 114)=wb:=⟨_,rfl⟩
 obtain⟨β,hβ⟩:∃β,w.heap.size=β:=⟨_,rfl⟩
 rw[hwb] at hg hb0
 have HBAG:Hid (BagAt wb β w.heap.size f0'):=hid ⟨by omega,_,by rw[<-hβ];exact hg,by rw[hzs];rfl,λ i hi=>by
  refine⟨.slice none 0 0,?_,λ _=>rfl,rfl,.inl ⟨rfl,rfl⟩⟩
  rw[hzs]
  match i,hi with
  | 0,_ | 1,_ | 2,_ | 3,_ | 4,_ | 5,_ | 6,_ | 7,_ | 8,_ | 9,_ | 10,_ | 11,_ | 12,_ | 13,_ | 14,_ | 15,_ | 16,_=>rfl
  | k+17,h=>exact absurd h (by omega)⟩
 subst hzs
 have HB0:=hid hb0
 have HC:=hid hc
 have HK:=hid hk
 have HP:=hid hP
 have HL:=hid hL
 have HT:=hid hT
 have HCC:=hid hC
 clear hg hb0 hc hk hP hL hT hC hq
 go_enter Tryz.func34,Tryz.ntmps34
 go_wp2_with fail
 clear hwb
 go_loopw [4] (λ i wr=>∃q1 q2:List (Value×List VC),q1++q2=qs/\i=.int .i64 q1.length/\BagAt wr β w.heap.size (fq q1)/\Below w.heap.size w wr) (λ i _=>n-(intOf i).toNat)
 case atStart=>exact⟨[],qs,rfl,rfl,by rw[fq_nil];exact HBAG.out,HB0.out⟩
 case round =>
  clear HBAG
  obtain⟨q1,q2,hqq,rfl,hG,hB⟩:=hrel
  obtain⟨j,hj⟩:∃j,q1.length=j:=⟨_,rfl⟩
  rw[hj]
  have hlen2:q1.length+q2.length=n:=by rw[<-List.length_append,hqq];exact HQ.out
  cases q2 with
  | nil =>
   obtain rfl:j=n:=by rw[<-hj];simpa using hlen2
   have r1:decide ((j:Int)<(j:Int))=false:=decide_eq_false (by omega)
   rw[List.append_nil] at hqq
   rw[hqq] at hG
   have hl:=A4 qs
   have hty:∀ {sz e:Nat} {vs:List Value} {Bs:List Nat},Ows w 0 sz e N vs Bs->Ows wr 0 sz e N vs Bs:=λ h=>h.kept λ b hm=>hB.block b (by obtain⟨-,cur,q⟩:=h.typed b hm;exact aV q)
   obtain⟨n1,n2,n3⟩:=List.nodup_append.1 hn
   obtain⟨n4,n5,n6⟩:=List.nodup_append.1 n2
   obtain⟨n7,n8,n9⟩:=List.nodup_append.1 n5
   have HA:=hid (AC β w.heap.size N (fq qs) BP BL BT BC wr hG (λ i h7 h8 h9 h15=>by simp[fq,dC,mY,h7,h8,h9,h15,f0']) hN (by rw[fq7];exact hty HP.out) (by rw[fq8];exact hty HL.out) (by rw[fq9];exact hty HT.out) (by rw[fq15];exact hty HCC.out)
    n1 n4 n7 n8 (by rw[fq7];omega) (by rw[fq8];omega) (by rw[fq9];omega) (by rw[fq15];omega))
   have HB:=hid hB
   clear hG hB hqq hlen2 hj hl hty n1 n2 n3 n4 n5 n6 n7 n8 n9
   go_wp2_with fail
   refine HA.out.mono ?_
   rintro e w3 ⟨rfl,h1⟩
   have H1:=hid ((Tb.of_below HB.out).trans h1)
   clear h1 HA
   go_wp2_with fail
   go_ret
   exact⟨rfl,H1.out⟩
  | cons a r =>
   have hlt:j<n:=by rw[<-hj];simp at hlen2;omega
   have r1:decide ((j:Int)<(n:Int))=true:=decide_eq_true (by omega)
   obtain⟨b,o,rfl,hbw,hcs⟩:=HC.out (by omega)
   have ha:qs[j]? = some a:=by rw[<-hqq,List.getElem?_append_right (by omega)];simp[hj]
   have hu:=aD hB _ _ _ hbw (hcs j a ha)
   have hgk:=HK.out a (List.mem_of_getElem? ha)
   obtain⟨p,c,hp,-⟩:=id hgk
   obtain⟨v,x⟩:=a
   obtain rfl:v=.slice p x.length c:=hp
   have hl1:=A4 q1
   have hsz:QCS q1+(CsS x+1)<=400000000:=by
    have:QCS qs=QCS q1+(CsS x+1+QCS r):=by rw[<-hqq];simp[QCS]
    omega
   have HO:=hid (A8 β w.heap.size (U w) (fq q1) _ x wr hG (λ b o u hl hu=>aD hB b o u hl hu) hB.size hgk (by rw[fq15];omega) (by rw[fq7];omega) (by rw[fq8];omega) (by rw[fq9];omega))
   have e0:dC (mY (fq q1) [.slice p x.length c]) (CsP x) (CsL x) (CsT x)=fq (q1++[(.slice p x.length c,x)]):=by
    unfold fq
    rw[EN,EO]
    simp[QCC,QCP,QCL,QCT]
   rw[e0] at HO
   have hx2:(q1++[(Value.slice p x.length c,x)])++r=qs:=by rw[List.append_assoc];exact hqq
   have hj1:(q1++[(Value.slice p x.length c,x)]).length=j+1:=by simp[hj]
   have HX2:=hid hx2
   have HJ1:=hid hj1
   have HBB:=hid hB
   have hcu:=aC hu
   obtain⟨z,hz⟩:∃z,q1++[(Value.slice p x.length c,x)]=z:=⟨_,rfl⟩
   obtain⟨m,hm⟩:∃m,x.length=m:=⟨_,rfl⟩
   rw[hz] at HO HX2 HJ1
   rw[hm] at HO hcu
   clear e0 hx2 hj1 hB hu hgk hl1 hsz hG hqq hlen2 hcs ha hbw hj hz hm
   go_wp2_with fail
   refine HO.out.mono ?_
   rintro e w3 ⟨rfl,h1,h2⟩
   have H1:=hid h1
   have H2:=hid (HBB.out.trans h2.below)
   clear h1 h2 HO HBB hcu
   go_wp2_with fail
   go_roundw
   case rel=>exact⟨z,r,HX2.out,by rw[HJ1.out];go_num,H1.out,H2.out⟩
   case measure=>simp[intOf];omega
theorem BH{w:World}{base:Nat}{h:Hd}{x:Ts}{xs:List Value}{S:List Nat}(hO:Own w base (tDs ty (.cons h x .nil)) xs S):∃(us:List Value) (vl vk:Value) (X:VT),xs=[.int .i64 h.k,.int .i64 h.n,.int .i64 h.a,vl,vk]/\GL (U w) w.heap.size vl us/\GK (U w) w.heap.size vk X/\us.length+X.size+2<=2*(aH h.l+x.size+1) /\
  ∃BP BL BT,Ows w base 2 77 (aH h.l+x.size+1) (us++X.P) BP/\Ows w base 1 43 (aH h.l+x.size+1) (vl :: X.L) BL/\Ows w base 5 26 (aH h.l+x.size+1) (vk :: X.T) BT/\(BP++(BL++BT)).Perm S:=by
 obtain⟨_,rfl,_,rfl,_,rfl,vl,_,ls,sp,Bl,S1,S2,S3,rfl,h1,h2,h3,⟨vk,ys,ks,sp2,Bk,T1,T2,T3,rfl,k1,k2,k3,k4,rfl⟩,rfl⟩:=hO
 obtain⟨rfl,rfl⟩:=h3
 obtain⟨rfl,rfl⟩:=k3
 obtain⟨rfl,rfl⟩:=k4
 obtain⟨hl1,hl2⟩:=vJ h2
 obtain⟨X,hx1,hx2,hx3,XP,XL,XT,hx4,hx5,hx6,hx7⟩:=DI k2
 have hls:ls.length=h.l.length:=by have:=h2.len;rw[eI] at this;exact this
 have hll:h.l.length<=aH h.l:=by
  have:∀l:List Lv,l.length<=aH l:=by
   intro l
   induction l with
   | nil=>simp
   | cons a r ih=>simp only[List.length_cons,aH];omega
  exact this _
 have hs1:x.len<=x.size:=len_le_size x
 rw[List.append_nil] at h1 k1
 have h1':RowO w base 1 43 vl (ls.length*1) ls Bl:=by
  rw[eI,<-hls] at h1
  rw[Nat.mul_one];exact h1
 have k1':RowO w base 5 26 vk (X.len*5) ks Bk:=by
  rw[aF,<-hx1] at k1;exact k1
 refine⟨ls,vl,vk,X,rfl,?_,?_,by omega,S1++XP,Bl++XL,Bk++XT,?_,?_,?_,?_⟩
 ·obtain⟨p,c,rfl,q1,q2,q3⟩:=h1'.rowV (by decide)
  refine⟨p,c,rfl,q1,q2,λ h0=>?_⟩
  obtain⟨b',rfl,q4,q5⟩:=q3 h0
  exact⟨b',0,rfl,q4,λ i u hu=>⟨q5 i u hu,hl2 u (List.mem_of_getElem? hu)⟩⟩
 ·obtain⟨p,c,rfl,q1,q2,q3⟩:=k1'.rowV (by decide)
  refine⟨p,c,rfl,q1,q2,λ h0=>?_⟩
  obtain⟨b',rfl,q4,q5⟩:=q3 h0
  exact⟨b',0,rfl,q4,hx3 b' 0 q5⟩
 ·exact (hx4.mono (by omega)).app (hl1.mono (by omega))
 ·exact⟨Bl,XL,⟨_,_,h1',by rw[hls];exact Nat.mul_le_mul_right _ (by omega)⟩,hx5.mono (by omega),rfl⟩
 ·exact⟨Bk,XT,⟨_,_,k1',by rw[hx1];exact Nat.mul_le_mul_right _ (by omega)⟩,hx6.mono (by omega),rfl⟩
 ·refine List.perm_iff_count.2 λ a=>?_
  have e1:=List.perm_iff_count.1 hx7 a
  simp only[List.count_append,List.count_nil] at e1 ⊢
  omega
theorem Y8(l:List Cr):(dX l).len=l.length*12:=by
 induction l with
 | nil=>rfl
 | cons a r ih=>simp[dX,Ds.len,ih];omega
def tW(l:List Cr):Nat:=(l.map λ c=>c.t.size+c.b.size+2).sum
theorem DK{w:World}{base:Nat}{l:List Cr}:∀ {xs:List Value} {S:List Nat},Own w base (dX l) xs S->∃V:List VC,V.length=l.length/\CsS V<=2*tW l /\
  (∀b o,(∀j u,xs[j]? = some u->U w b (o+j)=some u)->GCs (U w) w.heap.size V b o) /\
  ∃BP BL BT,Ows w base 2 77 (tW l) (CsP V) BP/\Ows w base 1 43 (tW l) (CsL V) BL/\Ows w base 5 26 (tW l) (CsT V) BT/\(BP++(BL++BT)).Perm S:=by
 induction l with
 | nil=>rintro xs S ⟨rfl,rfl⟩;exact⟨[],rfl,Nat.zero_le _,λ _ _ _ i c hc=>by simp at hc,[],[],[],rfl,rfl,rfl,List.Perm.refl _⟩
 | cons c r ih =>
  rintro xs S ⟨_,rfl,_,rfl,_,rfl,_,rfl,v1,_,ls1,sp1,B1,S11,S12,S13,rfl,a1,a2,a3,⟨v2,_,ks1,sp2,B2,S21,S22,S23,rfl,b1,b2,b3,⟨_,rfl,_,rfl,_,rfl,_,rfl,v3,_,ls3,sp3,B3,S31,S32,S33,rfl,c1,c2,c3,⟨v4,ys,ks4,sp4,B4,S41,S42,S43,rfl,d1,d2,d3,hr,rfl⟩,rfl⟩,rfl⟩,rfl⟩
  obtain⟨us,vl,vk,X,e1,e2,e3,e4,AP,AL,AT,e5,e6,e7,e8⟩:=BH (w:=w) (base:=base) (h:=c.t.h) (x:=c.t.x) (xs:=[.int .i64 c.t.h.k,.int .i64 c.t.h.n,.int .i64 c.t.h.a,v1,v2]) (S:=B1++(S11++(S12++(B2++(S21++(S22++[]))))))
   ⟨_,rfl,_,rfl,_,rfl,v1,_,ls1,sp1,B1,S11,S12,_,rfl,a1,a2,a3,⟨v2,[],ks1,sp2,B2,S21,S22,[],rfl,b1,b2,b3,⟨rfl,rfl⟩,rfl⟩,rfl⟩
  obtain⟨us',vl',vk',X',f1,f2,f3,f4,DP,DL,DT,f5,f6,f7,f8⟩:=BH (w:=w) (base:=base) (h:=c.b.h) (x:=c.b.x) (xs:=[.int .i64 c.b.h.k,.int .i64 c.b.h.n,.int .i64 c.b.h.a,v3,v4]) (S:=B3++(S31++(S32++(B4++(S41++(S42++[]))))))
   ⟨_,rfl,_,rfl,_,rfl,v3,_,ls3,sp3,B3,S31,S32,_,rfl,c1,c2,c3,⟨v4,[],ks4,sp4,B4,S41,S42,[],rfl,d1,d2,d3,⟨rfl,rfl⟩,rfl⟩,rfl⟩
  simp only[List.cons.injEq,and_true,true_and] at e1 f1
  obtain⟨rfl,rfl⟩:=e1
  obtain⟨rfl,rfl⟩:=f1
  obtain⟨V,g1,g2,g3,RP,RL,RT,g4,g5,g6,g7⟩:=ih hr
  have z0:tW (c :: r)=(c.t.size+c.b.size+2)+tW r:=by simp[tW]
  have z1:c.t.size=aH c.t.h.l+c.t.x.size:=rfl
  have z2:c.b.size=aH c.b.h.l+c.b.x.size:=rfl
  refine⟨⟨us,v1,v2,X,us',v3,v4,X'⟩ :: V,by simp[g1],?_,λ b o hc i q hq=>?_,(AP++DP)++RP,(AL++DL)++RL,(AT++DT)++RT,?_,?_,?_,?_⟩
  ·simp only[CsS,VC.size,List.map_cons,List.sum_cons] at g2 ⊢
   omega
  ·cases i with
   | zero =>
    simp at hq;subst hq
    rw[Nat.zero_mul,Nat.add_zero]
    exact⟨⟨_,_,_,_,by simpa using hc 0 _ rfl,hc 1 _ rfl,hc 2 _ rfl,hc 3 _ rfl⟩,hc 4 _ rfl,hc 5 _ rfl,⟨_,_,_,_,hc 6 _ rfl,hc 7 _ rfl,hc 8 _ rfl,hc 9 _ rfl⟩,hc 10 _ rfl,hc 11 _ rfl,e2,e3,f2,f3⟩
   | succ i =>
    have:=g3 b (o+12) (λ j u hu=>by
     have:=hc (j+12) u (by simpa using hu)
     rw[show o+12+j=o+(j+12) by omega];exact this) i q (by simpa using hq)
    rw[show o+(i+1)*12=o+12+i*12 by omega];exact this
  ·have:CsP (⟨us,v1,v2,X,us',v3,v4,X'⟩ :: V)=((us++X.P)++(us'++X'.P))++CsP V:=rfl
   rw[this]
   exact (g4.mono (by omega)).app ((f5.mono (by omega)).app (e5.mono (by omega)))
  ·have:CsL (⟨us,v1,v2,X,us',v3,v4,X'⟩ :: V)=((v1 :: X.L)++(v3 :: X'.L))++CsL V:=rfl
   rw[this]
   exact (g5.mono (by omega)).app ((f6.mono (by omega)).app (e6.mono (by omega)))
  ·have:CsT (⟨us,v1,v2,X,us',v3,v4,X'⟩ :: V)=((v2 :: X.T)++(v4 :: X'.T))++CsT V:=rfl
   rw[this]
   exact (g6.mono (by omega)).app ((f7.mono (by omega)).app (e7.mono (by omega)))
  ·refine List.perm_iff_count.2 λ a=>?_
   have p1:=List.perm_iff_count.1 e8 a
   have p2:=List.perm_iff_count.1 f8 a
   have p3:=List.perm_iff_count.1 g7 a
   simp only[List.count_append,List.count_nil] at p1 p2 p3 ⊢
   omega
def wU:List (List Cr)->Ds
 | []=>.nil
 | l :: r=>.row 12 89 (dX l) .nil (wU r)
def kP(l:List (List Cr)):Nat:=(l.map λ t=>tW t+1).sum
theorem Y7(l:List Cr):l.length<=tW l:=by
 induction l with
 | nil=>exact Nat.le_refl _
 | cons a r ih=>simp only[tW,List.map_cons,List.sum_cons,List.length_cons] at *;omega
theorem JB{w:World}{base:Nat}{ls:List (List Cr)}:∀ {vs:List Value} {S:List Nat},Own w base (wU ls) vs S->∃qs:List (Value×List VC),qs.map (·.1)=vs/\(∀q∈qs,FO w.heap.size q.1 q.2.length λ b o=>GCs (U w) w.heap.size q.2 b o)/\QCS qs<=2*kP ls /\
  ∃BP BL BT BC,Ows w base 2 77 (kP ls) (QCP qs) BP/\Ows w base 1 43 (kP ls) (QCL qs) BL/\Ows w base 5 26 (kP ls) (QCT qs) BT/\Ows w base 12 89 (kP ls) (QCC qs) BC/\(BP++(BL++(BT++BC))).Perm S:=by
 induction ls with
 | nil=>rintro vs S ⟨rfl,rfl⟩;exact⟨[],rfl,(λ q hq=>by cases hq),Nat.zero_le _,[],[],[],[],rfl,rfl,rfl,rfl,List.Perm.refl _⟩
 | cons l r ih =>
  rintro vs S ⟨v,ys,zs,us,B,S1,S2,S3,rfl,h1,h2,h3,h4,rfl⟩
  obtain⟨rfl,rfl⟩:=h3
  obtain⟨V,v1,v2,v3,AP,AL,AT,v4,v5,v6,v7⟩:=DK h2
  obtain⟨qs,q1,q2,q3,CP,CL,CT,CC,q4,q5,q6,q7,q8⟩:=ih h4
  have z0:kP (l :: r)=tW l+1+kP r:=by simp[kP]
  have z1:=Y7 l
  rw[List.append_nil] at h1
  have h1':RowO w base 12 89 v (V.length*12) zs B:=by
   rw[Y8,<-v1] at h1;exact h1
  refine⟨(v,V) :: qs,by simp[q1],λ q hq=>?_,?_,AP++CP,AL++CL,AT++CT,B++CC,(q4.mono (by omega)).app (v4.mono (by omega)),(q5.mono (by omega)).app (v5.mono (by omega)),(q6.mono (by omega)).app (v6.mono (by omega)),⟨B,CC,⟨_,_,h1',by rw[v1];exact Nat.mul_le_mul_right _ (by omega)⟩,q7.mono (by omega),rfl⟩,?_⟩
  ·rcases List.mem_cons.1 hq with rfl|hq
   ·obtain⟨p,c,rfl,k1,k2,k3⟩:=h1'.rowV (by decide)
    refine⟨p,c,rfl,k1,k2,λ h0=>?_⟩
    obtain⟨b',rfl,k4,k5⟩:=k3 h0
    exact⟨b',0,rfl,k4,v3 b' 0 k5⟩
   ·exact q2 q hq
  ·simp only[QCS,kP,List.map_cons,List.sum_cons] at q3 ⊢
   omega
  ·refine List.perm_iff_count.2 λ a=>?_
   have e1:=List.perm_iff_count.1 v7 a
   have e2:=List.perm_iff_count.1 q8 a
   simp only[List.count_append,List.count_nil] at e1 e2 ⊢
   omega
theorem xX(ls:List (List Cr))(vs:List Value)(S:List Nat)(base:Nat)(ql:Option Addr)(cl:Nat)(w:World)(hcl:vs.length<=cl)(hcm:cl<=maxLen)(hc:0<vs.length->∃b o,ql=some ⟨b,o,none⟩/\b<w.heap.size/\∀i v,vs[i]? = some v->U w b (o+i)=some v)
  (h:Own w base (wU ls) vs S) (hn:S.Nodup) (hs:kP ls<=100000000) :
  Calls Tryz.prog 34 #[.slice ql vs.length cl] w λ e w'=>e=.returned (.bool true)/\Tb (λ b=>b∈S) w w':=by
 obtain⟨qs,q1,q2,q3,BP,BL,BT,BC,q4,q5,q6,q7,q8⟩:=JB h
 have lw:∀ {sz e:Nat} {us:List Value} {Bs:List Nat},Ows w base sz e (kP ls) us Bs->Ows w 0 sz e (kP ls) us Bs:=by
  intro sz e us
  induction us with
  | nil=>intro Bs h;exact h
  | cons u us ih =>
   rintro Bs ⟨B,B',h1,h2,rfl⟩
   exact⟨B,B',h1.lower (Nat.zero_le _),ih h2,rfl⟩
 have hl:qs.length=vs.length:=by rw[<-q1,List.length_map]
 have:=xE qs ql cl (kP ls) BP BL BT BC w (by omega) hcm (λ h0=>by
  obtain⟨b,o,e,hb,hcs⟩:=hc (by omega)
  refine⟨b,o,e,hb,λ i q hq=>hcs i q.1 ?_⟩
  rw[<-q1,List.getElem?_map,hq];rfl) q2 (lw q4) (lw q5) (lw q6) (lw q7) (q8.nodup_iff.2 hn) (by omega) (by omega)
 rw[hl] at this
 refine this.mono λ e w' h=>⟨h.1,h.2.mono λ b _ hb=>q8.mem_iff.1 hb⟩
end
section
open Go.RowKit
attribute [local simp] ty_p ty_l ty_t kH tDs bN Tm.ts kI oI ac_skip ac_label ac_region ac_seq ac_cond ac_block ac_loop ac_exit ac_ret seqK_n seqK_r seqK_e vo_nil vo_cons blkK JP oN I8 gA gB lG ev gU fF St.out A7 kX upd dD sU K0 asC oH jO tY lF tD qU pV tb Dc.tk Dc.dp Dc.over Dc.app Dc.ln Dc.ds Dc.sing Dc.cont AV.cont Ds.hd Value.oneCell' DE pP C0 AV.imp Dc.imp φOf dY AV.isLL AV.list AV.app AV.arg AV.isL AV.ren Dc.ren Dc.lent tmC tmA tsA iA lo? abin AV.nth Dc.own Dc.toks bP rI Z6 τOf
attribute [local simp] AV.room R8 agC rH Ds.len Ds.dp
theorem jQ{P:Program}{ops:Array Oper}{rest:List Oper}{op:Oper}{a:Act}{w:World}{Q:Exit->Act->World->Prop}{ty:TypeId}{x:Operand}(ho:op.op=.load ty x)(hw:Region.wanted op (yielded ops a.tmps)=true){b o:Nat}(hx:a.eval x=.pointer (some ⟨b,o,none⟩)){cs:List Value}{d:TypeDesc}(hc:w.rangeAt b o cs)
  (hu:P.underlying ty=some d) (hd:d.isRow=true) (hi:(P.info? ty).map (·.size)=some cs.length) (h:wpList P ops Q rest (a.put op.dst (.agg cs.toArray)) w):wpList P ops Q (op :: rest) a w :=
 wpList_step λ K hK=>by rw[if_pos hw];exact wp_load_mid ty x ho b o hx cs d hc hu hd hi (hK _ _ h)
def fxL(l:List (Nat×Value)):Nat->Option Value:=λ t=>(l.find? λ p=>p.1 == t).map (·.2)
theorem BV{l:List (Nat×Value)}{t:Nat}{x:Value}(h:fxL l t=some x):(t,x)∈l:=by
 unfold fxL at h
 obtain⟨⟨a,b⟩,h1,rfl⟩:=Option.map_eq_some_iff.1 h
 have h2:=List.find?_some h1
 have h3:=List.mem_of_find?_eq_some h1
 have:a=t:=by simpa using h2
 subst this
 exact h3
theorem wT(d:Dl)(h:BigD d):0<=gC d/\gC d<=100000000000000:=by
 have h1:=pE d.t (Nat.le_trans h.t (by decide))
 have h2:=pE d.b (Nat.le_trans h.b (by decide))
 have h3:=pD (Nat.le_trans h.p (by decide))
 have h4:0<=lM d.s/\lM d.s<=501:=by unfold lM;omega
 have h5:=gY F9 d.m 0
 have h6:=gY G0 d.c 0
 have h7:=pH (B:=10000000000000) (by decide) d.m 0 (JK h.m) (by decide)
 have h8:=pH (B:=10000000000000) (by decide) d.c 0 (LG h.c) (by decide)
 unfold gC
 omega
theorem CK(l:List Rl)(h:fY l<=100000000):0<=eF fRr l 0/\eF fRr l 0<=100000000000000:=by
 have h7:=pH (B:=10000000000000) (by decide) l 0 (rr_mem h) (by decide)
 have h6:=gY Y6 l 0
 omega
theorem big4(d:Dl)(l:List Rl)(base far:Int)(h:BigD d)(hl:fY l<=100000000)(hb:500<gC d+eF fRr l 0∨500<d.lv):HH 4 [dlL d,aP l,iA base,iA far] (.v (.bool true)):=by
 have b1:=wT d h
 have b2:=CK l hl
 have q1:=CI d h
 have q2:=CH l (Nat.le_trans hl (by decide))
 generalize gC d=c1 at *
 generalize eF fRr l 0=c2 at *
 refine ab Tryz.func4 Tryz.ntmps4 Tryz.results4 rfl (by decide) (by simp) rfl rfl ?_
 have w1:IntKind.i64.wrap (c1+c2)=c1+c2:=by rw[IntKind.wrap_i64];omega
 by_cases hc:500<c1+c2
 ·simp[dlL,dlC,aP]
  refine aE q1 ?_ ?_ ?_<;>simp[dlL,dlC]
  refine aE q2 ?_ ?_ ?_<;>simp[dS,w1,hc]
  refine aE g9 ?_ ?_ ?_<;>simp
  exact⟨[],by simp⟩
 ·have hb':500<d.lv:=by omega
  simp[dlL,dlC,aP]
  refine aE q1 ?_ ?_ ?_<;>simp[dlL,dlC]
  refine aE q2 ?_ ?_ ?_<;>simp[dS,w1,hc,hb']
  refine aE g9 ?_ ?_ ?_<;>simp
  exact⟨[],by simp⟩
theorem box_els{g:Gh}(hI:Inv g){k T:Nat}{d:Dc}(h:g.st.bx k=some (T,d)):RepV (bE (U g.w) g.w) (.el d.ds) [.pointer (some ⟨g.B k,0,none⟩)]:=by
 obtain⟨xs,hb,hr⟩:=oU hI h
 have hlt:g.B k<g.w.heap.size:=aV hb
 refine⟨hr.good,g.B k,0,xs,rfl,hlt,hr.vs.mono (λ b o v _ hv=>hI.F b o v hv) (Nat.le_refl _),λ j u hu=>?_⟩
 show (if g.B k<g.w.heap.size then _ else _)=_
 rw[if_pos hlt,Nat.zero_add]
 exact hb.U j u (by simpa using hu)
theorem LF(d:Dl):(dlC d).ds.good:=⟨rfl,rfl,rfl,rfl,rfl,cT _,trivial,bQ _,trivial,rfl,rfl,rfl,cT _,trivial,bQ _,trivial,bQ _,trivial,fU _,trivial,nM _,trivial,sX _,trivial,trivial⟩
theorem CG{W:World}{d:Dl}{ys:List Value}(h:Vs (U W) W.heap.size (dlC d).ds ys):RepC (bE (U W) W) (dlC d) ys/\ys.length=16:=by
 obtain⟨_,rfl,_,rfl,_,rfl,_,rfl,_,rfl,v1,_,rfl,h1,v2,_,rfl,h2,_,rfl,_,rfl,_,rfl,v3,_,rfl,h3,v4,_,rfl,h4,v5,_,rfl,h5,v6,_,rfl,h6,v7,_,rfl,h7,v8,_,rfl,h8,rfl⟩:=h
 refine⟨⟨rfl,_,rfl,rfl,_,rfl,rfl,_,rfl,rfl,_,rfl,rfl,_,rfl,cT _,_,_,rfl,h1,Gh.Ow_none,bQ _,_,_,rfl,h2,Gh.Ow_none,rfl,_,rfl,rfl,_,rfl,rfl,_,rfl,cT _,_,_,rfl,h3,Gh.Ow_none,bQ _,_,_,rfl,h4,Gh.Ow_none,
  bQ _,_,_,rfl,h5,Gh.Ow_none,fU _,_,_,rfl,h6,Gh.Ow_none,nM _,_,_,rfl,h7,Gh.Ow_none,sX _,_,_,rfl,h8,Gh.Ow_none,rfl⟩,rfl⟩
theorem yV{g:Gh}(hI:Inv g){d:Dl}{ys:List Value}(hr:RepC g (jL d) ys):Vs (U g.w) g.w.heap.size (dlC d).ds ys:=by
 obtain⟨-,_,rfl,-,_,rfl,-,_,rfl,-,_,rfl,-,_,rfl,-,z1,u1,rfl,⟨v1,_,rfl,h1,rfl⟩,-,-,z2,u2,rfl,⟨v2,_,rfl,h2,rfl⟩,-,-,_,rfl,-,_,rfl,-,_,rfl,-,z3,u3,rfl,⟨v3,_,rfl,h3,rfl⟩,-,-,z4,u4,rfl,⟨v4,_,rfl,h4,rfl⟩,-,
  -,z5,u5,rfl,⟨v5,_,rfl,h5,rfl⟩,-,-,z6,u6,rfl,⟨v6,_,rfl,h6,rfl⟩,-,-,z7,u7,rfl,⟨v7,_,rfl,h7,rfl⟩,-,-,z8,u8,rfl,⟨v8,_,rfl,h8,rfl⟩,-,rfl⟩:=hr
 have r1:=(h1.mono (F':=U g.w) (λ b o v _ hv=>hI.F b o v hv) (Nat.le_refl _)).strip
 have r2:=(h2.mono (F':=U g.w) (λ b o v _ hv=>hI.F b o v hv) (Nat.le_refl _)).strip
 have r3:=(h3.mono (F':=U g.w) (λ b o v _ hv=>hI.F b o v hv) (Nat.le_refl _)).strip
 have r4:=(h4.mono (F':=U g.w) (λ b o v _ hv=>hI.F b o v hv) (Nat.le_refl _)).strip
 have r5:=(h5.mono (F':=U g.w) (λ b o v _ hv=>hI.F b o v hv) (Nat.le_refl _)).strip
 have r6:=(h6.mono (F':=U g.w) (λ b o v _ hv=>hI.F b o v hv) (Nat.le_refl _)).strip
 have r7:=(h7.mono (F':=U g.w) (λ b o v _ hv=>hI.F b o v hv) (Nat.le_refl _)).strip
 have r8:=(h8.mono (F':=U g.w) (λ b o v _ hv=>hI.F b o v hv) (Nat.le_refl _)).strip
 rw[cJ] at r1 r3
 rw[cU] at r2 r4 r5
 rw[mK] at r6
 rw[rE] at r7
 rw[rG] at r8
 exact⟨_,rfl,_,rfl,_,rfl,_,rfl,_,rfl,v1,_,rfl,r1,v2,_,rfl,r2,_,rfl,_,rfl,_,rfl,v3,_,rfl,r3,v4,_,rfl,r4,v5,_,rfl,r5,v6,_,rfl,r6,v7,_,rfl,r7,v8,_,rfl,r8,rfl⟩
theorem EQ{g:Gh}(hI:Inv g){k:Nat}{d:Dl}(h:g.st.bx k=some (47,jL d)):RepV (bE (U g.w) g.w) (.el (dlC d).ds) [.pointer (some ⟨g.B k,0,none⟩)]:=by
 obtain⟨xs,hb,hr⟩:=oU hI h
 have hlt:g.B k<g.w.heap.size:=aV hb
 refine⟨LF d,g.B k,0,_,rfl,hlt,yV hI hr,λ j u hu=>?_⟩
 show (if g.B k<g.w.heap.size then _ else _)=_
 rw[if_pos hlt,Nat.zero_add]
 exact hb.U j u (by simpa using hu)
abbrev DTy:Nat:=47
def s1D(d:Dl)(r:List Rl)(base far:Int):St:=bP [(1,aP r),(2,iA base),(3,iA far),(4,.bx 5 0)] [(5,DTy,dlC d)] []
def s3D(d:Dl)(r l:List Rl)(base far:Int):St:=bP [(1,aP r),(2,iA base),(3,iA far),(4,.bx 5 0),(9,aP l)] [(5,DTy,dlC d)] []
def s4D(d:Dl)(r l:List Rl)(base far:Int):St:=bP [(1,aP r),(2,iA base),(3,iA far),(4,.bx 5 0),(9,aP l),(11,.bx 12 0),(12,lD r)] [(5,DTy,dlC d),(12,DTy,jL d)] []
def l5D(d:Dl)(r l:List Rl)(base far:Int):List (Nat×AV):=[(1,aP r),(2,iA base),(3,iA far),(4,.el (dlC d).ds),(9,aP l),(11,.el (dlC d).ds),(12,aP r)]
def s5D(d:Dl)(r l:List Rl)(base far:Int)(fx:Nat->Option Value):St:=stX (l5D d r l base far) [] [] fx
def l6D(d:Dl)(r l:List Rl)(base far:Int)(C:List Cr):List (Nat×AV):=l5D d r l base far++[(13,.c (.row (some (40,0)) 12 89 (dX C) .nil)),(14,.c (.row (some (44,0)) 12 89 (dX C) .nil))]
def s6D(d:Dl)(r l:List Rl)(base far:Int)(C:List Cr)(fx:Nat->Option Value):St:=stX (l6D d r l base far C) [] [(40,0),(44,0)] fx
noncomputable def kT(k:Nat):Code:=match Tryz.f4.body with
 | some c=>V0 k c
 | none=>.skip
theorem lawA(d:Dl)(r l:List Rl)(base far e0:Int){Q:Exit->Act->World->Prop}{F0:Mem}{w0:World}{a:Act}{w:World}(n1 n2:Int)(hc:n1+n2<=500)(b1:0<=n1/\n1<=100000000000000)(b2:0<=n2/\n2<=100000000000000)(hlv:d.lv<=500)
  (a1:HH 25 [dlL d,iA 500] (iA n1)) (a2:HH 26 [aP r,iA 500] (iA n2)) (q27:HH 27 [dlL d] (.tup (AV.list [aP l,iA e0])))
  (hs:Sat KA F0 w0 85 (gU [dlL d,aP r,iA base,iA far]) a w) (k:∀a' w',Sat KA F0 w0 85 (s3D d r l base far) a' w'->(kT 3).wp Tryz.prog Q a' w'):(kT 0).wp Tryz.prog Q a w:=by
 refine iG qA iD mixed (st':=s1D d r base far) hs ?_ (λ a0 w0 hs0=>?_)
 ·simp[toK,dlL,dlC,aP]
  refine aI [] ?_ ?_ ?_<;>simp[AV.ok,Dc.ok,dlC,aP]
 clear hs
 refine iG qA iD mixed (st':=s1D d r base far) hs0 ?_ (λ a1' w1 hs1=>?_)
 ·have w1:IntKind.i64.wrap (n1+n2)=n1+n2:=by rw[IntKind.wrap_i64];omega
  have hc':¬500<n1+n2:=by omega
  have hl':¬500<d.lv:=by omega
  simp[s1D,dlC,aP]
  refine aE a1 ?_ ?_ ?_<;>simp[dlL,dlC]
  refine aE a2 ?_ ?_ ?_<;>simp[aP,w1,hc',hl',hc,hlv,toK]
  refine aI [] ?_ ?_ ?_<;>simp[AV.ok,Dc.ok,dlC,aP]
 clear hs0 a1 a2 hc hlv b1 b2
 refine iG qA iD mixed (st':=s3D d r l base far) hs1 ?_ k
 simp[s1D,dlC,aP]
 refine aE q27 ?_ ?_ ?_<;>simp[dlL,dlC,aP,toK]
 refine aI [] ?_ ?_ ?_<;>simp[AV.ok,Dc.ok,dlC,aP]
theorem lawA2(d:Dl)(r l:List Rl)(base far:Int){Q:Exit->Act->World->Prop}{F0:Mem}{w0:World}{a:Act}{w:World}(q28:HH 28 [dlL d] (qE d))(q29:HH 29 [aP r] (lD r))
  (hs:Sat KA F0 w0 85 (s3D d r l base far) a w) (k:∀a' w',Sat KA F0 w0 85 (s4D d r l base far) a' w'->(kT 4).wp Tryz.prog Q a' w'):(kT 3).wp Tryz.prog Q a w:=by
 refine iG qA iD mixed (st':=s4D d r l base far) hs ?_ k
 simp[s3D,dlC,aP]
 refine aE q28 ?_ ?_ ?_<;>simp[dlL,dlC]
 refine aE q29 ?_ ?_ ?_<;>simp[aP,lD,qE,jL,Ds.app,toK]
 refine aI [] ?_ ?_ ?_<;>simp[AV.ok,Dc.ok,dlC,aP,lD,jL,Ds.app]
theorem lawB(d:Dl)(r l:List Rl)(base far:Int)(C:List Cr)(fx:Nat->Option Value){Q:Exit->Act->World->Prop}{F0:Mem}{w0:World}{a:Act}{w:World}(q30:HH 30 [dlL d,aP r,iA base] (rM C))(hfd:∀k x,fx k=some x->k=1∨k=4∨k=9∨k=11∨k=12)
  (hs:Sat KA F0 w0 85 (s5D d r l base far fx) a w) (k:∀a' w',Sat KA F0 w0 85 (s6D d r l base far C fx) a' w'->(kT 5).wp Tryz.prog Q a' w'):(kT 4).wp Tryz.prog Q a w:=by
 refine iG qA iD mixed (st':=s6D d r l base far C fx) hs ?_ k
 simp[s5D,stX,l5D,dlC,aP]
 refine⟨by kernel_rfl,?_⟩
 refine aE q30 ?_ ?_ ?_<;>simp[dlL,dlC,aP,rM]
 refine aE q30 ?_ ?_ ?_<;>simp[dlL,dlC,aP,rM]
 refine⟨rfl,le_ofX (aI [((40,0),[(40,0)]),((44,0),[(44,0)])] ?_ ?_ ?_) λ k x e=>?_⟩
 ·simp[l6D,l5D,AV.ok,Dc.ok,dlC,aP]
 ·simp
 ·decide
 ·rcases hfd k x e with rfl|rfl|rfl|rfl|rfl<;>simpa[fxE] using e
theorem lawC(W0 W:World)(B5 B12:Nat)(y5 y12:List Value)(v1 v9 v12:Value)(base far:Int)(w13 w14:Option Addr)(n13 c13 n14 c14:Nat)(C:List Cr)(S:List Nat)(b5:Box W0 B5 DTy y5.toArray)(b12:Box W0 B12 DTy y12.toArray)(l5:y5.length=16)(l12:y12.length=16)(bB6:Below W0.heap.size W0 W)
  (HSA:Hid (∀W',Below W0.heap.size W0 W'->Calls Tryz.prog 31 #[.agg y12.toArray,v9,.int .i64 base,.int .i64 far] W' λ e w'=>e=.returned (.bool true)/\Below W'.heap.size W' w'))
  (HSB:Hid (∀W',Below W0.heap.size W0 W'->Calls Tryz.prog 31 #[.agg y12.toArray,v12,.int .i64 base,.int .i64 far] W' λ e w'=>e=.returned (.bool true)/\Below W'.heap.size W' w'))
  (HKR:Hid (∀W',Below W0.heap.size W0 W'->Calls Tryz.prog 32 #[.agg y12.toArray,.agg y5.toArray] W' λ e w'=>e=.returned (.bool true)/\Below W'.heap.size W' w'))
  (HKT:Hid (∀W',Below W0.heap.size W0 W'->Calls Tryz.prog 33 #[v12,v1] W' λ e w'=>e=.returned (.bool true)/\Below W'.heap.size W' w'))
  (HAW:Hid (∀W',Below W0.heap.size W0 W'->Calls Tryz.prog 9 #[] W' λ e w'=>e=.returned (.bool true)/\Below W'.heap.size W' w'))
  (hown':Own W W0.heap.size (wU [C,C]) [.slice w13 n13 c13,.slice w14 n14 c14] S) (hnd:S.Nodup) (hsz:(C.map λ c=>c.t.size+c.b.size+2).sum<=20000000) (tmps:Array Value) (hsz6:tmps.size=85)
  (u1:tmps.getD 1 undef=v1) (u2:tmps.getD 2 undef=.int .i64 base) (u3:tmps.getD 3 undef=.int .i64 far) (u4:tmps.getD 4 undef=.pointer (some ⟨B5,0,none⟩)) (u9:tmps.getD 9 undef=v9) (u11:tmps.getD 11 undef=.pointer (some ⟨B12,0,none⟩)) (u12:tmps.getD 12 undef=v12) (v13:tmps.getD 13 undef=.slice w13 n13 c13) (v14:tmps.getD 14 undef=.slice w14 n14 c14)
  (R:Ending->World->Prop) (hR:∀w',Below W0.heap.size W0 w'->R (.returned (.bool true)) w'):(kT 5).wp Tryz.prog (bodyPost Tryz.prog Tryz.f4 R) ⟨tmps,[]⟩ W:=by
 have hc:kT 5=Code.seq _ _:=rfl
 rw[hc]
 clear hc
 have e1:tmps=#[tmps.getD 0 undef,tmps.getD 1 undef,tmps.getD 2 undef,tmps.getD 3 undef,tmps.getD 4 undef,tmps.getD 5 undef,tmps.getD 6 undef,tmps.getD 7 undef,tmps.getD 8 undef,tmps.getD 9 undef,tmps.getD 10 undef,tmps.getD 11 undef,tmps.getD 12 undef,tmps.getD 13 undef,tmps.getD 14 undef,tmps.getD 15 undef,tmps.getD 16 undef,tmps.getD 17 undef,tmps.getD 18 undef,tmps.getD 19 undef,tmps.getD 20 undef,tmps.getD 21 undef,tmps.getD 22 undef,tmps.getD 23 undef,tmps.getD 24 undef,tmps.getD 25 undef,tmps.getD 26 undef,tmps.getD 27 undef,tmps.getD 28 undef,tmps.getD 29 undef,tmps.getD 30 undef,tmps.getD 31 undef,tmps.getD 32 undef,tmps.getD 33 undef,tmps.getD 34 undef,tmps.getD 35 undef,tmps.getD 36 undef,tmps.getD 37 undef,tmps.getD 38 undef,tmps.getD 39 undef,tmps.getD 40 undef,tmps.getD 41 undef,tmps.getD 42 undef,tmps.getD 43 undef,tmps.getD 44 undef,tmps.getD 45 undef,tmps.getD 46 undef,tmps.getD 47 undef,tmps.getD 48 undef,tmps.getD 49 undef,tmps.getD 50 undef,tmps.getD 51 undef,tmps.getD 52 undef,tmps.getD 53 undef,tmps.getD 54 undef,tmps.getD 55 undef,tmps.getD 56 undef,tmps.getD 57 undef,tmps.getD 58 undef,tmps.getD 59 undef,tmps.getD 60 undef,tmps.getD 61 undef,tmps.getD 62 undef,tmps.getD 63 undef,tmps.getD 64 undef,tmps.getD 65 undef,tmps.getD 66 undef,tmps.getD 67 undef,tmps.getD 68 undef,tmps.getD 69 undef,tmps.getD 70 undef,tmps.getD 71 undef,tmps.getD 72 undef,tmps.getD 73 undef,tmps.getD 74 undef,tmps.getD 75 undef,tmps.getD 76 undef,tmps.getD 77 undef,tmps.getD 78 undef,tmps.getD 79 undef,tmps.getD 80 undef,tmps.getD 81 undef,tmps.getD 82 undef,tmps.getD 83 undef,tmps.getD 84 undef]:=CM hsz6
 clear hsz6
 generalize tmps.getD 0 undef=x0 at *
 generalize tmps.getD 1 undef=x1 at *
 generalize tmps.getD 2 undef=x2 at *
 generalize tmps.getD 3 undef=x3 at *
 generalize tmps.getD 4 undef=x4 at *
 generalize tmps.getD 5 undef=x5 at *
 generalize tmps.getD 6 undef=x6 at *
 generalize tmps.getD 7 undef=x7 at *
 generalize tmps.getD 8 undef=x8 at *
 generalize tmps.getD 9 undef=x9 at *
 generalize tmps.getD 10 undef=x10 at *
 generalize tmps.getD 11 undef=x11 at *
 generalize tmps.getD 12 undef=x12 at *
 generalize tmps.getD 13 undef=x13 at *
 generalize tmps.getD 14 undef=x14 at *
 generalize tmps.getD 15 undef=x15 at *
 generalize tmps.getD 16 undef=x16 at *
 generalize tmps.getD 17 undef=x17 at *
 generalize tmps.getD 18 undef=x18 at *
 generalize tmps.getD 19 undef=x19 at *
 generalize tmps.getD 20 undef=x20 at *
 generalize tmps.getD 21 undef=x21 at *
 generalize tmps.getD 22 undef=x22 at *
 generalize tmps.getD 23 undef=x23 at *
 generalize tmps.getD 24 undef=x24 at *
 generalize tmps.getD 25 undef=x25 at *
 generalize tmps.getD 26 undef=x26 at *
 generalize tmps.getD 27 undef=x27 at *
 generalize tmps.getD 28 undef=x28 at *
 generalize tmps.getD 29 undef=x29 at *
 generalize tmps.getD 30 undef=x30 at *
 generalize tmps.getD 31 undef=x31 at *
 generalize tmps.getD 32 undef=x32 at *
 generalize tmps.getD 33 undef=x33 at *
 generalize tmps.getD 34 undef=x34 at *
 generalize tmps.getD 35 undef=x35 at *
 generalize tmps.getD 36 undef=x36 at *
 generalize tmps.getD 37 undef=x37 at *
 generalize tmps.getD 38 undef=x38 at *
 generalize tmps.getD 39 undef=x39 at *
 generalize tmps.getD 40 undef=x40 at *
 generalize tmps.getD 41 undef=x41 at *
 generalize tmps.getD 42 undef=x42 at *
 generalize tmps.getD 43 undef=x43 at *
 generalize tmps.getD 44 undef=x44 at *
 generalize tmps.getD 45 undef=x45 at *
 generalize tmps.getD 46 undef=x46 at *
 generalize tmps.getD 47 undef=x47 at *
 generalize tmps.getD 48 undef=x48 at *
 generalize tmps.getD 49 undef=x49 at *
 generalize tmps.getD 50 undef=x50 at *
 generalize tmps.getD 51 undef=x51 at *
 generalize tmps.getD 52 undef=x52 at *
 generalize tmps.getD 53 undef=x53 at *
 generalize tmps.getD 54 undef=x54 at *
 generalize tmps.getD 55 undef=x55 at *
 generalize tmps.getD 56 undef=x56 at *
 generalize tmps.getD 57 undef=x57 at *
 generalize tmps.getD 58 undef=x58 at *
 generalize tmps.getD 59 undef=x59 at *
 generalize tmps.getD 60 undef=x60 at *
 generalize tmps.getD 61 undef=x61 at *
 generalize tmps.getD 62 undef=x62 at *
 generalize tmps.getD 63 undef=x63 at *
 generalize tmps.getD 64 undef=x64 at *
 generalize tmps.getD 65 undef=x65 at *
 generalize tmps.getD 66 undef=x66 at *
 generalize tmps.getD 67 undef=x67 at *
 generalize tmps.getD 68 undef=x68 at *
 generalize tmps.getD 69 undef=x69 at *
 generalize tmps.getD 70 undef=x70 at *
 generalize tmps.getD 71 undef=x71 at *
 generalize tmps.getD 72 undef=x72 at *
 generalize tmps.getD 73 undef=x73 at *
 generalize tmps.getD 74 undef=x74 at *
 generalize tmps.getD 75 undef=x75 at *
 generalize tmps.getD 76 undef=x76 at *
 generalize tmps.getD 77 undef=x77 at *
 generalize tmps.getD 78 undef=x78 at *
 generalize tmps.getD 79 undef=x79 at *
 generalize tmps.getD 80 undef=x80 at *
 generalize tmps.getD 81 undef=x81 at *
 generalize tmps.getD 82 undef=x82 at *
 generalize tmps.getD 83 undef=x83 at *
 generalize tmps.getD 84 undef=x84 at *
 subst e1
 subst u1 u2 u3 u4 u9 u11 u12 v13 v14
 have L5:Hid (∀W',Below W0.heap.size W0 W'->W'.rangeAt B5 0 y5):=λ W' h j u hu=>by rw[Nat.zero_add];exact (b5.on h).cell (by simpa using hu)
 have L12:Hid (∀W',Below W0.heap.size W0 W'->W'.rangeAt B12 0 y12):=λ W' h j u hu=>by rw[Nat.zero_add];exact (b12.on h).cell (by simpa using hu)
 have i5:Hid ((Tryz.prog.info? DTy).map (·.size)=some y5.length):=hid (by rw[l5];kernel_rfl)
 have i12:Hid ((Tryz.prog.info? DTy).map (·.size)=some y12.length):=hid (by rw[l12];kernel_rfl)
 have HB:=hid bB6
 have HO:=hid hown'
 have HND:=hid hnd
 have HZ:=hid hsz
 clear b5 b12 l5 l12 hown' hnd bB6 hsz
 refine wp_seq ?_
 have a0:=L12.out W HB.out
 go_wp2_with (refine jQ rfl (by kernel_rfl) rfl a0 Tryz.underlying47 rfl i12.out ?_)
 refine (HSA.out W HB.out).mono ?_
 rintro e w1 ⟨rfl,hb⟩
 have HB1:=hid (aA HB.out hb)
 have HW1:=hid hb
 clear hb a0
 have a0:=L12.out w1 HB1.out
 go_wp2_with (refine jQ rfl (by kernel_rfl) rfl a0 Tryz.underlying47 rfl i12.out ?_)
 refine (HSB.out w1 HB1.out).mono ?_
 rintro e w2 ⟨rfl,hb⟩
 have HB2:=hid (aA HB1.out hb)
 have HW2:=hid (aA HW1.out hb)
 clear hb a0
 have a0:=L12.out w2 HB2.out
 have b0:=L5.out w2 HB2.out
 go_wp2_with (first|(refine jQ rfl (by kernel_rfl) rfl a0 Tryz.underlying47 rfl i12.out ?_)|(refine jQ rfl (by kernel_rfl) rfl b0 Tryz.underlying47 rfl i5.out ?_))
 refine (HKR.out w2 HB2.out).mono ?_
 rintro e w7 ⟨rfl,hb⟩
 have HB7:=hid (aA HB2.out hb)
 have HW7:=hid (aA HW2.out hb)
 clear hb a0 b0
 go_wp2_with fail
 refine (HKT.out w7 HB7.out).mono ?_
 rintro e w8 ⟨rfl,hb⟩
 have HB8:=hid (aA HB7.out hb)
 have HW8:=hid (aA HW7.out hb)
 clear hb
 obtain⟨u,hu⟩:∃u,w8.alloc (.cells #[.slice w13 n13 c13,.slice w14 n14 c14] 56)=u:=⟨_,rfl⟩
 have hb4:Below w8.heap.size w8 u:=by rw[<-hu];exact aB _ _
 have hg4:u.heap[w8.heap.size]? = some (Obj.cells #[.slice w13 n13 c13,.slice w14 n14 c14] 56 (0,0)):=by rw[<-hu];exact heap_alloc_new _ _
 have HWU:=aA HW8.out hb4
 have hA:=HO.out.below HWU
 have HAP:=hid (xX [C,C] [.slice w13 n13 c13,.slice w14 n14 c14] S W0.heap.size (some ⟨w8.heap.size,0,none⟩) 2 u (Nat.le_refl _) (by decide)
  (λ _=>⟨_,0,rfl,aV hg4,λ j v hv=>by
   rw[Nat.zero_add]
   refine kM ?_ (by simp[World.frozen?,hg4])
   simp only[World.cell?,hg4]
   simpa using hv⟩) hA HND.out (by
   have y1:=HZ.out
   simp only[kP,tW,List.map_cons,List.map_nil,List.sum_cons,List.sum_nil]
   omega))
 have HB4:=hid (aA HB8.out hb4)
 have HGE:=hid λ x hx=>(HO.out.mem x hx).1
 clear hb4 hg4 HWU hA
 go_wp2_with fail
 refine HAP.out.mono ?_
 rintro e w9 ⟨rfl,hb⟩
 have HB9:Hid (Below W0.heap.size W0 w9):=hid ⟨hb.os.trans HB4.out.os,hb.tape.trans HB4.out.tape,hb.output.trans HB4.out.output,Nat.le_trans HB4.out.size hb.size,λ z hz=>(hb.block z (Nat.lt_of_lt_of_le hz HB4.out.size) (λ h=>by have:=HGE.out z h;omega)).trans (HB4.out.block z hz)⟩
 clear hb HAP HB4 HGE hu HB8 HW8 HW7 HB7 HW2 HB2 HW1 HB1 HO HND HB
 have a0:=L12.out w9 HB9.out
 have b0:=L5.out w9 HB9.out
 go_wp2_with (first|(refine jQ rfl (by kernel_rfl) rfl a0 Tryz.underlying47 rfl i12.out ?_)|(refine jQ rfl (by kernel_rfl) rfl b0 Tryz.underlying47 rfl i5.out ?_))
 refine (HKR.out w9 HB9.out).mono ?_
 rintro e w10 ⟨rfl,hb⟩
 have HB10:=hid (aA HB9.out hb)
 clear hb HB9 a0 b0
 go_wp2_with fail
 refine (HKT.out w10 HB10.out).mono ?_
 rintro e w12' ⟨rfl,hb⟩
 have HB12:=hid (aA HB10.out hb)
 clear hb HB10
 go_wp2_with fail
 refine (HAW.out w12' HB12.out).mono ?_
 rintro e w13' ⟨rfl,hb⟩
 go_wp2_with fail
 exact aA HB12.out hb
theorem small4(d:Dl)(r:List Rl)(base far:Int)(vd vr:Value)(w:World)(hG:KA w)(rd:RepV (bE (U w) w) (dlL d) [vd])(rr:RepV (bE (U w) w) (aP r) [vr])(pf:d.p.fits)(sf:lC d.s)(mf:∀a∈d.m,a.fits)(cf:∀c∈d.c,c.t.fits)(rf:∀a∈r,dW a.g/\a.i.fits)(hbw:fW base)
  (hB:BigD d) (hR:fY r<=100000000) (hc:gC d+eF fRr r 0<=500) (hlv:d.lv<=500) :
  Calls Tryz.prog 4 #[vd,vr,.int .i64 base,.int .i64 far] w λ e w'=>e=.returned (.bool true)/\Below w.heap.size w w':=by
 have hz:=G6 hc
 have b1:=wT d hB
 have b2:=CK r hR
 have hml:=jV d.m
 obtain⟨l,e0,q27,hok⟩:=rulesT d cf (by omega) (by omega)
 have gl:SmallG d l:=⟨hlv,pf,sf,mf,λ a ha=>⟨(hok.gf a ha).1,(hok.gf a ha).2.1⟩,by omega,by have:=hok.s;omega⟩
 have gr:SmallG d r:=⟨hlv,pf,sf,mf,rf,by omega,by omega⟩
 have q31a:=J3 d l base far gl hbw
 have q31b:=J3 d r base far gr hbw
 obtain⟨C,q30,hsz⟩:=EX d r base gr
 have a1:=CI d hB
 have a2:=CH r (Nat.le_trans hR (by decide))
 have q28:=Y1 d hB
 have q29:=DY r hR
 have q32:=Y2 d hB
 have q33:=EF r hR
 change HH 33 [lD r,aP r] _ at q33
 change HH 29 [aP r] _ at q29
 change HH 26 [aP r,iA 500] _ at a2
 clear gl gr hok hB hR pf sf mf cf rf hz hml
 generalize gC d=n1 at *
 generalize eF fRr r 0=n2 at *
 have hs:=yH (N:=85) (l:=[dlL d,aP r,iA base,iA far]) hG (vs:=[vd,vr,.int .i64 base,.int .i64 far]) ⟨_,_,rfl,rd,_,_,rfl,rr,_,_,rfl,pU base,_,_,rfl,pU far,rfl⟩ (by simp) (λ a ha=>AV.bare_ok (by simp at ha;rcases ha with rfl|rfl|rfl|rfl<;>rfl) _ _)
 refine calls_of_wp Tryz.func4 rfl ?_
 refine lawA d r l base far e0 n1 n2 hc b1 b2 hlv a1 a2 q27 hs λ a2' w2 hs2=>?_
 refine lawA2 d r l base far q28 q29 hs2 λ a3 w3 hs3=>?_
 clear hs hs2 a1 a2 hc hlv b1 b2 q27 q28 q29
 obtain⟨g,rfl,hI,hbx,hτ,hbase,hF0,hsl⟩:=hs3.gh
 have hGw:KA g.w:=iD _ _ hs3.below hG
 have bB:=hs3.below
 obtain⟨y5,b5,p5⟩:=oU hI (k:=5) (T:=DTy) (d:=dlC d) (by rw[hbx];rfl)
 obtain⟨y12,b12,p12⟩:=oU hI (k:=12) (T:=DTy) (d:=jL d) (by rw[hbx];rfl)
 have e4:=box_els hI (k:=5) (T:=DTy) (d:=dlC d) (by rw[hbx];rfl)
 have e11:=EQ hI (k:=12) (d:=d) (by rw[hbx];rfl)
 have s1:RepV (bE (U g.w) g.w) (aP r) [a3.tmps.getD 1 undef]:=RepV.mv (g:=g) (g':=bE (U g.w) g.w) hI.F (Nat.le_refl _) (.inl rfl) rfl (hsl 1 (by decide))
 have s9:RepV (bE (U g.w) g.w) (aP l) [a3.tmps.getD 9 undef]:=RepV.mv (g:=g) (g':=bE (U g.w) g.w) hI.F (Nat.le_refl _) (.inl rfl) rfl (hsl 9 (by decide))
 have s12:RepV (bE (U g.w) g.w) (lD r) [a3.tmps.getD 12 undef]:=RepV.mv (g:=g) (g':=bE (U g.w) g.w) hI.F (Nat.le_refl _) (.inl rfl) rfl (hsl 12 (by decide))
 have sv12:RepV (bE (U g.w) g.w) (aP r) [a3.tmps.getD 12 undef]:=by
  obtain⟨-,ys,us,e,⟨v1,_,rfl,h1,rfl⟩,-,rfl⟩:=s12
  cases e
  have r1:=h1.strip
  rw[D7] at r1
  exact⟨qW _,_,[],rfl,r1,Gh.Ow_none,rfl⟩
 obtain⟨c5,l5⟩:=CG (W:=g.w) (p5.vs.mono (λ b o v _ hv=>hI.F b o v hv) (Nat.le_refl _))
 obtain⟨c12,l12⟩:=CG (W:=g.w) (yV hI p12)
 have sr5:RepV (bE (U g.w) g.w) (dlL d) [.agg y5.toArray]:=⟨_,rfl,c5⟩
 have sd12:RepV (bE (U g.w) g.w) (dlL d) [.agg y12.toArray]:=⟨_,rfl,c12⟩
 have sr12:RepV (bE (U g.w) g.w) (qE d) [.agg y12.toArray]:=⟨_,rfl,RepC.mv (g:=g) (g':=bE (U g.w) g.w) hI.F (Nat.le_refl _) rfl p12⟩
 have s2:a3.tmps.getD 2 undef=.int .i64 base:=lQ (hsl 2 (by decide))
 have s3:a3.tmps.getD 3 undef=.int .i64 far:=lQ (hsl 3 (by decide))
 have s4:a3.tmps.getD 4 undef=.pointer (some ⟨g.B 5,0,none⟩):=by have:=(hsl 4 (by decide)).1;simpa using this
 have s11:a3.tmps.getD 11 undef=.pointer (some ⟨g.B 12,0,none⟩):=by have:=(hsl 11 (by decide)).1;simpa using this
 have hsz3:=hs3.size
 have hdf:=hs3.defers
 rw[<-s4] at e4
 rw[<-s11] at e11
 have up:∀ {W':World} {a:AV} {xs:List Value},Below g.w.heap.size g.w W'->a.flat=true->a.unl=true->RepV (bE (U g.w) g.w) a xs->RepV (bE (U W') W') a xs:=λ h hf hu s=>RepV.mv (g:=bE (U g.w) g.w) (g':=bE (U _) _) (λ b o v hv=>aD h b o v (aM hv) hv) h.size (.inl hf) hu s
 have HSA:Hid (∀W',Below g.w.heap.size g.w W'->Calls Tryz.prog 31 #[.agg y12.toArray,a3.tmps.getD 9 undef,.int .i64 base,.int .i64 far] W' λ e w'=>e=.returned (.bool true)/\Below W'.heap.size W' w'):=λ W' h=>q31a.val (vs:=[.agg y12.toArray,a3.tmps.getD 9 undef,.int .i64 base,.int .i64 far]) (iD _ _ h hGw) ⟨_,_,rfl,up h rfl rfl sd12,_,_,rfl,up h rfl rfl s9,_,_,rfl,pU base,_,_,rfl,pU far,rfl⟩
 have HSB:Hid (∀W',Below g.w.heap.size g.w W'->Calls Tryz.prog 31 #[.agg y12.toArray,a3.tmps.getD 12 undef,.int .i64 base,.int .i64 far] W' λ e w'=>e=.returned (.bool true)/\Below W'.heap.size W' w'):=λ W' h=>q31b.val (vs:=[.agg y12.toArray,a3.tmps.getD 12 undef,.int .i64 base,.int .i64 far]) (iD _ _ h hGw) ⟨_,_,rfl,up h rfl rfl sd12,_,_,rfl,up h rfl rfl sv12,_,_,rfl,pU base,_,_,rfl,pU far,rfl⟩
 have HKR:Hid (∀W',Below g.w.heap.size g.w W'->Calls Tryz.prog 32 #[.agg y12.toArray,.agg y5.toArray] W' λ e w'=>e=.returned (.bool true)/\Below W'.heap.size W' w'):=λ W' h=>q32.val (vs:=[.agg y12.toArray,.agg y5.toArray]) (iD _ _ h hGw) (arg2 (up h rfl rfl sr12) (up h rfl rfl sr5))
 have HKT:Hid (∀W',Below g.w.heap.size g.w W'->Calls Tryz.prog 33 #[a3.tmps.getD 12 undef,a3.tmps.getD 1 undef] W' λ e w'=>e=.returned (.bool true)/\Below W'.heap.size W' w'):=λ W' h=>q33.val (vs:=[a3.tmps.getD 12 undef,a3.tmps.getD 1 undef]) (iD _ _ h hGw) (arg2 (up h rfl rfl s12) (up h rfl rfl s1))
 have HAW:Hid (∀W',Below g.w.heap.size g.w W'->Calls Tryz.prog 9 #[] W' λ e w'=>e=.returned (.bool true)/\Below W'.heap.size W' w'):=λ W' h=>FF (iD _ _ h hGw)
 obtain⟨fx,hfx⟩:∃fx,fxL [(1,a3.tmps.getD 1 undef),(4,a3.tmps.getD 4 undef),(9,a3.tmps.getD 9 undef),(11,a3.tmps.getD 11 undef),(12,a3.tmps.getD 12 undef)]=fx:=⟨_,rfl⟩
 have hs4:Sat KA (U g.w) g.w 85 (s5D d r l base far fx) a3 g.w:=by
  rw[<-hfx]
  refine IT hGw (λ k=>?_) rfl rfl hsz3 hdf (λ k x e=>?_) λ k hk=>?_
  ·show (rI (l5D d r l base far) k).ok _ _
   unfold rI
   split
   ·rename_i q hq
    have:=(kG hq).1
    simp[l5D] at this
    rcases this with rfl|rfl|rfl|rfl|rfl|rfl|rfl<;>trivial
   ·trivial
  ·have:=BV e
   simp only[List.mem_cons,Prod.mk.injEq,List.not_mem_nil,or_false] at this
   rcases this with ⟨rfl,rfl⟩|⟨rfl,rfl⟩|⟨rfl,rfl⟩|⟨rfl,rfl⟩|⟨rfl,rfl⟩<;>rfl
  ·show RepV _ (rI (l5D d r l base far) k) _
   unfold rI
   split
   ·rename_i q hq
    obtain⟨h4,rfl⟩:=kG hq
    simp only[l5D,List.mem_cons,List.not_mem_nil,or_false] at h4
    rcases h4 with rfl|rfl|rfl|rfl|rfl|rfl|rfl
    ·exact s1
    ·show RepV _ (iA base) [a3.tmps.getD 2 undef];rw[s2];exact pU base
    ·show RepV _ (iA far) [a3.tmps.getD 3 undef];rw[s3];exact pU far
    ·exact e4
    ·exact s9
    ·exact e11
    ·exact sv12
   ·trivial
 have hfd:∀k x,fx k=some x->k=1∨k=4∨k=9∨k=11∨k=12:=λ k x e=>by
  rw[<-hfx] at e
  have:=BV e
  simp only[List.mem_cons,Prod.mk.injEq,List.not_mem_nil,or_false] at this
  rcases this with ⟨rfl,-⟩|⟨rfl,-⟩|⟨rfl,-⟩|⟨rfl,-⟩|⟨rfl,-⟩<;>simp
 clear hs3 q31a q31b q32 q33 up sr5 sr12 sd12 c5 c12
 refine lawB d r l base far C fx q30 hfd hs4 λ a6 w6 hs6=>?_
 clear hs4
 obtain⟨g6,hg6,hI6,hbx6,hτ6,hbase6,hF6,hsl6⟩:=hs6.gh
 subst hg6
 have p13:RepC g6 (.row (some (40,0)) 12 89 (dX C) .nil) [a6.tmps.getD 13 undef]:=hsl6 13 (by decide)
 have p14:RepC g6 (.row (some (44,0)) 12 89 (dX C) .nil) [a6.tmps.getD 14 undef]:=hsl6 14 (by decide)
 have hall:=RepC.app p14 p13
 obtain⟨S,hown,hnd,-⟩:=B6 hI6 hall (by simp only[Dc.app,Dc.own,hτ6];simp) (by simp only[Dc.app,Dc.toks];decide)
 rw[hbase6] at hown
 have hown':Own g6.w g.w.heap.size (wU [C,C]) [a6.tmps.getD 13 undef,a6.tmps.getD 14 undef] S:=hown
 clear hown hall
 obtain⟨⟨w13,n13,c13,v13⟩,⟨w14,n14,c14,v14⟩⟩:(∃p n c,a6.tmps.getD 13 undef=Value.slice p n c)/\(∃p n c,a6.tmps.getD 14 undef=Value.slice p n c):=by
  refine⟨?_,?_⟩
  ·obtain⟨-,_,_,e,⟨p,n,c,e2,-⟩,-⟩:=p13;exact⟨p,n,c,(List.cons.inj e).1.trans e2⟩
  ·obtain⟨-,_,_,e,⟨p,n,c,e2,-⟩,-⟩:=p14;exact⟨p,n,c,(List.cons.inj e).1.trans e2⟩
 have fixed:∀k x,fx k=some x->a6.tmps.getD k undef=x:=hs6.fix
 have u1:a6.tmps.getD 1 undef=a3.tmps.getD 1 undef:=fixed 1 _ (by rw[<-hfx];rfl)
 have u4:a6.tmps.getD 4 undef=_:=(fixed 4 _ (by rw[<-hfx];rfl)).trans s4
 have u9:a6.tmps.getD 9 undef=a3.tmps.getD 9 undef:=fixed 9 _ (by rw[<-hfx];rfl)
 have u11:a6.tmps.getD 11 undef=_:=(fixed 11 _ (by rw[<-hfx];rfl)).trans s11
 have u12:a6.tmps.getD 12 undef=a3.tmps.getD 12 undef:=fixed 12 _ (by rw[<-hfx];rfl)
 have u2:a6.tmps.getD 2 undef=.int .i64 base:=lQ (hsl6 2 (by decide))
 have u3:a6.tmps.getD 3 undef=.int .i64 far:=lQ (hsl6 3 (by decide))
 have bB6:=hs6.below
 have hsz6:=hs6.size
 have hdf6:=hs6.defers
 obtain⟨tmps,defers⟩:=a6
 obtain rfl:defers=[]:=hdf6
 rw[v13,v14] at hown'
 clear hs6 hsl hsl6 hbx hbx6 hτ hτ6 hF0 hF6 hI hI6 p13 p14 p5 p12 e4 e11 fixed hfd hfx s1 s2 s3 s4 s9 s11 s12 sv12 hsz3 hdf hbase hbase6 q30 rr rd
 exact lawC g.w g6.w (g.B 5) (g.B 12) y5 y12 _ _ _ base far w13 w14 n13 c13 n14 c14 C S b5 b12 l5 l12 bB6 HSA HSB HKR HKT HAW hown' hnd hsz tmps hsz6 u1 u2 u3 u4 u9 u11 u12 v13 v14 _ λ w' hw=>⟨rfl,aA bB hw⟩
theorem JT(d:Dl)(r:List Rl)(base far:Int)(vd vr:Value)(w:World)(hG:KA w)(rd:RepV (bE (U w) w) (dlL d) [vd])(rr:RepV (bE (U w) w) (aP r) [vr])(pf:d.p.fits)(sf:lC d.s)(mf:∀a∈d.m,a.fits)(cf:∀c∈d.c,c.t.fits)(rf:∀a∈r,dW a.g/\a.i.fits)(hbw:fW base)
  (hB:BigD d) (hR:fY r<=100000000) :
  Calls Tryz.prog 4 #[vd,vr,.int .i64 base,.int .i64 far] w λ e w'=>e=.returned (.bool true)/\Below w.heap.size w w':=by
 by_cases hb:500<gC d+eF fRr r 0∨500<d.lv
 ·exact (big4 d r base far hB hR hb).val (vs:=[vd,vr,.int .i64 base,.int .i64 far]) hG ⟨_,_,rfl,rd,_,_,rfl,rr,_,_,rfl,pU base,_,_,rfl,pU far,rfl⟩
 ·exact small4 d r base far vd vr w hG rd rr pf sf mf cf rf hbw hB hR (by omega) (by omega)
end
end Go.Proofs.YtkcmapimcgppmaaGreatDoor
