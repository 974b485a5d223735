/-
  The document's rules, the fifth part: the rule of a constructor. Conditions: no more than 10000000 nodes, levels, parts; numbers that a word holds.
-/
import Derived.Test.YtlfnfiihfjggoaaGreatDoorT10
import Derived.Test.YtlfnfiihfjggoaaGreatDoorT11
import Derived.Test.YtlfnfiihfjggoaaGreatDoorT12
import Derived.Test.YtlfnfiihfjggoaaGreatDoorT13
import Derived.Test.YtlfnfiihfjggoaaGreatDoorT14
set_option linter.all false
set_option linter.unusedVariables false
set_option linter.unusedSimpArgs false
set_option linter.unnecessarySimpa false
set_option maxHeartbeats 8000000
set_option maxRecDepth 100000
namespace Go.Proofs.YtlfnfiihfjggoaaGreatDoor
open Go.RowKit Go.Proofs.Tryz
section
attribute [local simp] ty_p ty_l ty_t kH tDs cB Tm.ts rN gI ac_skip ac_label ac_region ac_seq ac_cond ac_block ac_loop ac_exit ac_ret seqK_n seqK_r seqK_e vo_nil vo_cons blkK LC rU BZ jO jP oK ev jQ gF St.out Z5 oC upd eD wV K0 asC rO mI yF oJ xE uR tU tb Dc.tk Dc.dp Dc.over Dc.app Dc.ln Dc.ds Dc.sing Dc.cont AV.cont Ds.hd Value.oneCell' GA tO AB AV.imp Dc.imp φOf eR AV.isLL AV.list AV.app AV.arg AV.isL AV.ren Dc.ren Dc.lent tmC tmA tsA iA lo? abin AV.nth Dc.own Dc.toks bV pG JD τOf
attribute [local simp] AV.room FB agC vD Ds.len Ds.dp
section
attribute [local simp] rZ nN
theorem oneB(d:Dl)(cm:Int)(ct:Tm)(n:Nat)(G:List Ag)(E:Tm)(A:Ts)(mb:Ag×Int->Bool)(e:Int)(hn10:n<=10)(hGl:G.length=n)(hsG:dI G<=10000000)(hszA:A.size<=10000000)(hmb:∀p:Ag×Int,p.1.t.size<=100000000->p.1.e.size<=100000000->p.1.i.size<=100000000->HH 130 [agL p.1,iA p.2] (.v (.bool (mb p))))(he1:(∃i,Q5 (λ a k=>mb (a,k)) n G A i)->e=16)(he2:(∀i,¬Q5 (λ a k=>mb (a,k)) n G A i)->e=0)(r0:Rl)(e0:Int)(hm:d.m.length<=10000000)(q6:HH 129 [tsA none A] (.v (.bool (gG A))))(hgood:(E.h.k=11/\E.h.a=cm/\0<=cm/\(∃j,∃hj:j<d.m.length,(j:Int)=cm/\A.len=d.m[j].len)/\gG A=false)->r0=⟨cm,G,A⟩/\e0=e)(hbad:¬(E.h.k=11/\E.h.a=cm/\0<=cm/\(∃j,∃hj:j<d.m.length,(j:Int)=cm/\A.len=d.m[j].len)/\gG A=false)->r0=⟨cm,G,.nil⟩/\e0=17):SC prog KA 158 (lL 7) (O2 r0 e0) (tM d ⟨cm,ct⟩ n E A G):=by
 have hAl:A.len<=10000000:=Nat.le_trans (len_le_size A) hszA
 obtain⟨⟨ek,en,ea,el⟩,ex⟩:=E
 simp only at hgood hbad
 rcases Classical.em (¬(ek=11)) with g1|g1
 ·obtain⟨rfl,rfl⟩:=hbad (λ h=>g1 h.1)
  exact oneB1 d ct n en el ex G A ek ea cm g1
 obtain rfl:=Classical.not_not.1 g1
 rcases Classical.em (¬(ea=cm)) with g2|g2
 ·obtain⟨rfl,rfl⟩:=hbad (λ h=>g2 h.2.1)
  exact oneB2 d ct n en el ex G A ea cm g2
 obtain rfl:=Classical.not_not.1 g2
 by_cases g3:ea<0
 ·obtain⟨rfl,rfl⟩:=hbad (λ h=>by have:=h.2.2.1;omega)
  exact oneB3 d ct n en el ex G A ea g3
 obtain⟨j,rfl⟩:=Int.eq_ofNat_of_zero_le (show 0<=ea by omega)
 by_cases g4:d.m.length<=j
 ·obtain⟨rfl,rfl⟩:=hbad (λ h=>by obtain⟨j',hj',h5,-⟩:=h.2.2.2.1;omega)
  exact oneB4 d ct n en el ex G A j g4
 have hjl:j<d.m.length:=by omega
 have hdp:=NZ hjl
 simp only[Nat.mul_one,bI] at hdp
 by_cases g5:A.len=d.m[j].len
 ·cases g6:gG A with
  | true =>
   rw[g6] at q6
   obtain⟨rfl,rfl⟩:=hbad (λ h=>by rw[g6] at h;exact absurd h.2.2.2.2 (by simp))
   exact oneB6 d ct n en el ex G A j d.m[j] _ hjl hdp hAl g5 q6
  | false =>
   rw[g6] at q6
   obtain⟨rfl,rfl⟩:=hgood ⟨rfl,rfl,by omega,⟨j,hjl,rfl,g5⟩,g6⟩
   exact oneB7 d ct n en el ex G A j d.m[j] _ hjl hdp hAl g5 q6 _ (oneC d (j:Int) ct n G A mb _ hn10 hGl hsG hszA hmb he1 he2)
 ·obtain⟨rfl,rfl⟩:=hbad (λ h=>by
   obtain⟨j',hj',h5,h6⟩:=h.2.2.2.1
   obtain rfl:j'=j:=(by omega)
   exact g5 h6)
  exact oneB5 d ct n en el ex G A j d.m[j] _ hjl hdp hAl g5
theorem oneT(d:Dl)(c:Ct)(hf:c.t.fits)(hcw:mW c.m)(hs:c.t.size<=10000000)(hm:d.m.length<=10000000):∃r e,HH 39 [dlL d,.agg (cCt c)] (.tup (AV.list [rlL r,iA e]))/\OkRl c.t r:=by
 have dm:(bI d.m).len=d.m.length:=aW _
 have q2:=JQ c.t (by omega)
 rcases Nat.lt_or_ge 10 (cD c.t) with hn|hn
 ·refine⟨⟨0,[],.nil⟩,3,?_,λ a ha=>by (cases ha),trivial,by simp[dI,Ts.size],by simp,⟨by decide,by decide⟩,λ a ha=>(by cases ha)⟩
  have hn':(10:Int)<cD c.t:=by omega
  refine ab0 func39 ntmps39 results39 ?_
  simp[dlL,dlC,cCt]
  apply aC q2<;>simp[hn']
  exact⟨[],by simp[rlL,rlC,cA]⟩
 have hn':¬(10:Int)<cD c.t:=by omega
 have q3:=OpenT c.t (cD c.t) (Nat.le_refl _) hf (by omega)
 have hO:=wJ (cD c.t) c.t
 have hOl:=CY (cD c.t) c.t (Nat.le_refl _)
 obtain⟨f1,f2⟩:=wK (cD c.t) c.t hf
 have hn10:cD c.t<=10:=by omega
 generalize lT (cD c.t) c.t=T at *
 generalize mY (cD c.t) c.t=R at *
 generalize cD c.t=n at *
 obtain⟨f,hF⟩:=Classical.axiomOfChoice (r:=λ (t:Tm) (p:Ag×Int)=>t.fits->t.size<=100000000->HH 127 [dlL d,tmL t] (.tup (AV.list [agL p.1,iA p.2]))/\OkAg t p.1) (λ t=>by
  by_cases h1:t.fits
  ·by_cases h2:t.size<=100000000
   ·obtain⟨a,e,h⟩:=argT d t h1 h2 (by omega)
    exact⟨(a,e),λ _ _=>h⟩
   ·exact⟨(zAg,0),λ _ h=>absurd h h2⟩
  ·exact⟨(zAg,0),λ h=>absurd h h1⟩)
 have dT:T.len*5 / 5=T.len:=by omega
 have hB:∀t:Ts,t.fits->t.size<=100000000->(iF (gE f t)/\∀a∈gE f t,mW a.m)/\dI (gE f t)<=t.size:=yB f λ t h1 h2=>(hF t h1 h2).2
 cases hE:tV f T [] with
 | some q =>
  obtain⟨l,e⟩:=q
  obtain⟨he0,p0,h0,x0,q0,hT,hl,he⟩:=M4 f T [] l e hE
  rw[List.nil_append] at hl
  have hp0:p0.fits/\p0.size<=T.size/\p0.len<=T.len:=by
   have h1:=congrArg Ts.size hT
   have h2:=congrArg Ts.len hT
   rw[iJ] at h1
   rw[Ts.app_len] at h2
   refine⟨?_,by omega,by omega⟩
   have:∀a b:Ts,(a.app b).fits->a.fits:=λ a b=>by
    induction a with
    | nil=>intro _;trivial
    | cons h x r _ ih=>intro h;exact⟨h.1,h.2.1,ih h.2.2⟩
   exact this p0 _ (hT ▸ f1)
  obtain⟨b1,b2⟩:=hB p0 hp0.1 (by omega)
  refine⟨⟨c.m,l,.nil⟩,e,?_,hl ▸ b1.1,trivial,by rw[hl];simp only[Ts.size];omega,by rw[hl,pK];omega,hcw,hl ▸ b1.2⟩
  refine ab0 func39 ntmps39 results39 ?_
  simp[dlL,dlC,cCt]
  apply aC q2<;>simp[hn']
  apply aC q3<;>simp
  refine lp (α:={ q:Ts×Ts // q.1.app q.2=T/\tV f q.2 (gE f q.1)=some (l,e) }) (λ q=>MH d c n T R (gE f q.1.1)) (λ q=>q.1.2.len) ⟨(.nil,T),rfl,hE⟩ ?_ ?_
  ·apply aK [((59,0),[(59,0)])]<;>simp[AV.ok,Dc.ok,gE,cA,dlC,cCt,rZ]
  ·rintro⟨⟨a,q⟩,hq,hq0⟩
   simp only at hq hq0
   cases q with
   | nil=>simp[tV] at hq0
   | cons h y r =>
    have h1:a.len<T.len:=by rw[<-hq];simp[Ts.app_len,Ts.len]
    have h1':(a.len:Int)<n:=by omega
    have h2:(tDs ty T).dp (a.len*5)=tDs ty (.cons h y r):=by rw[<-hq];exact fH a _
    have h3:h.fits/\y.fits:=dS (a:=a) (by rw[hq];exact f1)
    have h4:aH h.l+y.size+1<=T.size:=by rw[<-hq];exact app_size
    have hw:=wr1 (k:=a.len) (by omega)
    have hal:=pK f a
    obtain⟨q4,-⟩:=hF ⟨h,y⟩ h3 (by unfold Tm.size;simp only;omega)
    simp only[tV] at hq0
    by_cases hz:(f ⟨h,y⟩).2=0
    ·rw[if_pos hz] at hq0
     rw[hz] at q4
     have e1:gE f (a.app (.cons h y .nil))=gE f a++[(f ⟨h,y⟩).1]:=by rw[xD];rfl
     obtain⟨u,hu⟩:∃u,(f ⟨h,y⟩).1=u:=⟨_,rfl⟩
     rw[hu] at hq0 e1 q4
     simp[MH,hal,h1',h2,dT,aF,dlC]
     refine⟨by kernel_rfl,by omega,?_⟩
     apply aC q4<;>simp[dlL,dlC,agL]
     refine⟨by rw[aU];omega,a.app (.cons h y .nil),r,by simp[Ts.len],⟨by rw[Ts.app_assoc];exact hq,by rw[e1];exact hq0⟩,?_⟩
     apply aK [((59,0),[(59,0)])]<;>simp[AV.ok,Dc.ok,hw,e1,hal,dlC,cCt,rZ]
     rw[pL];rfl
    ·rw[if_neg hz] at hq0
     obtain⟨u,hu⟩:∃u,(f ⟨h,y⟩).1=u:=⟨_,rfl⟩
     obtain⟨v,hv⟩:∃v,(f ⟨h,y⟩).2=v:=⟨_,rfl⟩
     rw[hu,hv] at q4
     rw[hv] at hz hq0
     obtain⟨hl2,rfl⟩:gE f a=l/\v=e:=by simpa using hq0
     simp[MH,hal,h1',h2,dT,aF,dlC]
     refine⟨by kernel_rfl,by omega,?_⟩
     apply aC q4<;>simp[dlL,dlC,agL,hz]
     first|exact⟨[],by simp[rlL,rlC,Ds.app_nil,hl2]⟩|(simp[rlL,rlC,Ds.app_nil,hl2];exact⟨[],by simp⟩)|exact⟨trivial,[],by simp[rlL,rlC,Ds.app_nil,hl2]⟩
 | none =>
  obtain⟨G,hG⟩:∃G,gE f T=G:=⟨_,rfl⟩
  obtain⟨b1,b2⟩:=hB T f1 (by omega)
  rw[hG] at b1 b2
  have hGl:G.length=n:=by rw[<-hG,pK];omega
  have qs:=VI R f2 (by omega)
  have hS:=pN _ R.x R.h (Nat.lt_succ_self _)
  obtain⟨f3,f4⟩:=pO _ R.x R.h (Nat.lt_succ_self _) f2.1 f2.2
  have hA:(qS (kU R.x R.h.k)).size<=R.size:=by rw[vZ];unfold Tm.size;omega
  have f5:=wA _ f4
  generalize qS (kU R.x R.h.k)=A at *
  generalize mB R.x R.h=E at *
  have q6:=KK A (by omega)
  have hAl:A.len<=10000000:=Nat.le_trans (len_le_size A) (by omega)
  have dA:A.len*5 / 5=A.len:=by omega
  have dG:G.length*9 / 9=G.length:=by omega
  obtain⟨mb,hmb⟩:=Classical.axiomOfChoice (r:=λ (p:Ag×Int) (b:Bool)=>p.1.t.size<=100000000->p.1.e.size<=100000000->p.1.i.size<=100000000->HH 130 [agL p.1,iA p.2] (.v (.bool b))) (λ p=>by
   by_cases h1:p.1.t.size<=100000000
   ·by_cases h2:p.1.e.size<=100000000
    ·by_cases h3:p.1.i.size<=100000000
     ·obtain⟨b,h⟩:=MZ p.1 p.2 h1 h2 h3
      exact⟨b,λ _ _ _=>h⟩
     ·exact⟨false,λ _ _ h=>absurd h h3⟩
    ·exact⟨false,λ _ h=>absurd h h2⟩
   ·exact⟨false,λ h=>absurd h h1⟩)
  obtain⟨e,he1,he2⟩:∃e:Int,((∃i,Q5 (λ a k=>mb (a,k)) n G A i)->e=16)/\((∀i,¬Q5 (λ a k=>mb (a,k)) n G A i)->e=0):=by
   by_cases h:∃i,Q5 (λ a k=>mb (a,k)) n G A i
   ·exact⟨16,λ _=>rfl,λ h2=>absurd h.choose_spec (h2 _)⟩
   ·exact⟨0,λ h2=>absurd h2 h,λ _=>rfl⟩
  obtain⟨r0,e0,hgood,hbad,hok⟩:∃r0:Rl,∃e0:Int,((E.h.k=11/\E.h.a=c.m/\0<=c.m/\(∃j,∃hj:j<d.m.length,(j:Int)=c.m/\A.len=d.m[j].len)/\gG A=false)->r0=⟨c.m,G,A⟩/\e0=e)/\(¬(E.h.k=11/\E.h.a=c.m/\0<=c.m/\(∃j,∃hj:j<d.m.length,(j:Int)=c.m/\A.len=d.m[j].len)/\gG A=false)->r0=⟨c.m,G,.nil⟩/\e0=17)/\OkRl c.t r0:=by
   by_cases h:(E.h.k=11/\E.h.a=c.m/\0<=c.m/\(∃j,∃hj:j<d.m.length,(j:Int)=c.m/\A.len=d.m[j].len)/\gG A=false)
   ·exact⟨⟨c.m,G,A⟩,e,λ _=>⟨rfl,rfl⟩,λ h2=>absurd h h2,b1.1,f5,by simp only;omega,by simp only;omega,hcw,b1.2⟩
   ·exact⟨⟨c.m,G,.nil⟩,17,λ h2=>absurd h2 h,λ _=>⟨rfl,rfl⟩,b1.1,trivial,by simp only[Ts.size];omega,by simp only;omega,hcw,b1.2⟩
  refine⟨r0,e0,?_,hok⟩
  clear hok hB
  refine abS func39 ntmps39 results39 rfl (by decide) (by simp) rfl rfl ?_
  refine mR λ K hN hR=>?_
  simp[dlL,dlC,cCt]
  refine hN _ ?_
  refine mR λ K hN hR=>?_
  simp
  apply aC q2<;>simp
  refine hN _ ?_
  refine mR λ K hN hR=>?_
  simp[hn']
  refine hN _ ?_
  refine mR λ K hN hR=>?_
  simp
  apply aC q3<;>simp
  refine hN _ ?_
  refine mR λ K hN hR=>?_
  simp
  refine hN _ ?_
  refine mR λ K hN hR=>?_
  simp
  refine lp (α:={ q:Ts×Ts // q.1.app q.2=T/\tV f q.2 (gE f q.1)=none }) (λ q=>MH d c n T R (gE f q.1.1)) (λ q=>q.1.2.len) ⟨(.nil,T),rfl,hE⟩ ?_ ?_
  ·apply aK [((59,0),[(59,0)])]<;>simp[AV.ok,Dc.ok,gE,cA,dlC,cCt,rZ]
  ·rintro⟨⟨a,q⟩,hq,hq0⟩
   simp only at hq hq0
   cases q with
   | cons h y r =>
    have h1:a.len<T.len:=by rw[<-hq];simp[Ts.app_len,Ts.len]
    have h1':(a.len:Int)<n:=by omega
    have h2:(tDs ty T).dp (a.len*5)=tDs ty (.cons h y r):=by rw[<-hq];exact fH a _
    have h3:h.fits/\y.fits:=dS (a:=a) (by rw[hq];exact f1)
    have h4:aH h.l+y.size+1<=T.size:=by rw[<-hq];exact app_size
    have hw:=wr1 (k:=a.len) (by omega)
    have hal:=pK f a
    obtain⟨q4,-⟩:=hF ⟨h,y⟩ h3 (by unfold Tm.size;simp only;omega)
    simp only[tV] at hq0
    by_cases hz:(f ⟨h,y⟩).2=0
    ·rw[if_pos hz] at hq0
     rw[hz] at q4
     have e1:gE f (a.app (.cons h y .nil))=gE f a++[(f ⟨h,y⟩).1]:=by rw[xD];rfl
     obtain⟨u,hu⟩:∃u,(f ⟨h,y⟩).1=u:=⟨_,rfl⟩
     rw[hu] at hq0 e1 q4
     simp[MH,hal,h1',h2,dT,aF,dlC]
     refine⟨by kernel_rfl,by omega,?_⟩
     apply aC q4<;>simp[dlL,dlC,agL]
     refine⟨by rw[aU];omega,a.app (.cons h y .nil),r,by simp[Ts.len],⟨by rw[Ts.app_assoc];exact hq,by rw[e1];exact hq0⟩,?_⟩
     apply aK [((59,0),[(59,0)])]<;>simp[AV.ok,Dc.ok,hw,e1,hal,dlC,cCt,rZ]
     rw[pL];rfl
    ·rw[if_neg hz] at hq0
     cases hq0
   | nil =>
    have ea:a=T:=by rw[<-hq];exact (Ts.app_nil a).symm
    subst ea
    have hlt:¬(a.len:Int)<n:=by omega
    have hlt':¬(n:Int)<n:=by omega
    obtain⟨cm,ct⟩:=c
    simp only at *
    simp[MH,hG,hGl,dlC,cCt]
    refine hN _ ?_
    refine OT (st':=stO5 d ⟨cm,ct⟩ n R G) ?_ ?_
    ·apply aK []<;>simp[AV.ok,Dc.ok,dlC,cCt,Ds.app_nil]
    refine mR λ K hN hR=>?_
    simp[stO5]
    apply aC qs<;>simp
    refine hN _ ?_
    refine OT (st':=tM d ⟨cm,ct⟩ n E A G) ?_ ?_
    ·apply aK []<;>simp[AV.ok,Dc.ok,dlC,cCt]
    exact oneB d cm ct n G E A mb e hn10 hGl (by omega) (by omega) hmb he1 he2 r0 e0 hm q6 hgood hbad
end
end
end Go.Proofs.YtlfnfiihfjggoaaGreatDoor
