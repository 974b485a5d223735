/-
  Declarations: lent, kept, alike, and what follows. Conditions: as each lemma states them.
-/
import Derived.Test.YtlfnfiihfjggoaaGreatDoorT08
import Derived.Test.YtlfnfiihfjggoaaGreatDoorT07
set_option linter.all false
set_option linter.unusedVariables false
set_option linter.unusedSimpArgs false
set_option linter.unnecessarySimpa false
set_option maxHeartbeats 8000000
set_option maxRecDepth 100000
namespace Go.Proofs.YtlfnfiihfjggoaaGreatDoor
open Go.RowKit Go.Proofs.Tryz
section
attribute [local simp] ty_p ty_l ty_t kH tDs cB Tm.ts rN gI ac_skip ac_label ac_region ac_seq ac_cond ac_block ac_loop ac_exit ac_ret seqK_n seqK_r seqK_e vo_nil vo_cons blkK LC rU BZ jO jP oK ev jQ gF St.out Z5 oC upd eD wV K0 asC rO mI yF oJ xE uR tU tb Dc.tk Dc.dp Dc.over Dc.app Dc.ln Dc.ds Dc.sing Dc.cont AV.cont Ds.hd Value.oneCell' GA tO AB AV.imp Dc.imp φOf eR AV.isLL AV.list AV.app AV.arg AV.isL AV.ren Dc.ren Dc.lent tmC tmA tsA iA lo? abin AV.nth Dc.own Dc.toks bV pG JD τOf
attribute [local simp] AV.room FB agC vD Ds.len Ds.dp
def cX(d:Dl):Dc:=.lit (.int .i64 d.k) (.lit (.int .i64 d.lv) (.lit (.int .i64 d.t.h.k) (.lit (.int .i64 d.t.h.n) (.lit (.int .i64 d.t.h.a) (.seg none (.row 1 30 (cO ty d.t.h.l) (cB ty (dJ 1 12)) .nil) (.seg none (.row 5 27 (cJ ty d.t.x) (tDs ty (cH 1 12)) .nil)
 (.lit (.int .i64 d.b.h.k) (.lit (.int .i64 d.b.h.n) (.lit (.int .i64 d.b.h.a) (.seg none (.row 1 30 (cO ty d.b.h.l) (cB ty (dJ 1 12)) .nil) (.seg none (.row 5 27 (cJ ty d.b.x) (tDs ty (cH 1 12)) .nil)
 (.seg none (.row 5 27 (cJ ty d.p) (tDs ty (cH 1 12)) .nil) (.seg none (.row 2 68 (bY d.s) (bY (dV 1 12)) .nil) (.seg none (.row 1 71 (dW d.m) (bI (cQ 12)) .nil) (.seg none (.row 6 76 (dX d.c) (fD (cR 12)) .nil) .nil)))))))))))))))
def oH(d:Dl):AV:=.agg (cX d)
theorem IM(d:Dl)(h:BigD d):HH 10 [dlL d] (oH d):=by
 have q1:=k11 d.t (Nat.le_trans h.t (by decide))
 have q2:=k11 d.b (Nat.le_trans h.b (by decide))
 have q3:=k10 d.p (Nat.le_trans h.p (by decide))
 have q4:=k75 d.s (Nat.le_trans h.s (by decide))
 have q5:=NH d.m h.m
 have q6:=NI d.c h.c
 refine ab0 func10 ntmps10 results10 ?_
 simp[dlL,dlC]
 apply aC q1<;>simp[rC,uZ,Ds.len]
 apply aC q2<;>simp[rC,uZ,Ds.len]
 apply aC q3<;>simp[pA,Ds.len]
 apply aC q4<;>simp[lvA,sN,Ds.len]
 apply aC q5<;>simp[dC,wN,Ds.len]
 apply aC q6<;>simp[dD,wO,oH,cX,Ds.len,Ds.app]
 exact⟨[],by simp⟩
theorem FX(d:Dl)(h:BigD d):HH 96 [dlL d,dlL d] (.v (.bool true)):=by
 have q1:=k16 d.t
 have q2:=k16 d.b
 have q3:=k20 d.p
 have q4:=k127 d.s
 have q5:=sameMb d.m h.m
 have q6:=sameCt d.c h.c
 refine ab0 func96 ntmps96 results96 ?_
 simp[dlL,dlC]
 apply aC q1<;>simp
 apply aC q2<;>simp
 apply aC q3<;>simp
 apply aC q4<;>simp[lvA]
 apply aC q5<;>simp[dC]
 apply aC q6<;>simp[dD]
 exact⟨[],by simp⟩
theorem IN(d:Dl)(h:BigD d):HH 15 [oH d,dlL d] (.v (.bool true)):=by
 have q0:=FX d h
 have q1:=k23 d.t h.t
 have q2:=k23 d.b h.b
 have q3:=k22 d.p h.p
 have q4:=k104 d.s (Nat.le_trans h.s (by decide))
 have q5:=NN d.m h.m
 have q6:=NO d.c h.c
 refine ab0 func15 ntmps15 results15 ?_
 simp[dlL,dlC,oH,cX]
 apply aC q0<;>simp[dlL,dlC]
 ·exact .inr (by simp[Ds.app,Ds.strip,dP,cW,uY,vB,pT,ty])
 apply aC q1<;>simp[rC,uZ]
 apply aC q2<;>simp[rC,uZ]
 apply aC q3<;>simp[pA]
 apply aC q4<;>simp[lvA,sN]
 apply aC q5<;>simp[dC,wN]
 apply aC q6<;>simp[dD,wO]
 exact⟨[],by simp⟩
def gG:Ts->Bool
 | .nil=>false
 | .cons h x r=>(decide (h.k=11) || gG x) || gG r
def xK(t:Tm):Bool:=decide (t.h.k=11) || gG t.x
theorem vW:∀a b:Ts,gG (a.app b)=(gG a || gG b)
 | .nil,b=>by simp[Ts.app,gG]
 | .cons h x r,b=>by simp only[Ts.app,gG,vW r b,Bool.or_assoc]
theorem KN{t:Tm}(h:HH 129 [tsA none t.x] (.v (.bool (gG t.x)))):HH 222 [tmL t] (.v (.bool (xK t))):=by
 refine ab0 func222 ntmps222 results222 ?_
 unfold xK
 by_cases hk:t.h.k=11
 ·simp[hk]
  exact⟨[],by simp⟩
 ·simp[hk]
  apply aC h<;>simp
  exact⟨[],by simp⟩
def stSo(t a:Ts):St:=bV [(0,tsA none t),(3,iA a.len)] [] []
theorem QX:∀(M:Nat) (t:Ts),t.size<M->t.size<=100000000->HH 129 [tsA none t] (.v (.bool (gG t))):=by
 intro M
 induction M with
 | zero=>intro t h;omega
 | succ M ih =>
  intro t hM hs
  have hl:t.len<=100000000:=Nat.le_trans (len_le_size t) hs
  have d0:t.len*5 / 5=t.len:=by omega
  obtain⟨B,hB⟩:∃B,gG t=B:=⟨_,rfl⟩
  rw[hB]
  refine ab0 func129 ntmps129 results129 ?_
  simp
  refine lp (α:={ q:Ts×Ts // q.1.app q.2=t/\gG q.1=false }) (λ q=>stSo t q.1.1) (λ q=>q.1.2.len) ⟨(.nil,t),rfl,rfl⟩ ?_ ?_
  ·apply aK []<;>simp[AV.ok,Dc.ok,Ts.len]
  ·rintro⟨⟨a,q⟩,hq,hq0⟩
   simp only at hq hq0
   cases q with
   | nil =>
    have e:a=t:=by rw[<-hq];exact (Ts.app_nil a).symm
    subst e
    obtain rfl:B=false:=by rw[<-hB,hq0]
    simp[stSo,aF,d0]
    exact⟨[],by simp⟩
   | cons h y r =>
    have h1:a.len<t.len:=by rw[<-hq];simp[Ts.app_len,Ts.len]
    have h2:(tDs ty t).dp (a.len*5)=tDs ty (.cons h y r):=by rw[<-hq];exact fH a _
    have h4:aH h.l+y.size+1<=t.size:=by rw[<-hq];exact app_size
    have hw:=wr1 (k:=a.len) (by omega)
    have q1:=KN (t:=⟨h,y⟩) (ih y (by omega) (by omega))
    have e1:gG t=(xK ⟨h,y⟩ || gG r):=by
     rw[<-hq,vW,hq0]
     rfl
    cases hb:xK ⟨h,y⟩ with
    | true =>
     rw[hb] at q1 e1
     obtain rfl:B=true:=by rw[<-hB];simp[e1]
     simp[stSo,aF,d0,h1,h2]
     refine⟨by omega,?_⟩
     apply aC q1<;>simp
     exact⟨[],by simp⟩
    | false =>
     rw[hb] at q1
     simp[stSo,aF,d0,h1,h2]
     refine⟨by omega,?_⟩
     apply aC q1<;>simp
     refine⟨a.app (.cons h y .nil),r,by simp[Ts.len],⟨by rw[Ts.app_assoc];exact hq,?_⟩,?_⟩
     ·rw[vW,hq0]
      have:gG (.cons h y .nil)=xK ⟨h,y⟩:=by simp[gG,xK]
      rw[this,hb];rfl
     ·apply aK []<;>simp[AV.ok,Dc.ok,hw,Ts.app_len,Ts.len]
theorem KK(t:Ts)(hs:t.size<=100000000):HH 129 [tsA none t] (.v (.bool (gG t))):=QX _ t (Nat.lt_succ_self _) hs
theorem selfT(t:Tm)(hs:t.size<=100000000):HH 222 [tmL t] (.v (.bool (xK t))):=KN (KK t.x (by unfold Tm.size at hs;omega))
def DW(a b:Int)(h:Hd)(d:Nat):Bool:=decide (h.k=1) && (decide ((d:Int)<=h.n) && (decide (a<=IntKind.i64.wrap (h.n-d)) && decide (IntKind.i64.wrap (h.n-d)<b)))
def nY(a b:Int):Ts->Int->Nat->Nat->Bool
 | .nil,_,_,_=>false
 | .cons h x r,pk,i,d=>(DW a b h (aX pk i d) || nY a b x h.k 0 (aX pk i d)) || nY a b r pk (i+1) d
def mC(a b:Int)(t:Tm)(d:Nat):Bool:=DW a b t.h d || nY a b t.x t.h.k 0 d
theorem wW(f g:Int):∀(a b:Ts) (pk:Int) (i d:Nat),nY f g (a.app b) pk i d=(nY f g a pk i d || nY f g b pk (i+a.len) d)
 | .nil,b,pk,i,d=>by simp[Ts.app,nY,Ts.len]
 | .cons h x r,b,pk,i,d=>by
  simp only[Ts.app,nY,wW f g r b pk (i+1) d,Bool.or_assoc,Ts.len]
  rw[show i+1+r.len=i+(r.len+1) by omega]
theorem OA(k:Int)(i d:Nat):aX k i d<=d+1:=by unfold aX;split<;>omega
def stFr(f g:Int)(t:Tm)(d:Nat)(a:Ts):St:=bV [(1,iA f),(2,iA g),(3,iA d),(4,.bx 5 0),(9,iA a.len)] [(5,27,tmC none none t.h t.x)] []
theorem TJ(f g:Int):∀(M:Nat) (t:Tm) (d:Nat),t.size<M->t.size+d<=100000000->HH 223 [tmL t,iA f,iA g,iA d] (.v (.bool (mC f g t d))):=by
 intro M
 induction M with
 | zero=>intro t d h;omega
 | succ M ih =>
  rintro⟨H,x⟩ d hM hs
  have hl:x.len<=100000000:=Nat.le_trans (len_le_size x) (by unfold Tm.size at hs;simp only at hs;omega)
  have d0:x.len*5 / 5=x.len:=by omega
  have hxs:x.size<=M/\x.size+d<=100000000:=by unfold Tm.size at hM hs;simp only at hM hs;omega
  clear hM hs
  have hc:(DW f g H d=true/\H.k=1/\(d:Int)<=H.n/\f<=IntKind.i64.wrap (H.n-d)/\IntKind.i64.wrap (H.n-d)<g)∨(DW f g H d=false/\¬H.k=1)∨(DW f g H d=false/\H.k=1/\¬(d:Int)<=H.n)∨(DW f g H d=false/\H.k=1/\(d:Int)<=H.n/\¬f<=IntKind.i64.wrap (H.n-d))∨(DW f g H d=false/\H.k=1/\(d:Int)<=H.n/\f<=IntKind.i64.wrap (H.n-d)/\¬IntKind.i64.wrap (H.n-d)<g):=by
   unfold DW
   by_cases c1:H.k=1<;>by_cases c2:(d:Int)<=H.n<;>by_cases c3:f<=IntKind.i64.wrap (H.n-d)<;>by_cases c4:IntKind.i64.wrap (H.n-d)<g<;>simp[c1,c2,c3,c4]
  unfold mC
  obtain⟨B,hB⟩:∃B,nY f g x H.k 0 d=B:=⟨_,rfl⟩
  simp only
  rw[hB]
  refine ab0 func223 ntmps223 results223 ?_
  rcases hc with ⟨hh,c⟩|⟨hh,c⟩|⟨hh,c⟩|⟨hh,c⟩|⟨hh,c⟩
  ·simp only[hh,Bool.true_or]
   obtain⟨c1,c2,c3,c4⟩:=c
   simp[c1,c2,c3,c4]
   exact⟨[],by simp⟩
  all_goals
   simp only[hh,Bool.false_or]
   first
    | (obtain⟨c1,c2,c3,c4⟩:=c;simp only[Int.not_lt] at c4;simp[c1,c2,c3,c4];done)
    | skip
   simp[c]
   refine lp (α:={ q:Ts×Ts // q.1.app q.2=x/\nY f g q.1 H.k 0 d=false }) (λ q=>stFr f g ⟨H,x⟩ d q.1.1) (λ q=>q.1.2.len) ⟨(.nil,x),rfl,rfl⟩ ?_ ?_
   ·apply aK []<;>simp[AV.ok,Dc.ok,Ts.len,c]
   ·rintro⟨⟨a,q⟩,hq,hq0⟩
    simp only at hq hq0
    cases q with
    | nil =>
     have e:a=x:=by rw[<-hq];exact (Ts.app_nil a).symm
     subst e
     obtain rfl:B=false:=by rw[<-hB,hq0]
     simp[stFr,aF,d0]
     exact⟨[],by simp⟩
    | cons h y r =>
     have h1:a.len<x.len:=by rw[<-hq];simp[Ts.app_len,Ts.len]
     have h2:(tDs ty x).dp (a.len*5)=tDs ty (.cons h y r):=by rw[<-hq];exact fH a _
     have h4:aH h.l+y.size+1<=x.size:=by rw[<-hq];exact app_size
     have hw:=wr1 (k:=a.len) (by omega)
     have hd:=OA H.k a.len d
     have q0:=DR ⟨H,x⟩ a.len d (by omega)
     have q1:=ih ⟨h,y⟩ (aX H.k a.len d) (by unfold Tm.size;simp only;omega) (by unfold Tm.size;simp only;omega)
     have e1:nY f g x H.k 0 d=(mC f g ⟨h,y⟩ (aX H.k a.len d) || nY f g r H.k (a.len+1) d):=by
      rw[<-hq,wW,hq0,Nat.zero_add]
      rfl
     have e2:nY f g (a.app (.cons h y .nil)) H.k 0 d=mC f g ⟨h,y⟩ (aX H.k a.len d):=by
      rw[wW,hq0,Nat.zero_add]
      simp[nY,mC]
     cases hb:mC f g ⟨h,y⟩ (aX H.k a.len d) with
     | true =>
      rw[hb] at q1 e1
      obtain rfl:B=true:=by rw[<-hB];simp[e1]
      simp[stFr,aF,d0,h1,h2]
      refine⟨by kernel_rfl,by omega,?_⟩
      apply aC q0<;>simp
      apply aC q1<;>simp
      exact⟨[],by simp⟩
     | false =>
      rw[hb] at q1 e2
      simp[stFr,aF,d0,h1,h2]
      refine⟨by kernel_rfl,by omega,?_⟩
      apply aC q0<;>simp
      apply aC q1<;>simp
      refine⟨a.app (.cons h y .nil),r,by simp[Ts.len],⟨by rw[Ts.app_assoc];exact hq,e2⟩,?_⟩
      apply aK []<;>simp[AV.ok,Dc.ok,hw,Ts.app_len,Ts.len]
theorem MA(f g:Int)(t:Tm)(hs:t.size<=100000000):HH 131 [tmL t,iA f,iA g] (.v (.bool (mC f g t 0))):=by
 refine ab0 func131 ntmps131 results131 ?_
 simp
 apply aC (TJ f g _ t 0 (Nat.lt_succ_self _) (by omega))<;>simp
 exact⟨[],by simp⟩
def qA:Ts->Int->Nat
 | .cons _ _ (.cons b q .nil),k=>if k=4 then 1+qA q b.k else 0
 | _,_=>0
def cD(t:Tm):Nat:=qA t.x t.h.k
theorem qM(x:Ts):(∃a p b q,x=.cons a p (.cons b q .nil))∨(¬x.len=2):=by
 match x with
 | .nil=>exact .inr (by simp[Ts.len])
 | .cons a p .nil=>exact .inr (by simp[Ts.len])
 | .cons a p (.cons b q .nil)=>exact .inl ⟨a,p,b,q,rfl⟩
 | .cons a p (.cons b q (.cons c r s))=>exact .inr (by simp[Ts.len])
theorem tD{x:Ts}{k:Int}(h:¬k=4∨¬x.len=2):qA x k=0:=by
 match x with
 | .nil=>rfl
 | .cons a p .nil=>rfl
 | .cons a p (.cons b q .nil) =>
  rcases h with h|h
  ·simp[qA,h]
  ·exact absurd rfl h
 | .cons a p (.cons b q (.cons c r s))=>rfl
theorem xB:∀(M:Nat) (x:Ts) (k:Int),x.size<M->qA x k<=x.size
 | 0,_,_,h=>by omega
 | M+1,x,k,h=>by
  rcases qM x with ⟨a,p,b,q,rfl⟩|hn
  ·have:=xB M q b.k (by simp only[Ts.size] at h;omega)
   simp only[qA,Ts.size] at *
   split<;>omega
  ·rw[tD (.inr hn)];omega
def stCo(n:Nat)(u:Tm):St:=bV [(1,.bx 2 0),(3,iA n)] [(2,27,tmC none none u.h u.x)] []
theorem JQ(t:Tm)(hs:t.size<=100000000):HH 125 [tmL t] (iA (cD t)):=by
 have hc:=xB _ t.x t.h.k (Nat.lt_succ_self _)
 have hcs:cD t<=100000000:=by unfold cD;unfold Tm.size at hs;omega
 obtain⟨C,hC⟩:∃C,cD t=C:=⟨_,rfl⟩
 rw[hC] at hcs ⊢
 refine ab0 func125 ntmps125 results125 ?_
 simp
 refine lp (α:={ q:Nat×Tm // cD q.2+q.1=C }) (λ q=>stCo q.1.1 q.1.2) (λ q=>q.1.2.x.size) ⟨(0,t),hC⟩ ?_ ?_
 ·apply aK []<;>simp[AV.ok,Dc.ok]
 ·rintro⟨⟨n,H,x⟩,hq⟩
  simp only at hq
  have hw:=wr1 (k:=n) (by omega)
  have stop:¬H.k=4∨¬x.len=2->C=n:=λ h=>by
   rw[<-hq]
   unfold cD
   simp only
   rw[tD h];omega
  by_cases hk:H.k=4
  ·rcases qM x with ⟨a,p,b,q,rfl⟩|hn
   ·have e1:cD ⟨H,.cons a p (.cons b q .nil)⟩=1+cD ⟨b,q⟩:=by simp[cD,qA,hk]
    simp[stCo,hk]
    refine⟨n+1,⟨b,q⟩,by simp[Ts.size];omega,by omega,?_⟩
    apply aK []<;>simp[AV.ok,Dc.ok,hw]
   ·obtain rfl:=stop (.inr hn)
    have d0:x.len*5 / 5=x.len:=by omega
    have hn':¬(x.len:Int)=2:=by omega
    simp[stCo,hk,aF,d0,hn,hn']
    exact⟨[],by simp⟩
  ·obtain rfl:=stop (.inl hk)
   simp[stCo,hk]
   exact⟨[],by simp⟩
def lT:Nat->Tm->Ts
 | 0,_=>.nil
 | n+1,t=>match t.x with
  | .cons a p (.cons b q .nil)=>.cons a p (lT n ⟨b,q⟩)
  | _=>.nil
def mY:Nat->Tm->Tm
 | 0,t=>t
 | n+1,t=>match t.x with
  | .cons _ _ (.cons b q .nil)=>mY n ⟨b,q⟩
  | _=>t
theorem wJ:∀(n:Nat) (t:Tm),(lT n t).size+(mY n t).size<=t.size
 | 0,t=>by simp[lT,mY,Ts.size]
 | n+1,⟨H,x⟩=>by
  rcases qM x with ⟨a,p,b,q,rfl⟩|hn
  ·have:=wJ n ⟨b,q⟩
   simp only[lT,mY,Ts.size,Tm.size] at *
   omega
  ·match x,hn with
   | .nil,_=>simp[lT,mY,Ts.size]
   | .cons a p .nil,_=>simp[lT,mY,Ts.size]
   | .cons a p (.cons b q .nil),hn=>exact absurd rfl hn
   | .cons a p (.cons b q (.cons c r s)),_=>simp[lT,mY,Ts.size]
theorem wK:∀(n:Nat) (t:Tm),t.fits->(lT n t).fits/\(mY n t).fits
 | 0,t,h=>⟨trivial,h⟩
 | n+1,⟨H,x⟩,h=>by
  match x,h with
  | .nil,h=>exact⟨trivial,h⟩
  | .cons a p .nil,h=>exact⟨trivial,h⟩
  | .cons a p (.cons b q .nil),h =>
   have:=wK n ⟨b,q⟩ ⟨h.2.2.2.1,h.2.2.2.2.1⟩
   exact⟨⟨h.2.1,h.2.2.1,this.1⟩,this.2⟩
  | .cons a p (.cons b q (.cons c r s)),h=>exact⟨trivial,h⟩
theorem CY:∀(n:Nat) (t:Tm),n<=cD t->(lT n t).len=n
 | 0,_,_=>rfl
 | n+1,⟨H,x⟩,h=>by
  rcases qM x with ⟨a,p,b,q,rfl⟩|hn
  ·have h2:n<=cD ⟨b,q⟩:=by
    unfold cD at *
    simp only[qA] at h
    split at h
    ·simp only;omega
    ·omega
   simp only[lT,Ts.len,CY n ⟨b,q⟩ h2]
  ·unfold cD at h
   rw[tD (.inr hn)] at h
   omega
def stOp(n:Nat)(a:Ts)(u:Tm):St:=bV [(1,iA n),(2,.bx 3 0),(5,.bx 6 0),(7,.c (.blk 31 (a.len+1) 5 27 (.seg none (tDs ty a) .nil) .nil)),(8,iA a.len)] [(3,27,tmC none none u.h u.x),(6,27,zC)] [(31,a.len+1)]
theorem OpenT(t:Tm)(n:Nat)(hn:n<=cD t)(hf:t.fits)(hs:t.size<=100000000):HH 126 [tmL t,iA n] (.tup (AV.list [tsA none (lT n t),tmL (mY n t),.v (.bool true)])):=by
 have hc:=xB _ t.x t.h.k (Nat.lt_succ_self _)
 have hcs:cD t<=100000000:=by unfold cD;unfold Tm.size at hs;omega
 have q0:=JQ t hs
 have hn0:¬(n:Int)<0:=by omega
 have hn1:¬(cD t:Int)<n:=by omega
 obtain⟨I0,hI0⟩:∃I0,lT n t=I0:=⟨_,rfl⟩
 obtain⟨R0,hR0⟩:∃R0,mY n t=R0:=⟨_,rfl⟩
 rw[hI0,hR0]
 refine ab0 func126 ntmps126 results126 ?_
 simp[hn0]
 apply aC q0<;>simp[hn1]
 refine lp (α:={ q:Ts×Nat×Tm // q.1.len+q.2.1=n/\q.2.1<=cD q.2.2/\q.1.app (lT q.2.1 q.2.2)=I0/\mY q.2.1 q.2.2=R0/\q.2.2.fits/\q.2.2.size<=t.size }) (λ q=>stOp n q.1.1 q.1.2.2) (λ q=>q.1.2.1) ⟨(.nil,n,t),by simp[Ts.len],hn,hI0,hR0,hf,Nat.le_refl _⟩ ?_ ?_
 ·apply aK [((31,0),[(31,0)])]<;>simp[AV.ok,Dc.ok,Ts.len]
 ·rintro⟨⟨a,m,H,x⟩,ha,hm,hI,hR,hfx,hsx⟩
  simp only at ha hm hI hR hfx hsx
  cases m with
  | zero =>
   simp only[lT,Ts.app_nil] at hI
   simp only[mY] at hR
   have hal:¬(a.len:Int)<n:=by omega
   subst hI hR
   simp[stOp,hal]
   apply aC (rH ⟨H,x⟩ hfx (by omega))<;>simp[Ds.app_nil]
   exact⟨[],by simp⟩
  | succ m =>
   rcases qM x with ⟨a',p,b,q,rfl⟩|hno
   ·have hal:(a.len:Int)<n:=by omega
    have hw:=wr1 (k:=a.len) (by omega)
    simp only[lT] at hI
    simp only[mY] at hR
    simp only[Tm.size,Ts.size] at hsx
    have h2:m<=cD ⟨b,q⟩:=by
     unfold cD at *
     simp only[qA] at hm
     split at hm
     ·simp only;omega
     ·omega
    simp[stOp,hal]
    apply aC (rH ⟨a',p⟩ ⟨hfx.2.1,hfx.2.2.1⟩ (by unfold Tm.size at *;simp only;omega))<;>simp
    refine⟨by rw[aF];omega,a.app (.cons a' p .nil),m,by omega,⟨b,q⟩,⟨by simp[Ts.app_len,Ts.len];omega,h2,by rw[Ts.app_assoc];exact hI,hR,⟨hfx.2.2.2.1,hfx.2.2.2.2.1⟩,by unfold Tm.size at *;simp only;omega⟩,?_⟩
    apply aK [((31,0),[(31,0)])]<;>simp[Ts.len,Ts.app_len,AV.ok,Dc.ok,hw]
    exact (bG ty a (.cons a' p .nil)).symm
   ·exfalso
    unfold cD at hm
    rw[tD (.inr hno)] at hm
    omega
def kU:Ts->Int->Ts
 | .cons a p (.cons b q .nil),k=>if k=6 then .cons b q (kU p a.k) else .nil
 | _,_=>.nil
def mB:Ts->Hd->Tm
 | .cons a p (.cons b q .nil),H=>if H.k=6 then mB p a else ⟨H,.cons a p (.cons b q .nil)⟩
 | x,H=>⟨H,x⟩
theorem BQ{x:Ts}{k:Int}(h:¬k=6∨¬x.len=2):kU x k=.nil:=by
 match x with
 | .nil=>rfl
 | .cons a p .nil=>rfl
 | .cons a p (.cons b q .nil) =>
  rcases h with h|h
  ·simp[kU,h]
  ·exact absurd rfl h
 | .cons a p (.cons b q (.cons c r s))=>rfl
theorem AQ{x:Ts}{H:Hd}(h:¬H.k=6∨¬x.len=2):mB x H=⟨H,x⟩:=by
 match x with
 | .nil=>rfl
 | .cons a p .nil=>rfl
 | .cons a p (.cons b q .nil) =>
  rcases h with h|h
  ·simp[mB,h]
  ·exact absurd rfl h
 | .cons a p (.cons b q (.cons c r s))=>rfl
theorem pN:∀(M:Nat) (x:Ts) (H:Hd),x.size<M->(mB x H).size+(kU x H.k).size<=aH H.l+x.size
 | 0,_,_,h=>by omega
 | M+1,x,H,h=>by
  rcases qM x with ⟨a,p,b,q,rfl⟩|hn
  ·have:=pN M p a (by simp only[Ts.size] at h;omega)
   simp only[mB,kU]
   split
   ·simp only[Ts.size] at *
    omega
   ·simp[Tm.size,Ts.size]
  ·rw[AQ (.inr hn),BQ (.inr hn)]
   simp[Tm.size,Ts.size]
theorem pO:∀(M:Nat) (x:Ts) (H:Hd),x.size<M->H.fits->x.fits->(mB x H).fits/\(kU x H.k).fits
 | 0,_,_,h,_,_=>by omega
 | M+1,x,H,h,hH,hx=>by
  rcases qM x with ⟨a,p,b,q,rfl⟩|hn
  ·have:=pO M p a (by simp only[Ts.size] at h;omega) hx.1 hx.2.1
   simp only[mB,kU]
   split
   ·exact⟨this.1,hx.2.2.1,hx.2.2.2.1,this.2⟩
   ·exact⟨⟨hH,hx⟩,trivial⟩
  ·rw[AQ (.inr hn),BQ (.inr hn)]
   exact⟨⟨hH,hx⟩,trivial⟩
theorem W1:∀(t:Ts) (k:Nat),(t.drop k).len=t.len-k
 | .nil,k=>by cases k<;>simp[Ts.drop,Ts.len]
 | .cons h x r,0=>rfl
 | .cons h x r,k+1=>by
  have:=W1 r k
  simp only[Ts.drop,Ts.len] at *
  omega
def qS:Ts->Ts
 | .nil=>.nil
 | .cons h x r=>(qS r).app (.cons h x .nil)
theorem CG:∀t:Ts,(qS t).len=t.len
 | .nil=>rfl
 | .cons h x r=>by simp[qS,Ts.app_len,CG r,Ts.len]
theorem vZ:∀t:Ts,(qS t).size=t.size
 | .nil=>rfl
 | .cons h x r=>by simp only[qS,iJ,vZ r,Ts.size];omega
theorem wA:∀t:Ts,t.fits->(qS t).fits
 | .nil,_=>trivial
 | .cons h x r,hf=>kL (wA r hf.2.2) ⟨hf.1,hf.2.1,trivial⟩
def stSp(a:Ts)(u:Tm):St:=bV [(1,.bx 2 0),(2,.bx 3 0),(4,.c (.blk 23 (a.len+1) 5 27 (.seg none (tDs ty a) .nil) .nil))] [(2,27,tmC none none u.h u.x),(3,27,zC)] [(23,a.len+1)]
def stSq(t:Ts)(u:Tm)(j:Nat):St:=bV [(1,.bx 2 0),(2,.bx 3 0),(4,tsA none t),(5,.c (.blk 42 (t.len-j+1) 5 27 (.seg none (tDs ty (qS (t.drop j))) .nil) .nil)),(6,iA ((j:Int)-1))] [(2,27,tmC none none u.h u.x),(3,27,zC)] [(42,t.len-j+1)]
theorem VI(t:Tm)(hf:t.fits)(hs:t.size<=100000000):HH 128 [tmL t] (.tup (AV.list [tmL (mB t.x t.h),tsA none (qS (kU t.x t.h.k))])):=by
 have hsp:=pN _ t.x t.h (Nat.lt_succ_self _)
 obtain⟨hf1,hf2⟩:=pO _ t.x t.h (Nat.lt_succ_self _) hf.1 hf.2
 have hsz:(mB t.x t.h).size<=100000000/\(kU t.x t.h.k).size<=100000000:=by unfold Tm.size at hs;omega
 generalize hB:kU t.x t.h.k=B at *
 generalize hH:mB t.x t.h=E at *
 have hbl:B.len<=100000000:=Nat.le_trans (len_le_size B) hsz.2
 have d0:B.len*5 / 5=B.len:=by omega
 refine ab0 func128 ntmps128 results128 ?_
 simp
 refine lp (α:={ q:Ts×Tm // q.1.app (kU q.2.x q.2.h.k)=B/\mB q.2.x q.2.h=E }) (λ q=>stSp q.1.1 q.1.2) (λ q=>q.1.2.x.size) ⟨(.nil,t),hB,hH⟩ ?_ ?_
 ·apply aK [((23,0),[(23,0)])]<;>simp[AV.ok,Dc.ok,Ts.len]
 ·rintro⟨⟨a,H,x⟩,ha,hE⟩
  simp only at ha hE
  have LAST:∀u:Tm,u=E->a=B->True:=λ _ _ _=>trivial
  have stop:¬H.k=6∨¬x.len=2->a=B/\(⟨H,x⟩:Tm)=E:=λ h=>by
   rw[BQ h,Ts.app_nil] at ha
   rw[AQ h] at hE
   exact⟨ha,hE⟩
  have hc:(H.k=6/\∃a p b q,x=.cons a p (.cons b q .nil))∨(H.k=6/\¬x.len=2)∨¬H.k=6:=by
   by_cases hk:H.k=6
   ·rcases qM x with h|h
    ·exact .inl ⟨hk,h⟩
    ·exact .inr (.inl ⟨hk,h⟩)
   ·exact .inr (.inr hk)
  rcases hc with ⟨hk,a',p,b,q,rfl⟩|hc
  ·have e1:kU (.cons a' p (.cons b q .nil)) H.k=.cons b q (kU p a'.k):=by simp[kU,hk]
   have e2:mB (.cons a' p (.cons b q .nil)) H=mB p a':=by simp[mB,hk]
   rw[e1] at ha
   rw[e2] at hE
   have hal:a.len<B.len:=by rw[<-ha];simp[Ts.app_len,Ts.len]
   simp[stSp,hk]
   refine⟨by rw[aF];omega,a.app (.cons b q .nil),⟨a',p⟩,by simp[Ts.size];omega,⟨by rw[Ts.app_assoc];exact ha,hE⟩,?_⟩
   apply aK [((23,0),[(23,0)])]<;>simp[Ts.len,Ts.app_len,AV.ok,Dc.ok]
   exact (bG ty a (.cons b q .nil)).symm
  ·obtain⟨rfl,rfl⟩:=stop (by rcases hc with ⟨-,h⟩|h;exact .inr h;exact .inl h)
   have d1:x.len*5 / 5=x.len:=by omega
   have w0:IntKind.i64.wrap ((a.len:Int)-1)=a.len-1:=by rw[IntKind.wrap_i64];omega
   rcases hc with ⟨hk,hn⟩|hk
   case' inl=>have hn':¬(x.len:Int)=2:=by omega
   case' inl=>simp[stSp,hk,aF,d0,d1,w0,hn,hn',Ds.app_nil]
   case' inr=>simp[stSp,hk,aF,d0,w0,Ds.app_nil]
   all_goals
    refine lp (α:={ j:Nat // j<=a.len }) (λ j=>stSq a ⟨H,x⟩ j.1) (λ j=>j.1) ⟨a.len,Nat.le_refl _⟩ ?_ ?_
    ·apply aK [((42,0),[(42,0)])]<;>simp[AV.ok,Dc.ok,Ts.drop_len,qS,hk,Ds.app_nil]
    ·rintro⟨j,hj⟩
     cases j with
     | zero =>
      simp[stSq,Ts.drop]
      apply aC (rH ⟨H,x⟩ hf1 (by omega))<;>simp[Ds.app_nil]
      first|exact⟨[],by simp⟩|exact⟨hk,[],by simp⟩
     | succ j =>
      have h1:j<a.len:=hj
      have h2:=tB a j
      have h3:=Ts.drop_step h1
      have h4:=Ts.fits_hd hf2 h1
      have h5:=Ts.size_kd h1
      rw[h3] at h2
      have h6:qS (a.drop j)=(qS (a.drop (j+1))).app (.cons (a.hd j) (a.kd j) .nil):=by rw[h3];rfl
      have h7:(qS (a.drop (j+1))).len<=100000000:=by
       rw[CG,W1];omega
      have w1:IntKind.i64.wrap ((j:Int)-1)=j-1:=by rw[IntKind.wrap_i64];omega
      have n1:a.len-(j+1)+1+1=a.len-j+1:=by omega
      generalize a.hd j=hh at *
      generalize a.kd j=hx at *
      generalize hR:qS (a.drop (j+1))=R at *
      simp[stSq,h2,aF,hR]
      refine⟨by omega,?_⟩
      apply aC (rH ⟨hh,hx⟩ h4 (by show aH hh.l+hx.size<=200000000;omega))<;>simp[w1,n1,aF]
      refine⟨by omega,j,by omega,by omega,?_⟩
      apply aK [((42,0),[(42,0)])]<;>simp[AV.ok,Dc.ok,h6]
      exact (bG ty R (.cons hh hx .nil)).symm
def eA(n:Int):AV:=iA n
abbrev mW(n:Int):Prop:=-9223372036854775808<=n/\n<=9223372036854775807
structure OkAg (t:Tm) (a:Ag):Prop where
 tf:a.t.fits
 ef:a.e.fits
 xf:a.i.fits
 s:a.t.size+a.e.size+a.i.size<=t.size
 mw:mW a.m
theorem X3(t:Tm):OkAg t ⟨false,⟨⟨0,0,0,[]⟩,.nil⟩,.nil,0,.nil⟩:=⟨⟨eQ (by decide) (by decide) (by decide),trivial⟩,trivial,trivial,by simp[Tm.size,Ts.size,aH],by decide,by decide⟩
theorem argT(d:Dl)(t:Tm)(hf:t.fits)(hs:t.size<=100000000)(hm:d.m.length<=100000000):∃a e,HH 127 [dlL d,tmL t] (.tup (AV.list [agL a,iA e]))/\OkAg t a:=by
 have dm:(bI d.m).len=d.m.length:=aW _
 have q1:=selfT t hs
 cases hb:xK t with
 | false =>
  rw[hb] at q1
  refine⟨⟨false,t,.nil,0,.nil⟩,0,?_,hf,trivial,trivial,by simp[Ts.size],by simp,by simp⟩
  refine ab0 func127 ntmps127 results127 ?_
  simp[dlL,dlC]
  apply aC q1<;>simp
  apply aC (rH t hf (by omega))<;>simp
  exact⟨[],by simp[agL,agC]⟩
 | true =>
  rw[hb] at q1
  have q2:=JQ t hs
  by_cases hn:(cD t:Int)<=6
  ·have q3:=OpenT t (cD t) (Nat.le_refl _) hf hs
   have hO:=wJ (cD t) t
   obtain⟨f1,f2⟩:=wK (cD t) t hf
   generalize lT (cD t) t=T at *
   generalize mY (cD t) t=R at *
   have q4:=VI R f2 (by omega)
   have hS:=pN _ R.x R.h (Nat.lt_succ_self _)
   obtain⟨f3,f4⟩:=pO _ R.x R.h (Nat.lt_succ_self _) f2.1 f2.2
   have hA:(qS (kU R.x R.h.k)).size<=R.size:=by rw[vZ];unfold Tm.size;omega
   have f5:=wA _ f4
   generalize qS (kU R.x R.h.k)=A at *
   generalize mB R.x R.h=E at *
   have q5:=KK T (by omega)
   have q6:=KK A (by omega)
   have hAl:A.len<=100000000:=Nat.le_trans (len_le_size A) (by omega)
   have dA:A.len*5 / 5=A.len:=by omega
   have hn':¬(6:Int)<cD t:=by omega
   by_cases hg:gG T=false/\E.h.k=11/\0<=E.h.a/\E.h.a<d.m.length/\gG A=false
   ·obtain⟨g1,g2,g3,g4,g5⟩:=hg
    rw[g1] at q5
    rw[g5] at q6
    obtain⟨k,hk⟩:=Int.eq_ofNat_of_zero_le g3
    have hkl:k<d.m.length:=by omega
    have hdp:=NZ hkl
    simp only[Nat.mul_one] at hdp
    have g3':¬E.h.a<0:=by omega
    have g4':¬(d.m.length:Int)<=E.h.a:=by omega
    have hil:d.m[k].len*5 / 5=d.m[k].len:=by omega
    by_cases hl:(A.len:Int)=d.m[k].len
    ·have hl':A.len=d.m[k].len:=by omega
     refine⟨⟨true,⟨⟨0,0,0,[]⟩,.nil⟩,T,E.h.a,A⟩,0,?_,⟨eQ (by decide) (by decide) (by decide),trivial⟩,f1,f5,?_,by constructor<;>(simp only;omega)⟩
     ·refine ab0 func127 ntmps127 results127 ?_
      simp[dlL,dlC]
      apply aC q1<;>simp
      apply aC q2<;>simp[hn']
      apply aC q3<;>simp
      apply aC q4<;>simp
      apply aC q5<;>simp[g2,g3',g4',dm]
      apply aC q6<;>simp[g2,g3',g4',dm,hk,hdp,bI,aF,dA,hil,hl,hl']
      try refine⟨by omega,?_⟩
      exact⟨[],by simp[agL,agC,hk]⟩
     ·have:Tm.size ⟨⟨0,0,0,[]⟩,.nil⟩=0:=by simp[Tm.size,Ts.size,aH]
      simp only[this];omega
    ·have hl':¬A.len=d.m[k].len:=by omega
     refine⟨_,17,?_,X3 t⟩
     refine ab0 func127 ntmps127 results127 ?_
     simp[dlL,dlC]
     apply aC q1<;>simp
     apply aC q2<;>simp[hn']
     apply aC q3<;>simp
     apply aC q4<;>simp
     apply aC q5<;>simp[g2,g3',g4',dm]
     apply aC q6<;>simp[g2,g3',g4',dm,hk,hdp,bI,aF,dA,hil,hl,hl']
     try refine⟨by omega,?_⟩
     exact⟨[],by simp[agL,agC]⟩
   ·refine⟨_,16,?_,X3 t⟩
    refine ab0 func127 ntmps127 results127 ?_
    simp[dlL,dlC]
    apply aC q1<;>simp
    apply aC q2<;>simp[hn']
    apply aC q3<;>simp
    apply aC q4<;>simp
    cases g1:gG T with
    | true =>
     rw[g1] at q5
     apply aC q5<;>simp
     exact⟨[],by simp[agL,agC]⟩
    | false =>
     rw[g1] at q5
     by_cases g2:E.h.k=11
     ·by_cases g3:E.h.a<0
      ·apply aC q5<;>simp[g2,g3]
       exact⟨[],by simp[agL,agC]⟩
      ·by_cases g4:(d.m.length:Int)<=E.h.a
       ·apply aC q5<;>simp[g2,g3,g4,dm]
        exact⟨[],by simp[agL,agC]⟩
       ·cases g5:gG A with
        | true =>
         rw[g5] at q6
         apply aC q5<;>simp[g2,g3,g4,dm]
         apply aC q6<;>simp[g2,g3,g4,dm]
         exact⟨[],by simp[agL,agC]⟩
        | false=>exact absurd ⟨g1,g2,by omega,by omega,g5⟩ hg
     ·apply aC q5<;>simp[g2]
      exact⟨[],by simp[agL,agC]⟩
  ·refine⟨_,3,?_,X3 t⟩
   have hn':(6:Int)<cD t:=by omega
   refine ab0 func127 ntmps127 results127 ?_
   simp[dlL,dlC]
   apply aC q1<;>simp
   apply aC q2<;>simp[hn']
   exact⟨[],by simp[agL,agC]⟩
def qI(f:Nat->Hd->Ts->Bool):Ts->Nat->Bool
 | .nil,_=>false
 | .cons h x r,k=>f k h x || qI f r (k+1)
theorem rV(f:Nat->Hd->Ts->Bool):∀(a b:Ts) (k:Nat),qI f (a.app b) k=(qI f a k || qI f b (k+a.len))
 | .nil,b,k=>by simp[Ts.app,qI,Ts.len]
 | .cons h x r,b,k=>by
  simp only[Ts.app,qI,rV f r b (k+1),Bool.or_assoc,Ts.len]
  rw[show k+1+r.len=k+(r.len+1) by omega]
def fE(far:Int)(k:Nat)(h:Hd)(y:Ts):Bool:=mC (IntKind.i64.wrap (far+k)) (IntKind.i64.wrap (IntKind.i64.wrap (far+k)+1)) ⟨h,y⟩ 0
def fI(far:Int)(_:Nat)(h:Hd)(y:Ts):Bool:=mC far (IntKind.i64.wrap (far+1)) ⟨h,y⟩ 0
def stMe(a:Ag)(far:Int)(k:Nat):St:=bV [(1,iA far),(2,.bx 3 0),(5,iA k)] [(3,73,agC a)] []
def stMf(a:Ag)(far:Int)(k:Nat):St:=bV [(1,iA far),(2,.bx 3 0),(6,iA k)] [(3,73,agC a)] []
theorem MZ(a:Ag)(far:Int)(h1:a.t.size<=100000000)(h2:a.e.size<=100000000)(h3:a.i.size<=100000000):∃b,HH 130 [agL a,iA far] (.v (.bool b)):=by
 have hel:a.e.len<=100000000:=Nat.le_trans (len_le_size _) h2
 have hil:a.i.len<=100000000:=Nat.le_trans (len_le_size _) h3
 have de:a.e.len*5 / 5=a.e.len:=by omega
 have di:a.i.len*5 / 5=a.i.len:=by omega
 cases hr:a.r with
 | false =>
  refine⟨mC far (IntKind.i64.wrap (far+1)) a.t 0,?_⟩
  refine ab0 func130 ntmps130 results130 ?_
  simp[agL,hr]
  apply aC (MA far (IntKind.i64.wrap (far+1)) a.t h1)<;>simp
  exact⟨[],by simp⟩
 | true =>
  obtain⟨F,hF⟩:∃F,IntKind.i64.wrap (far+a.e.len)=F:=⟨_,rfl⟩
  obtain⟨B1,hB1⟩:∃B,qI (fE far) a.e 0=B:=⟨_,rfl⟩
  obtain⟨B2,hB2⟩:∃B,qI (fI F) a.i 0=B:=⟨_,rfl⟩
  refine⟨B1 || B2,?_⟩
  refine ab0 func130 ntmps130 results130 ?_
  simp[agL,hr]
  refine lp (α:={ q:Ts×Ts // q.1.app q.2=a.e/\qI (fE far) q.1 0=false }) (λ q=>stMe a far q.1.1.len) (λ q=>q.1.2.len) ⟨(.nil,a.e),rfl,rfl⟩ ?_ ?_
  ·apply aK []<;>simp[AV.ok,Dc.ok,Ts.len,hr]
  ·rintro⟨⟨p,q⟩,hq,hq0⟩
   simp only at hq hq0
   cases q with
   | nil =>
    have e:p=a.e:=by rw[<-hq];exact (Ts.app_nil p).symm
    have hp:p.len=a.e.len:=by rw[e]
    rw[e] at hq0
    obtain rfl:B1=false:=by rw[<-hB1,hq0]
    rw[Bool.false_or]
    simp[stMe,aF,de,hp,hF]
    refine lp (α:={ q:Ts×Ts // q.1.app q.2=a.i/\qI (fI F) q.1 0=false }) (λ q=>stMf a F q.1.1.len) (λ q=>q.1.2.len) ⟨(.nil,a.i),rfl,rfl⟩ ?_ ?_
    ·apply aK []<;>simp[AV.ok,Dc.ok,Ts.len]
    ·rintro⟨⟨p,q⟩,hq,hq0⟩
     simp only at hq hq0
     cases q with
     | nil =>
      have e:p=a.i:=by rw[<-hq];exact (Ts.app_nil p).symm
      have hp:p.len=a.i.len:=by rw[e]
      rw[e] at hq0
      obtain rfl:B2=false:=by rw[<-hB2,hq0]
      simp[stMf,aF,di,hp]
      exact⟨[],by simp⟩
     | cons h y r =>
      have h1:p.len<a.i.len:=by rw[<-hq];simp[Ts.app_len,Ts.len]
      have h2:(tDs ty a.i).dp (p.len*5)=tDs ty (.cons h y r):=by rw[<-hq];exact fH p _
      have h4:aH h.l+y.size+1<=a.i.size:=by rw[<-hq];exact app_size
      have hw:=wr1 (k:=p.len) (by omega)
      have q1:=MA F (IntKind.i64.wrap (F+1)) ⟨h,y⟩ (by unfold Tm.size;simp only;omega)
      have e1:qI (fI F) a.i 0=(mC F (IntKind.i64.wrap (F+1)) ⟨h,y⟩ 0 || qI (fI F) r (p.len+1)):=by
       rw[<-hq,rV,hq0,Nat.zero_add];rfl
      have e2:qI (fI F) (p.app (.cons h y .nil)) 0=mC F (IntKind.i64.wrap (F+1)) ⟨h,y⟩ 0:=by
       rw[rV,hq0,Nat.zero_add];simp[qI,fI]
      cases hb:mC F (IntKind.i64.wrap (F+1)) ⟨h,y⟩ 0 with
      | true =>
       rw[hb] at q1 e1
       obtain rfl:B2=true:=by rw[<-hB2];simp[e1]
       simp[stMf,aF,di,h1,h2]
       refine⟨by omega,?_⟩
       apply aC q1<;>simp
       exact⟨[],by simp⟩
      | false =>
       rw[hb] at q1 e2
       simp[stMf,aF,di,h1,h2]
       refine⟨by omega,?_⟩
       apply aC q1<;>simp
       refine⟨p.app (.cons h y .nil),r,by simp[Ts.len],⟨by rw[Ts.app_assoc];exact hq,e2⟩,?_⟩
       apply aK []<;>simp[AV.ok,Dc.ok,hw,Ts.app_len,Ts.len]
   | cons h y r =>
    have h1:p.len<a.e.len:=by rw[<-hq];simp[Ts.app_len,Ts.len]
    have h2:(tDs ty a.e).dp (p.len*5)=tDs ty (.cons h y r):=by rw[<-hq];exact fH p _
    have h4:aH h.l+y.size+1<=a.e.size:=by rw[<-hq];exact app_size
    have hw:=wr1 (k:=p.len) (by omega)
    have q1:=MA (IntKind.i64.wrap (far+p.len)) (IntKind.i64.wrap (IntKind.i64.wrap (far+p.len)+1)) ⟨h,y⟩ (by unfold Tm.size;simp only;omega)
    have e1:qI (fE far) a.e 0=(fE far p.len h y || qI (fE far) r (p.len+1)):=by
     rw[<-hq,rV,hq0,Nat.zero_add];rfl
    have e2:qI (fE far) (p.app (.cons h y .nil)) 0=fE far p.len h y:=by
     rw[rV,hq0,Nat.zero_add];simp[qI]
    change HH 131 _ (.v (.bool (fE far p.len h y))) at q1
    cases hb:fE far p.len h y with
    | true =>
     rw[hb] at q1 e1
     obtain rfl:B1=true:=by rw[<-hB1];simp[e1]
     simp[stMe,aF,de,h1,h2]
     refine⟨by omega,?_⟩
     apply aC q1<;>simp
     exact⟨[],by simp⟩
    | false =>
     rw[hb] at q1 e2
     simp[stMe,aF,de,h1,h2]
     refine⟨by omega,?_⟩
     apply aC q1<;>simp
     refine⟨p.app (.cons h y .nil),r,by simp[Ts.len],⟨by rw[Ts.app_assoc];exact hq,e2⟩,?_⟩
     apply aK []<;>simp[AV.ok,Dc.ok,hw,Ts.app_len,Ts.len,hr]
section
def zAg:Ag:=⟨false,⟨⟨0,0,0,[]⟩,.nil⟩,.nil,0,.nil⟩
def tV(f:Tm->Ag×Int):Ts->List Ag->Option (List Ag×Int)
 | .nil,_=>none
 | .cons h x r,acc=>if (f ⟨h,x⟩).2=0 then tV f r (acc++[(f ⟨h,x⟩).1]) else some (acc,(f ⟨h,x⟩).2)
def gE(f:Tm->Ag×Int):Ts->List Ag
 | .nil=>[]
 | .cons h x r=>(f ⟨h,x⟩).1 :: gE f r
theorem xD(f:Tm->Ag×Int):∀a b:Ts,gE f (a.app b)=gE f a++gE f b
 | .nil,b=>rfl
 | .cons h x r,b=>by simp only[Ts.app,gE,xD f r b,List.cons_append]
theorem pK(f:Tm->Ag×Int):∀a:Ts,(gE f a).length=a.len
 | .nil=>rfl
 | .cons h x r=>by simp only[gE,List.length_cons,pK f r,Ts.len]
theorem yB(f:Tm->Ag×Int)(hf:∀t:Tm,t.fits->t.size<=100000000->OkAg t (f t).1):∀t:Ts,t.fits->t.size<=100000000->(iF (gE f t)/\∀a∈gE f t,mW a.m)/\dI (gE f t)<=t.size
 | .nil,_,_=>⟨⟨fun a ha=>(by cases ha),λ a ha=>(by cases ha)⟩,Nat.le_refl _⟩
 | .cons h x r,hft,hs=>by
  simp only[Ts.size] at hs
  have h1:=hf ⟨h,x⟩ ⟨hft.1,hft.2.1⟩ (by unfold Tm.size;simp only;omega)
  obtain⟨h2,h3⟩:=yB f hf r hft.2.2 (by omega)
  refine⟨⟨fun a ha=>?_,λ a ha=>?_⟩,?_⟩
  ·rcases List.mem_cons.1 ha with rfl|ha
   ·exact⟨h1.tf,h1.ef,h1.xf⟩
   ·exact h2.1 a ha
  ·rcases List.mem_cons.1 ha with rfl|ha
   ·exact h1.mw
   ·exact h2.2 a ha
  ·have h4:=h1.s
   simp only[dI,gE,List.map_cons,List.sum_cons,Ts.size] at *
   rw[show Tm.size ⟨h,x⟩=aH h.l+x.size from rfl] at h4
   omega
theorem M4(f:Tm->Ag×Int):∀(t:Ts) (acc l:List Ag) (e:Int),tV f t acc=some (l,e)->e≠0/\∃p h x q,t=p.app (.cons h x q)/\l=acc++gE f p/\(f ⟨h,x⟩).2=e
 | .nil,acc,l,e,h=>by simp[tV] at h
 | .cons h x r,acc,l,e,he=>by
  simp only[tV] at he
  split at he
  ·obtain⟨h1,p,h',x',q,rfl,rfl,h2⟩:=M4 f r _ l e he
   exact⟨h1,.cons h x p,h',x',q,rfl,by simp[gE],h2⟩
  ·rename_i hn
   cases he
   exact⟨hn,.nil,h,x,r,rfl,by simp[gE],rfl⟩
def rZ:Dc:=.lit (.int .i64 0) (.nilr 9 73 (.nilr 5 27 .nil))
attribute [local simp] rZ nN
structure OkRl (t:Tm) (r:Rl):Prop where
 gf:iF r.g
 xf:r.i.fits
 s:dI r.g+r.i.size<=t.size
 l:r.g.length<=10
 mw:mW r.m/\∀a∈r.g,mW a.m
def MH(d:Dl)(c:Ct)(n:Nat)(T:Ts)(R:Tm)(g:List Ag):St:=bV [(2,.bx 3 0),(3,.bx 4 0),(4,.bx 5 0),(6,iA n),(7,tsA none T),(8,.bx 9 0),(10,.bx 11 0),(11,iA g.length)] [(3,34,dlC d),(4,76,cCt c),(5,54,rZ),(9,27,tmC none none R.h R.x),(11,54,.lit (.int .i64 c.m) (.blk 59 (g.length+1) 9 73 (.seg none (cA g) .nil) (.nilr 5 27 .nil)))] [(59,g.length+1)]
def stO5(d:Dl)(c:Ct)(n:Nat)(R:Tm)(g:List Ag):St:=bV [(2,.bx 3 0),(3,.bx 4 0),(4,.bx 5 0),(6,iA n),(8,.bx 9 0),(10,.bx 11 0)] [(3,34,dlC d),(4,76,cCt c),(5,54,rZ),(9,27,tmC none none R.h R.x),(11,54,.lit (.int .i64 c.m) (.row none 9 73 (cA g) (.nilr 5 27 .nil)))] []
def tM(d:Dl)(c:Ct)(n:Nat)(E:Tm)(A:Ts)(g:List Ag):St:=bV [(2,.bx 3 0),(3,.bx 4 0),(4,.bx 5 0),(6,iA n),(10,.bx 11 0),(14,.bx 15 0),(15,tsA none A)] [(3,34,dlC d),(4,76,cCt c),(5,54,rZ),(11,54,.lit (.int .i64 c.m) (.row none 9 73 (cA g) (.nilr 5 27 .nil))),(15,27,tmC none none E.h E.x)] []
def stO7(d:Dl)(c:Ct)(n:Nat)(A:Ts)(g:List Ag):St:=bV [(2,.bx 3 0),(3,.bx 4 0),(4,.bx 5 0),(6,iA n),(10,.bx 11 0),(15,tsA none A)] [(3,34,dlC d),(4,76,cCt c),(5,54,rZ),(11,54,rlC ⟨c.m,g,A⟩)] []
def stO2(d:Dl)(c:Ct)(n:Nat)(g:List Ag)(A:Ts)(i:Nat):St:=bV [(2,.bx 3 0),(3,.bx 4 0),(4,.bx 5 0),(6,iA n),(10,.bx 11 0),(15,tsA none A),(16,iA i)] [(3,34,dlC d),(4,76,cCt c),(5,54,rZ),(11,54,rlC ⟨c.m,g,A⟩)] []
def stO3(d:Dl)(c:Ct)(n:Nat)(g:List Ag)(A:Ts)(i k:Nat):St:=bV [(2,.bx 3 0),(3,.bx 4 0),(4,.bx 5 0),(6,iA n),(10,.bx 11 0),(15,tsA none A),(16,iA i),(17,iA k)] [(3,34,dlC d),(4,76,cCt c),(5,54,rZ),(11,54,rlC ⟨c.m,g,A⟩)] []
def stO4(d:Dl)(c:Ct)(n:Nat)(g:List Ag)(A:Ts)(i k:Nat):St:=bV [(2,.bx 3 0),(3,.bx 4 0),(4,.bx 5 0),(6,iA n),(10,.bx 11 0),(15,tsA none A),(16,iA i),(18,iA k)] [(3,34,dlC d),(4,76,cCt c),(5,54,rZ),(11,54,rlC ⟨c.m,g,A⟩)] []
def Q5(mb:Ag->Int->Bool)(n:Nat)(g:List Ag)(A:Ts)(i:Nat):Prop:=∃h:i<g.length,g[i].r=true/\((∃k,∃hk:k<g.length,i<k/\mb g[k] ((k:Int)-1-i)=true)∨∃k,k<A.len/\mC ((n:Int)-1-i) ((n:Int)-i) ⟨A.hd k,A.kd k⟩ 0=true)
noncomputable def lL(k:Nat):Code:=match Tryz.f39.body with
 | some c=>GE k c
 | none=>.skip
abbrev O2(r:Rl)(e:Int):Exit->St->Prop:=GA tb 158 [ResultVar.cell 4 54,ResultVar.tmp 5] (.tup (AV.list [rlL r,iA e]))
end
end
end Go.Proofs.YtlfnfiihfjggoaaGreatDoor
