/-
  The document's case, and what follows. Conditions: as each lemma states them.
-/
import Derived.Test.YtkcmapimcgppmaaGreatDoorT07
import Derived.Test.YtkcmapimcgppmaaGreatDoorT05
import Derived.Test.YtkcmapimcgppmaaGreatDoorT03
import Derived.Deep.RegionWith
import Derived.Test.YtkcmapimcgppmaaGreatDoorT04
set_option linter.all false
set_option linter.unusedVariables false
set_option linter.unusedSimpArgs false
set_option linter.unnecessarySimpa false
set_option maxHeartbeats 8000000
set_option maxRecDepth 100000
namespace Go.Proofs.YtkcmapimcgppmaaGreatDoor
section
open Go.RowKit
attribute [local simp] ty_p ty_l ty_t kH tDs bN Tm.ts kI oI ac_skip ac_label ac_region ac_seq ac_cond ac_block ac_loop ac_exit ac_ret seqK_n seqK_r seqK_e vo_nil vo_cons blkK JP oN I8 gA gB lG ev gU fF St.out A7 kX upd dD sU K0 asC oH jO tY lF tD qU pV tb Dc.tk Dc.dp Dc.over Dc.app Dc.ln Dc.ds Dc.sing Dc.cont AV.cont Ds.hd Value.oneCell' DE pP C0 AV.imp Dc.imp φOf dY AV.isLL AV.list AV.app AV.arg AV.isL AV.ren Dc.ren Dc.lent tmC tmA tsA iA lo? abin AV.nth Dc.own Dc.toks bP rI Z6 τOf
theorem Ds.dp_app(x y:Ds):(x.app y).dp x.len=y:=by
 induction x with
 | nil=>rfl
 | lit v r ih=>exact ih
 | row sz e x s r _ _ ih=>exact ih
theorem fA(a r:Ts):(tDs ty (a.app r)).dp (a.len*5)=tDs ty r:=by
 rw[bC,<-aF ty,Ds.dp_app]
theorem dR{h:Hd}{y r:Ts}:∀ {a:Ts},(a.app (.cons h y r)).fits->h.fits/\y.fits
 | .nil,hf=>⟨hf.1,hf.2.1⟩
 | .cons _ _ _,hf=>dR hf.2.2
theorem app_size{h:Hd}{y r:Ts}:∀ {a:Ts},aH h.l+y.size+1<=(a.app (.cons h y r)).size
 | .nil=>by simp only[Ts.app,Ts.size];omega
 | .cons _ _ a=>by have:=app_size (h:=h) (y:=y) (r:=r) (a:=a);simp only[Ts.app,Ts.size];omega
def st19(b:Ts)(p x:Tm)(a:Ts):St:=bP [(1,tsA none b),(5,.bx 6 0),(6,.bx 7 0),(7,.c (.blk 12 (a.len+1) 5 26 (.seg none (tDs ty (.cons p.h p.x a)) .nil) .nil)),(8,iA a.len)] [(6,26,tmC none none x.h x.x),(7,26,.lit (.int .i64 0) (.lit (.int .i64 0) (.lit (.int .i64 0) (.nilr 1 43 (.nilr 5 26 .nil)))))] [(12,a.len+1)]
theorem g19(p:Tm)(b:Ts)(x:Tm)(hp:p.fits)(hb:b.fits)(hx:x.fits)(hs:p.size+b.size+x.size<=100000000)(hl:b.len<=100000000):HH 19 [tmL p,tsA none b,tmL x] (tmL (pW p b x)):=by
 refine ab Tryz.func19 Tryz.ntmps19 Tryz.results19 rfl (by decide) (by simp) rfl rfl ?_
 simp
 refine aE (oD p hp (by omega)) ?_ ?_ ?_<;>simp
 refine lp (α:={ q:Ts×Ts // q.1.app q.2=b }) (λ q=>st19 b p x q.1.1) (λ q=>q.1.2.len) ⟨(.nil,b),rfl⟩ ?_ ?_
 ·refine aI [((12,0),[(12,0)])] ?_ ?_ ?_<;>simp[Ts.len,AV.ok,Dc.ok]
 ·rintro⟨⟨a,r⟩,hq⟩
  cases r with
  | nil =>
   have e:a=b:=by rw[<-hq];exact (Ts.app_nil a).symm
   subst e
   simp[st19,aF]
   refine aE (oD x hx (by omega)) ?_ ?_ ?_<;>simp
   refine⟨?_,⟨rfl,rfl,rfl,rfl,(bC ty (.cons p.h p.x a) x.ts).symm⟩,[],by simp⟩
   exact (show (tDs ty (.cons p.h p.x a)).len<=99999999995 by rw[aF];show (a.len+1)*5<=_;omega)
  | cons h y r =>
   have h1:a.len<b.len:=by rw[<-hq];simp[Ts.app_len,Ts.len]
   have h2:(tDs ty b).dp (a.len*5)=tDs ty (.cons h y r):=by rw[<-hq];exact fA a _
   have h3:h.fits/\y.fits:=dR (a:=a) (by rw[hq];exact hb)
   have h4:aH h.l+y.size+1<=b.size:=by rw[<-hq];exact app_size
   simp[st19,aF,h1,h2]
   refine⟨by omega,?_⟩
   refine aE (oD ⟨h,y⟩ h3 (by show aH h.l+y.size<=200000000;omega)) ?_ ?_ ?_<;>simp
   refine⟨?_,a.app (.cons h y .nil),r,by simp[Ts.len],by rw[Ts.app_assoc];exact hq,?_⟩
   ·exact (show (tDs ty (.cons p.h p.x a)).len<=99999999995 by rw[aF];show (a.len+1)*5<=_;omega)
   ·have hw:IntKind.i64.wrap ((a.len:Int)+1)=a.len+1:=by rw[IntKind.wrap_i64];omega
    refine aI [((12,0),[(12,0)])] ?_ ?_ ?_<;>simp[Ts.len,Ts.app_len,AV.ok,Dc.ok,hw]
    exact (bC ty (.cons p.h p.x a) (.cons h y .nil)).symm
end
section
open Go.RowKit
attribute [local simp] ty_p ty_l ty_t kH tDs bN Tm.ts kI oI ac_skip ac_label ac_region ac_seq ac_cond ac_block ac_loop ac_exit ac_ret seqK_n seqK_r seqK_e vo_nil vo_cons blkK JP oN I8 gA gB lG ev gU fF St.out A7 kX upd dD sU K0 asC oH jO tY lF tD qU pV tb Dc.tk Dc.dp Dc.over Dc.app Dc.ln Dc.ds Dc.sing Dc.cont AV.cont Ds.hd Value.oneCell' DE pP C0 AV.imp Dc.imp φOf dY AV.isLL AV.list AV.app AV.arg AV.isL AV.ren Dc.ren Dc.lent tmC tmA tsA iA lo? abin AV.nth Dc.own Dc.toks
theorem g59(k:Int)(x:Ts)(hk:0<=k/\k<=100)(hf:x.fits)(hs:x.size<=100000000):HH 59 [iA k,tsA none x] (tmO ⟨kH k,x⟩):=by
 refine ab Tryz.func59 Tryz.ntmps59 Tryz.results59 rfl (by decide) (by simp) rfl rfl ?_
 simp
 refine aE (h60' ⟨kH k,x⟩ ⟨eZ hk,hf⟩ (by show aH []+x.size<=100000000;simp[aH];exact hs)) ?_ ?_ ?_<;>simp
 exact⟨[((0,0),[(9,0)]),((0,1),[(9,1)])],by simp⟩
theorem g92(n:Int):HH 92 [iA n] (.agg (.lit (.int .i64 1) (.lit (.int .i64 n) (.lit (.int .i64 0) (.nilr 1 43 (.nilr 5 26 .nil)))))):=by
 refine ab Tryz.func92 Tryz.ntmps92 Tryz.results92 rfl (by decide) (by simp) rfl rfl ?_
 simp
 exact⟨[],by simp⟩
theorem g57(n:Int):HH 57 [iA n] (.agg (.lit (.int .i64 22) (.lit (.int .i64 n) (.lit (.int .i64 0) (.nilr 1 43 (.nilr 5 26 .nil)))))):=by
 refine ab Tryz.func57 Tryz.ntmps57 Tryz.results57 rfl (by decide) (by simp) rfl rfl ?_
 simp
 exact⟨[],by simp⟩
theorem g58(k n:Int):HH 58 [iA k,iA n] (.agg (.lit (.int .i64 23) (.lit (.int .i64 k) (.lit (.int .i64 n) (.nilr 1 43 (.nilr 5 26 .nil)))))):=by
 refine ab Tryz.func58 Tryz.ntmps58 Tryz.results58 rfl (by decide) (by simp) rfl rfl ?_
 simp
 exact⟨[],by simp⟩
theorem fO:∀(a b:Ts),(a.app b).size=a.size+b.size
 | .nil,b=>by simp[Ts.app,Ts.size]
 | .cons h x a,b=>by simp only[Ts.app,Ts.size,fO a b];omega
theorem fS:∀ {a b:Ts},a.fits->b.fits->(a.app b).fits
 | .nil,_,_,h=>h
 | .cons _ _ _,_,h,k=>⟨h.1,h.2.1,fS h.2.2 k⟩
theorem g14(p:Tm)(b:Ts)(x:Tm)(hp:p.fits)(hb:b.fits)(hx:x.fits)(hs:p.size+b.size+x.size<=90000000)(hl:b.len<=90000000):HH 14 [tmL p,tsA none b,tmL x] (tmO (pW p b x)):=by
 refine ab Tryz.func14 Tryz.ntmps14 Tryz.results14 rfl (by decide) (by simp) rfl rfl ?_
 simp
 refine⟨by kernel_rfl,by rw[aF];omega,by rw[aF];omega,?_⟩
 have hx':x.ts.size=x.size+1:=by simp only[Tm.ts,Ts.size,Tm.size];omega
 have hA:=bC ty b x.ts
 refine aE (g59 24 (.cons p.h p.x (b.app x.ts)) (by decide) ⟨hp.1,hp.2,fS hb ⟨hx.1,hx.2,trivial⟩⟩ (by simp only[Ts.size,fO];unfold Tm.size at hs hx';omega)) ?_ ?_ ?_<;>simp
 ·exact .inl hA.symm
 ·rw[aF]
  simp
  exact⟨[((0,0),[(16,0)]),((0,1),[(16,1)])],⟨rfl,rfl,rfl,⟨rfl,by simp⟩,rfl,by simp⟩,by simp⟩
end
section
open Go.RowKit
theorem zS{w:World}{t:Tm}{v:Value}(h:RM ty w v t.h t.x):RepV (bE (U w) w) (tmL t) [v]:=FX (g:=bE (U w) w) h
theorem ts_arg{w:World}{t:Ts}{v:Value}(h:RT ty w v t):RepV (bE (U w) w) (tsA none t) [v]:=⟨bQ t,v,[],rfl,h,Gh.Ow_none,rfl⟩
theorem pU{w:World}(n:Int):RepV (bE (U w) w) (iA n) [.int .i64 n]:=rfl
theorem arg1{g:Gh}{a:AV}{u:Value}(h:RepV g a [u]):RepV g (.list [a]) [u]:=⟨u,[],rfl,h,rfl⟩
theorem arg2{g:Gh}{a b:AV}{u v:Value}(h:RepV g a [u])(k:RepV g b [v]):RepV g (.list [a,b]) [u,v]:=⟨u,[v],rfl,h,arg1 k⟩
theorem IS{w w':World}(hb:Below w.heap.size w w'){b o:Nat}{u:Value}(h:(if b<w.heap.size then U w b o else U w' b o)=some u):U w' b o=some u:=by
 split at h
 ·rename_i hlt;exact aD hb _ _ _ hlt h
 ·exact h
theorem HH.val{f:Nat}{ps:List AV}{x:Value}(h:HH f ps (.v x)){w:World}{vs:List Value}(hG:KA w)(hv:RepV (bE (U w) w) (.list ps) vs):Calls Tryz.prog f vs.toArray w λ e w'=>e=.returned x/\Below w.heap.size w w' :=
 (h.2.2 (U w) w vs (λ _ _ _ h=>h) hG hv).mono λ e w' ⟨v,fp,h1,h2,h3,_⟩=>by
  have e2:v=x:=by simpa[RepV] using h3
  subst e2
  exact⟨h1,h2⟩
theorem HH.lent{f:Nat}{ps:List AV}{t:Tm}(h:HH f ps (tmL t)){w:World}{vs:List Value}(hG:KA w)(hv:RepV (bE (U w) w) (.list ps) vs):Calls Tryz.prog f vs.toArray w λ e w'=>∃v,e=.returned v/\Below w.heap.size w w'/\RM ty w' v t.h t.x :=
 (h.2.2 (U w) w vs (λ _ _ _ h=>h) hG hv).mono λ e w' ⟨v,fp,h1,h2,h3,_⟩=>by
  refine⟨v,h1,h2,?_⟩
  obtain⟨ys,e,h⟩:=h3
  obtain⟨-,_,rfl,-,_,rfl,-,_,rfl,-,v1,_,rfl,h4,-,-,v2,_,rfl,h5,-,rfl⟩:=h
  cases e
  obtain⟨p,n,c,rfl,-⟩:=id h4
  obtain⟨p',n',c',rfl,-⟩:=id h5
  exact⟨p,n,c,p',n',c',rfl,h4.mono (λ b o v _ hu=>IS h2 hu) (Nat.le_refl _),h5.mono (λ b o v _ hu=>IS h2 hu) (Nat.le_refl _)⟩
theorem HH.row{f:Nat}{ps:List AV}{t:Ts}(h:HH f ps (tsA none t)){w:World}{vs:List Value}(hG:KA w)(hv:RepV (bE (U w) w) (.list ps) vs):Calls Tryz.prog f vs.toArray w λ e w'=>∃v,e=.returned v/\Below w.heap.size w w'/\RT ty w' v t :=
 (h.2.2 (U w) w vs (λ _ _ _ h=>h) hG hv).mono λ e w' ⟨v,fp,h1,h2,h3,_⟩=>by
  obtain⟨-,v1,_,e,h4,-,-⟩:=h3
  cases e
  exact⟨v,h1,h2,h4.mono (λ b o v _ hu=>IS h2 hu) (Nat.le_refl _)⟩
theorem HH.made{f:Nat}{ps:List AV}{t:Tm}(h:HH f ps (tmO t)){w:World}{vs:List Value}(hG:KA w)(hv:RepV (bE (U w) w) (.list ps) vs):Calls Tryz.prog f vs.toArray w (MakesT t.h t.x w) :=
 (h.2.2 (U w) w vs (λ _ _ _ h=>h) hG hv).mono λ e w' ⟨v,fp,h1,h2,h3,h6,h7⟩=>by
  obtain⟨ys,e,h⟩:=h3
  obtain⟨-,_,rfl,-,_,rfl,-,_,rfl,-,v1,_,rfl,h4,o1,-,v2,_,rfl,h5,o2,rfl⟩:=h
  cases e
  obtain⟨p,n,c,rfl,-⟩:=id h4
  obtain⟨p',n',c',rfl,-⟩:=id h5
  obtain⟨-,S1,w1,n1,m1⟩:=o1 (0,0) rfl
  obtain⟨-,S2,w2,n2,m2⟩:=o2 (0,1) rfl
  obtain⟨_,_,z1,u1,B1,A1,A2,A3,e1,a1,a2,a3,⟨e5,rfl⟩,rfl⟩:=w1
  cases e1
  have hS:∀x,x∈B1++(A1++(A2++[]))->x ∉ S2:=λ x hx hy=>by
   have:=h7 _ _ x (m1 x hx) (m2 x hy)
   cases this
  refine⟨p,n,c,p',n',c',B1++(A1++(A2++S2)),h1,h2,⟨_,rfl,_,rfl,_,rfl,_,_,z1,u1,B1,A1,A2,S2,rfl,a1,a2,a3,w2,rfl⟩,?_⟩
  have e:B1++(A1++(A2++S2))=(B1++(A1++(A2++[])))++S2:=by simp[List.append_assoc]
  rw[e]
  exact List.nodup_append.2 ⟨n1,n2,λ x hx y hy e=>by subst e;exact hS x hx hy⟩
theorem FF{w:World}(hG:KA w):Calls Tryz.prog 9 #[] w λ e w'=>e=.returned (.bool true)/\Below w.heap.size w w':=g9.val hG rfl
end
section
open Go.RowKit
def lO(t:Ts):AV:=.c (.seg none (.row 5 26 (bV ty t) (tDs ty (bU 1 12)) .nil) .nil)
def rF(t:Tm):Dc:=.lit (.int .i64 t.h.k) (.lit (.int .i64 t.h.n) (.lit (.int .i64 t.h.a) (.seg none (.row 1 43 (cC ty t.h.l) (bN ty (cW 1 12)) .nil) (.seg none (.row 5 26 (bV ty t.x) (tDs ty (bU 1 12)) .nil) .nil))))
def nY(t:Tm):AV:=.agg (rF t)
theorem tP(l:List Lv):(cC ty l).good:=by
 induction l with
 | nil=>trivial
 | cons p r ih=>exact⟨fU p,fU _,ih⟩
theorem vV(t:Ts):(bV ty t).good:=by
 induction t with
 | nil=>trivial
 | cons h x r ihx ih=>exact⟨rfl,rfl,rfl,tP _,cT _,ihx,bQ _,ih⟩
theorem k7(t:Ts)(hs:t.size<=200000000):HH 7 [tsA none t,iA 500] (iA (t.cnt 500 0)):=by
 refine⟨bO Tryz.func7 (by decide) rfl,rfl,λ F w vs hF hG hv=>?_⟩
 obtain⟨u,v,rfl,h1,h2⟩:=lN hv
 rw[lQ h2]
 refine (tF _ t u 500 w (Nat.lt_succ_self _) (kY hF h1) hs (by decide) (by decide)).mono ?_
 rintro e w' ⟨rfl,h5⟩
 exact⟨_,λ _=>[],rfl,h5,rfl,λ k b hb=>(by cases hb),λ k k' b hb=>(by cases hb)⟩
theorem k8(t:Tm)(hs:t.size<=200000000):HH 8 [tmL t,iA 500] (iA (1+cD t.h.l 500 0+t.x.cnt 500 0)):=by
 refine⟨bO Tryz.func8 (by decide) rfl,rfl,λ F w vs hF hG hv=>?_⟩
 obtain⟨u,v,rfl,h1,h2⟩:=lN hv
 rw[lQ h2]
 refine (T6 t.h t.x u 500 w (kZ hF h1) hs (by decide) (by decide)).mono ?_
 rintro e w' ⟨rfl,h5⟩
 exact⟨_,λ _=>[],rfl,h5,rfl,λ k b hb=>(by cases hb),λ k k' b hb=>(by cases hb)⟩
theorem k10(t:Ts)(hs:t.size<=200000000):HH 10 [tsA none t] (lO t):=by
 refine⟨bO Tryz.func10 (by decide) rfl,rfl,λ F w vs hF hG hv=>?_⟩
 obtain⟨u,rfl,h1⟩:=kD hv
 refine (pQ _ t u w (Nat.lt_succ_self _) (kY hF h1) hs).mono ?_
 rintro e w' ⟨v,S,rfl,h5,h6,h7⟩
 exact⟨v,λ _=>[],rfl,h5,⟨⟨vV t,bQ _,trivial⟩,[v],[],rfl,Vs.res (F:=F) (fp:=λ _=>[]) (Nat.le_refl _) h6,Gh.Ow_none,rfl⟩,λ k b hb=>(by cases hb),λ k k' b hb=>(by cases hb)⟩
theorem k11(t:Tm)(hs:t.size<=200000000):HH 11 [tmL t] (nY t):=by
 refine⟨bO Tryz.func11 (by decide) rfl,rfl,λ F w vs hF hG hv=>?_⟩
 obtain⟨u,rfl,h1⟩:=kD hv
 refine (D6 t.h t.x u w (kZ hF h1) hs).mono ?_
 rintro e w' ⟨xs,S,rfl,h5,h6,h7⟩
 obtain⟨_,rfl,_,rfl,_,rfl,v1,_,rfl,h8,v2,_,rfl,h9,rfl⟩:=Vs.res (F:=F) (fp:=λ _=>[]) (Nat.le_refl _) h6
 exact⟨_,λ _=>[],rfl,h5,⟨_,rfl,rfl,_,rfl,rfl,_,rfl,rfl,_,rfl,⟨tP _,cT _,trivial⟩,[v1],[v2],rfl,⟨v1,[],rfl,h8,rfl⟩,Gh.Ow_none,⟨vV _,bQ _,trivial⟩,[v2],[],rfl,⟨v2,[],rfl,h9,rfl⟩,Gh.Ow_none,rfl⟩,λ k b hb=>(by cases hb),λ k k' b hb=>(by cases hb)⟩
theorem k20(t:Ts):HH 20 [tsA none t,tsA none t] (.v (.bool true)):=by
 refine⟨bO Tryz.func20 (by decide) rfl,rfl,λ F w vs hF hG hv=>?_⟩
 obtain⟨u,v,rfl,h1,h2⟩:=lN hv
 refine (pO _ t u v w (Nat.lt_succ_self _) (kY hF h1) (kY hF h2)).mono ?_
 rintro e w' ⟨rfl,h5⟩
 exact⟨_,λ _=>[],rfl,h5,rfl,λ k b hb=>(by cases hb),λ k k' b hb=>(by cases hb)⟩
def fp1(S:List Nat):Tk->List Nat:=λ k=>if k=(0,0) then S else []
theorem mem_fp1{S:List Nat}{k:Tk}{b:Nat}:b∈fp1 S k↔k=(0,0)/\b∈S:=by
 unfold fp1
 by_cases h:k=(0,0)
 ·rw[if_pos h];simp[h]
 ·rw[if_neg h];simp[h]
end
section
open Go.RowKit
structure Ag where
 r:Bool
 t:Tm
 e:Ts
 m:Int
 i:Ts
structure Rl where
 m:Int
 g:List Ag
 i:Ts
def bW:List Ag->Ds
 | []=>.nil
 | a :: r=>.lit (.bool a.r) (.lit (.int .i64 a.t.h.k) (.lit (.int .i64 a.t.h.n) (.lit (.int .i64 a.t.h.a) (.row 1 43 (bN ty a.t.h.l) .nil (.row 5 26 (tDs ty a.t.x) .nil (.row 5 26 (tDs ty a.e) .nil (.lit (.int .i64 a.m) (.row 5 26 (tDs ty a.i) .nil (bW r)))))))))
def cR:List Ag->Ds
 | []=>.nil
 | a :: r=>.lit (.bool a.r) (.lit (.int .i64 a.t.h.k) (.lit (.int .i64 a.t.h.n) (.lit (.int .i64 a.t.h.a) (.row 1 43 (cC ty a.t.h.l) (bN ty (cW 1 12)) (.row 5 26 (bV ty a.t.x) (tDs ty (bU 1 12)) (.row 5 26 (bV ty a.e) (tDs ty (bU 1 12)) (.lit (.int .i64 a.m) (.row 5 26 (bV ty a.i) (tDs ty (bU 1 12)) (cR r)))))))))
theorem aT(l:List Ag):(bW l).len=l.length*9:=by
 induction l with
 | nil=>rfl
 | cons a r ih=>simp[bW,Ds.len,ih];omega
theorem fQ(l:List Ag):(cR l).len=l.length*9:=by
 induction l with
 | nil=>rfl
 | cons a r ih=>simp[cR,Ds.len,ih];omega
theorem lX(p q:List Ag):bW (p++q)=(bW p).app (bW q):=by
 induction p with
 | nil=>rfl
 | cons a r ih=>simp[bW,Ds.app,ih]
theorem wC(p q:List Ag):cR (p++q)=(cR p).app (cR q):=by
 induction p with
 | nil=>rfl
 | cons a r ih=>simp[cR,Ds.app,ih]
theorem FK(l:List Ag):(bW l).good:=by
 induction l with
 | nil=>trivial
 | cons a r ih=>exact⟨rfl,rfl,rfl,rfl,cT _,trivial,bQ _,trivial,bQ _,trivial,rfl,bQ _,trivial,ih⟩
theorem jM(l:List Ag):(cR l).strip=bW l:=by
 induction l with
 | nil=>rfl
 | cons a r ih=>simp[cR,bW,Ds.strip,ih,cU,cJ,ty]
def nW(k i:Nat):Ag:=⟨false,⟨⟨0,0,0,[]⟩,.nil⟩,.nil,fV k i,.nil⟩
def cE(k n:Nat):List Ag:=(List.range n).map (nW k)
theorem I5(k n:Nat):cE k (n+1)=cE k n++[nW k n]:=by simp[cE,List.range_succ]
theorem jA(k n:Nat):(cE k n).length=n:=by simp[cE]
def cF(l:List Ag):Nat:=(l.map λ a=>1+a.t.size+a.e.size+a.i.size).sum
def agC(a:Ag):Dc:=.lit (.bool a.r) (.lit (.int .i64 a.t.h.k) (.lit (.int .i64 a.t.h.n) (.lit (.int .i64 a.t.h.a) (.row none 1 43 (bN ty a.t.h.l) (.row none 5 26 (tDs ty a.t.x) (.row none 5 26 (tDs ty a.e) (.lit (.int .i64 a.m) (.row none 5 26 (tDs ty a.i) .nil))))))))
def agL(a:Ag):AV:=.agg (agC a)
def dH(l:List Ag):AV:=.c (.row none 9 82 (bW l) .nil)
def rlC(r:Rl):Dc:=.lit (.int .i64 r.m) (.row none 9 82 (bW r.g) (.row none 5 26 (tDs ty r.i) .nil))
def rlL(r:Rl):AV:=.agg (rlC r)
def rH(a:Ag):Dc:=.lit (.bool a.r) (.lit (.int .i64 a.t.h.k) (.lit (.int .i64 a.t.h.n) (.lit (.int .i64 a.t.h.a) (.seg none (.row 1 43 (cC ty a.t.h.l) (bN ty (cW 1 12)) .nil) (.seg none (.row 5 26 (bV ty a.t.x) (tDs ty (bU 1 12)) .nil) (.seg none (.row 5 26 (bV ty a.e) (tDs ty (bU 1 12)) .nil) (.lit (.int .i64 a.m) (.seg none (.row 5 26 (bV ty a.i) (tDs ty (bU 1 12)) .nil) .nil))))))))
end
section
open Go.RowKit
def Box(w:World)(b:Nat)(T:Nat)(cs:Array Value):Prop:=w.heap[b]? = some (Obj.cells cs T (0,0))
theorem Box.on{w w':World}{b T:Nat}{cs:Array Value}(h:Box w b T cs)(hb:Below w.heap.size w w'):Box w' b T cs:=by
 unfold Box at *
 rw[hb.block b (aV h)];exact h
theorem RLent.plain{w:World}{v:Value}{h:Hd}{x:Ts}(hr:RLent w v h x):RM ty w v h x:=by
 obtain⟨q,n,c,r,m,d,rfl,h1,h2⟩:=hr
 refine⟨q,n,c,r,m,d,rfl,h1.lentLv_plain,?_⟩
 have:=h2.strip
 rw[cU] at this
 exact this
theorem lit5{g:Gh}{k j:Option Tk}{h:Hd}{x:Ts}{xs:List Value}(hr:RepC g (tmC k j h x) xs):∃q m d q' m' d',xs=[.int .i64 h.k,.int .i64 h.n,.int .i64 h.a,.slice q m d,.slice q' m' d']:=by
 obtain⟨-,_,rfl,-,_,rfl,-,_,rfl,-,v1,_,rfl,h1,-,-,v2,_,rfl,h2,-,rfl⟩:=hr
 obtain⟨p,n,c,rfl,-⟩:=id h1
 obtain⟨p',n',c',rfl,-⟩:=id h2
 exact⟨_,_,_,_,_,_,rfl⟩
theorem Box.cell{w:World}{b T:Nat}{cs:Array Value}(h:Box w b T cs){o:Nat}{v:Value}(hv:cs[o]? = some v):w.cell? ⟨b,o,none⟩=some v:=by
 have h':w.heap[b]? = _:=h
 simp[World.cell?,h',hv]
theorem Box.below{w w':World}{B b T:Nat}{cs:Array Value}(h:Box w b T cs)(hb:Below B w w')(hlt:b<B):Box w' b T cs:=by
 unfold Box at *
 rw[hb.block b hlt];exact h
theorem jR{w:World}{base sz e:Nat}{x:Ds}{v:Value}{S:List Nat}(h:Own w base (.row sz e x .nil .nil) [v] S):∃p n c,v=.slice p n c:=by
 obtain⟨_,_,ks,sp,B,T1,T2,T3,e,k1,-⟩:=h
 cases e
 rcases k1 with ⟨p,rfl,-⟩|⟨g,n',cap,cur,rfl,rfl,-⟩
 ·exact⟨_,_,_,rfl⟩
 ·exact⟨_,_,_,rfl⟩
theorem oU{g:Gh}(hI:Inv g){k T:Nat}{d:Dc}(h:g.st.bx k=some (T,d)):∃xs,Box g.w (g.B k) T xs.toArray/\RepC g d xs:=by
 obtain⟨-,-,xs,h1,h2⟩:=hI.box k T d h
 exact⟨xs,h1,h2⟩
end
section
open Go.RowKit
theorem bA(t:Tm):t.ts.size=1+t.size:=by simp only[Tm.ts,Ts.size,Tm.size];omega
theorem wL(k:Int)(z:Hd)(hz:z.l=[]):∀r:Ts,(jN k z r).ts.size<=2*r.size+1
 | .nil=>by simp[jN,Tm.ts,Ts.size,hz,aH]
 | .cons h x .nil=>by simp only[jN,Tm.ts,Ts.size];omega
 | .cons h x (.cons h' x' r)=>by
  have ih:=wL k z hz (.cons h' x' r)
  simp only[jN,Tm.ts,Ts.size,kH,aH] at ih ⊢
  omega
theorem FT(r:Ts):(tup r).ts.size<=2*r.size+1:=wL 12 (kI 1) rfl r
theorem EZ(p:Tm)(b:Ts)(x:Tm):(pW p b x).ts.size=3+p.size+b.size+x.size:=by
 have:=fO b x.ts
 rw[bA] at this
 simp only[pW,Tm.ts,Ts.size,aH,Tm.size] at this ⊢
 omega
def kL(t:Tm):Int:=1+cD t.h.l 500 0+t.x.cnt 500 0
theorem pE(t:Tm)(h:t.size<=200000000):0<=kL t/\kL t<=1000000000000:=by
 have h1:=t.x.cnt_le 500 0 (by decide) (by decide) (by decide)
 have h2:=t.x.cnt_ge 500 0 (by decide)
 have h3:=t.x.count_le_size
 have h4:=mN t.h.l 500 0 (by decide) (by decide)
 have h5:=eV t.h.l 500 0 (by decide)
 unfold kL Tm.size at *
 omega
theorem pF(t:Tm):0<=kL t:=by
 have h2:=t.x.cnt_ge 500 0 (by decide)
 have h5:=eV t.h.l 500 0 (by decide)
 unfold kL
 omega
theorem len_le_size(t:Ts):t.len<=t.size:=by
 induction t with
 | nil=>exact Nat.le_refl _
 | cons h x r _ ih=>simp only[Ts.len,Ts.size];omega
end
section
open Go.RowKit
attribute [local simp] ty_p ty_l ty_t kH tDs bN Tm.ts kI oI ac_skip ac_label ac_region ac_seq ac_cond ac_block ac_loop ac_exit ac_ret seqK_n seqK_r seqK_e vo_nil vo_cons blkK JP oN I8 gA gB lG ev gU fF St.out A7 kX upd dD sU K0 asC oH jO tY lF tD qU pV tb Dc.tk Dc.dp Dc.over Dc.app Dc.ln Dc.ds Dc.sing Dc.cont AV.cont Ds.hd Value.oneCell' DE pP C0 AV.imp Dc.imp φOf dY AV.isLL AV.list AV.app AV.arg AV.isL AV.ren Dc.ren Dc.lent tmC tmA tsA iA lo? abin AV.nth Dc.own Dc.toks bP rI Z6 τOf
attribute [local simp] AV.room R8 agC rH
theorem k120(i:Nat)(hi:i<=1000):HH 120 [iA 1,iA i] (iA (fV 1 i)):=by
 have w1:IntKind.i64.wrap 8=8:=by decide
 have w2:IntKind.i64.wrap 8000024=8000024:=by decide
 have w3:IntKind.i64.wrap (8000024+(i:Int))=8000024+i:=by rw[IntKind.wrap_i64];omega
 have w4:fV 1 i=8000024+i:=by unfold fV;omega
 refine ab Tryz.func120 Tryz.ntmps120 Tryz.results120 rfl (by decide) (by simp) rfl rfl ?_
 simp[w1,w2,w3,w4]
 exact⟨[],by simp⟩
theorem k191(i:Nat)(hi:i<=1000):HH 191 [iA 1,iA i] (.agg (.lit (.bool false) (.lit (.int .i64 0) (.lit (.int .i64 0) (.lit (.int .i64 0) (.nilr 1 43 (.nilr 5 26 (.nilr 5 26 (.lit (.int .i64 (fV 1 i)) (.nilr 5 26 .nil)))))))))):=by
 refine ab Tryz.func191 Tryz.ntmps191 Tryz.results191 rfl (by decide) (by simp) rfl rfl ?_
 simp
 refine aE (k120 i hi) ?_ ?_ ?_<;>simp
 exact⟨[],by simp⟩
theorem k190(a:Ag)(h1:a.t.size<=200000000)(h2:a.e.size<=200000000)(h3:a.i.size<=200000000):HH 190 [agL a] (.agg (rH a)):=by
 refine ab Tryz.func190 Tryz.ntmps190 Tryz.results190 rfl (by decide) (by simp) rfl rfl ?_
 simp[agL]
 refine aE (k11 a.t h1) ?_ ?_ ?_<;>simp[nY,rF,Ds.len]
 refine aE (k10 a.e h2) ?_ ?_ ?_<;>simp[lO,Ds.len]
 refine aE (k10 a.i h3) ?_ ?_ ?_<;>simp[lO,Ds.len,Ds.app]
 exact⟨[],by simp⟩
theorem Ds.tk_app(x y:Ds):(x.app y).tk x.len=x:=by
 induction x with
 | nil=>cases y<;>rfl
 | lit v r ih=>simp[Ds.app,Ds.len,Ds.tk,ih]
 | row sz e x s r _ _ ih=>simp[Ds.app,Ds.len,Ds.tk,ih]
def pL(l:List Ag):AV:=.c (.seg none (.row 9 82 (cR l) (bW (cE 1 12)) .nil) .nil)
theorem iK{l:List Ag}{k:Nat}(h:k<l.length):l.take (k+1)=l.take k++[l[k]]:=(List.take_append_getElem h).symm
theorem kJ{l:List Ag}{k:Nat}(h:k<l.length):(bW l).dp (k*9)=bW (l[k] :: l.drop (k+1)):=by
 have e:l=l.take k++(l[k] :: l.drop (k+1)):=by rw[<-List.drop_eq_getElem_cons h,List.take_append_drop]
 have h2:(bW (l.take k)).len=k*9:=by rw[aT,List.length_take];congr 1;omega
 conv=>lhs;rw[e,lX,<-h2,Ds.dp_app]
theorem nJ(l:List Ag):l.length<=cF l:=by
 induction l with
 | nil=>exact Nat.le_refl _
 | cons a r ih=>simp only[cF,List.map_cons,List.sum_cons,List.length_cons] at *;omega
theorem GH(a b:List Ag):cF (a++b)=cF a+cF b:=by simp[cF]
theorem jH{l:List Ag}{k:Nat}(h:k<l.length):1+l[k].t.size+l[k].e.size+l[k].i.size<=cF l:=by
 have e:l=l.take k++(l[k] :: l.drop (k+1)):=by rw[<-List.drop_eq_getElem_cons h,List.take_append_drop]
 have e2:cF l=cF (l.take k)+cF (l[k] :: l.drop (k+1)):=by rw[<-GH,<-e]
 rw[e2]
 have:cF (l[k] :: l.drop (k+1))=1+l[k].t.size+l[k].e.size+l[k].i.size+cF (l.drop (k+1)):=by
  simp only[cF,List.map_cons,List.sum_cons]
 omega
def IK(l:List Ag)(k:Nat):St:=bP [(0,dH l),(3,.c (.blk 11 (k+1) 9 82 (.seg none (cR (l.take k)) .nil) .nil)),(4,iA k)] [] [(11,k+1)]
def zX(l:List Ag)(i:Nat):St:=bP [(0,dH l),(3,.c (.blk 11 (l.length+1+i) 9 82 (.seg none ((cR l).app (bW (cE 1 i))) .nil) .nil)),(6,iA i)] [] [(11,l.length+1+i)]
theorem k109(l:List Ag)(hs:cF l<=100000000):HH 109 [dH l] (pL l):=by
 have hl:l.length<=100000000:=Nat.le_trans (nJ l) hs
 refine ab Tryz.func109 Tryz.ntmps109 Tryz.results109 rfl (by decide) (by simp) rfl rfl ?_
 have w0:IntKind.i64.wrap ((l.length:Int)+12)=l.length+12:=by rw[IntKind.wrap_i64];omega
 have d0:l.length*9 / 9=l.length:=by omega
 simp[dH,aT,d0,w0]
 refine⟨by omega,?_⟩
 refine lp (α:={ k:Nat // k<=l.length }) (λ k=>IK l k.1) (λ k=>l.length-k.1) ⟨0,Nat.zero_le _⟩ ?_ ?_
 ·refine aI [((11,0),[(11,0)])] ?_ ?_ ?_<;>simp[dH,cR,AV.ok,Dc.ok]
 ·rintro⟨k,hk⟩
  by_cases hlt:k<l.length
  ·have h1:=kJ hlt
   have hsz:=jH hlt
   simp[IK,dH,aT,d0,hlt,h1,bW]
   refine⟨by omega,?_⟩
   refine aE (k190 l[k] (by omega) (by omega) (by omega)) ?_ ?_ ?_<;>simp[agL,Ds.len]
   have hw:IntKind.i64.wrap ((k:Int)+1)=k+1:=by rw[IntKind.wrap_i64];omega
   refine⟨by rw[fQ,List.length_take];omega,k+1,by omega,by omega,?_⟩
   refine aI [((11,0),[(11,0)])] ?_ ?_ ?_<;>simp[dH,AV.ok,Dc.ok,hw,-List.take_append_getElem]
   rw[iK hlt,wC];rfl
  ·obtain rfl:k=l.length:=by omega
   simp[IK,dH,aT,d0]
   refine lp (α:={ i:Nat // i<=12 }) (λ i=>zX l i.1) (λ i=>12-i.1) ⟨0,Nat.zero_le _⟩ ?_ ?_
   ·refine aI [((11,0),[(11,0)])] ?_ ?_ ?_<;>simp[zX,dH,cE,bW,AV.ok,Dc.ok]
   ·rintro⟨i,hi⟩
    by_cases h12:i<12
    ·have h13:(i:Int)<12:=by omega
     simp[zX,dH,aT,d0,h13]
     refine aE (k191 i (by omega)) ?_ ?_ ?_<;>simp[Ds.len]
     have hw:IntKind.i64.wrap ((i:Int)+1)=i+1:=by rw[IntKind.wrap_i64];omega
     refine⟨by rw[Ds.app_len,fQ,aT,jA];omega,i+1,by omega,by omega,?_⟩
     refine aI [((11,0),[(11,0)])] ?_ ?_ ?_<;>simp[dH,AV.ok,Dc.ok,hw,Nat.add_assoc]
     rw[I5,lX,<-Ds.app_assoc];rfl
    ·obtain rfl:i=12:=by omega
     simp[zX,dH,aT,d0]
     refine⟨by rw[Ds.app_nil,Ds.app_len,fQ,Ds.len];omega,[],?_⟩
     simp[pL,Ds.app_nil]
     have e:=fQ l
     refine⟨?_,?_⟩<;>rw[<-e]
     ·rw[Ds.tk_app]
     ·rw[Ds.dp_app]
end
section
open Go.RowKit
attribute [local simp] ty_p ty_l ty_t kH tDs bN Tm.ts kI oI ac_skip ac_label ac_region ac_seq ac_cond ac_block ac_loop ac_exit ac_ret seqK_n seqK_r seqK_e vo_nil vo_cons blkK JP oN I8 gA gB lG ev gU fF St.out A7 kX upd dD sU K0 asC oH jO tY lF tD qU pV tb Dc.tk Dc.dp Dc.over Dc.app Dc.ln Dc.ds Dc.sing Dc.cont AV.cont Ds.hd Value.oneCell' DE pP C0 AV.imp Dc.imp φOf dY AV.isLL AV.list AV.app AV.arg AV.isL AV.ren Dc.ren Dc.lent tmC tmA tsA iA lo? abin AV.nth Dc.own Dc.toks bP rI Z6 τOf
attribute [local simp] AV.room R8 agC rH Ds.len
def jK(r:Rl):Dc:=.lit (.int .i64 r.m) (.seg none (.row 9 82 (cR r.g) (bW (cE 1 12)) .nil) (.seg none (.row 5 26 (bV ty r.i) (tDs ty (bU 1 12)) .nil) .nil))
theorem k36(r:Rl)(h1:cF r.g<=100000000)(h2:r.i.size<=200000000):HH 36 [rlL r] (.agg (jK r)):=by
 refine ab Tryz.func36 Tryz.ntmps36 Tryz.results36 rfl (by decide) (by simp) rfl rfl ?_
 simp[rlL,rlC]
 refine aE (k109 r.g h1) ?_ ?_ ?_<;>simp[dH,pL]
 refine aE (k10 r.i h2) ?_ ?_ ?_<;>simp[lO,jK,Ds.app]
 exact⟨[],by simp⟩
theorem FI{F:Mem}{w:World}{t:Ts}{v:Value}(hF:∀b o v,F b o=some v->U w b o=some v)(h:RepV (bE F w) (lO t) [v]):Rd (U w) w.heap.size v 5 (bV ty t) (tDs ty (bU 1 12)):=by
 obtain⟨-,ys,zs,e,⟨v1,_,rfl,h1,rfl⟩,-,rfl⟩:=h
 cases e
 exact h1.mono (λ b o v _ hv=>hF b o v hv) (Nat.le_refl _)
theorem FH{F:Mem}{w:World}{t:Tm}{v:Value}(hF:∀b o v,F b o=some v->U w b o=some v)(h:RepV (bE F w) (nY t) [v]):RLent w v t.h t.x:=by
 obtain⟨ys,e,h⟩:=h
 obtain⟨-,_,rfl,-,_,rfl,-,_,rfl,-,ys,_,rfl,⟨v1,_,rfl,h1,rfl⟩,-,-,zs,_,rfl,⟨v2,_,rfl,h2,rfl⟩,-,rfl⟩:=h
 cases e
 obtain⟨p,n,c,rfl,-⟩:=id h1
 obtain⟨p',n',c',rfl,-⟩:=id h2
 exact⟨p,n,c,p',n',c',rfl,h1.mono (λ b o v _ hv=>hF b o v hv) (Nat.le_refl _),h2.mono (λ b o v _ hv=>hF b o v hv) (Nat.le_refl _)⟩
theorem k22(t:Ts)(hs:t.size<=100000000):HH 22 [lO t,tsA none t] (.v (.bool true)):=by
 refine⟨bO Tryz.func22 (by decide) rfl,rfl,λ F w vs hF hG hv=>?_⟩
 obtain⟨u,v,rfl,h1,h2⟩:=lN hv
 refine (pS t u v w (FI hF h1) (kY hF h2) (by omega)).mono ?_
 rintro e w' ⟨rfl,h5⟩
 exact⟨_,λ _=>[],rfl,h5,rfl,λ k b hb=>(by cases hb),λ k k' b hb=>(by cases hb)⟩
theorem k23(t:Tm)(hs:t.size<=100000000):HH 23 [nY t,tmL t] (.v (.bool true)):=by
 refine⟨bO Tryz.func23 (by decide) rfl,rfl,λ F w vs hF hG hv=>?_⟩
 obtain⟨u,v,rfl,h1,h2⟩:=lN hv
 refine (D9 t.h t.x u v w (FH hF h1) (kZ hF h2) (by unfold Tm.size at hs;omega)).mono ?_
 rintro e w' ⟨rfl,h5⟩
 exact⟨_,λ _=>[],rfl,h5,rfl,λ k b hb=>(by cases hb),λ k k' b hb=>(by cases hb)⟩
theorem k199(a:Ag):HH 199 [agL a,agL a] (.v (.bool true)):=by
 refine ab Tryz.func199 Tryz.ntmps199 Tryz.results199 rfl (by decide) (by simp) rfl rfl ?_
 simp[agL]
 refine aE (k16 a.t) ?_ ?_ ?_<;>simp
 refine aE (k20 a.e) ?_ ?_ ?_<;>simp
 refine aE (k20 a.i) ?_ ?_ ?_<;>simp
 exact⟨[],by simp⟩
theorem k198(a:Ag)(h1:a.t.size<=100000000)(h2:a.e.size<=100000000)(h3:a.i.size<=100000000):HH 198 [.agg (rH a),agL a] (.v (.bool true)):=by
 refine ab Tryz.func198 Tryz.ntmps198 Tryz.results198 rfl (by decide) (by simp) rfl rfl ?_
 simp[agL]
 refine aE (k199 a) ?_ ?_ ?_<;>simp[agL]
 ·exact .inr (by simp[Ds.app,Ds.strip,cU,cJ,ty])
 refine aE (k23 a.t h1) ?_ ?_ ?_<;>simp[nY,rF]
 refine aE (k22 a.e h2) ?_ ?_ ?_<;>simp[lO]
 refine aE (k22 a.i h3) ?_ ?_ ?_<;>simp[lO]
 exact⟨[],by simp⟩
def GY(l:List Ag)(k:Nat):St:=bP [(0,dH l),(1,dH l),(5,iA k)] [] []
theorem k188(l:List Ag)(hl:l.length<=100000000):HH 188 [dH l,dH l] (.v (.bool true)):=by
 refine ab Tryz.func188 Tryz.ntmps188 Tryz.results188 rfl (by decide) (by simp) rfl rfl ?_
 have d0:l.length*9 / 9=l.length:=by omega
 simp[dH,aT,d0]
 refine lp (α:={ k:Nat // k<=l.length }) (λ k=>GY l k.1) (λ k=>l.length-k.1) ⟨0,Nat.zero_le _⟩ ?_ ?_
 ·refine aI [] ?_ ?_ ?_<;>simp[dH,AV.ok,Dc.ok]
 ·rintro⟨k,hk⟩
  by_cases hlt:k<l.length
  ·have h1:=kJ hlt
   simp[GY,dH,aT,d0,hlt,h1,bW]
   refine⟨by kernel_rfl,by omega,?_⟩
   refine aE (k199 l[k]) ?_ ?_ ?_<;>simp[agL]
   have hw:IntKind.i64.wrap ((k:Int)+1)=k+1:=by rw[IntKind.wrap_i64];omega
   refine⟨k+1,by omega,by omega,?_⟩
   refine aI [] ?_ ?_ ?_<;>simp[AV.ok,Dc.ok,hw,Ds.app]
  ·obtain rfl:k=l.length:=by omega
   simp[GY,dH,aT,d0]
   exact⟨[],by simp⟩
theorem k107(r:Rl)(hl:r.g.length<=100000000):HH 107 [rlL r,rlL r] (.v (.bool true)):=by
 refine ab Tryz.func107 Tryz.ntmps107 Tryz.results107 rfl (by decide) (by simp) rfl rfl ?_
 simp[rlL,rlC]
 refine aE (k188 r.g hl) ?_ ?_ ?_<;>simp[dH]
 refine aE (k20 r.i) ?_ ?_ ?_<;>simp
 exact⟨[],by simp⟩
theorem ER{l:List Ag}{k:Nat}(h:k<l.length)(y:Ds):((cR l).app y).dp (k*9)=(cR (l[k] :: l.drop (k+1))).app y:=by
 have e:l=l.take k++(l[k] :: l.drop (k+1)):=by rw[<-List.drop_eq_getElem_cons h,List.take_append_drop]
 have h2:(cR (l.take k)).len=k*9:=by rw[fQ,List.length_take];congr 1;omega
 conv=>lhs;rw[e,wC,Ds.app_assoc,<-h2,Ds.dp_app]
theorem hd_lent(a:Ag)(r:List Ag)(y:Ds):Ds.hd 9 ((cR (a :: r)).app y)=some (rH a):=rfl
theorem LC{l:List Ag}{n i:Nat}(h:i<n):((cR l).app (bW (cE 1 n))).dp ((l.length+i)*9)=bW (nW 1 i :: (cE 1 n).drop (i+1)):=by
 have h0:i<(cE 1 n).length:=by rw[jA];exact h
 have e:cE 1 n=(cE 1 n).take i++(nW 1 i :: (cE 1 n).drop (i+1)):=by
  have e2:(cE 1 n)[i]=nW 1 i:=by simp[cE]
  rw[<-e2,<-List.drop_eq_getElem_cons h0,List.take_append_drop]
 have h2:((cR l).app (bW ((cE 1 n).take i))).len=(l.length+i)*9:=by
  rw[Ds.app_len,fQ,aT,List.length_take,jA]
  have:min i n=i:=by omega
  rw[this];omega
 conv=>lhs;rw[e,lX,<-Ds.app_assoc,<-h2,Ds.dp_app]
def AY(l:List Ag)(X:Ds)(k:Nat):St:=bP [(1,dH l),(5,.c (.seg none (.row 9 82 X .nil .nil) .nil)),(6,iA k)] [] []
theorem k118(l:List Ag)(hs:cF l<=100000000):HH 118 [pL l,dH l] (.v (.bool true)):=by
 have hl:l.length<=100000000:=Nat.le_trans (nJ l) hs
 refine ab Tryz.func118 Tryz.ntmps118 Tryz.results118 rfl (by decide) (by simp) rfl rfl ?_
 have d0:l.length*9 / 9=l.length:=by omega
 have w0:IntKind.i64.wrap ((l.length:Int)+12)=l.length+12:=by rw[IntKind.wrap_i64];omega
 have e1:((l.length:Int)+12).toNat=l.length+12:=by omega
 have hL:((cR l).app (bW (cE 1 12))).len=(l.length+12)*9:=by rw[Ds.app_len,fQ,aT,jA];omega
 have d1:((l.length+12)*9) / 9=l.length+12:=by omega
 simp[dH,pL,aT,fQ,jA,d0,w0,e1]
 refine⟨⟨by omega,by omega⟩,?_⟩
 have t1:Ds.tk ((l.length+12)*9) ((cR l).app (bW (cE 1 12)))=(cR l).app (bW (cE 1 12)):=by
  rw[<-hL];have:=Ds.tk_app ((cR l).app (bW (cE 1 12))) .nil;rwa [Ds.app_nil] at this
 have t2:Ds.dp ((l.length+12)*9) ((cR l).app (bW (cE 1 12)))=.nil:=by
  rw[<-hL];have:=Ds.dp_app ((cR l).app (bW (cE 1 12))) .nil;rwa [Ds.app_nil] at this
 rw[t1,t2]
 have m1:∀k (h:k<l.length),∃y,Ds.dp (k*9) ((cR l).app (bW (cE 1 12)))=(cR (l[k] :: l.drop (k+1))).app y:=λ k h=>⟨_,ER h _⟩
 have m2:∀j,j<12->∃r,Ds.dp ((l.length+j)*9) ((cR l).app (bW (cE 1 12)))=bW (nW 1 j :: r):=λ j h=>⟨_,LC h⟩
 generalize (cR l).app (bW (cE 1 12))=X at *
 clear t1 t2
 refine lp (α:={ k:Nat // k<=l.length+12 }) (λ k=>AY l X k.1) (λ k=>l.length+12-k.1) ⟨0,Nat.zero_le _⟩ ?_ ?_
 ·refine aI [] ?_ ?_ ?_<;>simp[dH,AV.ok,Dc.ok,Ds.app]
 ·rintro⟨k,hk⟩
  have hw:IntKind.i64.wrap ((k:Int)+1)=k+1:=by rw[IntKind.wrap_i64];omega
  by_cases hlt:k<l.length
  ·have h1:=kJ hlt
   obtain⟨y,h2⟩:=m1 k hlt
   have hsz:=jH hlt
   have h3:(k:Int)<(l.length:Int)+12:=by omega
   have h4:¬(l.length:Int)<=k:=by omega
   generalize l.drop (k+1)=r at h1 h2
   generalize l[k]=a at *
   simp[AY,dH,aT,d0,d1,hL,hlt,h1,h2,h3,bW,hd_lent,-rH]
   refine⟨by kernel_rfl,by omega,by omega,?_⟩
   refine aE (k198 a (by omega) (by omega) (by omega)) ?_ ?_ ?_
   ·refine⟨⟨rfl,.inl rfl⟩,rfl,⟨⟨rfl,.inl ?_⟩,rfl,trivial⟩⟩
    simp[Ds.app]
   ·simp
   simp[hlt,h3,h4,d0,d1,hL,aT,-rH]
   refine⟨k+1,by omega,by omega,?_⟩
   refine aI [] ?_ ?_ ?_<;>simp[AV.ok,Dc.ok,hw,Ds.app]
  ·by_cases hlt2:k<l.length+12
   ·obtain⟨j,hj⟩:=Nat.exists_eq_add_of_le (Nat.le_of_not_lt hlt)
    obtain⟨r,h1⟩:=m2 j (by omega)
    rw[<-hj] at h1
    have h3:(k:Int)<(l.length:Int)+12:=by omega
    have h4:(l.length:Int)<=k:=by omega
    have w3:IntKind.i64.wrap ((k:Int)-l.length)=j:=by rw[IntKind.wrap_i64];omega
    simp[AY,dH,aT,d0,d1,hL,hlt,h1,h3,h4,w3,bW]
    refine⟨by kernel_rfl,by omega,?_⟩
    refine aE (k191 j (by omega)) ?_ ?_ ?_<;>simp
    refine aE (k199 (nW 1 j)) ?_ ?_ ?_<;>simp[agL,nW]
    refine⟨k+1,by omega,by omega,?_⟩
    refine aI [] ?_ ?_ ?_<;>simp[AV.ok,Dc.ok,hw,Ds.app]
   ·obtain rfl:k=l.length+12:=by omega
    simp[AY,dH,aT,d0,d1,hL]
    exact⟨[],by simp⟩
theorem k48(r:Rl)(h1:cF r.g<=100000000)(h2:r.i.size<=100000000):HH 48 [.agg (jK r),rlL r] (.v (.bool true)):=by
 have hl:r.g.length<=100000000:=Nat.le_trans (nJ r.g) h1
 refine ab Tryz.func48 Tryz.ntmps48 Tryz.results48 rfl (by decide) (by simp[jK]) rfl rfl ?_
 simp[rlL,rlC,jK]
 refine aE (k107 r hl) ?_ ?_ ?_<;>simp[rlL,rlC]
 ·exact .inr (by simp[Ds.app,Ds.strip,cU,jM,ty])
 refine aE (k118 r.g h1) ?_ ?_ ?_<;>simp[pL,dH]
 refine aE (k22 r.i h2) ?_ ?_ ?_<;>simp[lO]
 exact⟨[],by simp⟩
end
section
open Go.RowKit
attribute [local simp] ty_p ty_l ty_t kH tDs bN Tm.ts kI oI ac_skip ac_label ac_region ac_seq ac_cond ac_block ac_loop ac_exit ac_ret seqK_n seqK_r seqK_e vo_nil vo_cons blkK JP oN I8 gA gB lG ev gU fF St.out A7 kX upd dD sU K0 asC oH jO tY lF tD qU pV tb Dc.tk Dc.dp Dc.over Dc.app Dc.ln Dc.ds Dc.sing Dc.cont AV.cont Ds.hd Value.oneCell' DE pP C0 AV.imp Dc.imp φOf dY AV.isLL AV.list AV.app AV.arg AV.isL AV.ren Dc.ren Dc.lent tmC tmA tsA iA lo? abin AV.nth Dc.own Dc.toks bP rI Z6 τOf
attribute [local simp] AV.room R8 agC rH Ds.len Ds.dp
def kW(a:Ag):Int:=1+kL a.t+a.e.cnt 500 0+a.i.cnt 500 0
def dP:List Ag->Int->Int
 | [],n=>n
 | a :: r,n=>if n<=500 then dP r (n+kW a) else n
theorem R9(a:Ag)(h1:a.t.size<=200000000)(h2:a.e.size<=200000000)(h3:a.i.size<=200000000):(0<=kL a.t/\kL a.t<=1000000000000)/\(0<=a.e.cnt 500 0/\a.e.cnt 500 0<=1000000000000)/\(0<=a.i.cnt 500 0/\a.i.cnt 500 0<=1000000000000):=by
 have e1:=pE a.t h1
 have e2:=a.e.cnt_le 500 0 (by decide) (by decide) (by decide)
 have e3:=a.e.cnt_ge 500 0 (by decide)
 have e4:=a.e.count_le_size
 have e5:=a.i.cnt_le 500 0 (by decide) (by decide) (by decide)
 have e6:=a.i.cnt_ge 500 0 (by decide)
 have e7:=a.i.count_le_size
 omega
theorem S4(a:Ag):1<=kW a:=by
 have e1:=pF a.t
 have e3:=a.e.cnt_ge 500 0 (by decide)
 have e6:=a.i.cnt_ge 500 0 (by decide)
 unfold kW;omega
theorem gG:∀(l:List Ag) (n:Int),n<=dP l n
 | [],n=>Int.le_refl _
 | a :: r,n=>by
  unfold dP
  split
  ·have:=gG r (n+kW a)
   have:=S4 a
   omega
  ·exact Int.le_refl _
theorem uH{t:Tm}(h:kL t<=500):kL t=1+t.size:=by
 have h2:=t.x.cnt_ge 500 0 (by decide)
 have h5:=eV t.h.l 500 0 (by decide)
 unfold kL at h ⊢
 have e1:=Ts.cnt_eq t.x 500 0 (by decide) (by decide) (by omega)
 have e2:=vU t.h.l 500 0 (by decide) (by decide) (by omega)
 unfold Tm.size
 omega
theorem AF{a:Ag}(h:kW a<=500):1+a.t.size+a.e.size+a.i.size<=kW a:=by
 have e1:=pF a.t
 have e3:=a.e.cnt_ge 500 0 (by decide)
 have e6:=a.i.cnt_ge 500 0 (by decide)
 unfold kW at *
 have f1:=uH (t:=a.t) (by omega)
 have f2:=Ts.cnt_eq a.e 500 0 (by decide) (by decide) (by omega)
 have f3:=Ts.cnt_eq a.i 500 0 (by decide) (by decide) (by omega)
 omega
theorem rS:∀(l:List Ag) (n:Int),0<=n->dP l n<=500->n+cF l<=dP l n
 | [],n,_,_=>by simp[dP,cF]
 | a :: r,n,h0,h=>by
  have h9:n<=500:=Int.le_trans (gG (a :: r) n) h
  unfold dP at h ⊢
  rw[if_pos h9] at h ⊢
  have h1:=gG r (n+kW a)
  have h2:=S4 a
  have h3:=AF (a:=a) (by omega)
  have h4:=rS r (n+kW a) (by omega) h
  simp only[cF,List.map_cons,List.sum_cons] at h4 ⊢
  omega
def st73(l:List Ag)(k:Nat)(n:Int):St:=bP [(0,dH l),(1,iA 500),(5,iA n),(6,iA k)] [] []
theorem k73(l:List Ag)(hs:cF l<=200000000):HH 73 [dH l,iA 500] (iA (dP l 0)):=by
 have hl:l.length<=200000000:=Nat.le_trans (nJ l) hs
 refine ab Tryz.func73 Tryz.ntmps73 Tryz.results73 rfl (by decide) (by simp) rfl rfl ?_
 have d0:l.length*9 / 9=l.length:=by omega
 simp[dH,aT,d0]
 refine lp (α:={ q:Nat×Int // q.1<=l.length/\0<=q.2/\dP (l.drop q.1) q.2=dP l 0 }) (λ q=>st73 l q.1.1 q.1.2) (λ q=>l.length-q.1.1) ⟨(0,0),Nat.zero_le _,Int.le_refl _,rfl⟩ ?_ ?_
 ·refine aI [] ?_ ?_ ?_<;>simp[dH,AV.ok,Dc.ok]
 ·rintro⟨⟨k,n⟩,hk,hn0,hc⟩
  simp only at hk hn0 hc
  by_cases hlt:k<l.length
  ·have h1:=kJ hlt
   have hsz:=jH hlt
   have hd:l.drop k=l[k] :: l.drop (k+1):=List.drop_eq_getElem_cons hlt
   rw[hd,dP] at hc
   generalize hr:l.drop (k+1)=r at h1 hc hd
   obtain⟨b1,b2,b3⟩:=R9 l[k] (by omega) (by omega) (by omega)
   have q1:=k8 l[k].t (by omega)
   have q2:=k7 l[k].e (by omega)
   have q3:=k7 l[k].i (by omega)
   change HH 8 _ (iA (kL l[k].t)) at q1
   by_cases hn:n<=500
   ·rw[if_pos hn] at hc
    unfold kW at hc
    generalize l[k].e.cnt 500 0=c2 at *
    generalize l[k].i.cnt 500 0=c3 at *
    generalize kL l[k].t=c1 at *
    have w1:IntKind.i64.wrap (n+1)=n+1:=by rw[IntKind.wrap_i64];omega
    have w2:IntKind.i64.wrap (n+1+c1)=n+1+c1:=by rw[IntKind.wrap_i64];omega
    have w3:IntKind.i64.wrap (n+1+c1+c2)=n+1+c1+c2:=by rw[IntKind.wrap_i64];omega
    have w4:IntKind.i64.wrap (n+1+c1+c2+c3)=n+1+c1+c2+c3:=by rw[IntKind.wrap_i64];omega
    have hw:IntKind.i64.wrap ((k:Int)+1)=k+1:=by rw[IntKind.wrap_i64];omega
    simp[st73,dH,aT,d0,hlt,hn,h1,bW]
    refine⟨by kernel_rfl,by omega,?_⟩
    refine aE q1 ?_ ?_ ?_<;>simp[w1,w2,h1,bW,aT]
    refine⟨by omega,?_⟩
    refine aE q2 ?_ ?_ ?_<;>simp[w3,h1,bW,aT]
    refine⟨by omega,?_⟩
    refine aE q3 ?_ ?_ ?_<;>simp[w4,hw]
    refine⟨k+1,by omega,n+1+c1+c2+c3,⟨by omega,by omega,?_⟩,?_⟩
    ·rw[hr,show n+1+c1+c2+c3=n+(1+c1+c2+c3) by omega];exact hc
    ·refine aI [] ?_ ?_ ?_<;>simp[AV.ok,Dc.ok]
   ·rw[if_neg hn] at hc
    subst hc
    simp[st73,dH,aT,d0,hlt,hn]
    exact⟨[],by simp⟩
  ·obtain rfl:k=l.length:=by omega
   rw[List.drop_length,dP] at hc
   subst hc
   simp[st73,dH,aT,d0]
   exact⟨[],by simp⟩
def uB(r:Rl):Int:=1+dP r.g 0+r.i.cnt 500 0
theorem xF:∀(l:List Ag) (n:Int),cF l<=200000000->n<=500->dP l n<=4000000000000
 | [],n,_,hn=>by simp only[dP];omega
 | a :: r,n,hs,hn=>by
  unfold dP
  rw[if_pos hn]
  simp only[cF,List.map_cons,List.sum_cons] at hs
  obtain⟨b1,b2,b3⟩:=R9 a (by omega) (by omega) (by omega)
  by_cases h5:n+kW a<=500
  ·exact xF r _ (by unfold cF;omega) h5
  ·have:dP r (n+kW a)=n+kW a:=by
    cases r with
    | nil=>rfl
    | cons b r=>unfold dP;rw[if_neg h5]
   rw[this]
   unfold kW
   omega
def aY:List Ag->Nat->List Int
 | [],_=>[]
 | a :: r,k=>if a.r then (k:Int) :: aY r (k+1) else aY r (k+1)
def kN:List Int->Ds
 | []=>.nil
 | n :: r=>.lit (.int .i64 n) (kN r)
theorem fB(l:List Int):(kN l).len=l.length:=by
 induction l with
 | nil=>rfl
 | cons a r ih=>simp[kN,Ds.len,ih]
theorem wF(p q:List Int):kN (p++q)=(kN p).app (kN q):=by
 induction p with
 | nil=>rfl
 | cons a r ih=>simp[kN,Ds.app,ih]
def bZ(far:Int):Nat->Ts
 | 0=>.nil
 | n+1=>.cons ⟨1,IntKind.i64.wrap (far+n),0,[]⟩ .nil (bZ far n)
theorem dL(f:Int):∀n,(bZ f n).len=n
 | 0=>rfl
 | n+1=>by simp[bZ,Ts.len,dL f n]
theorem nD(f:Int):∀(n k:Nat),k<n->(bZ f n).hd k=⟨1,IntKind.i64.wrap (f+(n-1-k:Nat)),0,[]⟩/\(bZ f n).kd k=.nil
 | n+1,0,_=>⟨by simp[bZ,Ts.hd],rfl⟩
 | n+1,k+1,h=>by
  have:=nD f n k (by omega)
  simp only[bZ,Ts.hd,Ts.kd]
  rw[this.1,this.2,show n+1-1-(k+1)=n-1-k by omega]
  exact⟨rfl,rfl⟩
theorem O1(n:Int):HH 175 [iA n] (.agg (.lit (.int .i64 1) (.lit (.int .i64 n) (.lit (.int .i64 0) (.nilr 1 43 (.nilr 5 26 .nil)))))):=by
 refine ab Tryz.func175 Tryz.ntmps175 Tryz.results175 rfl (by decide) (by simp) rfl rfl ?_
 simp
 exact⟨[],by simp⟩
def IJ(n k:Nat):St:=bP [(0,iA n),(1,iA 0),(4,.c (.blk 21 (k+1) 5 26 (.seg none (tDs ty ((bZ 0 n).take k)) .nil) .nil)),(7,iA n),(8,iA k)] [] [(21,k+1)]
theorem k110(n:Nat)(hn:n<=10000000):HH 110 [iA n,iA 0] (tsA none (bZ 0 n)):=by
 refine ab Tryz.func110 Tryz.ntmps110 Tryz.results110 rfl (by decide) (by simp) rfl rfl ?_
 have h0:¬(n:Int)<0:=by omega
 simp[h0]
 refine lp (α:={ k:Nat // k<=n }) (λ k=>IJ n k.1) (λ k=>n-k.1) ⟨0,Nat.zero_le _⟩ ?_ ?_
 ·refine aI [] ?_ ?_ ?_<;>simp[AV.ok,Dc.ok,Ts.take]
 ·rintro⟨k,hk⟩
  by_cases hlt:k<n
  ·have w1:IntKind.i64.wrap (n:Int)=n:=by rw[IntKind.wrap_i64];omega
   have w2:IntKind.i64.wrap ((n:Int)-1)=n-1:=by rw[IntKind.wrap_i64];omega
   have w3:IntKind.i64.wrap ((n:Int)-1-k)=n-1-k:=by rw[IntKind.wrap_i64];omega
   have hw:IntKind.i64.wrap ((k:Int)+1)=k+1:=by rw[IntKind.wrap_i64];omega
   have e0:0+(n-1-k:Nat)=(n:Int)-1-k:=by omega
   simp[IJ,hlt,w1,w2,w3,hw]
   refine⟨by rw[aF,Ts.take_len_le (by rw[dL];omega)];omega,k+1,by omega,by omega,?_⟩
   refine aI [((21,0),[(21,0)])] ?_ ?_ ?_<;>simp[AV.ok,Dc.ok]
   obtain⟨v1,v2⟩:=nD 0 n k hlt
   rw[Ts.take_succ (by rw[dL];exact hlt),v1,v2,e0,w3,Ts.snoc,bC];rfl
  ·obtain rfl:k=n:=by omega
   have e1:Ts.take k (bZ 0 k)=bZ 0 k:=by have:=Ts.take_len (bZ 0 k);rwa [dL] at this
   simp[IJ,e1,Ds.app_nil]
   exact⟨[],by simp⟩
def IF(n k:Nat):St:=bP [(0,iA n),(1,iA 0),(5,.c (.blk 22 (k+1) 5 26 (.seg none (tDs ty ((bZ 0 n).take k)) .nil) .nil)),(6,iA ((n:Int)-1-k))] [] [(22,k+1)]
theorem k117(n:Nat)(hn:n<=10000000):HH 117 [iA n,iA 0] (tsA none (bZ 0 n)):=by
 refine ab Tryz.func117 Tryz.ntmps117 Tryz.results117 rfl (by decide) (by simp) rfl rfl ?_
 by_cases h0:n=0
 ·subst h0
  simp[bZ]
  exact⟨[],by simp⟩
 have h1:¬(n:Int)<1:=by omega
 have w0:IntKind.i64.wrap ((n:Int)-1)=n-1:=by rw[IntKind.wrap_i64];omega
 simp[h1,w0]
 refine lp (α:={ k:Nat // k<=n }) (λ k=>IF n k.1) (λ k=>n-k.1) ⟨0,Nat.zero_le _⟩ ?_ ?_
 ·refine aI [] ?_ ?_ ?_<;>simp[AV.ok,Dc.ok,Ts.take]
 ·rintro⟨k,hk⟩
  by_cases hlt:k<n
  ·have w3:IntKind.i64.wrap ((n:Int)-1-k)=n-1-k:=by rw[IntKind.wrap_i64];omega
   have w4:IntKind.i64.wrap ((n:Int)-1-k-1)=n-1-(k+1):=by rw[IntKind.wrap_i64];omega
   have e0:0+(n-1-k:Nat)=(n:Int)-1-k:=by omega
   have h2:(k:Int)<=(n:Int)-1:=by omega
   simp[IF,h2,w3]
   refine aE (O1 ((n:Int)-1-k)) ?_ ?_ ?_<;>simp[w3]
   refine⟨by rw[aF,Ts.take_len_le (by rw[dL];omega)];omega,k+1,by omega,by omega,?_⟩
   refine aI [((22,0),[(22,0)])] ?_ ?_ ?_<;>simp[AV.ok,Dc.ok,w4]
   obtain⟨v1,v2⟩:=nD 0 n k hlt
   rw[Ts.take_succ (by rw[dL];exact hlt),v1,v2,e0,w3,Ts.snoc,bC];rfl
  ·obtain rfl:k=n:=by omega
   have e1:Ts.take k (bZ 0 k)=bZ 0 k:=by have:=Ts.take_len (bZ 0 k);rwa [dL] at this
   have h2:¬(k:Int)<=(k:Int)-1:=by omega
   simp[IF,e1,Ds.app_nil,h2]
   exact⟨[],by simp⟩
theorem yI:∀(a b:List Ag) (k:Nat),aY (a++b) k=aY a k++aY b (k+a.length)
 | [],b,k=>by simp[aY]
 | a :: r,b,k=>by
  have:=yI r b (k+1)
  have e:k+1+r.length=k+(r.length+1):=by omega
  simp only[List.cons_append,aY,List.length_cons]
  rw[this,e]
  split<;>rfl
theorem vC{l:List Ag}{k:Nat}(h:k<l.length):aY (l.take (k+1)) 0=aY (l.take k) 0++(if l[k].r then [(k:Int)] else []):=by
 rw[iK h,yI]
 have:(l.take k).length=k:=by rw[List.length_take];omega
 rw[this,Nat.zero_add]
 simp only[aY]
theorem gL:∀(l:List Ag) (k:Nat),(aY l k).length<=l.length
 | [],_=>Nat.le_refl _
 | a :: r,k=>by
  have:=gL r (k+1)
  simp only[aY,List.length_cons]
  split<;>simp<;>omega
def st46(r:Rl)(k:Nat):St:=bP [(1,.bx 2 0),(2,.c (.blk 19 ((aY (r.g.take k) 0).length+1) 1 3 (.seg none (kN (aY (r.g.take k) 0)) .nil) .nil)),(6,dH r.g),(7,iA r.g.length),(8,iA k)] [(2,65,rlC r)] [(19,(aY (r.g.take k) 0).length+1)]
theorem k46(r:Rl)(hl:r.g.length<=100000000):HH 46 [rlL r] (.c (.row none 1 3 (kN (aY r.g 0)) .nil)):=by
 refine ab Tryz.func46 Tryz.ntmps46 Tryz.results46 rfl (by decide) (by simp) rfl rfl ?_
 have d0:r.g.length*9 / 9=r.g.length:=by omega
 simp[rlL,rlC,aT,d0]
 refine lp (α:={ k:Nat // k<=r.g.length }) (λ k=>st46 r k.1) (λ k=>r.g.length-k.1) ⟨0,Nat.zero_le _⟩ ?_ ?_
 ·refine aI [((19,0),[(19,0)])] ?_ ?_ ?_<;>simp[AV.ok,Dc.ok,dH,rlC,aY,kN]
 ·rintro⟨k,hk⟩
  have hw:IntKind.i64.wrap ((k:Int)+1)=k+1:=by rw[IntKind.wrap_i64];omega
  by_cases hlt:k<r.g.length
  ·have h1:=kJ hlt
   have h9:=vC hlt
   have h8:=gL (r.g.take k) 0
   rw[List.length_take] at h8
   generalize r.g.drop (k+1)=q at h1
   cases hr:r.g[k].r with
   | true =>
    rw[hr,if_pos rfl] at h9
    simp[st46,dH,rlC,aT,d0,hlt,h1,bW,hr,hw]
    refine⟨by omega,by rw[fB];omega,k+1,by omega,by omega,?_⟩
    refine aI [((19,0),[(19,0)])] ?_ ?_ ?_<;>simp[AV.ok,Dc.ok,h9,wF,kN]
   | false =>
    rw[hr,if_neg (by decide),List.append_nil] at h9
    simp[st46,dH,rlC,aT,d0,hlt,h1,bW,hr,hw]
    refine⟨by omega,k+1,by omega,by omega,?_⟩
    refine aI [((19,0),[(19,0)])] ?_ ?_ ?_<;>simp[AV.ok,Dc.ok,h9,Ds.app_nil]
  ·obtain rfl:k=r.g.length:=by omega
   simp[st46,dH,rlC,aT,d0,Ds.app_nil]
   exact⟨[],by simp⟩
def st47(r:Rl)(k:Nat):St:=bP [(1,.bx 2 0),(3,.c (.blk 22 ((aY (r.g.take k) 0).length+1) 1 3 (.seg none (kN (aY (r.g.take k) 0)) .nil) .nil)),(4,iA k)] [(2,65,rlC r)] [(22,(aY (r.g.take k) 0).length+1)]
theorem k47(r:Rl)(hl:r.g.length<=100000000):HH 47 [rlL r] (.c (.row none 1 3 (kN (aY r.g 0)) .nil)):=by
 refine ab Tryz.func47 Tryz.ntmps47 Tryz.results47 rfl (by decide) (by simp) rfl rfl ?_
 have d0:r.g.length*9 / 9=r.g.length:=by omega
 simp[rlL,rlC,aT,d0]
 refine lp (α:={ k:Nat // k<=r.g.length }) (λ k=>st47 r k.1) (λ k=>r.g.length-k.1) ⟨0,Nat.zero_le _⟩ ?_ ?_
 ·refine aI [((22,0),[(22,0)])] ?_ ?_ ?_<;>simp[AV.ok,Dc.ok,dH,rlC,aY,kN]
 ·rintro⟨k,hk⟩
  have hw:IntKind.i64.wrap ((k:Int)+1)=k+1:=by rw[IntKind.wrap_i64];omega
  by_cases hlt:k<r.g.length
  ·have h1:=kJ hlt
   have h9:=vC hlt
   have h8:=gL (r.g.take k) 0
   rw[List.length_take] at h8
   generalize r.g.drop (k+1)=q at h1
   cases hr:r.g[k].r with
   | true =>
    rw[hr,if_pos rfl] at h9
    simp[st47,dH,rlC,aT,d0,hlt,h1,bW,hr,hw]
    refine⟨by omega,by rw[fB];omega,k+1,by omega,by omega,?_⟩
    refine aI [((22,0),[(22,0)])] ?_ ?_ ?_<;>simp[AV.ok,Dc.ok,h9,wF,kN]
   | false =>
    rw[hr,if_neg (by decide),List.append_nil] at h9
    simp[st47,dH,rlC,aT,d0,hlt,h1,bW,hr,hw]
    refine⟨by omega,k+1,by omega,by omega,?_⟩
    refine aI [((22,0),[(22,0)])] ?_ ?_ ?_<;>simp[AV.ok,Dc.ok,h9,Ds.app_nil]
  ·obtain rfl:k=r.g.length:=by omega
   simp[st47,dH,rlC,aT,d0,Ds.app_nil]
   exact⟨[],by simp⟩
def U2(n:Nat)(far:Int)(k:Nat):St:=bP [(0,iA n),(1,iA far),(4,.c (.blk 21 (k+1) 5 26 (.seg none (tDs ty ((bZ far n).take k)) .nil) .nil)),(7,iA n),(8,iA k)] [] [(21,k+1)]
theorem k110f(n:Nat)(far:Int)(hn:n<=10000000):HH 110 [iA n,iA far] (tsA none (bZ far n)):=by
 refine ab Tryz.func110 Tryz.ntmps110 Tryz.results110 rfl (by decide) (by simp) rfl rfl ?_
 have h0:¬(n:Int)<0:=by omega
 simp[h0]
 refine lp (α:={ k:Nat // k<=n }) (λ k=>U2 n far k.1) (λ k=>n-k.1) ⟨0,Nat.zero_le _⟩ ?_ ?_
 ·refine aI [] ?_ ?_ ?_<;>simp[AV.ok,Dc.ok,Ts.take]
 ·rintro⟨k,hk⟩
  by_cases hlt:k<n
  ·have hw:IntKind.i64.wrap ((k:Int)+1)=k+1:=by rw[IntKind.wrap_i64];omega
   have w9:IntKind.i64.wrap (IntKind.i64.wrap (IntKind.i64.wrap (far+n)-1)-k)=IntKind.i64.wrap (far+(n-1-k:Nat)):=by rw[IntKind.wrap_i64,IntKind.wrap_i64,IntKind.wrap_i64,IntKind.wrap_i64];omega
   obtain⟨v1,v2⟩:=nD far n k hlt
   have e9:(bZ far n).take (k+1)=((bZ far n).take k).app (.cons ⟨1,IntKind.i64.wrap (far+(n-1-k:Nat)),0,[]⟩ .nil .nil):=by rw[Ts.take_succ (by rw[dL];exact hlt),v1,v2];rfl
   generalize IntKind.i64.wrap (far+(n-1-k:Nat))=V at *
   simp[U2,hlt,w9,hw]
   refine⟨by rw[aF,Ts.take_len_le (by rw[dL];omega)];omega,k+1,by omega,by omega,?_⟩
   refine aI [((21,0),[(21,0)])] ?_ ?_ ?_<;>simp[AV.ok,Dc.ok,e9]
   rw[bC];rfl
  ·obtain rfl:k=n:=by omega
   have e1:Ts.take k (bZ far k)=bZ far k:=by have:=Ts.take_len (bZ far k);rwa [dL] at this
   simp[U2,e1,Ds.app_nil]
   exact⟨[],by simp⟩
def U1(n:Nat)(far:Int)(k:Nat):St:=bP [(0,iA n),(1,iA far),(5,.c (.blk 22 (k+1) 5 26 (.seg none (tDs ty ((bZ far n).take k)) .nil) .nil)),(6,iA ((n:Int)-1-k))] [] [(22,k+1)]
theorem k117f(n:Nat)(far:Int)(hn:n<=10000000):HH 117 [iA n,iA far] (tsA none (bZ far n)):=by
 refine ab Tryz.func117 Tryz.ntmps117 Tryz.results117 rfl (by decide) (by simp) rfl rfl ?_
 by_cases h0:n=0
 ·subst h0
  simp[bZ]
  exact⟨[],by simp⟩
 have h1:¬(n:Int)<1:=by omega
 have w0:IntKind.i64.wrap ((n:Int)-1)=n-1:=by rw[IntKind.wrap_i64];omega
 simp[h1,w0]
 refine lp (α:={ k:Nat // k<=n }) (λ k=>U1 n far k.1) (λ k=>n-k.1) ⟨0,Nat.zero_le _⟩ ?_ ?_
 ·refine aI [] ?_ ?_ ?_<;>simp[AV.ok,Dc.ok,Ts.take]
 ·rintro⟨k,hk⟩
  by_cases hlt:k<n
  ·have w4:IntKind.i64.wrap ((n:Int)-1-k-1)=n-1-(k+1):=by rw[IntKind.wrap_i64];omega
   have h2:(k:Int)<=(n:Int)-1:=by omega
   have w9:IntKind.i64.wrap (far+((n:Int)-1-k))=IntKind.i64.wrap (far+(n-1-k:Nat)):=by rw[show (n:Int)-1-k=(n-1-k:Nat) by omega]
   obtain⟨v1,v2⟩:=nD far n k hlt
   have e9:(bZ far n).take (k+1)=((bZ far n).take k).app (.cons ⟨1,IntKind.i64.wrap (far+(n-1-k:Nat)),0,[]⟩ .nil .nil):=by rw[Ts.take_succ (by rw[dL];exact hlt),v1,v2];rfl
   generalize IntKind.i64.wrap (far+(n-1-k:Nat))=V at *
   simp[U1,h2,w9]
   refine aE (O1 V) ?_ ?_ ?_<;>simp
   refine⟨by rw[aF,Ts.take_len_le (by rw[dL];omega)];omega,k+1,by omega,by omega,?_⟩
   refine aI [((22,0),[(22,0)])] ?_ ?_ ?_<;>simp[AV.ok,Dc.ok,w4,e9]
   rw[bC];rfl
  ·obtain rfl:k=n:=by omega
   have e1:Ts.take k (bZ far k)=bZ far k:=by have:=Ts.take_len (bZ far k);rwa [dL] at this
   have h2:¬(k:Int)<=(k:Int)-1:=by omega
   simp[U1,e1,Ds.app_nil,h2]
   exact⟨[],by simp⟩
theorem mA(f:Int):∀n,(bZ f n).size=n
 | 0=>rfl
 | n+1=>by simp only[bZ,Ts.size,aH,mA f n];omega
theorem mB(f:Int):∀n,(bZ f n).fits
 | 0=>trivial
 | n+1=>⟨⟨⟨by show (-9223372036854775808:Int)<=1;decide,by show (1:Int)<=9223372036854775807;decide⟩,⟨by simp only[IntKind.wrap_i64];omega,by simp only[IntKind.wrap_i64];omega⟩,⟨by show (-9223372036854775808:Int)<=0;decide,by show (0:Int)<=9223372036854775807;decide⟩,λ p hp=>by cases hp⟩,trivial,mB f n⟩
theorem KB(t:Tm)(hf:t.fits)(hs:t.size<=100000000):HH 167 [tmL t] (tmL t):=by
 refine ab Tryz.func167 Tryz.ntmps167 Tryz.results167 rfl (by decide) (by simp) rfl rfl ?_
 simp
 refine aE (h60' t hf hs) ?_ ?_ ?_<;>simp
 exact⟨[],by simp⟩
def GT(t a:Ts):St:=bP [(2,.c (.blk 16 (a.len+1) 5 26 (.seg none (tDs ty a) .nil) .nil)),(5,tsA none t),(6,iA t.len),(7,iA a.len)] [] [(16,a.len+1)]
theorem k233(t:Ts)(hf:t.fits)(hs:t.size<=100000000):HH 233 [tsA none t] (tsA none t):=by
 have hl:t.len<=100000000:=Nat.le_trans (len_le_size t) hs
 have d0:t.len*5 / 5=t.len:=by omega
 refine ab Tryz.func233 Tryz.ntmps233 Tryz.results233 rfl (by decide) (by simp) rfl rfl ?_
 simp[aF,d0]
 refine lp (α:={ q:Ts×Ts // q.1.app q.2=t }) (λ q=>GT t q.1.1) (λ q=>q.1.2.len) ⟨(.nil,t),rfl⟩ ?_ ?_
 ·refine aI [((16,0),[(16,0)])] ?_ ?_ ?_<;>simp[Ts.len,AV.ok,Dc.ok]
 ·rintro⟨⟨a,r⟩,hq⟩
  simp only at hq
  cases r with
  | nil =>
   have e:a=t:=by rw[<-hq];exact (Ts.app_nil a).symm
   subst e
   simp[GT,Ds.app_nil]
   exact⟨[],by simp⟩
  | cons h y r =>
   have h1:a.len<t.len:=by rw[<-hq];simp[Ts.app_len,Ts.len]
   have h2:(tDs ty t).dp (a.len*5)=tDs ty (.cons h y r):=by rw[<-hq];exact fA a _
   have h3:h.fits/\y.fits:=dR (a:=a) (by rw[hq];exact hf)
   have h4:aH h.l+y.size+1<=t.size:=by rw[<-hq];exact app_size
   have hw:IntKind.i64.wrap ((a.len:Int)+1)=a.len+1:=by rw[IntKind.wrap_i64];omega
   simp[GT,aF,d0,h1,h2]
   refine⟨by omega,?_⟩
   refine aE (KB ⟨h,y⟩ h3 (by show aH h.l+y.size<=100000000;omega)) ?_ ?_ ?_<;>simp
   refine⟨by rw[aF];omega,a.app (.cons h y .nil),r,by simp[Ts.len],by rw[Ts.app_assoc];exact hq,?_⟩
   refine aI [((16,0),[(16,0)])] ?_ ?_ ?_<;>simp[Ts.len,Ts.app_len,AV.ok,Dc.ok,hw]
   exact (bC ty a (.cons h y .nil)).symm
theorem k217(t:Ts)(hf:t.fits)(hs:t.size<=100000000):HH 217 [tsA none t] (.agg (.row none 5 26 (tDs ty t) .nil)):=by
 refine ab Tryz.func217 Tryz.ntmps217 Tryz.results217 rfl (by decide) (by simp) rfl rfl ?_
 simp
 refine aE (k233 t hf hs) ?_ ?_ ?_<;>simp
 exact⟨[],by simp⟩
theorem k162(t:Ts)(b:Tm)(hf:t.fits)(hs:t.size<=100000000)(hbf:b.fits)(hbs:b.size<=100000000):HH 162 [tsA none t,tmL b] (tmL (aK 5 t b)):=by
 refine ab Tryz.func162 Tryz.ntmps162 Tryz.results162 rfl (by decide) (by simp) rfl rfl ?_
 simp
 refine⟨by kernel_rfl,?_⟩
 refine aE (k217 t hf hs) ?_ ?_ ?_<;>simp
 refine aE (KB b hbf hbs) ?_ ?_ ?_<;>simp
 refine aE (k218 5 t b) ?_ ?_ ?_<;>simp
 exact⟨[],by simp⟩
theorem pA(t:Ts):∀k,(tDs ty t).dp (k*5)=tDs ty (t.drop k):=by
 induction t with
 | nil =>
  intro k
  have e:∀n,Ds.dp n .nil=.nil:=λ n=>by cases n<;>rfl
  have e2:Ts.drop k .nil=.nil:=by cases k<;>rfl
  rw[e2];exact e _
 | cons h x r _ ih =>
  intro k
  cases k with
  | zero=>rw[Nat.zero_mul];rfl
  | succ k=>rw[show (k+1)*5=k*5+5 by omega];exact ih k
def GV(kk:Int)(t:Ts)(b:Tm)(j:Nat):St:=bP [(0,iA kk),(1,tsA none t),(6,.bx 7 0),(7,.bx 8 0),(8,iA ((j:Int)-1))] [(7,26,.lit (.int .i64 0) (.lit (.int .i64 0) (.lit (.int .i64 0) (.nilr 1 43 (.nilr 5 26 .nil))))),(8,26,tmC none none (aK kk (t.drop j) b).h (aK kk (t.drop j) b).x)] []
theorem k226(kk:Int)(t:Ts)(b:Tm)(hf:t.fits)(hs:t.size<=100000000)(hbf:b.fits)(hbs:b.size<=100000000):HH 226 [iA kk,tsA none t,tmL b] (tmL (aK kk t b)):=by
 have hl:t.len<=100000000:=Nat.le_trans (len_le_size t) hs
 have d0:t.len*5 / 5=t.len:=by omega
 have w0:IntKind.i64.wrap ((t.len:Int)-1)=t.len-1:=by rw[IntKind.wrap_i64];omega
 refine ab Tryz.func226 Tryz.ntmps226 Tryz.results226 rfl (by decide) (by simp) rfl rfl ?_
 simp[aF,d0]
 refine aE (oD b hbf (by omega)) ?_ ?_ ?_<;>simp[aF,d0,w0]
 refine lp (α:={ j:Nat // j<=t.len }) (λ j=>GV kk t b j.1) (λ j=>j.1) ⟨t.len,Nat.le_refl _⟩ ?_ ?_
 ·refine aI [] ?_ ?_ ?_<;>simp[AV.ok,Dc.ok,Ts.drop_len,aK]
 ·rintro⟨j,hj⟩
  cases j with
  | zero =>
   simp[GV,Ts.drop]
   exact⟨[],by simp⟩
  | succ j =>
   have h1:j<t.len:=hj
   have h2:=pA t j
   have h3:=Ts.drop_step h1
   have h4:=Ts.fits_hd hf h1
   have h5:=Ts.size_kd h1
   rw[h3] at h2
   have h6:aK kk (t.drop j) b=⟨kH kk,.cons (t.hd j) (t.kd j) (aK kk (t.drop (j+1)) b).ts⟩:=by rw[h3];rfl
   have w1:IntKind.i64.wrap ((j:Int)-1)=j-1:=by rw[IntKind.wrap_i64];omega
   generalize t.hd j=hh at *
   generalize t.kd j=hx at *
   generalize hB:aK kk (t.drop (j+1)) b=B at *
   simp[GV,h2,aF]
   refine⟨by kernel_rfl,by omega,?_⟩
   refine aE (oD ⟨hh,hx⟩ h4 (by show aH hh.l+hx.size<=200000000;omega)) ?_ ?_ ?_<;>simp[w1]
   refine⟨j,by omega,by omega,?_⟩
   refine aI [] ?_ ?_ ?_<;>simp[AV.ok,Dc.ok,h6,hB]
theorem k196(t:Ts)(b:Tm)(hf:t.fits)(hs:t.size<=100000000)(hbf:b.fits)(hbs:b.size<=100000000):HH 196 [tsA none t,tmL b] (tmL (aK 5 t b)):=by
 refine ab Tryz.func196 Tryz.ntmps196 Tryz.results196 rfl (by decide) (by simp) rfl rfl ?_
 simp
 refine aE (k226 5 t b hf hs hbf hbs) ?_ ?_ ?_<;>simp
 exact⟨[],by simp⟩
def Ts.tm(t:Ts)(k:Nat):Tm:=⟨t.hd k,t.kd k⟩
def cA(y:Ts)(h:Hd)(d:Nat):Tm ⊕ Hd :=
 if h.k=1/\(d:Int)<=h.n then
  if h.n-d<y.len then .inl ((y.tm (y.len-1-(h.n-d).toNat)).lift d 0)
  else .inr { h with n:=IntKind.i64.wrap (h.n-y.len) }
 else .inr h
def eR(y:Ts):Int->Nat->Nat->Ts->Ts
 | _,_,_,.nil=>.nil
 | pk,i,d,.cons h x r=>match cA y h (aU pk i d) with
  | .inl t=>.cons t.h t.x (eR y pk (i+1) d r)
  | .inr h'=>.cons h' (eR y h.k 0 (aU pk i d) x) (eR y pk (i+1) d r)
def bT(y:Ts)(d:Nat)(t:Tm):Tm:=match cA y t.h d with
 | .inl u=>u
 | .inr h'=>⟨h',eR y t.h.k 0 d t.x⟩
theorem fD(y:Ts)(pk:Int)(i d:Nat)(h:Hd)(x r:Ts):eR y pk i d (.cons h x r)=.cons (bT y (aU pk i d) ⟨h,x⟩).h (bT y (aU pk i d) ⟨h,x⟩).x (eR y pk (i+1) d r):=by
 simp only[eR,bT]
 split<;>rfl
theorem k128(t:Tm)(n f:Int)(hf:t.fits)(hs:t.size<=200000000):HH 128 [tmL t,iA n,iA f,iA 0] (tmL (t.lift n f)):=q128 n f _ t 0 (Nat.lt_succ_self _) hf hs
theorem nO(y:Ts)(pk:Int)(d:Nat):∀(a b:Ts) (i:Nat),eR y pk i d (a.app b)=(eR y pk i d a).app (eR y pk (i+a.len) d b)
 | .nil,b,i=>rfl
 | .cons h x r,b,i=>by
  have:=nO y pk d r b (i+1)
  rw[Ts.app,fD,fD,this,Ts.app,Ts.len]
  rw[show i+1+r.len=i+(r.len+1) by omega]
theorem lJ(y:Ts)(pk:Int)(d:Nat):∀(a:Ts) (i:Nat),(eR y pk i d a).len=a.len
 | .nil,i=>rfl
 | .cons h x r,i=>by rw[fD,Ts.len,Ts.len,lJ y pk d r (i+1)]
def qT(y:Ts)(d:Nat)(h:Hd)(x:Ts)(a:Ts):St:=bP [(1,tsA none y),(2,iA d),(3,.bx 4 0),(6,.bx 7 0),(9,.c (.blk 64 (a.len+1) 5 26 (.seg none (tDs ty (eR y h.k 0 d a)) .nil) .nil)),(10,iA a.len)] [(4,26,tmC none none h x),(7,26,.lit (.int .i64 0) (.lit (.int .i64 0) (.lit (.int .i64 0) (.nilr 1 43 (.nilr 5 26 .nil)))))] [(64,a.len+1)]
theorem k225(y:Ts)(hy:y.fits)(hys:y.size<=100000000):∀(M:Nat) (t:Tm) (d:Nat),t.size<M->t.fits->t.size+d<=100000000->HH 225 [tmL t,tsA none y,iA d] (tmL (bT y d t)):=by
 have hyl:y.len<=100000000:=Nat.le_trans (len_le_size y) hys
 intro M
 induction M with
 | zero=>intro t d h;omega
 | succ M ih =>
  rintro⟨h,x⟩ d hM hf hs
  have d0:y.len*5 / 5=y.len:=by omega
  have dx:x.len*5 / 5=x.len:=by omega
  have hxl:x.len<=100000000:=by have:=len_le_size x;unfold Tm.size at hs;simp only at hs;omega
  have hnb : -9223372036854775808<=h.n/\h.n<=9223372036854775807:=hf.1.2.1
  refine ab Tryz.func225 Tryz.ntmps225 Tryz.results225 rfl (by decide) (by simp) rfl rfl ?_
  by_cases c1:h.k=1/\(d:Int)<=h.n
  ·have w1:IntKind.i64.wrap (h.n-d)=h.n-d:=by rw[IntKind.wrap_i64];omega
   by_cases c2:h.n-d<y.len
   ·obtain⟨j,hj⟩:∃j:Nat,(y.len:Int)-1-(h.n-d)=j:=⟨((y.len:Int)-1-(h.n-d)).toNat,by omega⟩
    have hjl:j<y.len:=by omega
    have e1:bT y d ⟨h,x⟩=Tm.lift ⟨y.hd j,y.kd j⟩ d 0:=by
     have:y.len-1-(h.n-d).toNat=j:=by omega
     simp only[bT,cA,if_pos c1,if_pos c2,this];rfl
    have w2:IntKind.i64.wrap ((y.len:Int)-1)=y.len-1:=by rw[IntKind.wrap_i64];omega
    have w3:IntKind.i64.wrap ((y.len:Int)-1-(h.n-d))=j:=by rw[IntKind.wrap_i64];omega
    have h2:=pA y j
    have h3:=Ts.drop_step hjl
    have h4:=Ts.fits_hd hy hjl
    have h5:=Ts.size_kd hjl
    rw[h3] at h2
    rw[e1]
    clear e1 h3
    generalize y.hd j=uh at *
    generalize y.kd j=ux at *
    generalize y.drop (j+1)=ur at *
    obtain⟨c1k,c1n⟩:=c1
    simp[aF,d0,c1k,c1n,c2,w1,w2,w3,h2]
    refine⟨by omega,?_⟩
    refine aE (k128 ⟨uh,ux⟩ d 0 h4 (by unfold Tm.size;simp only;omega)) ?_ ?_ ?_<;>simp
    exact⟨[],by simp⟩
   ·have e1:bT y d ⟨h,x⟩=⟨{ h with n:=IntKind.i64.wrap (h.n-y.len) },eR y h.k 0 d x⟩:=by
     simp only[bT,cA,if_pos c1,if_neg c2]
    rw[e1]
    obtain⟨hk,hn,ha,hl⟩:=h
    obtain⟨c1k,c1n⟩:=c1
    simp only at c1k c1n
    subst c1k
    clear e1
    simp only at c2 w1
    simp[aF,d0,c1n,c2,w1]
    refine lp (α:={ q:Ts×Ts // q.1.app q.2=x }) (λ q=>qT y d ⟨1,IntKind.i64.wrap (hn-y.len),ha,hl⟩ x q.1.1) (λ q=>q.1.2.len) ⟨(.nil,x),rfl⟩ ?_ ?_
    ·refine aI [((64,0),[(64,0)])] ?_ ?_ ?_<;>simp[eR,Ts.len,AV.ok,Dc.ok]
    ·rintro⟨⟨a,r⟩,hq⟩
     simp only at hq
     cases r with
     | nil =>
      have e:a=x:=by rw[<-hq];exact (Ts.app_nil a).symm
      subst e
      simp[qT,aF,dx]
      refine aE (Y3 ⟨1,IntKind.i64.wrap (hn-y.len),ha,hl⟩ a (eR y 1 0 d a) (by unfold Tm.size at hs;dsimp only at hs ⊢;omega)) ?_ ?_ ?_<;>simp[Ds.app_nil]
      exact⟨[],by simp⟩
     | cons hh hx r =>
      have h1:a.len<x.len:=by rw[<-hq];simp[Ts.app_len,Ts.len]
      have h2:(tDs ty x).dp (a.len*5)=tDs ty (.cons hh hx r):=by rw[<-hq];exact fA a _
      have h3:hh.fits/\hx.fits:=dR (a:=a) (by rw[hq];exact hf.2)
      have h4:aH hh.l+hx.size+1<=x.size:=by rw[<-hq];exact app_size
      have hw:IntKind.i64.wrap ((a.len:Int)+1)=a.len+1:=by rw[IntKind.wrap_i64];omega
      have hdp:aU 1 a.len d<=d+1:=by unfold aU;split<;>omega
      have hne:tDs ty (eR y 1 0 d (a.app (.cons hh hx .nil)))=(tDs ty (eR y 1 0 d a)).app (tDs ty (bT y (aU 1 a.len d) ⟨hh,hx⟩).ts):=by
       rw[nO,fD,bC,Nat.zero_add];rfl
      have hsz:x.size<=(⟨⟨1,hn,ha,hl⟩,x⟩:Tm).size:=by unfold Tm.size;simp only;omega
      have hsz2:(⟨hh,hx⟩:Tm).size+1<=x.size:=h4
      have ihh:=ih ⟨hh,hx⟩ (aU 1 a.len d) (by omega) h3 (by omega)
      generalize bT y (aU 1 a.len d) ⟨hh,hx⟩=P at *
      simp[qT,aF,dx,h1,h2]
      refine⟨by kernel_rfl,by omega,?_⟩
      refine aE (N6 ⟨⟨1,IntKind.i64.wrap (hn-y.len),ha,hl⟩,x⟩ a.len d (by omega)) ?_ ?_ ?_<;>simp
      refine aE ihh ?_ ?_ ?_<;>simp
      refine⟨by rw[aF,lJ];omega,a.app (.cons hh hx .nil),r,by simp[Ts.len],by rw[Ts.app_assoc];exact hq,?_⟩
      refine aI [((64,0),[(64,0)])] ?_ ?_ ?_<;>simp[Ts.len,Ts.app_len,AV.ok,Dc.ok,hw,hne]
  ·have e1:bT y d ⟨h,x⟩=⟨h,eR y h.k 0 d x⟩:=by
    simp only[bT,cA,if_neg c1]
   rw[e1]
   by_cases c3:h.k=1
   ·have c4:¬(d:Int)<=h.n:=λ h9=>c1 ⟨c3,h9⟩
    obtain⟨hk,hn,ha,hl⟩:=h
    simp only at c3 c4
    subst c3
    clear e1 c1
    simp[aF,d0,c4]
    refine lp (α:={ q:Ts×Ts // q.1.app q.2=x }) (λ q=>qT y d ⟨1,hn,ha,hl⟩ x q.1.1) (λ q=>q.1.2.len) ⟨(.nil,x),rfl⟩ ?_ ?_
    ·refine aI [((64,0),[(64,0)])] ?_ ?_ ?_<;>simp[eR,Ts.len,AV.ok,Dc.ok]
    ·rintro⟨⟨a,r⟩,hq⟩
     simp only at hq
     cases r with
     | nil =>
      have e:a=x:=by rw[<-hq];exact (Ts.app_nil a).symm
      subst e
      simp[qT,aF,dx]
      refine aE (Y3 ⟨1,hn,ha,hl⟩ a (eR y 1 0 d a) (by unfold Tm.size at hs;dsimp only at hs ⊢;omega)) ?_ ?_ ?_<;>simp[Ds.app_nil]
      exact⟨[],by simp⟩
     | cons hh hx r =>
      have h1:a.len<x.len:=by rw[<-hq];simp[Ts.app_len,Ts.len]
      have h2:(tDs ty x).dp (a.len*5)=tDs ty (.cons hh hx r):=by rw[<-hq];exact fA a _
      have h3:hh.fits/\hx.fits:=dR (a:=a) (by rw[hq];exact hf.2)
      have h4:aH hh.l+hx.size+1<=x.size:=by rw[<-hq];exact app_size
      have hw:IntKind.i64.wrap ((a.len:Int)+1)=a.len+1:=by rw[IntKind.wrap_i64];omega
      have hdp:aU 1 a.len d<=d+1:=by unfold aU;split<;>omega
      have hne:tDs ty (eR y 1 0 d (a.app (.cons hh hx .nil)))=(tDs ty (eR y 1 0 d a)).app (tDs ty (bT y (aU 1 a.len d) ⟨hh,hx⟩).ts):=by
       rw[nO,fD,bC,Nat.zero_add];rfl
      have hsz:x.size<=(⟨⟨1,hn,ha,hl⟩,x⟩:Tm).size:=by unfold Tm.size;simp only;omega
      have hsz2:(⟨hh,hx⟩:Tm).size+1<=x.size:=h4
      have ihh:=ih ⟨hh,hx⟩ (aU 1 a.len d) (by omega) h3 (by omega)
      generalize bT y (aU 1 a.len d) ⟨hh,hx⟩=P at *
      simp[qT,aF,dx,h1,h2]
      refine⟨by kernel_rfl,by omega,?_⟩
      refine aE (N6 ⟨⟨1,hn,ha,hl⟩,x⟩ a.len d (by omega)) ?_ ?_ ?_<;>simp
      refine aE ihh ?_ ?_ ?_<;>simp
      refine⟨by rw[aF,lJ];omega,a.app (.cons hh hx .nil),r,by simp[Ts.len],by rw[Ts.app_assoc];exact hq,?_⟩
      refine aI [((64,0),[(64,0)])] ?_ ?_ ?_<;>simp[Ts.len,Ts.app_len,AV.ok,Dc.ok,hw,hne]
   ·simp[aF,d0,c3]
    refine lp (α:={ q:Ts×Ts // q.1.app q.2=x }) (λ q=>qT y d h x q.1.1) (λ q=>q.1.2.len) ⟨(.nil,x),rfl⟩ ?_ ?_
    ·refine aI [((64,0),[(64,0)])] ?_ ?_ ?_<;>simp[eR,Ts.len,AV.ok,Dc.ok]
    ·rintro⟨⟨a,r⟩,hq⟩
     simp only at hq
     cases r with
     | nil =>
      have e:a=x:=by rw[<-hq];exact (Ts.app_nil a).symm
      subst e
      simp[qT,aF,dx]
      refine aE (Y3 h a (eR y h.k 0 d a) (by unfold Tm.size at hs;dsimp only at hs ⊢;omega)) ?_ ?_ ?_<;>simp[Ds.app_nil]
      exact⟨[],by simp⟩
     | cons hh hx r =>
      have h1:a.len<x.len:=by rw[<-hq];simp[Ts.app_len,Ts.len]
      have h2:(tDs ty x).dp (a.len*5)=tDs ty (.cons hh hx r):=by rw[<-hq];exact fA a _
      have h3:hh.fits/\hx.fits:=dR (a:=a) (by rw[hq];exact hf.2)
      have h4:aH hh.l+hx.size+1<=x.size:=by rw[<-hq];exact app_size
      have hw:IntKind.i64.wrap ((a.len:Int)+1)=a.len+1:=by rw[IntKind.wrap_i64];omega
      have hdp:aU h.k a.len d<=d+1:=by unfold aU;split<;>omega
      have hne:tDs ty (eR y h.k 0 d (a.app (.cons hh hx .nil)))=(tDs ty (eR y h.k 0 d a)).app (tDs ty (bT y (aU h.k a.len d) ⟨hh,hx⟩).ts):=by
       rw[nO,fD,bC,Nat.zero_add];rfl
      have hsz:x.size<=(⟨h,x⟩:Tm).size:=by unfold Tm.size;simp only;omega
      have hsz2:(⟨hh,hx⟩:Tm).size+1<=x.size:=h4
      have ihh:=ih ⟨hh,hx⟩ (aU h.k a.len d) (by omega) h3 (by omega)
      generalize bT y (aU h.k a.len d) ⟨hh,hx⟩=P at *
      simp[qT,aF,dx,h1,h2]
      refine⟨by kernel_rfl,by omega,?_⟩
      refine aE (N6 ⟨h,x⟩ a.len d (by omega)) ?_ ?_ ?_<;>simp
      refine aE ihh ?_ ?_ ?_<;>simp
      refine⟨by rw[aF,lJ];omega,a.app (.cons hh hx .nil),r,by simp[Ts.len],by rw[Ts.app_assoc];exact hq,?_⟩
      refine aI [((64,0),[(64,0)])] ?_ ?_ ?_<;>simp[Ts.len,Ts.app_len,AV.ok,Dc.ok,hw,hne]
theorem k195(y:Ts)(t:Tm)(hy:y.fits)(hys:y.size<=100000000)(hf:t.fits)(hs:t.size<=100000000):HH 195 [tmL t,tsA none y] (tmL (bT y 0 t)):=by
 refine ab Tryz.func195 Tryz.ntmps195 Tryz.results195 rfl (by decide) (by simp) rfl rfl ?_
 simp
 refine aE (k225 y hy hys _ t 0 (Nat.lt_succ_self _) hf (by omega)) ?_ ?_ ?_<;>simp
 exact⟨[],by simp⟩
def fK(a:Ag)(n:Nat)(v:Ts):Tm:=if a.r=false/\n<v.len then v.tm n else ⟨oI 0 1,.nil⟩
def aQ(l:List Ag):Nat:=(l.filter λ a=>!a.r).length
theorem gD(a b:List Ag):aQ (a++b)=aQ a+aQ b:=by simp[aQ]
def byT:List Ag->Nat->Ts->Ts
 | [],_,_=>.nil
 | a :: r,n,v=>.cons (fK a n v).h (fK a n v).x (byT r (n+aQ [a]) v)
theorem H8(v:Ts):∀(a b:List Ag) (n:Nat),byT (a++b) n v=(byT a n v).app (byT b (n+aQ a) v)
 | [],b,n=>rfl
 | x :: a,b,n=>by
  have:=H8 v a b (n+aQ [x])
  have e:n+aQ [x]+aQ a=n+aQ (x :: a):=by
   rw[show x :: a=[x]++a from rfl,gD];omega
  simp only[List.cons_append,byT,Ts.app]
  rw[this,e]
theorem H6(v:Ts):∀(a:List Ag) (n:Nat),(byT a n v).len=a.length
 | [],n=>rfl
 | x :: a,n=>by simp[byT,Ts.len,H6 v a]
theorem oW(a:List Ag):aQ a<=a.length:=List.length_filter_le _ _
def GW(r:Rl)(v:Ts)(i k:Nat):St:=bP [(1,iA i),(2,tsA none v),(3,.bx 4 0),(7,.c (.blk 38 (k+1) 5 26 (.seg none (tDs ty (byT (r.g.take k) 0 v)) .nil) .nil)),(8,iA (aQ (r.g.take k))),(9,iA k)] [(4,65,rlC r)] [(38,k+1)]
theorem k197(r:Rl)(v:Ts)(i:Nat)(hi:i<=r.g.length)(hl:r.g.length<=100000000)(hv:v.len<=100000000):HH 197 [rlL r,iA i,tsA none v] (tsA none (byT (r.g.take i) 0 v)):=by
 refine ab Tryz.func197 Tryz.ntmps197 Tryz.results197 rfl (by decide) (by simp) rfl rfl ?_
 have d0:r.g.length*9 / 9=r.g.length:=by omega
 have dv:v.len*5 / 5=v.len:=by omega
 simp[rlL,rlC]
 refine lp (α:={ k:Nat // k<=i }) (λ k=>GW r v i k.1) (λ k=>i-k.1) ⟨0,Nat.zero_le _⟩ ?_ ?_
 ·refine aI [((38,0),[(38,0)])] ?_ ?_ ?_<;>simp[AV.ok,Dc.ok,rlC,byT,aQ]
 ·rintro⟨k,hk⟩
  have hw:IntKind.i64.wrap ((k:Int)+1)=k+1:=by rw[IntKind.wrap_i64];omega
  by_cases hlt:k<i
  ·have hkl:k<r.g.length:=by omega
   have h1:=kJ hkl
   have hpl:=oW (r.g.take k)
   rw[List.length_take] at hpl
   have e1:byT (r.g.take (k+1)) 0 v=(byT (r.g.take k) 0 v).app (.cons (fK r.g[k] (aQ (r.g.take k)) v).h (fK r.g[k] (aQ (r.g.take k)) v).x .nil):=by
    rw[iK hkl,H8,Nat.zero_add];rfl
   have e2:aQ (r.g.take (k+1))=aQ (r.g.take k)+aQ [r.g[k]]:=by rw[iK hkl,gD]
   have hbl:=H6 v (r.g.take k) 0
   rw[List.length_take] at hbl
   generalize hB1:byT (r.g.take (k+1)) 0 v=B1 at *
   generalize hN1:aQ (r.g.take (k+1))=N1 at *
   generalize hB:byT (r.g.take k) 0 v=B at *
   generalize hN:aQ (r.g.take k)=N at *
   generalize r.g.drop (k+1)=q at h1
   generalize r.g[k]=a at *
   have wn:IntKind.i64.wrap ((N:Int)+1)=N+1:=by rw[IntKind.wrap_i64];omega
   simp[GW,hB,hN,hlt]
   refine aE (g65 0 1) ?_ ?_ ?_<;>simp[rlC,aT,d0,h1,bW]
   refine⟨by omega,?_⟩
   cases hr:a.r with
   | true =>
    have e3:fK a N v=⟨oI 0 1,.nil⟩:=by unfold fK;rw[hr];rfl
    have e4:aQ [a]=0:=by simp[aQ,hr]
    rw[e3] at e1
    rw[e4,Nat.add_zero] at e2
    simp[hr]
    refine⟨by rw[aF];omega,k+1,by omega,by omega,?_⟩
    refine aI [((38,0),[(38,0)])] ?_ ?_ ?_<;>simp[AV.ok,Dc.ok,hw,rlC,hB1,hN1]
    exact⟨by rw[e1,bC];rfl,by rw[e2]⟩
   | false =>
    have e4:aQ [a]=1:=by simp[aQ,hr]
    rw[e4] at e2
    by_cases hN2:N<v.len
    ·have e3:fK a N v=v.tm N:=by unfold fK;rw[hr,if_pos ⟨rfl,hN2⟩]
     have h5:=pA v N
     rw[Ts.drop_step hN2] at h5
     rw[e3] at e1
     unfold Ts.tm at e1
     generalize v.hd N=uh at *
     generalize v.kd N=ux at *
     generalize v.drop (N+1)=ur at *
     simp[hr,aF,dv,hN2,h5,wn]
     refine⟨by omega,by omega,k+1,by omega,by omega,?_⟩
     refine aI [((38,0),[(38,0)])] ?_ ?_ ?_<;>simp[AV.ok,Dc.ok,hw,rlC,hB1,hN1]
     exact⟨by rw[e1,bC];rfl,by rw[e2];rfl⟩
    ·have e3:fK a N v=⟨oI 0 1,.nil⟩:=by unfold fK;rw[hr,if_neg (λ h9=>hN2 h9.2)]
     rw[e3] at e1
     simp[hr,aF,dv,hN2,wn]
     refine⟨by omega,k+1,by omega,by omega,?_⟩
     refine aI [((38,0),[(38,0)])] ?_ ?_ ?_<;>simp[AV.ok,Dc.ok,hw,rlC,hB1,hN1]
     exact⟨by rw[e1,bC];rfl,by rw[e2];rfl⟩
  ·obtain rfl:k=i:=by omega
   simp[GW,Ds.app_nil]
   exact⟨[],by simp⟩
def mvC(r:Rl)(v:Ts)(far:Int):Dc:=.lit (.int .i64 r.m) (.row none 9 82 (bW r.g) (.row none 5 26 (tDs ty r.i) (.row none 5 26 (tDs ty v) (.lit (.int .i64 far) .nil))))
theorem tk_all(x:Ds):x.tk x.len=x:=by have:=Ds.tk_app x .nil;rwa [Ds.app_nil] at this
theorem tk_ag{l:List Ag}{i:Nat}(h:i<=l.length):(bW l).tk (i*9)=bW (l.take i):=by
 have h2:(bW (l.take i)).len=i*9:=by rw[aT,List.length_take];congr 1;omega
 conv=>lhs;rw[<-List.take_append_drop i l,lX,<-h2]
 exact Ds.tk_app _ _
theorem sW(t:Ts):∀k,(t.drop k).len=t.len-k:=by
 induction t with
 | nil=>intro k;cases k<;>simp[Ts.drop,Ts.len]
 | cons h x r _ ih =>
  intro k
  cases k with
  | zero=>rfl
  | succ k=>simp[Ts.drop,Ts.len,ih k]
def GX(r:Rl)(v:Ts)(far:Int)(i k:Nat):St:=bP [(1,iA i),(2,.bx 3 0),(4,.c (.blk 39 (k+1) 5 26 (.seg none (tDs ty (byT (r.g.take k) 0 v)) .nil) .nil)),(5,tsA none (v.drop (aQ (r.g.take k)))),(15,dH (r.g.take i)),(16,iA i),(17,iA k)] [(3,150,mvC r v far)] [(39,k+1)]
theorem k193(r:Rl)(v:Ts)(far:Int)(i:Nat)(hi:i<=r.g.length)(hl:r.g.length<=100000000)(hv:v.len<=100000000):HH 193 [.agg (mvC r v far),iA i] (tsA none (byT (r.g.take i) 0 v)):=by
 refine ab Tryz.func193 Tryz.ntmps193 Tryz.results193 rfl (by decide) (by simp[mvC]) rfl rfl ?_
 have d0:i*9 / 9=i:=by omega
 have dl:(r.g.take i).length=i:=by rw[List.length_take];omega
 simp[mvC,tk_ag hi,aT,dl,d0]
 refine⟨by omega,?_⟩
 refine lp (α:={ k:Nat // k<=i }) (λ k=>GX r v far i k.1) (λ k=>i-k.1) ⟨0,Nat.zero_le _⟩ ?_ ?_
 ·refine aI [((39,0),[(39,0)])] ?_ ?_ ?_<;>simp[AV.ok,Dc.ok,mvC,dH,byT,aQ,Ts.drop]
 ·rintro⟨k,hk⟩
  have hw:IntKind.i64.wrap ((k:Int)+1)=k+1:=by rw[IntKind.wrap_i64];omega
  by_cases hlt:k<i
  ·have hkl:k<r.g.length:=by omega
   have h1:=kJ (l:=r.g.take i) (k:=k) (by omega)
   have h0:(r.g.take i)[k]'(by omega)=r.g[k]:=List.getElem_take
   rw[h0] at h1
   have hpl:=oW (r.g.take k)
   rw[List.length_take] at hpl
   have e1:byT (r.g.take (k+1)) 0 v=(byT (r.g.take k) 0 v).app (.cons (fK r.g[k] (aQ (r.g.take k)) v).h (fK r.g[k] (aQ (r.g.take k)) v).x .nil):=by
    rw[iK hkl,H8,Nat.zero_add];rfl
   have e2:aQ (r.g.take (k+1))=aQ (r.g.take k)+aQ [r.g[k]]:=by rw[iK hkl,gD]
   have hbl:=H6 v (r.g.take k) 0
   rw[List.length_take] at hbl
   have hdl:=sW v (aQ (r.g.take k))
   generalize hq:(r.g.take i).drop (k+1)=q at h1
   clear h0 hq
   generalize hB1:byT (r.g.take (k+1)) 0 v=B1 at *
   generalize hN1:aQ (r.g.take (k+1))=N1 at *
   generalize hB:byT (r.g.take k) 0 v=B at *
   generalize hN:aQ (r.g.take k)=N at *
   generalize r.g[k]=a at *
   have dd:(v.drop N).len*5 / 5=(v.drop N).len:=by omega
   simp[GX,hB,hN,hlt,dH,aT,dl,d0,h1,bW]
   refine⟨by omega,?_⟩
   refine aE (g58 0 1) ?_ ?_ ?_
   ·simp
   ·simp
   cases hr:a.r with
   | true =>
    have e3:fK a N v=⟨oI 0 1,.nil⟩:=by unfold fK;rw[hr];rfl
    have e4:aQ [a]=0:=by simp[aQ,hr]
    rw[e3] at e1
    rw[e4,Nat.add_zero] at e2
    simp[hr,dH]
    refine⟨by rw[aF];omega,k+1,by omega,by omega,?_⟩
    refine aI [((39,0),[(39,0)])] ?_ ?_ ?_<;>simp[AV.ok,Dc.ok,hw,mvC,dH,hB1,hN1]
    exact⟨by rw[e1,bC];rfl,by rw[e2]⟩
   | false =>
    have e4:aQ [a]=1:=by simp[aQ,hr]
    rw[e4] at e2
    by_cases hN2:N<v.len
    ·have e3:fK a N v=v.tm N:=by unfold fK;rw[hr,if_pos ⟨rfl,hN2⟩]
     have h5:=Ts.drop_step hN2
     have h6:=sW v (N+1)
     rw[e3] at e1
     unfold Ts.tm at e1
     rw[<-e2] at h5 h6
     generalize v.hd N=uh at *
     generalize v.kd N=ux at *
     generalize hV:v.drop N1=V at *
     have h7:(tDs ty V).tk (V.len*5)=tDs ty V:=by have:=tk_all (tDs ty V);rwa [aF] at this
     rw[h5] at dd
     have h9:(0:Int)<((V.len:Int)*5+1+1+1+1+1) / 5:=by omega
     have h10:(V.len*5+1+1+1+1+1) / 5=V.len+1:=by omega
     simp[hr,aF,h5,Ts.len,h7,dH,h9,h10]
     refine⟨by kernel_rfl,by omega,by omega,k+1,by omega,by omega,?_⟩
     refine aI [((39,0),[(39,0)])] ?_ ?_ ?_<;>simp[AV.ok,Dc.ok,hw,mvC,dH,hB1,hN1,hV]
     rw[e1,bC];rfl
    ·have e3:fK a N v=⟨oI 0 1,.nil⟩:=by unfold fK;rw[hr,if_neg (λ h9=>hN2 h9.2)]
     have h8:(v.drop N).len=0:=by omega
     have h6:(v.drop N1).len=0:=by have:=sW v N1;omega
     have z1:v.drop N=.nil:=by cases hz:v.drop N with
      | nil=>rfl
      | cons _ _ _=>rw[hz] at h8;simp[Ts.len] at h8
     have z2:v.drop N1=.nil:=by cases hz:v.drop N1 with
      | nil=>rfl
      | cons _ _ _=>rw[hz] at h6;simp[Ts.len] at h6
     rw[e3] at e1
     simp[hr,z1,dH]
     refine⟨by rw[aF];omega,k+1,by omega,by omega,?_⟩
     refine aI [((39,0),[(39,0)])] ?_ ?_ ?_<;>simp[AV.ok,Dc.ok,hw,mvC,dH,hB1,hN1,z2]
     rw[e1,bC];rfl
  ·obtain rfl:k=i:=by omega
   simp[GX,Ds.app_nil]
   exact⟨[],by simp⟩
def lvA(s:Lv):AV:=.agg (.row none 2 77 (bR s) .nil)
def psA(l:Lv):AV:=.c (.row none 2 77 (bR l) .nil)
def iB(v:Int):Lv:=[(v,0)]
def GR(v:Int)(k:Nat):St:=bP [(1,.bx 2 0),(3,iA k)] [(2,43,.row none 2 77 (bR (iB v)) .nil)] []
theorem k238(v:Int)(h1:0<v)(h2:v<=1048576):HH 238 [lvA (iB v)] (.v (.bool false)):=by
 have g1:¬v<0:=by omega
 have g2:¬1048576<v:=by omega
 refine ab Tryz.func238 Tryz.ntmps238 Tryz.results238 rfl (by decide) (by simp) rfl rfl ?_
 simp[lvA,iB,bR]
 refine lp (α:={ k:Nat // k<=1 }) (λ k=>GR v k.1) (λ k=>1-k.1) ⟨0,by decide⟩ ?_ ?_
 ·refine aI [] ?_ ?_ ?_<;>simp[AV.ok,Dc.ok,iB,bR]
 ·rintro⟨k,hk⟩
  by_cases h0:k=0
  ·subst h0
   have w4:IntKind.i64.wrap 1=1:=by decide
   simp[GR,iB,bR,g1,g2,w4]
   refine⟨1,rfl,Nat.le_refl _,?_⟩
   refine aI [] ?_ ?_ ?_<;>simp[AV.ok,Dc.ok,iB,bR]
  ·obtain rfl:k=1:=by omega
   simp[GR,iB,bR]
   exact⟨[],by simp⟩
def st239(v:Int):St:=bP [(0,psA []),(3,.bx 4 0),(5,.v (.slice none 0 0)),(6,iA 0)] [(4,77,.lit (.int .i64 v) (.lit (.int .i64 0) .nil))] []
theorem k239(v:Int):HH 239 [psA [],.agg (.lit (.int .i64 v) (.lit (.int .i64 0) .nil))] (psA (iB v)):=by
 refine ab Tryz.func239 Tryz.ntmps239 Tryz.results239 rfl (by decide) (by simp) rfl rfl ?_
 simp[psA,bR]
 refine lp (α:=Unit) (λ _=>st239 v) (λ _=>0) () ?_ ?_
 ·refine aI [] ?_ ?_ ?_<;>simp[AV.ok,Dc.ok,psA,bR]
 ·rintro⟨⟩
  simp[st239,psA,bR]
  refine⟨by kernel_rfl,?_⟩
  exact⟨by kernel_rfl,by simp[Ds.tk],by simp[iB,bR,Ds.tk,Ds.app],[],by simp⟩
def GS(v:Int)(k:Nat):St:=bP [(1,.bx 2 0),(2,.bx 3 0),(3,psA (if k=0 then [] else iB v)),(4,iA k)] [(2,43,.row none 2 77 (bR (iB v)) .nil),(3,43,.nilr 2 77 .nil)] []
theorem k235(v:Int)(h1:0<v)(h2:v<=1048576):HH 235 [lvA (iB v)] (lvA (iB v)):=by
 have g1:v≠0:=by omega
 refine ab Tryz.func235 Tryz.ntmps235 Tryz.results235 rfl (by decide) (by simp) rfl rfl ?_
 simp[lvA]
 refine aE (k238 v h1 h2) ?_ ?_ ?_<;>simp[lvA]
 refine lp (α:={ k:Nat // k<=1 }) (λ k=>GS v k.1) (λ k=>1-k.1) ⟨0,by decide⟩ ?_ ?_
 ·refine aI [] ?_ ?_ ?_<;>simp[AV.ok,Dc.ok,psA,bR]
 ·rintro⟨k,hk⟩
  by_cases h0:k=0
  ·subst h0
   have w4:IntKind.i64.wrap 1=1:=by decide
   simp[GS,psA,iB,bR,w4]
   refine aE (k239 v) ?_ ?_ ?_<;>simp[psA,iB,bR,w4]
   refine⟨1,rfl,Nat.le_refl _,?_⟩
   refine aI [] ?_ ?_ ?_<;>simp[AV.ok,Dc.ok,iB,bR,psA]
  ·obtain rfl:k=1:=by omega
   simp[GS,psA,iB,bR,g1]
   exact⟨[],by simp⟩
theorem k223(v:Int)(h1:0<v)(h2:v<=1048576):HH 223 [iA v] (lvA (iB v)):=by
 refine ab Tryz.func223 Tryz.ntmps223 Tryz.results223 rfl (by decide) (by simp) rfl rfl ?_
 simp
 refine aE (k235 v h1 h2) ?_ ?_ ?_<;>simp[lvA,iB,bR]
 exact⟨[],by simp⟩
theorem LV{F:Mem}{w:World}{p:Lv}{v:Value}(hF:∀b o v,F b o=some v->U w b o=some v)(h:RepV (bE F w) (psA p) [v]):RP w v p:=by
 obtain⟨-,v1,_,e,h1,-⟩:=h
 cases e
 exact h1.mono (λ b o v _ hv=>hF b o v hv) (Nat.le_refl _)
theorem AA{F:Mem}{w:World}{p:Lv}{v:Value}(hF:∀b o v,F b o=some v->U w b o=some v)(h:RepV (bE F w) (lvA p) [v]):∃q c,v=.agg #[.slice q p.length c]/\RP w (.slice q p.length c) p:=by
 obtain⟨ys,e,-,v1,_,rfl,h1,-,rfl⟩:=h
 cases e
 have h2:RP w v1 p:=h1.mono (λ b o v _ hv=>hF b o v hv) (Nat.le_refl _)
 obtain⟨q,c,rfl,-⟩:=h2.slice
 exact⟨q,c,rfl,h2⟩
def vX(p:Lv):AV:=.c (.seg none (.row 2 77 (bR p) (bR (cZ 1 12)) .nil) .nil)
def oY(p:Lv):AV:=.agg (.seg none (.row 2 77 (bR p) (bR (cZ 1 12)) .nil) .nil)
theorem AB{F:Mem}{w:World}{p:Lv}{v:Value}(hF:∀b o v,F b o=some v->U w b o=some v)(h:RepV (bE F w) (vX p) [v]):Rd (U w) w.heap.size v 2 (bR p) (bR (cZ 1 12)):=by
 obtain⟨-,ys,zs,e,⟨v1,_,rfl,h1,rfl⟩,-,rfl⟩:=h
 cases e
 exact h1.mono (λ b o v _ hv=>hF b o v hv) (Nat.le_refl _)
def lM(p:Lv):Int:=min (1+(p.length:Int)) (500+1)
theorem k70(p:Lv)(hp:p.length<=200000000):HH 70 [lvA p,iA 500] (iA (lM p)):=by
 refine⟨bO Tryz.func70 (by decide) rfl,rfl,λ F w vs hF hG hv=>?_⟩
 obtain⟨u,v,rfl,h1,h2⟩:=lN hv
 rw[lQ h2]
 obtain⟨q,c,rfl,h3⟩:=AA hF h1
 refine (tN q p.length c 500 w hp (by decide) (by decide)).mono ?_
 rintro e w' ⟨rfl,h5⟩
 exact⟨_,λ _=>[],rfl,h5,rfl,λ k b hb=>(by cases hb),λ k k' b hb=>(by cases hb)⟩
theorem k155(p:Lv)(hp:p.length<=200000000):HH 155 [psA p] (vX p):=by
 refine⟨bO Tryz.func155 (by decide) rfl,rfl,λ F w vs hF hG hv=>?_⟩
 obtain⟨u,rfl,h1⟩:=kD hv
 refine (pR p u w (LV hF h1) hp).mono ?_
 rintro e w' ⟨v,S,rfl,h5,h6,h7⟩
 exact⟨v,λ _=>[],rfl,h5,⟨⟨fU p,fU _,trivial⟩,[v],[],rfl,Vs.res (F:=F) (fp:=λ _=>[]) (Nat.le_refl _) h6,Gh.Ow_none,rfl⟩,λ k b hb=>(by cases hb),λ k k' b hb=>(by cases hb)⟩
theorem k75(p:Lv)(hp:p.length<=200000000):HH 75 [lvA p] (oY p):=by
 refine ab Tryz.func75 Tryz.ntmps75 Tryz.results75 rfl (by decide) (by simp) rfl rfl ?_
 simp[lvA]
 refine aE (k155 p hp) ?_ ?_ ?_<;>simp[psA,vX,oY]
 exact⟨Ds.app_nil _,[],by simp⟩
theorem k183(p:Lv)(hp:p.length<=200000000):HH 183 [vX p,psA p] (.v (.bool true)):=by
 refine⟨bO Tryz.func183 (by decide) rfl,rfl,λ F w vs hF hG hv=>?_⟩
 obtain⟨u,v,rfl,h1,h2⟩:=lN hv
 refine (pT p u v w (AB hF h1) (LV hF h2) hp).mono ?_
 rintro e w' ⟨rfl,h5⟩
 exact⟨_,λ _=>[],rfl,h5,rfl,λ k b hb=>(by cases hb),λ k k' b hb=>(by cases hb)⟩
theorem k127(p:Lv):HH 127 [lvA p,lvA p] (.v (.bool true)):=by
 refine⟨bO Tryz.func127 (by decide) rfl,rfl,λ F w vs hF hG hv=>?_⟩
 obtain⟨u,v,rfl,h1,h2⟩:=lN hv
 obtain⟨q,c,rfl,h3⟩:=AA hF h1
 obtain⟨q',c',rfl,h4⟩:=AA hF h2
 refine (fZ p q q' _ _ c c' w h3 h4).mono ?_
 rintro e w' ⟨rfl,h5⟩
 exact⟨_,λ _=>[],rfl,h5,rfl,λ k b hb=>(by cases hb),λ k k' b hb=>(by cases hb)⟩
theorem k104(p:Lv)(hp:p.length<=200000000):HH 104 [oY p,lvA p] (.v (.bool true)):=by
 refine ab Tryz.func104 Tryz.ntmps104 Tryz.results104 rfl (by decide) (by simp) rfl rfl ?_
 simp[lvA,oY]
 refine aE (k127 p) ?_ ?_ ?_<;>simp[lvA]
 ·exact .inr (by simp[Ds.app,Ds.strip,mK])
 refine aE (k183 p hp) ?_ ?_ ?_<;>simp[psA,vX]
 exact⟨[],by simp⟩
theorem JF(t:Tm)(hf:t.fits)(hs:t.size<=100000000):HH 167 [tmL t] (tmO t):=by
 refine ab Tryz.func167 Tryz.ntmps167 Tryz.results167 rfl (by decide) (by simp) rfl rfl ?_
 simp
 refine aE (h60' t hf hs) ?_ ?_ ?_<;>simp
 exact⟨[((0,0),[(5,0)]),((0,1),[(5,1)])],by simp⟩
def stOw(t a:Ts):St:=bP [(2,.c (.blk 16 (a.len+1) 5 26 (.seg (some (100,0)) (tDs ty a) .nil) .nil)),(5,tsA none t),(6,iA t.len),(7,iA a.len)] [] [(16,a.len+1),(100,0)]
theorem o_owns(t:Ts)(hf:t.fits)(hs:t.size<=100000000):HH 233 [tsA none t] (tsA (some (0,0)) t):=by
 have hl:t.len<=100000000:=Nat.le_trans (len_le_size t) hs
 have d0:t.len*5 / 5=t.len:=by omega
 refine ab Tryz.func233 Tryz.ntmps233 Tryz.results233 rfl (by decide) (by simp) rfl rfl ?_
 simp[aF,d0]
 refine lp (α:={ q:Ts×Ts // q.1.app q.2=t }) (λ q=>stOw t q.1.1) (λ q=>q.1.2.len) ⟨(.nil,t),rfl⟩ ?_ ?_
 ·refine aI [((16,0),[(16,0)])] ?_ ?_ ?_<;>simp[AV.ok,Dc.ok,Ts.len]
 ·rintro⟨⟨a,q⟩,hq⟩
  simp only at hq
  cases q with
  | nil =>
   have e:a=t:=by rw[<-hq];exact (Ts.app_nil a).symm
   subst e
   simp[stOw,Ds.app_nil]
   exact⟨[((0,0),[(16,0),(100,0)])],by simp⟩
  | cons h y r =>
   have h1:a.len<t.len:=by rw[<-hq];simp[Ts.app_len,Ts.len]
   have h2:(tDs ty t).dp (a.len*5)=tDs ty (.cons h y r):=by rw[<-hq];exact fA a _
   have h3:h.fits/\y.fits:=dR (a:=a) (by rw[hq];exact hf)
   have h4:aH h.l+y.size+1<=t.size:=by rw[<-hq];exact app_size
   have hw:IntKind.i64.wrap ((a.len:Int)+1)=a.len+1:=by rw[IntKind.wrap_i64];omega
   simp[stOw,aF,d0,h1,h2]
   refine⟨by omega,?_⟩
   refine aE (JF ⟨h,y⟩ h3 (by show aH h.l+y.size<=100000000;omega)) ?_ ?_ ?_<;>simp
   refine⟨by rw[aF];omega,a.app (.cons h y .nil),r,by simp[Ts.len],by rw[Ts.app_assoc];exact hq,?_⟩
   refine aI [((16,0),[(16,0)]),((100,0),[(100,0),(14,0),(14,1)])] ?_ ?_ ?_<;>simp[Ts.len,Ts.app_len,AV.ok,Dc.ok,hw]
   exact (bC ty a (.cons h y .nil)).symm
theorem o_of(t:Ts)(hf:t.fits)(hs:t.size<=100000000):HH 217 [tsA none t] (.agg (.row (some (0,0)) 5 26 (tDs ty t) .nil)):=by
 refine ab Tryz.func217 Tryz.ntmps217 Tryz.results217 rfl (by decide) (by simp) rfl rfl ?_
 simp
 refine aE (o_owns t hf hs) ?_ ?_ ?_<;>simp
 exact⟨[((0,0),[(5,0)])],by simp⟩
end
section
open Go.RowKit
def cM:Nat->Tm->Tm
 | 0,t=>t
 | n+1,t=>cM n (t.x.tm 1)
def fG(g:List Ag)(v:Ts)(far:Int)(i:Nat)(row:Ts)(t:Tm):Tm:=cM row.len (bT (byT (g.take i) 0 v) 0 ((aK 5 row t).lift far i))
def lT:Nat->Tm->Prop
 | 0,_=>True
 | n+1,t=>t.h.k=5/\t.x.len=2/\lT n (t.x.tm 1)
theorem fT:∀(row:Ts) (t:Tm),lT row.len (aK 5 row t)
 | .nil,_=>trivial
 | .cons _ _ r,t=>⟨rfl,rfl,fT r t⟩
theorem jU(n f:Int):∀(m:Nat) (t:Tm) (d:Nat),lT m t->lT m ⟨t.h.lift n f d,t.x.lift n f t.h.k 0 d⟩
 | 0,_,_,_=>trivial
 | m+1,⟨h,x⟩,d,⟨h1,h2,h3⟩=>by
  have e1:h.lift n f d=h:=by
   unfold Hd.lift
   rw[if_neg (λ h9=>by rw[show h.k=5 from h1] at h9;exact absurd h9.1 (by decide))]
  match x,h2,h3 with
  | .cons a p (.cons b q .nil),_,h3 =>
   refine⟨by rw[e1];exact h1,rfl,?_⟩
   exact jU n f m ⟨b,q⟩ _ h3
theorem rK(y:Ts):∀(m:Nat) (t:Tm) (d:Nat),lT m t->lT m (bT y d t)
 | 0,_,_,_=>trivial
 | m+1,⟨h,x⟩,d,⟨h1,h2,h3⟩=>by
  have h5:h.k=5:=h1
  have e1:bT y d ⟨h,x⟩=⟨h,eR y h.k 0 d x⟩:=by
   simp only[bT,cA]
   rw[if_neg (λ h9=>by rw[h5] at h9;exact absurd h9.1 (by decide))]
  rw[e1]
  match x,h2,h3 with
  | .cons a p (.cons b q .nil),_,h3 =>
   refine⟨h1,by rw[lJ];rfl,?_⟩
   have:=rK y m ⟨b,q⟩ (aU h.k 1 d) h3
   simpa[fD,Ts.tm,Ts.hd,Ts.kd] using this
end
section
open Go.RowKit Go.Maps
theorem Q8(p:Addr)(w:World) :
  CallsD Tryz.prog 243 #[.pointer (some p)] .returning w λ e u' w'=>e=.returned (.tuple #[])/\u'=.returning/\w'=w:=by
 refine callsD_of_wpS Tryz.func243 rfl λ c₀ cs hu=>?_
 apply wpS_seq
 apply wpS_region
 simp[wpOpsS,go_sem,recoverD,hu,Tryz.ntmps243,Exit.thenS]
 refine wpS_of_wp (wp_mono (Q:=λ e a w'=>e=.normal/\a.defers=[]/\w'=w) ?_ ?_)
 ·clear hu
  rw[show #[Value.pointer (some p)]++((Array.replicate 15 undef).setIfInBounds 3 Value.nilIface).setIfInBounds 0 Value.nilIface=#[Value.pointer (some p),Value.nilIface,undef,undef,Value.nilIface,undef,undef,undef,undef,undef,undef,undef,undef,undef,undef,undef] from rfl]
  go_wp2
 ·rintro e a w' ⟨rfl,hd,rfl⟩
  cases c₀
  simp_all [bodyPostS,results,Tryz.results243]
theorem JM(v:Int)(h1:0<v)(h2:v<=1048576)(lb lo lc gb o gc rb:Nat)(w:World)(hlb:lb<w.heap.size)(hgb:gb<w.heap.size)(hrb:rb<w.heap.size)(hr:w.cell? ⟨rb,0,none⟩=some (.slice (some ⟨lb,lo,none⟩) 1 lc))(hl:w.cell? ⟨lb,lo,none⟩=some (.slice (some ⟨gb,o,none⟩) 1 gc))
  (hc0:w.cell? ⟨gb,o,none⟩=some (.int .i64 v)) (hc1:w.cell? ⟨gb,o+1,none⟩=some (.int .i64 0)) :
  Calls Tryz.prog 240 #[.func (.func 241) #[] #[.pointer (some ⟨rb,0,none⟩)]] w λ e w'=>∃u B,e=.returned (.agg #[u])/\w.heap.size<B/\RowG w' B 2 77 u 1 (bR [(v,0)]) []/\Below w.heap.size w w':=by
 have hmf:∀(fn:Fn) (first cap:Array Value) (w:World),(Instr.makeFunc fn first cap).run Tryz.prog w=.ok (.func fn first cap) w:=λ _ _ _ _=>rfl
 have hmm:=@run_makeMap Tryz.prog
 have hcf:∀(u:Value) w,(callFunc 241 #[u,.pointer (some ⟨rb,0,none⟩)]).run Tryz.prog w=.ok (.enter 241 #[u,.pointer (some ⟨rb,0,none⟩)]) w:=λ u w=>by simp[callFunc,Tryz.func241];rfl
 obtain⟨w3,hw3⟩:∃w3,(((w.alloc (.cells #[.slice none 0 0] 43)).alloc (.map #[] 0)).alloc (.cells #[.map (some (w.heap.size+1))] 276))=w3:=⟨_,rfl⟩
 have hb3:Below w.heap.size w w3:=by rw[<-hw3];exact aA (aA (aB _ _) (aB _ _)) (aB _ _)
 have hs3:w3.heap.size=w.heap.size+3:=by rw[<-hw3];simp
 have p0:U w3 w.heap.size 0=some (.slice none 0 0):=by
  rw[<-hw3]
  exact aD (aB _ _) _ _ _ (by simp;omega) (aD (aB _ _) _ _ _ (by simp) (aL rfl))
 have p2:U w3 (w.heap.size+1+1) 0=some (.map (some (w.heap.size+1))):=by
  have:=aL (w:=(w.alloc (.cells #[.slice none 0 0] 43)).alloc (.map #[] 0)) (cs:=#[.map (some (w.heap.size+1))]) (ty:=276) (o:=0) rfl
  rw[World.size_alloc,World.size_alloc,hw3] at this
  exact this
 have hm3:lK w3 (w.heap.size+1) 0 (.map []):=by
  have h9:=World.ownsMap_made (w.alloc (.cells #[.slice none 0 0] 43)) Tryz.prog 3 (plainElem (H:=Unit) Tryz.prog 3)
  rw[World.size_alloc] at h9
  rw[<-hw3]
  exact h9.alloc _
 have HC:=hid (W6 v h1 h2 (w.heap.size+1) lb lo lc gb o gc w3 hm3 (by omega) (by omega) rb (by omega) ((hb3.cell hrb).trans hr) ((hb3.cell hlb).trans hl) ((hb3.cell hgb).trans hc0) ((hb3.cell hgb).trans hc1))
 have HB:=hid hb3
 have P0:=hid p0
 have P2:=hid p2
 have d0:=aC p0
 have d2:=aC p2
 clear hb3 p0 p2 hm3 hr hl hc0 hc1
 go_enter_defers Tryz.func240,Tryz.ntmps240
 go_wp2_with fail
 refine HC.out.mono ?_
 rintro e w4 ⟨rfl,hm4,hB4,hk4⟩
 have hb4:Below (w.heap.size+1) w3 w4:=hB4 _ (Nat.le_refl _) (by omega)
 have u0:U w4 w.heap.size 0=some (.slice none 0 0):=aD hb4 _ _ _ (Nat.lt_succ_self _) P0.out
 have u2:U w4 (w.heap.size+1+1) 0=some (.map (some (w.heap.size+1))):=(dK (hk4 (w.heap.size+1+1) (by omega) (by omega)) 0).trans P2.out
 have a2:=aC u2
 have hs4:w.heap.size+3<=w4.heap.size:=by have:=hb4.size;omega
 have HL:=hid (DS v h1 h2 (w.heap.size+1) w4 hm4)
 have HB4:=hid (HB.out.trans (hb4.mono (Nat.le_succ _)))
 have U0:=hid u0
 clear hm4 hB4 hk4 hb4 u0 u2 HC d0 d2 hw3
 go_wp2_with fail
 refine HL.out.mono ?_
 rintro e w5 ⟨u,rfl,hrow,hb5⟩
 have v0:=aD hb5 _ _ _ (by omega) U0.out
 have b0:=aC v0
 have f0:=aG v0
 obtain⟨pp,cc,rfl,-,-⟩:=hrow.cap
 have HR:=hid hrow
 have HB5:=hid (HB4.out.trans (hb5.mono HB4.out.size))
 have c0:=aC (cS (v:=.slice pp 1 cc) v0)
 clear hrow hb5 v0 HL
 go_wp2
 refine leaves_cons (f:=243) (args:=#[.pointer (some ⟨w.heap.size,0,none⟩)]) (by simp) (by simp[go_sem]) ?_
 refine (Q8 _ _).mono ?_
 rintro e u' w'' ⟨rfl,rfl,rfl⟩
 simp[Leaves,settle,results,Tryz.results240,go_sem,c0]
 exact⟨w4.heap.size+2,by omega,HR.out.setCell (p:=⟨w.heap.size,0,none⟩) (by show w.heap.size<w4.heap.size+2;omega) _,HB5.out.setCell (p:=⟨w.heap.size,0,none⟩) (Nat.le_refl _) _⟩
theorem ofL_any(v:Int)(h1:0<v)(h2:v<=1048576)(lb lo lc gb o gc:Nat)(w:World)(hlb:lb<w.heap.size)(hgb:gb<w.heap.size)(hl:w.cell? ⟨lb,lo,none⟩=some (.slice (some ⟨gb,o,none⟩) 1 gc))
  (hc0:w.cell? ⟨gb,o,none⟩=some (.int .i64 v)) (hc1:w.cell? ⟨gb,o+1,none⟩=some (.int .i64 0)) :
  Calls Tryz.prog 237 #[.slice (some ⟨lb,lo,none⟩) 1 lc] w λ e w'=>∃u B,e=.returned (.agg #[u])/\w.heap.size<=B/\RowG w' B 2 77 u 1 (bR [(v,0)]) []/\Below w.heap.size w w':=by
 have hmf:∀(fn:Fn) (first cap:Array Value) (w:World),(Instr.makeFunc fn first cap).run Tryz.prog w=.ok (.func fn first cap) w:=λ _ _ _ _=>rfl
 obtain⟨w2,hw2⟩:∃w2,(w.alloc (.cells #[.slice (some ⟨lb,lo,none⟩) 1 lc] 24)).alloc (.cells #[.slice none 0 0] 43)=w2:=⟨_,rfl⟩
 have hb2:Below w.heap.size w w2:=by rw[<-hw2];exact aA (aB _ _) (aB _ _)
 have hs2:w2.heap.size=w.heap.size+2:=by rw[<-hw2];simp
 have p0:U w2 w.heap.size 0=some (.slice (some ⟨lb,lo,none⟩) 1 lc):=by
  rw[<-hw2]
  exact aD (aB _ _) _ _ _ (by simp) (aL rfl)
 have p1:U w2 (w.heap.size+1) 0=some (.slice none 0 0):=by
  have:=aL (w:=w.alloc (.cells #[.slice (some ⟨lb,lo,none⟩) 1 lc] 24)) (cs:=#[.slice none 0 0]) (ty:=43) (o:=0) rfl
  rw[World.size_alloc,hw2] at this
  exact this
 have HC:=hid (JM v h1 h2 lb lo lc gb o gc w.heap.size w2 (by omega) (by omega) (by omega) (aC p0) ((hb2.cell hlb).trans hl) ((hb2.cell hgb).trans hc0) ((hb2.cell hgb).trans hc1))
 have HB:=hid hb2
 have P1:=hid p1
 clear hb2 p0 p1 hl hc0 hc1
 go_enter Tryz.func237,Tryz.ntmps237
 go_wp2_with fail
 refine HC.out.mono ?_
 rintro e w5 ⟨u,B,rfl,hB,hrow,hb5⟩
 have v0:=aD hb5 _ _ _ (by omega) P1.out
 have b0:=aC v0
 have f0:=aG v0
 obtain⟨pp,cc,rfl,-,-⟩:=hrow.cap
 have HR:=hid hrow
 have HB5:=hid (HB.out.trans (hb5.mono HB.out.size))
 have c0:=aC (cS (v:=.slice pp 1 cc) v0)
 clear hrow hb5 v0 HC
 go_wp2_with fail
 refine bodyPost_ret (v:=.agg #[.slice pp 1 cc]) (by simp[results,Tryz.results237,go_sem,c0]) rfl ⟨_,B,rfl,by omega,HR.out.setCell (p:=⟨w.heap.size+1,0,none⟩) (by show w.heap.size+1<B;omega) _,HB5.out.setCell (p:=⟨w.heap.size+1,0,none⟩) (Nat.le_succ _) _⟩
theorem IV{F:Mem}{hi sz:Nat}{u:Value}{x:Ds}(h:Rd F hi u sz x .nil)(hx:x.len=sz)(hsz:0<sz):∃b o c,u=.slice (some ⟨b,o,none⟩) 1 c/\b<hi/\At F hi x b o:=by
 obtain⟨p,n,c,rfl,h1,h2,-,h4,h5⟩:=h
 have hn:n=1:=by
  rw[hx] at h1
  exact Nat.eq_of_mul_eq_mul_right hsz (by omega)
 subst hn
 rcases h5 with ⟨-,rfl⟩|⟨h6,-⟩|⟨b,o,rfl,h7,h8,-⟩
 ·omega
 ·cases h6
 ·exact⟨b,o,c,rfl,h7,h8⟩
theorem k237(v:Int)(h1:0<v)(h2:v<=1048576):HH 237 [.c (.row none 1 43 (bN ty [iB v]) .nil)] (lvA (iB v)):=by
 refine⟨bO Tryz.func237 (by decide) rfl,rfl,λ F w vs hF hG hv=>?_⟩
 obtain⟨u,rfl,h3⟩:=kD hv
 obtain⟨-,v1,_,e1,h4,-,-⟩:=h3
 cases e1
 obtain⟨lb,lo,lc,rfl,hlb,hat⟩:=IV h4 rfl (by decide)
 obtain⟨⟨v2,g1,g2⟩,-⟩:=At_row.1 hat
 obtain⟨gb,o,gc,rfl,hgb,hat2⟩:=IV g2 rfl (by decide)
 obtain⟨q1,q2,-⟩:=hat2
 refine (ofL_any v h1 h2 lb lo lc gb o gc w hlb hgb (aC (hF _ _ _ g1)) (aC (hF _ _ _ q1)) (aC (hF _ _ _ q2))).mono ?_
 rintro e w' ⟨u,B,rfl,hB,hrow,hb⟩
 obtain⟨v',_,e2,h8,-⟩:=Vs.res (F:=F) (fp:=λ _=>[]) hB hrow.own
 cases e2
 exact⟨_,λ _=>[],rfl,hb,⟨[u],rfl,fU _,u,[],rfl,h8,Gh.Ow_none,rfl⟩,λ k b hb=>(by cases hb),λ k k' b hb=>(by cases hb)⟩
end
section
open Go.RowKit
attribute [local go_sem] Oper.semAt_some

theorem yE {t : Ts} {va : Value} {W : World} (hf : t.fits) (hs : t.size ≤ 100000000) (hG : KA W) (ha : RT ty W va t) : Calls Tryz.prog 217 #[va] W fun e w' => ∃ v S, e = .returned (.agg #[v]) ∧ Below W.heap.size W w' ∧ Own w' W.heap.size (.row 5 26 (tDs ty t) .nil .nil) [v] S ∧ S.Nodup := by
  obtain ⟨-, -, h⟩ := o_of t hf hs
  refine (h (U W) W [va] (fun _ _ _ h => h) hG (arg1 (ts_arg ha))).mono ?_
  rintro e w' ⟨v, fp, rfl, hb, hr, h1, h2⟩
  obtain ⟨ys, e1, -, v1, _, rfl, h3, h4, rfl⟩ := hr
  cases e1
  obtain ⟨h5, S, h6, h7, -⟩ := h4 (0, 0) rfl
  exact ⟨v1, S, rfl, hb, h6, h7⟩
theorem ts_five {w : World} {base : Nat} {h : Hd} {x : Ts} {xs : List Value} {S : List Nat} (hO : Own w base (tDs ty (.cons h x .nil)) xs S) : ∃ r m d r' m' d', xs = [.int .i64 h.k, .int .i64 h.n, .int .i64 h.a, .slice r m d, .slice r' m' d'] := by
  obtain ⟨_, rfl, _, rfl, _, rfl, v1, ys, zs, us, B, S1, S2, S3, rfl, h1, h2, h3, h4, rfl⟩ := hO
  obtain ⟨p, n, c, rfl⟩ := jR (x := bN ty h.l) (sz := 1) (e := 43) ⟨v1, [], zs, us, B, S1, S2, [], rfl, h1, h2, h3, ⟨rfl, rfl⟩, rfl⟩
  obtain ⟨v2, ys', zs', us', B', T1, T2, T3, rfl, h5, h6, h7, ⟨rfl, rfl⟩, rfl⟩ := h4
  obtain ⟨p', n', c', rfl⟩ := jR (x := tDs ty x) (sz := 5) (e := 26) ⟨v2, [], zs', us', B', T1, T2, [], rfl, h5, h6, h7, ⟨rfl, rfl⟩, rfl⟩
  exact ⟨_, _, _, _, _, _, rfl⟩
theorem xG (kk : Int) {t : Ts} {b : Tm} {w2 w3 w4 : World} {p3 : Option Addr} {n3 c3 : Nat} {S1 S2 : List Nat} {base : Nat} {r : Option Addr} {m d : Nat} {r' : Option Addr} {m' d' : Nat} (hO3 : Own w3 w2.heap.size (.row 5 26 (tDs ty t) .nil .nil) [.slice p3 n3 c3] S1) (hN3 : S1.Nodup) (hB4 : Below w3.heap.size w3 w4)
    (hO4 : Own w4 w3.heap.size (tDs ty (.cons b.h b.x .nil)) [.int .i64 b.h.k, .int .i64 b.h.n, .int .i64 b.h.a, .slice r m d, .slice r' m' d'] S2) (hN4 : S2.Nodup) (hle : base ≤ w2.heap.size) (hsz : w2.heap.size ≤ w3.heap.size) :
    Calls Tryz.prog 218 #[.agg #[.slice p3 n3 c3], .int .i64 kk, .agg #[.int .i64 b.h.k, .int .i64 b.h.n, .int .i64 b.h.a, .slice r m d, .slice r' m' d']] w4 fun e w5 => ∃ r m d r' m' d' S, e = .returned (.agg #[.int .i64 (aK kk t b).h.k, .int .i64 (aK kk t b).h.n, .int .i64 (aK kk t b).h.a, .slice r m d, .slice r' m' d']) ∧ Below w4.heap.size w4 w5 ∧
      Own w5 base (tDs ty (.cons (aK kk t b).h (aK kk t b).x .nil)) [.int .i64 (aK kk t b).h.k, .int .i64 (aK kk t b).h.n, .int .i64 (aK kk t b).h.a, .slice r m d, .slice r' m' d'] S ∧ S.Nodup := by
  have hO3' := hO3.below hB4
  obtain ⟨_, _, e1, h1, -⟩ := hO3'.vs
  cases e1
  refine (zK True base S1 S2 kk (.slice p3 n3 c3) t _ _ _ _ _ b w4 (U w4) (fun _ _ _ h => h) h1 (MakesT.rm hO4) (fun _ => ⟨by have := hB4.size; omega, hO3'.lower hle, hO4.lower (by omega), List.nodup_append.2 ⟨hN3, hN4, fun a ha b hb e => ?_⟩⟩)).mono ?_
  · have := (hO3.mem a ha).2
    have := (hO4.mem b hb).1
    omega
  · rintro e w5 ⟨v, rfl, h2, -, h3⟩
    obtain ⟨xs, S, rfl, h4, h5⟩ := h3 trivial
    obtain ⟨r, m, d, r', m', d', rfl⟩ := ts_five h4
    exact ⟨r, m, d, r', m', d', S, rfl, h2, h4, h5⟩
theorem uA (p : Option Addr) (n c : Nat) (W : World) : (Instr.field 252 (.agg #[.slice p n c]) 0).run Tryz.prog W = .ok (.agg #[.slice p n c]) W := by kernel_rfl
set_option maxRecDepth 100000 in
set_option maxHeartbeats 4000000 in
theorem pis_any (t : Ts) (b : Tm) (va : Value) (p1 p2 : Option Addr) (n1 c1 n2 c2 : Nat) (w : World) (hG : KA w) (ha : RT ty w va t) (hb : RM ty w (.agg #[.int .i64 b.h.k, .int .i64 b.h.n, .int .i64 b.h.a, .slice p1 n1 c1, .slice p2 n2 c2]) b.h b.x)
    (hf : t.fits) (hs : t.size ≤ 100000000) (hbf : b.fits) (hbs : b.size ≤ 100000000) :
    Calls Tryz.prog 165 #[va, .agg #[.int .i64 b.h.k, .int .i64 b.h.n, .int .i64 b.h.a, .slice p1 n1 c1, .slice p2 n2 c2]] w (MakesT (aK 4 t b).h (aK 4 t b).x w) := by
  have HO : ∀ W, Below w.heap.size w W → Calls Tryz.prog 217 #[va] W fun e w' => ∃ v S, e = .returned (.agg #[v]) ∧ Below W.heap.size W w' ∧ Own w' W.heap.size (.row 5 26 (tDs ty t) .nil .nil) [v] S ∧ S.Nodup := fun W hW => yE hf hs (iD _ _ hW hG) (ha.on hW)
  have HB : ∀ W, Below w.heap.size w W → Calls Tryz.prog 167 #[.agg #[.int .i64 b.h.k, .int .i64 b.h.n, .int .i64 b.h.a, .slice p1 n1 c1, .slice p2 n2 c2]] W (MakesT b.h b.x W) := fun W hW => (JF b hbf hbs).made (iD _ _ hW hG) (arg1 (zS (hb.on hW)))
  replace HO := Lib.hid HO
  replace HB := Lib.hid HB
  clear ha hb hf hs hbf hbs hG
  go_enter Tryz.func165, Tryz.ntmps165
  go_wp2_with fail
  obtain ⟨w2, hw2⟩ : ∃ w2, (w.alloc (.cells #[.int .i64 b.h.k, .int .i64 b.h.n, .int .i64 b.h.a, .slice p1 n1 c1, .slice p2 n2 c2] 26)).alloc (.cells bI 26) = w2 := ⟨_, rfl⟩
  have hb2 : Below w.heap.size w w2 := by rw [← hw2]; exact aA (aB _ _) (aB _ _)
  have hs2 : w2.heap.size = w.heap.size + 2 := by rw [← hw2]; simp
  have hx : ∀ o u, (#[.int .i64 b.h.k, .int .i64 b.h.n, .int .i64 b.h.a, .slice p1 n1 c1, .slice p2 n2 c2] : Array Value)[o]? = some u → U w2 w.heap.size o = some u := fun o u hu => by
    rw [← hw2]
    exact aD (aB _ _) _ _ _ (by simp) (aL hu)
  have hz : ∀ o u, bI[o]? = some u → U w2 (w.heap.size + 1) o = some u := fun o u hu => by
    rw [← hw2]
    have := aL (w := w.alloc (.cells #[.int .i64 b.h.k, .int .i64 b.h.n, .int .i64 b.h.a, .slice p1 n1 c1, .slice p2 n2 c2] 26)) (cs := bI) (ty := 26) hu
    simpa using this
  unfold bI at hw2
  rw [hw2]
  have x0 := aC (hx 0 _ rfl)
  have x1 := aC (hx 1 _ rfl)
  have x2 := aC (hx 2 _ rfl)
  have x3 := aC (hx 3 _ rfl)
  have x4 := aC (hx 4 _ rfl)
  have HX : Hid (∀ o u, (#[.int .i64 b.h.k, .int .i64 b.h.n, .int .i64 b.h.a, .slice p1 n1 c1, .slice p2 n2 c2] : Array Value)[o]? = some u → U w2.drew w.heap.size o = some u) := Lib.hid fun o u hu => aD (aR w2) _ _ _ (by omega) (hx o u hu)
  have HZ : Hid (∀ o u, bI[o]? = some u → U w2.drew (w.heap.size + 1) o = some u) := Lib.hid fun o u hu => aD (aR w2) _ _ _ (by omega) (hz o u hu)
  have HB2 := Lib.hid (aA hb2 (aR w2))
  have HS2 : Hid (w2.drew.heap.size = w.heap.size + 2) := Lib.hid (by simpa using hs2)
  clear hx hz hw2 hb2 hs2
  obtain ⟨B, hB⟩ : ∃ B, w.heap.size = B := ⟨_, rfl⟩
  rw [hB]
  rw [hB] at x0 x1 x2 x3 x4
  have HBB := Lib.hid hB
  clear hB
  go_region_with (first
    | (go_at_call 217
       refine (HO.out _ ?_).mono ?_
       · exact HB2.out
       rintro e w3 ⟨v3, S1, rfl, hB3, hO3, hN3⟩
       obtain ⟨p3, n3, c3, rfl⟩ := jR hO3
       have B3 := Lib.hid hB3
       have O3 := Lib.hid hO3
       have N3 := Lib.hid hN3
       have y0 := aC (aD hB3 _ _ _ (by have := HS2.out; omega) (HX.out 0 _ rfl))
       have y1 := aC (aD hB3 _ _ _ (by have := HS2.out; omega) (HX.out 1 _ rfl))
       have y2 := aC (aD hB3 _ _ _ (by have := HS2.out; omega) (HX.out 2 _ rfl))
       have y3 := aC (aD hB3 _ _ _ (by have := HS2.out; omega) (HX.out 3 _ rfl))
       have y4 := aC (aD hB3 _ _ _ (by have := HS2.out; omega) (HX.out 4 _ rfl))
       rw [HBB.out] at y0 y1 y2 y3 y4
       have f3 := uA p3 n3 c3 w3
       clear hB3 hO3 hN3)
    | (go_at_call 167
       refine (HB.out _ ?_).mono ?_
       · exact aA HB2.out B3.out
       rintro e w4 ⟨r, m, d, r', m', d', S2, rfl, hB4, hO4, hN4⟩
       have B4 := Lib.hid hB4
       have O4 := Lib.hid hO4
       have N4 := Lib.hid hN4
       have f4 := uA p3 n3 c3 w4
       clear hB4 hO4 hN4)
    | (go_at_call 218
       refine (xG 4 (base := w2.drew.heap.size) O3.out N3.out B4.out O4.out N4.out (Nat.le_refl _) B3.out.size).mono ?_
       rintro e w5 ⟨r, m, d, r', m', d', S, rfl, hB5, hO5, hN5⟩
       have B5 := Lib.hid hB5
       have O5 := Lib.hid hO5
       have N5 := Lib.hid hN5
       have BW : Hid (Below w2.drew.heap.size w2.drew w5) := Lib.hid (aA (aA B3.out B4.out) hB5)
       have Z : Hid (∀ o u, bI[o]? = some u → U w5 (B + 1) o = some u) := Lib.hid fun o u hu => by
         rw [← HBB.out]
         exact aD BW.out _ _ _ (by have := HS2.out; omega) (HZ.out o u hu)
       have z0 := aC (Z.out 0 _ rfl)
       have z1 := aC (Z.out 1 _ rfl)
       have z2 := aC (Z.out 2 _ rfl)
       have z3 := aC (Z.out 3 _ rfl)
       have z4 := aC (Z.out 4 _ rfl)
       have f0 := aG (Z.out 0 _ rfl)
       have f1 := aG (Z.out 1 _ rfl)
       have f2 := aG (Z.out 2 _ rfl)
       have f3 := aG (Z.out 3 _ rfl)
       have f4 := aG (Z.out 4 _ rfl)
       clear hB5 hO5 hN5))
  all_goals (try go_wp2_with fail)
  all_goals
    obtain ⟨W, hW⟩ : ∃ W, ((((w5.setCell ⟨B + 1, 0, none⟩ (.int .i64 (aK 4 t b).h.k)).setCell ⟨B + 1, 1, none⟩ (.int .i64 (aK 4 t b).h.n)).setCell ⟨B + 1, 2, none⟩ (.int .i64 (aK 4 t b).h.a)).setCell ⟨B + 1, 3, none⟩ (.slice r m d)).setCell ⟨B + 1, 4, none⟩ (.slice r' m' d') = W := ⟨_, rfl⟩
    obtain ⟨⟨q0, q1, q2, q3, q4⟩, hBF, hkW⟩ := pM (w := w) (b := B + 1) Z.out (aA HB2.out BW.out) (by have := HBB.out; omega) hW
    rw [hW]
    refine bodyPost_ret (v := .agg #[.int .i64 (aK 4 t b).h.k, .int .i64 (aK 4 t b).h.n, .int .i64 (aK 4 t b).h.a, .slice r m d, .slice r' m' d']) (by simp [results, Tryz.results165, go_sem, q0, q1, q2, q3, q4]) rfl ?_
    refine ⟨_, _, _, _, _, _, S, rfl, hBF, (O5.out.kept fun x hx => hkW x ?_).lower (by have := HS2.out; omega), N5.out⟩
    have h7 := (O5.out.mem x hx).1
    have h8 := HS2.out
    have h9 := HBB.out
    omega
theorem o_pis (t : Ts) (b : Tm) (hf : t.fits) (hs : t.size ≤ 100000000) (hbf : b.fits) (hbs : b.size ≤ 100000000) : HH 165 [tsA none t, tmL b] (tmO (aK 4 t b)) :=
  kF (bO Tryz.func165 (by decide) rfl) fun F w vs hF hG hv => by
    obtain ⟨u, v, rfl, h1, h2⟩ := lN hv
    have h3 := kZ hF h2
    obtain ⟨p, n, c, p', n', c', rfl, h4, h5⟩ := h3
    exact pis_any t b u p p' n c n' c' w hG (kY hF h1) ⟨_, _, _, _, _, _, rfl, h4, h5⟩ hf hs hbf hbs
set_option maxRecDepth 100000 in
set_option maxHeartbeats 4000000 in
theorem JU (t : Ts) (b : Tm) (va : Value) (p1 p2 : Option Addr) (n1 c1 n2 c2 : Nat) (w : World) (hG : KA w) (ha : RT ty w va t) (hb : RM ty w (.agg #[.int .i64 b.h.k, .int .i64 b.h.n, .int .i64 b.h.a, .slice p1 n1 c1, .slice p2 n2 c2]) b.h b.x)
    (hf : t.fits) (hs : t.size ≤ 100000000) (hbf : b.fits) (hbs : b.size ≤ 100000000) :
    Calls Tryz.prog 162 #[va, .agg #[.int .i64 b.h.k, .int .i64 b.h.n, .int .i64 b.h.a, .slice p1 n1 c1, .slice p2 n2 c2]] w (MakesT (aK 5 t b).h (aK 5 t b).x w) := by
  have HO : ∀ W, Below w.heap.size w W → Calls Tryz.prog 217 #[va] W fun e w' => ∃ v S, e = .returned (.agg #[v]) ∧ Below W.heap.size W w' ∧ Own w' W.heap.size (.row 5 26 (tDs ty t) .nil .nil) [v] S ∧ S.Nodup := fun W hW => yE hf hs (iD _ _ hW hG) (ha.on hW)
  have HB : ∀ W, Below w.heap.size w W → Calls Tryz.prog 167 #[.agg #[.int .i64 b.h.k, .int .i64 b.h.n, .int .i64 b.h.a, .slice p1 n1 c1, .slice p2 n2 c2]] W (MakesT b.h b.x W) := fun W hW => (JF b hbf hbs).made (iD _ _ hW hG) (arg1 (zS (hb.on hW)))
  replace HO := Lib.hid HO
  replace HB := Lib.hid HB
  clear ha hb hf hs hbf hbs hG
  go_enter Tryz.func162, Tryz.ntmps162
  go_wp2_with fail
  obtain ⟨w2, hw2⟩ : ∃ w2, (w.alloc (.cells #[.int .i64 b.h.k, .int .i64 b.h.n, .int .i64 b.h.a, .slice p1 n1 c1, .slice p2 n2 c2] 26)).alloc (.cells bI 26) = w2 := ⟨_, rfl⟩
  have hb2 : Below w.heap.size w w2 := by rw [← hw2]; exact aA (aB _ _) (aB _ _)
  have hs2 : w2.heap.size = w.heap.size + 2 := by rw [← hw2]; simp
  have hx : ∀ o u, (#[.int .i64 b.h.k, .int .i64 b.h.n, .int .i64 b.h.a, .slice p1 n1 c1, .slice p2 n2 c2] : Array Value)[o]? = some u → U w2 w.heap.size o = some u := fun o u hu => by
    rw [← hw2]
    exact aD (aB _ _) _ _ _ (by simp) (aL hu)
  have hz : ∀ o u, bI[o]? = some u → U w2 (w.heap.size + 1) o = some u := fun o u hu => by
    rw [← hw2]
    have := aL (w := w.alloc (.cells #[.int .i64 b.h.k, .int .i64 b.h.n, .int .i64 b.h.a, .slice p1 n1 c1, .slice p2 n2 c2] 26)) (cs := bI) (ty := 26) hu
    simpa using this
  unfold bI at hw2
  rw [hw2]
  have x0 := aC (hx 0 _ rfl)
  have x1 := aC (hx 1 _ rfl)
  have x2 := aC (hx 2 _ rfl)
  have x3 := aC (hx 3 _ rfl)
  have x4 := aC (hx 4 _ rfl)
  have HX : Hid (∀ o u, (#[.int .i64 b.h.k, .int .i64 b.h.n, .int .i64 b.h.a, .slice p1 n1 c1, .slice p2 n2 c2] : Array Value)[o]? = some u → U w2.drew w.heap.size o = some u) := Lib.hid fun o u hu => aD (aR w2) _ _ _ (by omega) (hx o u hu)
  have HZ : Hid (∀ o u, bI[o]? = some u → U w2.drew (w.heap.size + 1) o = some u) := Lib.hid fun o u hu => aD (aR w2) _ _ _ (by omega) (hz o u hu)
  have HB2 := Lib.hid (aA hb2 (aR w2))
  have HS2 : Hid (w2.drew.heap.size = w.heap.size + 2) := Lib.hid (by simpa using hs2)
  clear hx hz hw2 hb2 hs2
  obtain ⟨B, hB⟩ : ∃ B, w.heap.size = B := ⟨_, rfl⟩
  rw [hB]
  rw [hB] at x0 x1 x2 x3 x4
  have HBB := Lib.hid hB
  clear hB
  go_region_with (first
    | (go_at_call 217
       refine (HO.out _ ?_).mono ?_
       · exact HB2.out
       rintro e w3 ⟨v3, S1, rfl, hB3, hO3, hN3⟩
       obtain ⟨p3, n3, c3, rfl⟩ := jR hO3
       have B3 := Lib.hid hB3
       have O3 := Lib.hid hO3
       have N3 := Lib.hid hN3
       have y0 := aC (aD hB3 _ _ _ (by have := HS2.out; omega) (HX.out 0 _ rfl))
       have y1 := aC (aD hB3 _ _ _ (by have := HS2.out; omega) (HX.out 1 _ rfl))
       have y2 := aC (aD hB3 _ _ _ (by have := HS2.out; omega) (HX.out 2 _ rfl))
       have y3 := aC (aD hB3 _ _ _ (by have := HS2.out; omega) (HX.out 3 _ rfl))
       have y4 := aC (aD hB3 _ _ _ (by have := HS2.out; omega) (HX.out 4 _ rfl))
       rw [HBB.out] at y0 y1 y2 y3 y4
       have f3 := uA p3 n3 c3 w3
       clear hB3 hO3 hN3)
    | (go_at_call 167
       refine (HB.out _ ?_).mono ?_
       · exact aA HB2.out B3.out
       rintro e w4 ⟨r, m, d, r', m', d', S2, rfl, hB4, hO4, hN4⟩
       have B4 := Lib.hid hB4
       have O4 := Lib.hid hO4
       have N4 := Lib.hid hN4
       have f4 := uA p3 n3 c3 w4
       clear hB4 hO4 hN4)
    | (go_at_call 218
       refine (xG 5 (base := w2.drew.heap.size) O3.out N3.out B4.out O4.out N4.out (Nat.le_refl _) B3.out.size).mono ?_
       rintro e w5 ⟨r, m, d, r', m', d', S, rfl, hB5, hO5, hN5⟩
       have B5 := Lib.hid hB5
       have O5 := Lib.hid hO5
       have N5 := Lib.hid hN5
       have BW : Hid (Below w2.drew.heap.size w2.drew w5) := Lib.hid (aA (aA B3.out B4.out) hB5)
       have Z : Hid (∀ o u, bI[o]? = some u → U w5 (B + 1) o = some u) := Lib.hid fun o u hu => by
         rw [← HBB.out]
         exact aD BW.out _ _ _ (by have := HS2.out; omega) (HZ.out o u hu)
       have z0 := aC (Z.out 0 _ rfl)
       have z1 := aC (Z.out 1 _ rfl)
       have z2 := aC (Z.out 2 _ rfl)
       have z3 := aC (Z.out 3 _ rfl)
       have z4 := aC (Z.out 4 _ rfl)
       have f0 := aG (Z.out 0 _ rfl)
       have f1 := aG (Z.out 1 _ rfl)
       have f2 := aG (Z.out 2 _ rfl)
       have f3 := aG (Z.out 3 _ rfl)
       have f4 := aG (Z.out 4 _ rfl)
       clear hB5 hO5 hN5))
  all_goals (try go_wp2_with fail)
  all_goals
    obtain ⟨W, hW⟩ : ∃ W, ((((w5.setCell ⟨B + 1, 0, none⟩ (.int .i64 (aK 5 t b).h.k)).setCell ⟨B + 1, 1, none⟩ (.int .i64 (aK 5 t b).h.n)).setCell ⟨B + 1, 2, none⟩ (.int .i64 (aK 5 t b).h.a)).setCell ⟨B + 1, 3, none⟩ (.slice r m d)).setCell ⟨B + 1, 4, none⟩ (.slice r' m' d') = W := ⟨_, rfl⟩
    obtain ⟨⟨q0, q1, q2, q3, q4⟩, hBF, hkW⟩ := pM (w := w) (b := B + 1) Z.out (aA HB2.out BW.out) (by have := HBB.out; omega) hW
    rw [hW]
    refine bodyPost_ret (v := .agg #[.int .i64 (aK 5 t b).h.k, .int .i64 (aK 5 t b).h.n, .int .i64 (aK 5 t b).h.a, .slice r m d, .slice r' m' d']) (by simp [results, Tryz.results162, go_sem, q0, q1, q2, q3, q4]) rfl ?_
    refine ⟨_, _, _, _, _, _, S, rfl, hBF, (O5.out.kept fun x hx => hkW x ?_).lower (by have := HS2.out; omega), N5.out⟩
    have h7 := (O5.out.mem x hx).1
    have h8 := HS2.out
    have h9 := HBB.out
    omega
theorem o_lams (t : Ts) (b : Tm) (hf : t.fits) (hs : t.size ≤ 100000000) (hbf : b.fits) (hbs : b.size ≤ 100000000) : HH 162 [tsA none t, tmL b] (tmO (aK 5 t b)) :=
  kF (bO Tryz.func162 (by decide) rfl) fun F w vs hF hG hv => by
    obtain ⟨u, v, rfl, h1, h2⟩ := lN hv
    have h3 := kZ hF h2
    obtain ⟨p, n, c, p', n', c', rfl, h4, h5⟩ := h3
    exact JU t b u p p' n c n' c' w hG (kY hF h1) ⟨_, _, _, _, _, _, rfl, h4, h5⟩ hf hs hbf hbs
end
section
open Go.RowKit
attribute [local simp] ty_p ty_l ty_t kH tDs bN Tm.ts kI oI ac_skip ac_label ac_region ac_seq ac_cond ac_block ac_loop ac_exit ac_ret seqK_n seqK_r seqK_e vo_nil vo_cons blkK JP oN I8 gA gB lG ev gU fF St.out A7 kX upd dD sU K0 asC oH jO tY lF tD qU pV tb Dc.tk Dc.dp Dc.over Dc.app Dc.ln Dc.ds Dc.sing Dc.cont AV.cont Ds.hd Value.oneCell' DE pP C0 AV.imp Dc.imp φOf dY AV.isLL AV.list AV.app AV.arg AV.isL AV.ren Dc.ren Dc.lent tmC tmA tsA iA lo? abin AV.nth Dc.own Dc.toks bP rI Z6 τOf
attribute [local simp] AV.room R8 agC rH Ds.len Ds.dp
theorem qF:∀(k:Nat) (t:Tm),cM (k+1) t=(cM k t).x.tm 1
 | 0,_=>rfl
 | k+1,t=>qF k (t.x.tm 1)
theorem qI:∀(k m:Nat) (t:Tm),lT (k+m) t->lT m (cM k t)
 | 0,m,t,h=>by rwa [Nat.zero_add] at h
 | k+1,m,t,h=>by
  rw[show k+1+m=(k+m)+1 by omega] at h
  exact qI k m _ h.2.2
def IG(row:Ts)(P:Tm)(k:Nat):St:=bP [(2,tsA none row),(12,.bx 13 0),(13,.bx 14 0),(14,iA k)] [(13,26,.lit (.int .i64 0) (.lit (.int .i64 0) (.lit (.int .i64 0) (.nilr 1 43 (.nilr 5 26 .nil))))),(14,26,tmC none none (cM k P).h (cM k P).x)] []
theorem k116(r:Rl)(i:Nat)(row:Ts)(t:Tm)(v:Ts)(far:Int)(hi:i<=r.g.length)(hl:r.g.length<=100000000)(hv:v.len<=100000000)(hr:row.fits)(hrs:row.size<=100000000)(ht:t.fits)(hts:t.size<=100000000)
  (hA:(aK 5 row t).fits) (hAs:(aK 5 row t).size<=100000000) (hL:((aK 5 row t).lift far i).fits) (hLs:((aK 5 row t).lift far i).size<=100000000) (hB:(byT (r.g.take i) 0 v).fits) (hBs:(byT (r.g.take i) 0 v).size<=100000000) :
  HH 116 [rlL r,iA i,tsA none row,tmL t,tsA none v,iA far] (tmL (fG r.g v far i row t)):=by
 have hrl:row.len<=100000000:=Nat.le_trans (len_le_size row) hrs
 have d0:row.len*5 / 5=row.len:=by omega
 have hdeep:lT row.len (bT (byT (r.g.take i) 0 v) 0 ((aK 5 row t).lift far i)):=rK _ _ _ _ (jU far i _ _ 0 (fT row t))
 have hres:fG r.g v far i row t=cM row.len (bT (byT (r.g.take i) 0 v) 0 ((aK 5 row t).lift far i)):=rfl
 have q1:=k196 row t hr hrs ht hts
 have q2:=h63 (aK 5 row t) far i hA (by omega)
 have q3:=k197 r v i hi hl hv
 have q4:=k195 (byT (r.g.take i) 0 v) ((aK 5 row t).lift far i) hB hBs hL hLs
 rw[hres]
 clear hres hA hAs hL hLs hB hBs
 generalize bT (byT (r.g.take i) 0 v) 0 ((aK 5 row t).lift far i)=P at *
 generalize (aK 5 row t).lift far i=L at *
 generalize byT (r.g.take i) 0 v=B at *
 generalize aK 5 row t=A at *
 refine ab Tryz.func116 Tryz.ntmps116 Tryz.results116 rfl (by decide) (by simp) rfl rfl ?_
 simp[rlL,rlC]
 refine⟨by kernel_rfl,?_⟩
 refine aE q1 ?_ ?_ ?_<;>simp
 refine aE q2 ?_ ?_ ?_<;>simp
 refine aE q3 ?_ ?_ ?_<;>simp[rlL,rlC]
 refine aE q4 ?_ ?_ ?_<;>simp
 refine lp (α:={ k:Nat // k<=row.len }) (λ k=>IG row P k.1) (λ k=>row.len-k.1) ⟨0,Nat.zero_le _⟩ ?_ ?_
 ·refine aI [] ?_ ?_ ?_<;>simp[AV.ok,Dc.ok,cM]
 ·rintro⟨k,hk⟩
  have hw:IntKind.i64.wrap ((k:Int)+1)=k+1:=by rw[IntKind.wrap_i64];omega
  by_cases hlt:k<row.len
  ·have h1:=qI k (row.len-k-1+1) P (by rw[show k+(row.len-k-1+1)=row.len by omega];exact hdeep)
   have h2:=qF k P
   generalize hI:cM k P=I at *
   generalize hJ:cM (k+1) P=J at *
   obtain⟨ih,ix⟩:=I
   obtain⟨-,h3,-⟩:=h1
   match ix,h3,h2,hI with
   | .cons a p (.cons b q .nil),_,h2,hI =>
    simp[IG,aF,d0,hlt,hI]
    refine⟨k+1,by omega,by omega,?_⟩
    refine aI [] ?_ ?_ ?_<;>simp[AV.ok,Dc.ok,hw,hJ,h2,Ts.tm,Ts.hd,Ts.kd]
  ·obtain rfl:k=row.len:=by omega
   simp[IG,aF,d0]
   exact⟨[],by simp⟩
theorem k234(v:Int)(h1:0<v)(h2:v<=1048576):HH 234 [iA v,iA 0] (lvA (iB v)):=by
 refine ab Tryz.func234 Tryz.ntmps234 Tryz.results234 rfl (by decide) (by simp) rfl rfl ?_
 simp
 refine aE (k237 v h1 h2) ?_ ?_ ?_<;>simp[lvA,iB,bR]
 exact⟨[],by simp⟩
theorem k222(v:Int)(h1:0<v)(h2:v<=1048576):HH 222 [iA v] (lvA (iB v)):=by
 refine ab Tryz.func222 Tryz.ntmps222 Tryz.results222 rfl (by decide) (by simp) rfl rfl ?_
 simp
 refine aE (k234 v h1 h2) ?_ ?_ ?_<;>simp[lvA]
 exact⟨[],by simp⟩
end
section
open Go.RowKit
theorem eC:∀ {row:Ts} {t:Tm},row.fits->t.fits->(aK 5 row t).fits
 | .nil,_,_,h=>h
 | .cons h x r,t,hr,ht=>by
  have ih:=eC (row:=r) hr.2.2 ht
  exact⟨eZ (by decide),hr.1,hr.2.1,ih.1,ih.2,trivial⟩
theorem gH:∀(row:Ts) (t:Tm),(aK 5 row t).size<=2*row.size+t.size
 | .nil,t=>by simp[aK,Ts.size]
 | .cons h x r,t=>by
  have ih:=gH r t
  have e:(aK 5 (.cons h x r) t).size=1+aH h.l+x.size+(1+(aK 5 r t).size):=by
   rw[<-bA];simp only[aK,Tm.size,Ts.size,kH,aH];omega
  rw[e]
  simp only[Ts.size]
  omega
theorem AK(n:Int) : -9223372036854775808<=IntKind.i64.wrap n/\IntKind.i64.wrap n<=9223372036854775807:=by
 rw[IntKind.wrap_i64];omega
theorem tR{h:Hd}(n f:Int)(d:Nat)(hf:h.fits):(h.lift n f d).fits:=by
 unfold Hd.lift
 split
 ·exact⟨hf.1,AK _,hf.2.2⟩
 ·exact hf
theorem wI(h:Hd)(n f:Int)(d:Nat):(h.lift n f d).l=h.l:=by
 unfold Hd.lift;split<;>rfl
theorem nF(n f:Int):∀ {t:Ts} (k:Int) (i d:Nat),t.fits->(t.lift n f k i d).fits
 | .nil,_,_,_,_=>trivial
 | .cons h x r,k,i,d,hf=>⟨tR n f _ hf.1,nF n f _ _ _ hf.2.1,nF n f _ _ _ hf.2.2⟩
theorem kO(n f:Int):∀(t:Ts) (k:Int) (i d:Nat),(t.lift n f k i d).size=t.size
 | .nil,_,_,_=>rfl
 | .cons h x r,k,i,d=>by
  simp only[Ts.lift,Ts.size,wI,kO n f x,kO n f r]
theorem gO{t:Tm}(n f:Int)(hf:t.fits):(t.lift n f).fits:=⟨tR n f _ hf.1,nF n f _ _ _ hf.2⟩
theorem jS(t:Tm)(n f:Int):(t.lift n f).size=t.size:=by
 simp only[Tm.lift,Tm.size,wI,kO]
theorem L3{a:Ag}{n:Nat}{v:Ts}(hv:v.fits):(fK a n v).fits:=by
 unfold fK
 split
 ·rename_i h
  exact Ts.fits_hd hv h.2
 ·exact⟨dV (by decide) (by decide) (by decide),trivial⟩
theorem pJ{v:Ts}(hv:v.fits):∀(l:List Ag) (n:Nat),(byT l n v).fits
 | [],_=>trivial
 | a :: r,n=>⟨(L3 hv).1,(L3 hv).2,pJ hv r _⟩
end
section
open Go.RowKit
attribute [local simp] ty_p ty_l ty_t kH tDs bN Tm.ts kI oI ac_skip ac_label ac_region ac_seq ac_cond ac_block ac_loop ac_exit ac_ret seqK_n seqK_r seqK_e vo_nil vo_cons blkK JP oN I8 gA gB lG ev gU fF St.out A7 kX upd dD sU K0 asC oH jO tY lF tD qU pV tb Dc.tk Dc.dp Dc.over Dc.app Dc.ln Dc.ds Dc.sing Dc.cont AV.cont Ds.hd Value.oneCell' DE pP C0 AV.imp Dc.imp φOf dY AV.isLL AV.list AV.app AV.arg AV.isL AV.ren Dc.ren Dc.lent tmC tmA tsA iA lo? abin AV.nth Dc.own Dc.toks bP rI Z6 τOf
attribute [local simp] AV.room R8 agC rH Ds.len Ds.dp
theorem L2(a:Ag)(n:Nat)(v:Ts):(fK a n v).size<=v.size:=by
 unfold fK
 split
 ·rename_i h
  have:=Ts.size_kd h.2
  unfold Tm.size Ts.tm
  simp only
  omega
 ·simp[Tm.size,oI,aH,Ts.size]
theorem rP(v:Ts):∀(l:List Ag) (n:Nat),(byT l n v).size<=l.length*(v.size+1)
 | [],_=>by simp[byT,Ts.size]
 | a :: r,n=>by
  have h1:=L2 a n v
  have h2:=rP v r (n+aQ [a])
  unfold Tm.size at h1
  simp only[byT,Ts.size,List.length_cons,Nat.add_mul,Nat.one_mul]
  omega
def jB(g:List Ag)(k n:Nat)(a:Ag):Tm:=fG g (bZ 0 n) n k .nil a.t
def bG(g:List Ag):List Ag->Nat->Nat->Ts
 | [],_,_=>.nil
 | a :: r,k,n=>if a.r then bG g r (k+1) n else .cons (jB g k n a).h (jB g k n a).x (bG g r (k+1) (n+1))
theorem mD(g:List Ag):∀(a b:List Ag) (k n:Nat),bG g (a++b) k n=(bG g a k n).app (bG g b (k+a.length) (n+aQ a))
 | [],b,k,n=>rfl
 | x :: a,b,k,n=>by
  have e:aQ (x :: a)=aQ [x]+aQ a:=gD [x] a
  cases hr:x.r with
  | true =>
   have e4:aQ [x]=0:=by simp[aQ,hr]
   simp only[List.cons_append,bG,hr,if_true,List.length_cons]
   rw[mD g a b (k+1) n,e,e4,Nat.zero_add,show k+1+a.length=k+(a.length+1) by omega]
  | false =>
   have e4:aQ [x]=1:=by simp[aQ,hr]
   simp only[List.cons_append,bG,hr,Bool.false_eq_true,if_false,List.length_cons,Ts.app]
   rw[mD g a b (k+1) (n+1),e,e4,show k+1+a.length=k+(a.length+1) by omega,show n+1+aQ a=n+(1+aQ a) by omega]
theorem mC(g:List Ag):∀(a:List Ag) (k n:Nat),(bG g a k n).len=aQ a
 | [],_,_=>rfl
 | x :: a,k,n=>by
  have e:aQ (x :: a)=aQ [x]+aQ a:=gD [x] a
  cases hr:x.r with
  | true =>
   have e4:aQ [x]=0:=by simp[aQ,hr]
   simp only[bG,hr,if_true]
   rw[mC g a (k+1) n,e,e4,Nat.zero_add]
  | false =>
   have e4:aQ [x]=1:=by simp[aQ,hr]
   simp only[bG,hr,Bool.false_eq_true,if_false,Ts.len]
   rw[mC g a (k+1) (n+1),e,e4];omega
theorem lZ:∀n,(bZ 0 n).fits
 | 0=>trivial
 | n+1=>⟨⟨⟨by show (-9223372036854775808:Int)<=1;decide,by show (1:Int)<=9223372036854775807;decide⟩,AK _,⟨by show (-9223372036854775808:Int)<=0;decide,by show (0:Int)<=9223372036854775807;decide⟩,λ p hp=>by cases hp⟩,trivial,lZ n⟩
theorem lY:∀n,(bZ 0 n).size=n
 | 0=>rfl
 | n+1=>by simp only[bZ,Ts.size,aH,lY n];omega
def dW(l:List Ag):Prop:=∀a∈l,a.t.fits/\a.e.fits/\a.i.fits
def st41(r:Rl)(k:Nat):St:=bP [(1,.bx 2 0),(3,.c (.blk 37 (aQ (r.g.take k)+1) 5 26 (.seg none (tDs ty (bG r.g (r.g.take k) 0 0)) .nil) .nil)),(4,iA k)] [(2,65,rlC r)] [(37,aQ (r.g.take k)+1)]
theorem k41(r:Rl)(hl:r.g.length<=500)(hs:cF r.g<=100000000)(hf:dW r.g):HH 41 [rlL r] (tsA none (bG r.g r.g 0 0)):=by
 refine ab Tryz.func41 Tryz.ntmps41 Tryz.results41 rfl (by decide) (by simp) rfl rfl ?_
 have d0:r.g.length*9 / 9=r.g.length:=by omega
 simp[rlL,rlC]
 refine lp (α:={ k:Nat // k<=r.g.length }) (λ k=>st41 r k.1) (λ k=>r.g.length-k.1) ⟨0,Nat.zero_le _⟩ ?_ ?_
 ·refine aI [((37,0),[(37,0)])] ?_ ?_ ?_<;>simp[AV.ok,Dc.ok,rlC,bG,aQ]
 ·rintro⟨k,hk⟩
  have hw:IntKind.i64.wrap ((k:Int)+1)=k+1:=by rw[IntKind.wrap_i64];omega
  by_cases hlt:k<r.g.length
  ·have h1:=kJ hlt
   have hsz:=jH hlt
   have hfa:=hf _ (List.getElem_mem hlt)
   have hpl:=oW (r.g.take k)
   have htl:(r.g.take k).length=k:=by rw[List.length_take];omega
   have e1:bG r.g (r.g.take (k+1)) 0 0=(bG r.g (r.g.take k) 0 0).app (bG r.g [r.g[k]] k (aQ (r.g.take k))):=by
    rw[iK hlt,mD,htl,Nat.zero_add,Nat.zero_add]
   have e2:aQ (r.g.take (k+1))=aQ (r.g.take k)+aQ [r.g[k]]:=by rw[iK hlt,gD]
   have hbl:=mC r.g (r.g.take k) 0 0
   rw[htl] at hpl
   generalize hB1:bG r.g (r.g.take (k+1)) 0 0=B1 at *
   generalize hN1:aQ (r.g.take (k+1))=N1 at *
   generalize hB:bG r.g (r.g.take k) 0 0=B at *
   generalize hN:aQ (r.g.take k)=N at *
   generalize hq:r.g.drop (k+1)=q at h1
   generalize ha:r.g[k]=a at *
   cases hr:a.r with
   | true =>
    have e4:aQ [a]=0:=by simp[aQ,hr]
    have e5:bG r.g [a] k N=.nil:=by simp[bG,hr]
    rw[e5,Ts.app_nil] at e1
    rw[e4,Nat.add_zero] at e2
    simp[st41,rlC,aT,d0,hlt,h1,bW,hr]
    refine⟨by omega,k+1,by omega,by omega,?_⟩
    refine aI [((37,0),[(37,0)])] ?_ ?_ ?_<;>simp[AV.ok,Dc.ok,hw,rlC,hB1,hN1,hB,hN,e1,e2,Ds.app_nil]
   | false =>
    have e4:aQ [a]=1:=by simp[aQ,hr]
    have e5:bG r.g [a] k N=.cons (jB r.g k N a).h (jB r.g k N a).x .nil:=by simp[bG,hr]
    rw[e5] at e1
    rw[e4] at e2
    have db:B.len*5 / 5=N:=by rw[hbl];omega
    have dz:(B.len:Int)*5 / 5=N:=by rw[hbl];omega
    have hby:=rP (bZ 0 N) (r.g.take k) 0
    rw[htl,lY] at hby
    have hb3:k*(N+1)<=500*501:=Nat.mul_le_mul (by omega) (by omega)
    have q0:=k117 N (by omega)
    have q1:=k116 r k .nil a.t (bZ 0 N) N (by omega) (by omega) (by rw[dL];omega) trivial (by simp[Ts.size]) hfa.1 (by omega) (eC trivial hfa.1) (Nat.le_trans (gH _ _) (by simp only[Ts.size];omega)) (gO _ _ (eC trivial hfa.1)) (by rw[jS];exact Nat.le_trans (gH _ _) (by simp only[Ts.size];omega)) (pJ (lZ N) _ _) (by omega)
    change HH 116 _ (tmL (jB r.g k N a)) at q1
    generalize jB r.g k N a=P at *
    simp[st41,rlC,aF,aT,d0,hlt,h1,bW,hr,hB,hN,db,dz,Ds.app_nil]
    refine⟨by omega,by kernel_rfl,by omega,?_⟩
    refine aE q0 ?_ ?_ ?_<;>simp
    refine aE q1 ?_ ?_ ?_<;>simp[rlL,rlC]
    refine⟨by rw[aF];omega,k+1,by omega,by omega,?_⟩
    refine aI [((37,0),[(37,0)])] ?_ ?_ ?_<;>simp[AV.ok,Dc.ok,hw,rlC,hB1,hN1,e2]
    rw[e1,bC];rfl
  ·obtain rfl:k=r.g.length:=by omega
   simp[st41,rlC,aT,d0,Ds.app_nil]
   exact⟨[],by simp⟩

def eM(g:List Ag)(v:Ts)(far:Int)(i:Nat):Ts->Ts->Ts
 | _,.nil=>.nil
 | p,.cons h x q=>.cons (fG g v far i p ⟨h,x⟩).h (fG g v far i p ⟨h,x⟩).x (eM g v far i (p.app (.cons h x .nil)) q)
theorem rU(g:List Ag)(v:Ts)(far:Int)(i:Nat):∀a b p:Ts,eM g v far i p (a.app b)=(eM g v far i p a).app (eM g v far i (p.app a) b)
 | .nil,b,p=>by simp only[Ts.app,eM,Ts.app_nil]
 | .cons h x a,b,p=>by
  simp only[Ts.app,eM]
  rw[rU g v far i a b,Ts.app_assoc];rfl
theorem rT(g:List Ag)(v:Ts)(far:Int)(i:Nat):∀a p:Ts,(eM g v far i p a).len=a.len
 | .nil,_=>rfl
 | .cons h x a,p=>by simp only[eM,Ts.len];rw[rT g v far i a]
theorem GD(a r:Ts):(tDs ty (a.app r)).tk (a.len*5)=tDs ty a:=by
 rw[bC,<-aF ty];exact Ds.tk_app _ _
def st42(r:Rl)(v:Ts)(far:Int)(i:Nat)(e a:Ts):St:=bP [(1,iA i),(2,tsA none v),(3,iA far),(4,.bx 5 0),(9,.c (.blk 48 (a.len+1) 5 26 (.seg none (tDs ty (eM r.g v far i .nil a)) .nil) .nil)),(10,tsA none e),(11,iA a.len)] [(5,65,rlC r)] [(48,a.len+1)]
theorem k42(r:Rl)(v:Ts)(far:Int)(i:Nat)(hi:i<r.g.length)(hl:r.g.length<=500)(hs:cF r.g<=30000000)(hf:dW r.g)(hv:v.fits)(hsz:i*(v.size+1)<=100000000)(hvs:v.size<=100000000) :
  HH 42 [rlL r,iA i,tsA none v,iA far] (tsA none (eM r.g v far i .nil r.g[i].e)):=by
 have h1:=kJ hi
 have hsa:=jH hi
 obtain⟨f1,f2,f3⟩:=hf _ (List.getElem_mem hi)
 have hvl:v.len<=100000000:=Nat.le_trans (len_le_size v) hvs
 have dg:r.g.length*9 / 9=r.g.length:=by omega
 have hby:=rP v (r.g.take i) 0
 rw[List.length_take,show min i r.g.length=i by omega] at hby
 generalize r.g.drop (i+1)=qq at h1
 generalize r.g[i]=b at *
 have hil:b.e.len<=100000000:=Nat.le_trans (len_le_size b.e) (by omega)
 have d0:b.e.len*5 / 5=b.e.len:=by omega
 have h0:¬(i:Int)<0:=by omega
 have hi2:¬r.g.length<=i:=by omega
 refine ab Tryz.func42 Tryz.ntmps42 Tryz.results42 rfl (by decide) (by simp) rfl rfl ?_
 simp[rlL,rlC,h0,aT,dg,hi,hi2,h1,bW]
 refine⟨by omega,?_⟩
 refine lp (α:={ q:Ts×Ts // q.1.app q.2=b.e }) (λ q=>st42 r v far i b.e q.1.1) (λ q=>q.1.2.len) ⟨(.nil,b.e),rfl⟩ ?_ ?_
 ·refine aI [((48,0),[(48,0)])] ?_ ?_ ?_<;>simp[AV.ok,Dc.ok,rlC,eM,Ts.len]
 ·rintro⟨⟨a,q⟩,hq⟩
  simp only at hq
  cases q with
  | nil =>
   have e:a=b.e:=by rw[<-hq];exact (Ts.app_nil a).symm
   rw[<-e] at d0
   simp[st42,rlC,aF,d0,<-e,Ds.app_nil]
   exact⟨[],by simp⟩
  | cons h y q =>
   have h3:a.len<b.e.len:=by rw[<-hq];simp[Ts.app_len,Ts.len]
   have h2:(tDs ty b.e).dp (a.len*5)=tDs ty (.cons h y q):=by rw[<-hq];exact fA a _
   have h6:(tDs ty b.e).tk (a.len*5)=tDs ty a:=by rw[<-hq];exact GD a _
   have h4:h.fits/\y.fits:=dR (a:=a) (by rw[hq];exact f2)
   have h5:aH h.l+y.size+1<=b.e.size:=by rw[<-hq];exact app_size
   have h7:a.fits/\a.size<=b.e.size:=by
    have hfa:∀(a r:Ts),(a.app r).fits->a.fits:=λ a=>by
     induction a with
     | nil=>intro _ _;trivial
     | cons h x a _ ih=>intro r h9;exact⟨h9.1,h9.2.1,ih r h9.2.2⟩
    have e9:b.e.size=a.size+(Ts.cons h y q).size:=by rw[<-hq,fO]
    exact⟨hfa a _ (by rw[hq];exact f2),by omega⟩
   have hw:IntKind.i64.wrap ((a.len:Int)+1)=a.len+1:=by rw[IntKind.wrap_i64];omega
   have hts:(⟨h,y⟩:Tm).size<=30000000:=by unfold Tm.size;simp only;omega
   have hab:=gH a ⟨h,y⟩
   have q1:=k116 r i a ⟨h,y⟩ v far (by omega) (by omega) hvl h7.1 (by omega) h4 (by omega) (eC h7.1 h4) (by omega) (gO _ _ (eC h7.1 h4)) (by rw[jS];omega) (pJ hv _ _) (by omega)
   have e1:eM r.g v far i .nil (a.app (.cons h y .nil))=(eM r.g v far i .nil a).app (.cons (fG r.g v far i a ⟨h,y⟩).h (fG r.g v far i a ⟨h,y⟩).x .nil):=by rw[rU];rfl
   generalize fG r.g v far i a ⟨h,y⟩=P at *
   simp[st42,rlC,aF,d0,h3,h2,h6]
   refine⟨by kernel_rfl,by omega,by omega,?_⟩
   refine aE q1 ?_ ?_ ?_<;>simp[rlL,rlC]
   refine⟨by rw[aF,rT];omega,a.app (.cons h y .nil),q,by simp[Ts.len],by rw[Ts.app_assoc];exact hq,?_⟩
   refine aI [((48,0),[(48,0)])] ?_ ?_ ?_<;>simp[Ts.len,Ts.app_len,AV.ok,Dc.ok,hw,rlC,e1]
   rw[bC];rfl
def GP(b:Nat)(y:Ts)(w:World):Prop:=KA w/\∃v,U w b 0=some v/\RT ty w v y
theorem stGP(b:Nat)(y:Ts):jG (GP b y):=λ w w' hb ⟨h1,v,h2,h3⟩=>⟨iD w w' hb h1,v,aD hb _ _ _ (aM h2) h2,h3.on hb⟩
theorem Holds.under{P:Program}{G G':World->Prop}(h:∀w,G' w->G w){f:Nat}{a r:AV}(hh:Holds P G f a r):Holds P G' f a r :=
 ⟨hh.1,hh.2.1,λ F w vs hF hG hv=>hh.2.2 F w vs hF (h w hG) hv⟩
abbrev HG(b:Nat)(y:Ts)(f:Nat)(ps:List AV)(r:AV):Prop:=Holds Tryz.prog (GP b y) f (.list ps) r
theorem HH.gp{f:Nat}{ps:List AV}{r:AV}(h:HH f ps r)(b:Nat)(y:Ts):HG b y f ps r:=Holds.under (λ _ h=>h.1) h
theorem abG {b : Nat} {y : Ts} {f : Nat} {fn : Func} {c : Code} {l : List AV} {r : AV} {N : Nat} {rs : Array ResultVar} (hf : Tryz.prog.funcs[f]? = some fn) (hN : fn.ntmps = N) (hrs : fn.results = rs) (hb : fn.body = some c) (hname : fn.name ≠ "runtime.NumGoroutine")
  (hl:l.length<=N) (ho:(l.all AV.bare)=true) (hr:(r.plain && r.still && r.flat)=true) (h:dI Tryz.prog (GP b y) tb N c (DE tb N rs.toList r) (gU l)):HG b y f l r:=by
 subst hN hrs
 simp only[Bool.and_eq_true] at hr
 exact wH qA (stGP b y) mixed hf hb hname hl (λ a ha=>AV.bare_ok (List.all_eq_true.1 ho a ha) _ _) hr.1.1 hr.1.2 hr.2 h
theorem lpG{b:Nat}{y:Ts}{α:Type}(I:α->St)(μ:α->Nat)(x0:α){c:Code}{Q:Exit->St->Prop}{st:St}{N:Nat}(h0:Le (GP b y) N st (I x0))(hr:∀x,dI Tryz.prog (GP b y) tb N c (JP (GP b y) N I μ x Q) (I x)):zL Tryz.prog (GP b y) N c Q st:=aloop qA (stGP b y) mixed I μ x0 h0 hr
theorem k124(d n:Int):HH 124 [.agg (.lit (.int .i64 d) .nil),iA n] (.tup (AV.list [iA (wrap64 (n-d)),.v (.bool (decide (d<=n)))])):=by
 refine⟨bO Tryz.func124 (by decide) rfl,rfl,λ F w vs hF hG hv=>?_⟩
 obtain⟨u,v,rfl,h1,h2⟩:=lN hv
 rw[lQ h2]
 obtain⟨ys,e,-,zs,rfl,rfl⟩:=h1
 cases e
 refine (yP d n w).mono ?_
 rintro e w' ⟨rfl,h5⟩
 exact⟨_,λ _=>[],rfl,h5,⟨_,rfl,_,_,rfl,rfl,_,_,rfl,rfl,rfl⟩,λ k b hb=>(by cases hb),λ k k' b hb=>(by cases hb)⟩
def nodeA(h:Hd)(x:Ts):AV:=.agg (tmC (some (0,0)) none h x)
def wkA(d:Nat)(FV:Value):AV:=.agg (.lit (.int .i64 d) (.lit FV .nil))
theorem k203(fn:Fn)(fi cp:Array Value)(d:Nat)(k:Int)(i:Nat)(hd:d<=400000000000):HH 203 [wkA d (.func fn fi cp),iA k,iA i] (wkA (aU k i d) (.func fn fi cp)):=by
 refine⟨bO Tryz.func203 (by decide) rfl,rfl,λ F w vs hF hG hv=>?_⟩
 obtain⟨u,v,z,rfl,h1,h2,h3⟩:=M6 hv
 rw[lQ h2,lQ h3]
 obtain⟨ys,e,-,_,rfl,-,_,rfl,rfl⟩:=h1
 cases e
 refine (tA d fn fi cp k i w hG hd).mono ?_
 rintro e w' ⟨rfl,h5⟩
 exact⟨_,λ _=>[],rfl,h5,⟨_,rfl,rfl,_,rfl,rfl,_,rfl,rfl⟩,λ k b hb=>(by cases hb),λ k k' b hb=>(by cases hb)⟩
def xP(j:Option Tk)(h:Hd)(S:Value):Dc:=.lit (.int .i64 h.k) (.lit (.int .i64 h.n) (.lit (.int .i64 h.a) (.row j 1 43 (bN ty h.l) (.lit S .nil))))
theorem KD(h:Hd)(r:Option Addr)(m d:Nat)(hs:aH h.l<=200000000):HH 125 [.agg (xP none h (.slice r m d))] (.agg (xP (some (0,0)) h (.slice r m d))):=by
 refine⟨bO Tryz.func125 (by decide) rfl,rfl,λ F w vs hF hG hv=>?_⟩
 obtain⟨u,rfl,h1⟩:=kD hv
 obtain⟨ys,e,h1⟩:=h1
 obtain⟨-,_,rfl,-,_,rfl,-,_,rfl,-,v1,_,rfl,q1,-,-,_,rfl,rfl⟩:=h1
 cases e
 obtain⟨p,n,c,rfl,-⟩:=id q1
 refine (qY h.k h.n h.a h.l p r n c m d w (q1.mono (λ b o v _ hv=>hF b o v hv) (Nat.le_refl _)) hs).mono ?_
 rintro e w' ⟨r',m',d',S,rfl,h5,h6,h7⟩
 obtain⟨_,_,e3,q3,-⟩:=Vs.res (F:=F) (fp:=fp1 S) (Nat.le_refl _) h6
 cases e3
 refine⟨_,fp1 S,rfl,h5,⟨_,rfl,rfl,_,rfl,rfl,_,rfl,rfl,_,rfl,cT _,_,_,rfl,q3,(λ j e=>?_),rfl,_,rfl,rfl⟩,λ k b hb=>?_,λ k k' b h1 h2=>?_⟩
 ·cases e
  exact⟨rfl,S,h6,h7,λ b hb=>mem_fp1.2 ⟨rfl,hb⟩⟩
 ·exact h6.mem b (mem_fp1.1 hb).2
 ·rw[(mem_fp1.1 h1).1,(mem_fp1.1 h2).1]
abbrev byEl(y:Ts):AV:=.el (.row 5 26 (tDs ty y) .nil .nil)
theorem BG{y:Ts}{h:Hd}{d:Nat}{u:Tm}(hp:cA y h d=.inl u):h.k=1/\(d:Int)<=h.n/\h.n-d<y.len/\u=(y.tm (y.len-1-(h.n-d).toNat)).lift d 0:=by
 unfold cA at hp
 split at hp
 ·rename_i c1
  split at hp
  ·rename_i c2
   cases hp
   exact⟨c1.1,c1.2,c2,rfl⟩
  ·cases hp
 ·cases hp
theorem k224p(y:Ts)(FV:Value)(h:Hd)(x:Ts)(d:Nat)(u:Tm)(hp:cA y h d=.inl u)(hy:y.fits)(hys:y.size<=100000000)(hd:d<=100000000)(hn:h.n<=9223372036854775807) :
  HH 224 [wkA d FV,tmL ⟨h,x⟩,byEl y] (.tup (AV.list [tmO u,.v (.bool true)])):=by
 obtain⟨c1k,c1n,c2,rfl⟩:=BG hp
 have hyl:y.len<=100000000:=Nat.le_trans (len_le_size y) hys
 have d0:y.len*5 / 5=y.len:=by omega
 have w1:wrap64 (h.n-d)=h.n-d:=by unfold wrap64;omega
 obtain⟨j,hj⟩:∃j:Nat,(y.len:Int)-1-(h.n-d)=j:=⟨((y.len:Int)-1-(h.n-d)).toNat,by omega⟩
 have hjl:j<y.len:=by omega
 have e1:y.len-1-(h.n-d).toNat=j:=by omega
 have w2:IntKind.i64.wrap ((y.len:Int)-1)=y.len-1:=by rw[IntKind.wrap_i64];omega
 have w3:IntKind.i64.wrap ((y.len:Int)-1-(h.n-d))=j:=by rw[IntKind.wrap_i64];omega
 have h2:=pA y j
 have h3:=Ts.drop_step hjl
 have h4:=Ts.fits_hd hy hjl
 have h5:=Ts.size_kd hjl
 rw[h3] at h2
 rw[e1]
 clear e1 h3 hp
 have q1:=k124 d h.n
 rw[w1,decide_eq_true c1n] at q1
 unfold Ts.tm
 generalize y.hd j=uh at *
 generalize y.kd j=ux at *
 generalize y.drop (j+1)=ur at *
 refine ab Tryz.func224 Tryz.ntmps224 Tryz.results224 rfl (by decide) (by simp) rfl rfl ?_
 simp[wkA]
 refine aE q1 ?_ ?_ ?_<;>simp[aF,d0,c1k,c2,w2,w3,h2]
 refine⟨by kernel_rfl,by omega,?_⟩
 refine aE (h60 ⟨uh,ux⟩ d 0 h4 (by unfold Tm.size;simp only;omega)) ?_ ?_ ?_<;>simp
 exact⟨[((0,0),[(48,0)]),((0,1),[(48,1)])],by simp⟩
theorem k224n(y:Ts)(FV:Value)(h h':Hd)(r:Option Addr)(m c:Nat)(d:Nat)(hp:cA y h d=.inr h')(hys:y.size<=100000000)(hd:d<=100000000)(hn:h.n<=9223372036854775807)(hls:aH h.l<=200000000) :
  HH 224 [wkA d FV,.agg (xP none h (.slice r m c)),byEl y] (.tup (AV.list [.agg (xP (some (0,0)) h' (.slice r m c)),.v (.bool false)])):=by
 have hyl:y.len<=100000000:=Nat.le_trans (len_le_size y) hys
 have d0:y.len*5 / 5=y.len:=by omega
 have q1:=k124 d h.n
 obtain⟨hk,hn',ha,hl⟩:=h
 simp only at hn hls q1
 by_cases c1:hk=1
 ·subst c1
  by_cases c2:(d:Int)<=hn'
  ·have w1:wrap64 (hn'-d)=hn'-d:=by unfold wrap64;omega
   by_cases c3:hn'-d<y.len
   ·simp[cA,c2,c3] at hp
   ·simp[cA,c2,c3] at hp
    subst hp
    rw[w1,decide_eq_true c2] at q1
    refine ab Tryz.func224 Tryz.ntmps224 Tryz.results224 rfl (by decide) (by simp) rfl rfl ?_
    simp[wkA,xP]
    refine aE q1 ?_ ?_ ?_<;>simp[aF,d0,c3]
    refine aE (KD ⟨1,IntKind.i64.wrap (hn'-y.len),ha,hl⟩ r m c hls) ?_ ?_ ?_<;>simp[xP]
    exact⟨[((0,0),[(50,0)])],by simp⟩
  ·simp[cA,c2] at hp
   subst hp
   rw[decide_eq_false c2] at q1
   refine ab Tryz.func224 Tryz.ntmps224 Tryz.results224 rfl (by decide) (by simp) rfl rfl ?_
   simp[wkA,xP]
   refine aE q1 ?_ ?_ ?_<;>simp
   refine aE (KD ⟨1,hn',ha,hl⟩ r m c hls) ?_ ?_ ?_<;>simp[xP]
   exact⟨[((0,0),[(50,0)])],by simp⟩
 ·simp[cA,c1] at hp
  subst hp
  refine ab Tryz.func224 Tryz.ntmps224 Tryz.results224 rfl (by decide) (by simp) rfl rfl ?_
  simp[wkA,xP]
  refine aE q1 ?_ ?_ ?_<;>simp[c1]
  refine aE (KD ⟨hk,hn',ha,hl⟩ r m c hls) ?_ ?_ ?_<;>simp[xP]
  exact⟨[((0,0),[(50,0)])],by simp⟩
def Dc.ownd:Dc->Bool
 | .nil=>true
 | .lit _ r=>r.ownd
 | .nilr _ _ r=>r.ownd
 | .row (some _) _ _ _ r=>r.ownd
 | _=>false
theorem RepC.conv{F F':Mem}{w w':World}{fp:Tk->List Nat}:∀ {d:Dc} {xs:List Value},d.ownd=true->RepC (fP F' w w' fp) d xs->RepC (fP F w w' fp) d xs:=by
 intro d
 induction d with
 | nil=>intro xs _ h;exact h
 | lit v r ih=>rintro xs ho ⟨h0,ys,e,h⟩;exact⟨h0,ys,e,ih ho h⟩
 | nilr sz e r ih=>rintro xs ho ⟨ys,e,h⟩;exact⟨ys,e,ih ho h⟩
 | row k sz e x r ih =>
  cases k with
  | none=>intro xs ho;cases ho
  | some k =>
   rintro xs ho ⟨h0,v,ys,e,-,how,h⟩
   obtain⟨h1,S,h2,h3,h4⟩:=how k rfl
   obtain⟨_,_,e2,h5,-⟩:=Vs.res (F:=F) (fp:=fp) (Nat.le_refl _) h2
   cases e2
   refine⟨h0,v,ys,e,h5,λ j e3=>?_,ih ho h⟩
   cases e3
   exact⟨h1,S,h2,h3,h4⟩
 | seg k d r _=>intro xs ho;cases ho
 | blk k v sz e x r _ _=>intro xs ho;cases ho
theorem LA{b:Nat}{y:Ts}{w:World}(hG:GP b y w):RepV (bE (U w) w) (byEl y) [.pointer (some ⟨b,0,none⟩)]:=by
 obtain⟨-,v,h1,h2⟩:=hG
 refine⟨⟨bQ y,trivial,trivial⟩,b,0,[v],rfl,aM h1,⟨v,[],rfl,h2,rfl⟩,λ j u hj=>?_⟩
 cases j with
 | zero =>
  simp at hj
  subst hj
  show (if b<w.heap.size then _ else _)=_
  rw[if_pos (aM h1)]
  exact h1
 | succ j=>simp at hj
abbrev K1(b:Nat):Value:=.func (.func 224) #[] #[.pointer (some ⟨b,0,none⟩)]
abbrev putP(b:Nat):AV:=.v (.pointer (some ⟨b,0,none⟩))
theorem g224p(b:Nat)(y:Ts)(h:Hd)(x:Ts)(d:Nat)(u:Tm)(hp:cA y h d=.inl u)(hy:y.fits)(hys:y.size<=100000000)(hd:d<=100000000)(hn:h.n<=9223372036854775807) :
  HG b y 224 [wkA d (K1 b),tmL ⟨h,x⟩,putP b] (.tup (AV.list [tmO u,.v (.bool true)])):=by
 refine⟨bO Tryz.func224 (by decide) rfl,rfl,λ F w vs hF hG hv=>?_⟩
 obtain⟨u1,v,z,rfl,h1,h2,h3⟩:=M6 hv
 obtain rfl:z=.pointer (some ⟨b,0,none⟩):=by simpa[RepV] using h3
 have ht:=zS (kZ hF h2)
 refine ((k224p y (K1 b) h x d u hp hy hys hd hn).2.2 (U w) w [u1,v,.pointer (some ⟨b,0,none⟩)] (λ _ _ _ h=>h) hG.1 ⟨_,_,rfl,h1,_,_,rfl,ht,_,_,rfl,LA hG,rfl⟩).mono ?_
 rintro e w' ⟨v',fp,rfl,hb,⟨zs,e,a1,_,rfl,⟨ys,e2,hc⟩,r1⟩,m1,m2⟩
 exact⟨v',fp,rfl,hb,⟨_,e,a1,_,rfl,⟨ys,e2,RepC.conv rfl hc⟩,r1⟩,m1,m2⟩
theorem g224n(b:Nat)(y:Ts)(h h':Hd)(x:Ts)(d:Nat)(hp:cA y h d=.inr h')(hys:y.size<=100000000)(hd:d<=100000000)(hn:h.n<=9223372036854775807)(hls:aH h.l<=200000000) :
  HG b y 224 [wkA d (K1 b),tmL ⟨h,x⟩,putP b] (.tup (AV.list [nodeA h' x,.v (.bool false)])):=by
 refine⟨bO Tryz.func224 (by decide) rfl,rfl,λ F w vs hF hG hv=>?_⟩
 obtain⟨u1,v,z,rfl,h1,h2,h3⟩:=M6 hv
 obtain rfl:z=.pointer (some ⟨b,0,none⟩):=by simpa[RepV] using h3
 obtain⟨ys,e,-,_,rfl,-,_,rfl,-,_,rfl,-,v1,_,rfl,q1,-,-,v2,_,rfl,q2,-,rfl⟩:=h2
 cases e
 obtain⟨p',n',c',rfl,-⟩:=id q2
 have hk:=(k224n y (K1 b) h h' p' n' c' d hp hys hd hn hls).2.2 (U w) w [u1,.agg #[.int .i64 h.k,.int .i64 h.n,.int .i64 h.a,v1,.slice p' n' c'],.pointer (some ⟨b,0,none⟩)] (λ _ _ _ h=>h) hG.1
  ⟨_,_,rfl,h1,_,_,rfl,⟨_,rfl,rfl,_,rfl,rfl,_,rfl,rfl,_,rfl,cT _,_,_,rfl,q1.mono (λ b o v _ hv=>hF b o v hv) (Nat.le_refl _),Gh.Ow_none,rfl,_,rfl,rfl⟩,_,_,rfl,LA hG,rfl⟩
 refine hk.mono ?_
 rintro e w' ⟨v',fp,rfl,hb,⟨zs,e,a1,_,rfl,⟨ys,e2,g1,_,rfl,g2,_,rfl,g3,_,rfl,g4,l1,_,rfl,g5,g6,g7,_,rfl,rfl⟩,r1⟩,m1,m2⟩
 obtain⟨j0,_,_,e3,j2,j3,-⟩:=RepC.conv (F:=F) (F':=U w) (d:=.row (some (0,0)) 1 43 (bN ty h'.l) .nil) (xs:=[l1]) rfl ⟨g4,_,_,rfl,g5,g6,rfl⟩
 cases e3
 have q4:Rd (fP F w w' fp).F w'.heap.size (.slice p' n' c') 5 (tDs ty x) .nil:=q2.mono (λ b o v hb' hv=>by
  show (if b<w.heap.size then F b o else _)=_
  exact (if_pos (show b<w.heap.size from hb')).trans hv) hb.size
 exact⟨v',fp,rfl,hb,⟨_,e,a1,_,rfl,⟨_,e2,g1,_,rfl,g2,_,rfl,g3,_,rfl,j0,_,_,rfl,j2,j3,bQ _,_,_,rfl,q4,Gh.Ow_none,rfl⟩,r1⟩,m1,m2⟩
@[simp] theorem calleeOf_put (b:Nat):dY (.v (.func (.func 224) #[] #[.pointer (some ⟨b,0,none⟩)]))=some (224,.nil,.cons (.v (.pointer (some ⟨b,0,none⟩))) .nil):=rfl
def IE(b:Nat)(y:Ts)(d:Nat)(h h':Hd)(x a:Ts):St:=bP [(2,.bx 3 0),(3,.bx 4 0),(4,.bx 5 0),(5,.bx 6 0),(23,tsA none x),(24,iA x.len),(25,iA a.len)]
 [(3,166,.lit (.int .i64 d) (.lit (K1 b) .nil)),(4,26,tmC none none h x),(5,26,.lit (.int .i64 0) (.lit (.int .i64 0) (.lit (.int .i64 0) (.nilr 1 43 (.nilr 5 26 .nil))))),(6,26,.lit (.int .i64 h'.k) (.lit (.int .i64 h'.n) (.lit (.int .i64 h'.a) (.row (some (16,0)) 1 43 (bN ty h'.l) (.blk 41 (a.len+1) 5 26 (.seg (some (100,0)) (tDs ty (eR y h.k 0 d a)) .nil) .nil)))))]
 [(41,a.len+1),(16,0),(100,0)]
theorem k126(b:Nat)(y:Ts)(hy:y.fits)(hys:y.size<=100000000):∀(M:Nat) (t:Tm) (d:Nat),t.size<M->t.fits->t.size+d<=100000000->HG b y 126 [wkA d (K1 b),tmL t] (tmO (bT y d t)):=by
 intro M
 induction M with
 | zero=>intro t d h;omega
 | succ M ih =>
  rintro⟨h,x⟩ d hM hf hs
  have dx:x.len*5 / 5=x.len:=by omega
  have hxl:x.len<=100000000:=by have:=len_le_size x;unfold Tm.size at hs;simp only at hs;omega
  have hnb:h.n<=9223372036854775807:=hf.1.2.1.2
  refine abG Tryz.func126 Tryz.ntmps126 Tryz.results126 rfl (by decide) (by simp) rfl rfl ?_
  cases hp:cA y h d with
  | inl u =>
   have e1:bT y d ⟨h,x⟩=u:=by simp only[bT,hp]
   rw[e1]
   simp[wkA]
   refine aE (g224p b y h x d u hp hy hys (by omega) hnb) ?_ ?_ ?_<;>simp[wkA]
   exact⟨[((0,0),[(16,0)]),((0,1),[(16,1)])],by simp⟩
  | inr h' =>
   have e1:bT y d ⟨h,x⟩=⟨h',eR y h.k 0 d x⟩:=by simp only[bT,hp]
   rw[e1]
   clear e1
   have q1:=g224n b y h h' x d hp hys (by omega) hnb (by unfold Tm.size at hs;simp only at hs;omega)
   clear hp
   simp[wkA]
   refine aE q1 ?_ ?_ ?_<;>simp[wkA,nodeA]
   refine lpG (α:={ q:Ts×Ts // q.1.app q.2=x }) (λ q=>IE b y d h h' x q.1.1) (λ q=>q.1.2.len) ⟨(.nil,x),rfl⟩ ?_ ?_
   ·refine aI [((16,0),[(16,0)]),((41,0),[(41,0)])] ?_ ?_ ?_<;>simp[eR,Ts.len,AV.ok,Dc.ok,aF]
   ·rintro⟨⟨a,r⟩,hq⟩
    simp only at hq
    cases r with
    | nil =>
     have e:a=x:=by rw[<-hq];exact (Ts.app_nil a).symm
     subst e
     simp[IE,Ds.app_nil]
     exact⟨[((0,0),[(16,0)]),((0,1),[(41,0),(100,0)])],by simp⟩
    | cons hh hx r =>
     have h1:a.len<x.len:=by rw[<-hq];simp[Ts.app_len,Ts.len]
     have h2:(tDs ty x).dp (a.len*5)=tDs ty (.cons hh hx r):=by rw[<-hq];exact fA a _
     have h3:hh.fits/\hx.fits:=dR (a:=a) (by rw[hq];exact hf.2)
     have h4:aH hh.l+hx.size+1<=x.size:=by rw[<-hq];exact app_size
     have hw:IntKind.i64.wrap ((a.len:Int)+1)=a.len+1:=by rw[IntKind.wrap_i64];omega
     have hdp:aU h.k a.len d<=d+1:=by unfold aU;split<;>omega
     have hne:tDs ty (eR y h.k 0 d (a.app (.cons hh hx .nil)))=(tDs ty (eR y h.k 0 d a)).app (tDs ty (bT y (aU h.k a.len d) ⟨hh,hx⟩).ts):=by
      rw[nO,fD,bC,Nat.zero_add];rfl
     have hsz:x.size<=(⟨h,x⟩:Tm).size:=by unfold Tm.size;simp only;omega
     have hsz2:(⟨hh,hx⟩:Tm).size+1<=x.size:=h4
     have ihh:=ih ⟨hh,hx⟩ (aU h.k a.len d) (by omega) h3 (by omega)
     generalize bT y (aU h.k a.len d) ⟨hh,hx⟩=P at *
     simp[IE,h1,h2]
     refine⟨by rw[aF];omega,by kernel_rfl,?_⟩
     refine aE ((k203 (.func 224) #[] #[.pointer (some ⟨b,0,none⟩)] d h.k a.len (by omega)).gp b y) ?_ ?_ ?_<;>simp[wkA]
     refine aE ihh ?_ ?_ ?_<;>simp[wkA]
     refine⟨by rw[aF,lJ];omega,a.app (.cons hh hx .nil),r,by simp[Ts.len],by rw[Ts.app_assoc];exact hq,?_⟩
     refine aI [((16,0),[(16,0)]),((41,0),[(41,0)]),((100,0),[(100,0),(39,0),(39,1)])] ?_ ?_ ?_<;>simp[Ts.len,Ts.app_len,AV.ok,Dc.ok,hw,hne]
end
section
open Go.RowKit
theorem J9{y:Ts}{h:Hd}{d:Nat}{u:Tm}{C:Nat}(hC:∀j,j<y.len->(y.tm j).size<=C)(hp:cA y h d=.inl u):u.size<=C:=by
 unfold cA at hp
 split at hp
 ·rename_i c1
  split at hp
  ·rename_i c2
   cases hp
   rw[jS]
   exact hC _ (by omega)
  ·cases hp
 ·cases hp
theorem J8{y:Ts}{h h':Hd}{d:Nat}(hp:cA y h d=.inr h'):h'.l=h.l:=by
 unfold cA at hp
 split at hp
 ·split at hp
  ·cases hp
  ·cases hp;rfl
 ·cases hp;rfl
theorem sD{y:Ts}{C:Nat}(hC:∀j,j<y.len->(y.tm j).size<=C):∀(x:Ts) (pk:Int) (i d:Nat),(eR y pk i d x).size<=x.size*(C+1)
 | .nil,_,_,_=>by simp[eR,Ts.size]
 | .cons h x r,pk,i,d=>by
  have ir:=sD hC r pk (i+1) d
  have ix:=sD hC x h.k 0 (aU pk i d)
  have e1:(aH h.l+x.size+1+r.size)*(C+1)=aH h.l*(C+1)+x.size*(C+1)+(C+1)+r.size*(C+1):=by
   rw[Nat.add_mul,Nat.add_mul,Nat.add_mul,Nat.one_mul]
  have e2:aH h.l<=aH h.l*(C+1):=Nat.le_mul_of_pos_right _ (Nat.succ_pos _)
  have e3:(Ts.cons h x r).size=aH h.l+x.size+1+r.size:=by simp only[Ts.size];omega
  rw[e3,e1]
  simp only[eR]
  cases hp:cA y h (aU pk i d) with
  | inl u =>
   have:=J9 hC hp
   unfold Tm.size at this
   simp only[Ts.size]
   omega
  | inr h' =>
   have:=J8 hp
   simp only[Ts.size,this]
   omega
theorem vF{y:Ts}{C:Nat}(hC:∀j,j<y.len->(y.tm j).size<=C)(t:Tm)(d:Nat):(bT y d t).size+1<=(t.size+1)*(C+1):=by
 have:=sD hC t.x t.h.k 0 d
 have e1:(t.size+1)*(C+1)=aH t.h.l*(C+1)+t.x.size*(C+1)+(C+1):=by
  unfold Tm.size;rw[Nat.add_mul,Nat.add_mul,Nat.one_mul]
 have e2:aH t.h.l<=aH t.h.l*(C+1):=Nat.le_mul_of_pos_right _ (Nat.succ_pos _)
 rw[e1]
 simp only[bT]
 cases hp:cA y t.h d with
 | inl u=>have:=J9 hC hp;simp only;omega
 | inr h' =>
  have:=J8 hp
  unfold Tm.size
  simp only[this]
  omega
theorem sR{y:Ts}:∀(m:Nat) (T:Tm) (d:Nat),lT m T->∃d',cM m (bT y d T)=bT y d' (cM m T)
 | 0,T,d,_=>⟨d,rfl⟩
 | m+1,⟨h,x⟩,d,⟨h1,h2,h3⟩=>by
  have h5:h.k=5:=h1
  have e1:bT y d ⟨h,x⟩=⟨h,eR y h.k 0 d x⟩:=by
   simp only[bT,cA]
   rw[if_neg (λ h9=>by rw[h5] at h9;exact absurd h9.1 (by decide))]
  match x,h2,h3 with
  | .cons a p (.cons b q .nil),_,h3 =>
   obtain⟨d',h4⟩:=sR m ⟨b,q⟩ (aU h.k 1 d) h3
   refine⟨d',?_⟩
   rw[e1]
   show cM m ((eR y h.k 0 d (.cons a p (.cons b q .nil))).tm 1)=bT y d' (cM m ⟨b,q⟩)
   rw[<-h4,fD,fD]
   rfl
theorem qG(n f:Int):∀(m:Nat) (T:Tm) (d:Nat),lT m T->(cM m ⟨T.h.lift n f d,T.x.lift n f T.h.k 0 d⟩).size=(cM m T).size
 | 0,T,d,_=>by simp only[cM,Tm.size,wI,kO]
 | m+1,⟨h,x⟩,d,⟨h1,h2,h3⟩=>by
  match x,h2,h3 with
  | .cons a p (.cons b q .nil),_,h3=>exact qG n f m ⟨b,q⟩ (aU h.k 1 d) h3
theorem oB:∀(row:Ts) (t:Tm),cM row.len (aK 5 row t)=t
 | .nil,_=>rfl
 | .cons h x r,t=>oB r t
theorem R1(v:Ts):∀(l:List Ag) (n j:Nat),j<(byT l n v).len->((byT l n v).tm j).size<=v.size
 | [],_,_,h=>by simp[byT,Ts.len] at h
 | a :: r,n,0,_=>L2 a n v
 | a :: r,n,j+1,h=>R1 v r _ j (by simp[byT,Ts.len] at h;omega)
theorem JE(a:Ag)(n:Nat)(v:Ts)(C:Nat)(hC:∀j,j<v.len->(v.tm j).size<=C):(fK a n v).size<=C:=by
 unfold fK
 split
 ·rename_i h;exact hC n h.2
 ·simp[Tm.size,oI,aH,Ts.size]
theorem zG(v:Ts)(C:Nat)(hC:∀j,j<v.len->(v.tm j).size<=C):∀(l:List Ag) (n j:Nat),j<(byT l n v).len->((byT l n v).tm j).size<=C
 | [],_,_,h=>by simp[byT,Ts.len] at h
 | a :: r,n,0,_=>JE a n v C hC
 | a :: r,n,j+1,h=>zG v C hC r _ j (by simp[byT,Ts.len] at h;omega)
theorem W8(g:List Ag)(v:Ts)(far:Int)(i:Nat)(row:Ts)(t:Tm):(fG g v far i row t).size+1<=(t.size+1)*(v.size+1):=by
 have hd:=jU far i _ _ 0 (fT row t)
 obtain⟨d',h1⟩:∃d',cM row.len (bT (byT (g.take i) 0 v) 0 ((aK 5 row t).lift far i))=bT (byT (g.take i) 0 v) d' (cM row.len ((aK 5 row t).lift far i)):=sR (y:=byT (g.take i) 0 v) row.len _ 0 hd
 have h2:(cM row.len ((aK 5 row t).lift far i)).size=(cM row.len (aK 5 row t)).size:=qG far i row.len _ 0 (fT row t)
 rw[oB] at h2
 show (cM row.len (bT (byT (g.take i) 0 v) 0 ((aK 5 row t).lift far i))).size+1<=_
 have h3:=vF (R1 v (g.take i) 0) (cM row.len ((aK 5 row t).lift far i)) d'
 rw[<-h1] at h3
 rw[h2] at h3
 exact h3
theorem M2(g:List Ag)(v:Ts)(C:Nat)(hC:∀j,j<v.len->(v.tm j).size<=C)(far:Int)(i:Nat)(row:Ts)(t:Tm):(fG g v far i row t).size+1<=(t.size+1)*(C+1):=by
 have hd:=jU far i _ _ 0 (fT row t)
 obtain⟨d',h1⟩:∃d',cM row.len (bT (byT (g.take i) 0 v) 0 ((aK 5 row t).lift far i))=bT (byT (g.take i) 0 v) d' (cM row.len ((aK 5 row t).lift far i)):=sR (y:=byT (g.take i) 0 v) row.len _ 0 hd
 have h2:(cM row.len ((aK 5 row t).lift far i)).size=(cM row.len (aK 5 row t)).size:=qG far i row.len _ 0 (fT row t)
 rw[oB] at h2
 show (cM row.len (bT (byT (g.take i) 0 v) 0 ((aK 5 row t).lift far i))).size+1<=_
 have h3:=vF (zG v C hC (g.take i) 0) (cM row.len ((aK 5 row t).lift far i)) d'
 rw[<-h1] at h3
 rw[h2] at h3
 exact h3
def Rl.fits(r:Rl):Prop:=dW r.g/\r.i.fits
theorem eJ(h:Hd)(x r:Ts):(Ts.cons h x r).size=(Tm.size ⟨h,x⟩+1)+r.size:=by simp only[Ts.size,Tm.size];omega
theorem nH(g:List Ag)(v:Ts)(C:Nat)(hC:∀j,j<v.len->(v.tm j).size<=C)(far:Int)(i:Nat):∀q e:Ts,(eM g v far i e q).size<=q.size*(C+1)
 | .nil,_=>by simp[eM,Ts.size]
 | .cons h x q,e=>by
  have h1:Tm.size ⟨(fG g v far i e ⟨h,x⟩).h,(fG g v far i e ⟨h,x⟩).x⟩+1<=_:=M2 g v C hC far i e ⟨h,x⟩
  have h2:=nH g v C hC far i q (e.app (.cons h x .nil))
  simp only[eM]
  rw[eJ,eJ,Nat.add_mul]
  omega
theorem iP(g:List Ag)(M:Nat):∀(l:List Ag) (k n:Nat),n+l.length<=M->(bG g l k n).size<=cF l*(M+1)
 | [],_,_,_=>by simp[bG,Ts.size]
 | a :: r,k,n,hM=>by
  simp only[List.length_cons] at hM
  have e1:cF (a :: r)=(1+a.t.size+a.e.size+a.i.size)+cF r:=by simp[cF]
  rw[e1,Nat.add_mul]
  simp only[bG]
  split
  ·have h2:=iP g M r (k+1) n (by omega)
   omega
  ·have h1:=W8 g (bZ 0 n) n k .nil a.t
   have h2:=iP g M r (k+1) (n+1) (by omega)
   rw[lY] at h1
   have h3:(a.t.size+1)*(n+1)<=(1+a.t.size+a.e.size+a.i.size)*(M+1):=Nat.mul_le_mul (by omega) (by omega)
   rw[eJ]
   show ((jB g k n a).size+1)+_<=_
   change (jB g k n a).size+1<=_ at h1
   omega
end
section
open Go.ChangeShapes Go.WideShapes Go.ChangeAt Go.RowKit
theorem cells4':Tryz.prog.cellsOf 4=1:=by kernel_rfl
theorem LK:Tryz.prog.cellsOf 63=1:=by kernel_rfl
theorem P8:Tryz.prog.cellsOf 82=9:=by kernel_rfl
theorem Q5:Tryz.prog.cellsOf 65=3:=by kernel_rfl
theorem BJ{α:Type}{l:List α}(h:l.length=9):∃a b c d e f g i j,l=[a,b,c,d,e,f,g,i,j]:=by
 obtain⟨a,l,rfl⟩:=List.exists_cons_of_length_pos (l:=l) (by omega)
 obtain⟨b,l,rfl⟩:=List.exists_cons_of_length_pos (l:=l) (by simp at h;omega)
 obtain⟨c,l,rfl⟩:=List.exists_cons_of_length_pos (l:=l) (by simp at h;omega)
 obtain⟨d,l,rfl⟩:=List.exists_cons_of_length_pos (l:=l) (by simp at h;omega)
 obtain⟨e,f,g,i,j,rfl⟩:=mP (l:=l) (by simp at h;omega)
 exact⟨a,b,c,d,e,f,g,i,j,rfl⟩
theorem I9{α:Type}{l:List α}(h:l.length=3):∃a b c,l=[a,b,c]:=by
 obtain⟨a,l,rfl⟩:=List.exists_cons_of_length_pos (l:=l) (by omega)
 obtain⟨b,c,rfl⟩:=zO (l:=l) (by simp at h;omega)
 exact⟨a,b,c,rfl⟩
def MA(a:Ag):Prop:=a.t.fits/\a.e.fits/\a.i.fits
theorem LZ:∀ {ys:List (Ag×Ds×Nat)},(∀y∈ys,y.2.1=bW [y.1]/\MA y.1/\1+y.1.t.size+y.1.e.size+y.1.i.size<=y.2.2) ->
  lE (ys.map λ y=>y.2.1)=bW (ys.map (·.1))/\dW (ys.map (·.1))/\cF (ys.map (·.1))<=(ys.map λ y=>y.2.2).sum
 | [],_=>⟨rfl,λ q hq=>by simp at hq,Nat.zero_le _⟩
 | y :: ys,h=>by
  obtain⟨h1,h2,h3⟩:=LZ (ys:=ys) λ z hz=>h z (List.mem_cons.2 (.inr hz))
  obtain⟨k1,k2,k3⟩:=h y (List.mem_cons.2 (.inl rfl))
  refine⟨?_,λ q hq=>?_,?_⟩
  ·simp only[List.map_cons,lE,k1,h1];rfl
  ·rcases List.mem_cons.1 hq with rfl|hq
   ·exact k2
   ·exact h2 q hq
  ·simp only[cF,List.map_cons,List.sum_cons] at *
   omega
section
variable {H:Type} {enc:TypeId×Value->H} {W W':World}
theorem JD{held:Bool}{n:Nat}{cs:List Value}{x:DataW H×List MemPlace}(h:DataW.trod enc Tryz.prog W 0 (λ _=>true) held n 82 cs=some x)(hz:gS W x.2) :
  ∃a:Ag,MA a/\1+a.t.size+a.e.size+a.i.size<=Rows.uptoBulk x.1/\Vs (U W) W.heap.size (bW [a]) cs:=by
 obtain⟨xs,n',rfl,rfl,hl,hxs,hf⟩:=DataW.trod_struct Tryz.underlying82 h
 rw[P8] at hl
 obtain⟨c0,c1,c2,c3,c4,c5,c6,c7,c8,rfl⟩:=BJ hl
 obtain⟨x0,x1,x2,x3,x4,rfl⟩:=mP hxs
 have h0:DataW.trod enc Tryz.prog W 0 (λ _=>true) held n' 4 (([c0,c1,c2,c3,c4,c5,c6,c7,c8].drop 0).take (Tryz.prog.cellsOf 4))=some x0:=hf 0 _ rfl
 have h1:DataW.trod enc Tryz.prog W 0 (λ _=>true) held n' 26 (([c0,c1,c2,c3,c4,c5,c6,c7,c8].drop 1).take (Tryz.prog.cellsOf 26))=some x1:=hf 1 _ rfl
 have h2:DataW.trod enc Tryz.prog W 0 (λ _=>true) held n' 22 (([c0,c1,c2,c3,c4,c5,c6,c7,c8].drop 6).take (Tryz.prog.cellsOf 22))=some x2:=hf 2 _ rfl
 have h3:DataW.trod enc Tryz.prog W 0 (λ _=>true) held n' 3 (([c0,c1,c2,c3,c4,c5,c6,c7,c8].drop 7).take (Tryz.prog.cellsOf 3))=some x3:=hf 3 _ rfl
 have h4:DataW.trod enc Tryz.prog W 0 (λ _=>true) held n' 22 (([c0,c1,c2,c3,c4,c5,c6,c7,c8].drop 8).take (Tryz.prog.cellsOf 22))=some x4:=hf 4 _ rfl
 rw[cells4'] at h0
 rw[oL] at h1
 rw[oM] at h2 h4
 rw[mR] at h3
 obtain⟨b,e0,rfl⟩:=DataW.trod_bool Tryz.underlying4 h0
 obtain⟨m,e3,rfl,g3⟩:=open_int Tryz.underlying3 h3
 have hz':gS W (x1.2++(x2.2++x4.2)):=by simpa using hz
 obtain⟨z1,hz'⟩:=fC hz'
 obtain⟨z2,z4⟩:=fC hz'
 obtain⟨k,nn,at',v,w,e1,l,t,f1,f2,s1,r1,r2⟩:=gW h1 z1 λ n2 cs2 x2 _ h2 hz2=>eU n2 cs2 x2 h2 hz2
 obtain⟨ve,e2,te,fe,se,re⟩:=eU _ _ _ h2 z2
 obtain⟨vi,e4,ti,fi,si,ri⟩:=eU _ _ _ h4 z4
 cases e0
 cases e1
 cases e2
 cases e3
 cases e4
 refine⟨⟨b,⟨⟨k,nn,at',l⟩,t⟩,te,m,ti⟩,⟨⟨f1,f2⟩,fe,fi⟩,?_,_,rfl,_,rfl,_,rfl,_,rfl,_,_,rfl,r1,_,_,rfl,r2,_,_,rfl,re,_,rfl,_,_,rfl,ri,rfl⟩
 simp[Rows.uptoBulk,Rows.uptoBulkAll,Tm.size]
 omega
theorem DQ{held:Bool}{n:Nat}{cs:List Value}{x:DataW H×List MemPlace}(h:DataW.trod enc Tryz.prog W 0 (λ _=>true) held n 63 cs=some x)(hz:gS W x.2) :
  ∃v,cs=[v]/\∃l:List Ag,dW l/\1+cF l<=Rows.uptoBulk x.1/\Rd (U W) W.heap.size v 9 (bW l) .nil:=by
 obtain⟨v,hv,ys,h1,h2,h3⟩:=gE (α:=Ag) Tryz.underlying63 P8 (by decide) (λ y d s=>d=bW [y]/\MA y/\1+y.t.size+y.e.size+y.i.size<=s) h hz (λ n' cs' x' _ h' hz'=>by
  obtain⟨a,g1,g2,g3⟩:=JD h' hz'
  exact⟨a,_,_,⟨rfl,g1,g2⟩,Nat.le_refl _,g3⟩)
 obtain⟨e1,e2,e3⟩:=LZ h1
 refine⟨v,hv,ys.map (·.1),e2,by omega,?_⟩
 rw[<-e1];exact h3
set_option maxRecDepth 100000
end
end
section
open Go.RowKit
theorem Holds.made{P:Program}{G:World->Prop}{f:Nat}{ps:List AV}{t:Tm}(h:Holds P G f (.list ps) (tmO t)){w:World}{vs:List Value}(hG:G w)(hv:RepV (bE (U w) w) (.list ps) vs):Calls P f vs.toArray w (MakesT t.h t.x w) :=
 (h.2.2 (U w) w vs (λ _ _ _ h=>h) hG hv).mono λ e w' ⟨v,fp,h1,h2,h3,h6,h7⟩=>by
  obtain⟨ys,e,h⟩:=h3
  obtain⟨-,_,rfl,-,_,rfl,-,_,rfl,-,v1,_,rfl,h4,o1,-,v2,_,rfl,h5,o2,rfl⟩:=h
  cases e
  obtain⟨p,n,c,rfl,-⟩:=id h4
  obtain⟨p',n',c',rfl,-⟩:=id h5
  obtain⟨-,S1,w1,n1,m1⟩:=o1 (0,0) rfl
  obtain⟨-,S2,w2,n2,m2⟩:=o2 (0,1) rfl
  obtain⟨_,_,z1,u1,B1,A1,A2,A3,e1,a1,a2,a3,⟨e5,rfl⟩,rfl⟩:=w1
  cases e1
  have hS:∀x,x∈B1++(A1++(A2++[]))->x ∉ S2:=λ x hx hy=>by
   have:=h7 _ _ x (m1 x hx) (m2 x hy)
   cases this
  refine⟨p,n,c,p',n',c',B1++(A1++(A2++S2)),h1,h2,⟨_,rfl,_,rfl,_,rfl,_,_,z1,u1,B1,A1,A2,S2,rfl,a1,a2,a3,w2,rfl⟩,?_⟩
  have e:B1++(A1++(A2++S2))=(B1++(A1++(A2++[])))++S2:=by simp[List.append_assoc]
  rw[e]
  exact List.nodup_append.2 ⟨n1,n2,λ x hx y hy e=>by subst e;exact hS x hx hy⟩
theorem IW(h:Hd)(x y:Ts)(va vy:Value)(w:World)(ha:RM ty w va h x)(hy:RT ty w vy y)(hf:Tm.fits ⟨h,x⟩)(hyf:y.fits)(hs:Tm.size ⟨h,x⟩<=100000000)(hys:y.size<=100000000)(hKA:KA w) :
  Calls Tryz.prog 192 #[va,vy] w (MakesT (bT y 0 ⟨h,x⟩).h (bT y 0 ⟨h,x⟩).x w):=by
 obtain⟨q,c,r,m,rfl,-,-,-,-,hl,hx⟩:=ha.agg
 obtain⟨p,n,cc,rfl,-⟩:=id hy
 obtain⟨w2,hw2⟩:∃w2,((w.alloc (.cells #[.int .i64 h.k,.int .i64 h.n,.int .i64 h.a,.slice q h.l.length c,.slice r x.len m] 26)).alloc (.cells #[.slice p n cc] 22)).alloc (.cells bI 26)=w2:=⟨_,rfl⟩
 have hb2:Below w.heap.size w w2:=by rw[<-hw2];exact aA (aA (aB _ _) (aB _ _)) (aB _ _)
 have hs2:w2.heap.size=w.heap.size+3:=by rw[<-hw2];simp
 have p1:∀o v,(#[.int .i64 h.k,.int .i64 h.n,.int .i64 h.a,.slice q h.l.length c,.slice r x.len m]:Array Value)[o]? = some v->U w2 w.heap.size o=some v:=λ o v hv=>by
  rw[<-hw2]
  exact aD (aB _ _) _ _ _ (by first|(simp;done)|(simp;omega)) (aD (aB _ _) _ _ _ (by first|(simp;done)|(simp;omega)) (aL hv))
 have pn:U w2 (w.heap.size+1) 0=some (.slice p n cc):=by
  have:=aL (w:=w.alloc (.cells #[.int .i64 h.k,.int .i64 h.n,.int .i64 h.a,.slice q h.l.length c,.slice r x.len m] 26)) (cs:=#[.slice p n cc]) (ty:=22) (o:=0) rfl
  rw[World.size_alloc] at this
  rw[<-hw2]
  exact aD (aB _ _) _ _ _ (by first|(simp;done)|(simp;omega)) this
 have p2:∀o v,bI[o]? = some v->U w2 (w.heap.size+1+1) o=some v:=λ o v hv=>by
  have:=aL (w:=(w.alloc (.cells #[.int .i64 h.k,.int .i64 h.n,.int .i64 h.a,.slice q h.l.length c,.slice r x.len m] 26)).alloc (.cells #[.slice p n cc] 22)) (ty:=26) hv
  rw[World.size_alloc,World.size_alloc,hw2] at this
  exact this
 have c0:=aC (p1 0 _ rfl)
 have c1:=aC (p1 1 _ rfl)
 have c2:=aC (p1 2 _ rfl)
 have c3:=aC (p1 3 _ rfl)
 have c4:=aC (p1 4 _ rfl)
 have hGP:GP (w.heap.size+1) y w2:=⟨hKA.on hb2 hKA.1,_,pn,hy.on hb2⟩
 have HC:=hid ((k126 (w.heap.size+1) y hyf hys _ ⟨h,x⟩ 0 (Nat.lt_succ_self _) hf (by omega)).made (w:=w2) (vs:=[.agg #[.int .i64 0,K1 (w.heap.size+1)],.agg #[.int .i64 h.k,.int .i64 h.n,.int .i64 h.a,.slice q h.l.length c,.slice r x.len m]]) hGP ⟨_,_,rfl,⟨_,rfl,rfl,_,rfl,rfl,_,rfl,rfl⟩,_,_,rfl,zS (ha.on hb2),rfl⟩)
 have HB2:=hid hb2
 have HS2:=hid hs2
 have P2:=hid p2
 unfold bI at hw2
 unfold K1 at HC
 have hmf:∀(fn:Fn) (first cap:Array Value) (w:World),(Instr.makeFunc fn first cap).run Tryz.prog w=.ok (.func fn first cap) w:=λ _ _ _ _=>rfl
 clear hl hx ha hf hyf hs hys hb2 hs2 p1 p2 pn hKA hGP hy
 go_enter Tryz.func192,Tryz.ntmps192
 go_wp2_with fail
 refine HC.out.mono ?_
 rintro e wy ⟨s1,n1,d1,s2,n2,d2,S,rfl,hby,ho,hn⟩
 have hlt:w.heap.size+1+1<w2.heap.size:=by have:=HS2.out;omega
 have z2:∀o v,bI[o]? = some v->U wy (w.heap.size+1+1) o=some v:=λ o v hv=>aD hby _ _ _ hlt (P2.out o v hv)
 have m0:=aC (z2 0 _ rfl)
 have m1:=aC (z2 1 _ rfl)
 have m2:=aC (z2 2 _ rfl)
 have m3:=aC (z2 3 _ rfl)
 have m4:=aC (z2 4 _ rfl)
 have o0:=aG (z2 0 _ rfl)
 have o1:=aG (z2 1 _ rfl)
 have o2:=aG (z2 2 _ rfl)
 have o3:=aG (z2 3 _ rfl)
 have o4:=aG (z2 4 _ rfl)
 have HBY:=hid (aA HB2.out hby)
 have HO:=hid ho
 have HN:=hid hn
 have Z2:=hid z2
 generalize bT y 0 ⟨h,x⟩=R at *
 obtain⟨k1,hk1⟩:∃z,R.h.k=z:=⟨_,rfl⟩
 obtain⟨k2,hk2⟩:∃z,R.h.n=z:=⟨_,rfl⟩
 obtain⟨k3,hk3⟩:∃z,R.h.a=z:=⟨_,rfl⟩
 have HK1:=hid hk1
 have HK2:=hid hk2
 have HK3:=hid hk3
 rw[hk1,hk2,hk3] at HO ⊢
 clear hby ho hn z2 c0 c1 c2 c3 c4 hk1 hk2 hk3 hlt hw2
 go_wp2_with fail
 obtain⟨W,hW⟩:∃W,((((wy.setCell ⟨w.heap.size+1+1,0,none⟩ (.int .i64 k1)).setCell ⟨w.heap.size+1+1,1,none⟩ (.int .i64 k2)).setCell ⟨w.heap.size+1+1,2,none⟩ (.int .i64 k3)).setCell ⟨w.heap.size+1+1,3,none⟩ (.slice s1 n1 d1)).setCell ⟨w.heap.size+1+1,4,none⟩ (.slice s2 n2 d2)=W:=⟨_,rfl⟩
 obtain⟨⟨x0,x1,x2,x3,x4⟩,hBF,hkW⟩:=pM Z2.out HBY.out (by omega) hW
 rw[hW]
 refine bodyPost_ret (v:=.agg #[.int .i64 k1,.int .i64 k2,.int .i64 k3,.slice s1 n1 d1,.slice s2 n2 d2]) (by simp[results,Tryz.results192,go_sem,x0,x1,x2,x3,x4]) rfl ⟨s1,n1,d1,s2,n2,d2,S,by rw[HK1.out,HK2.out,HK3.out],hBF,?_,HN.out⟩
 rw[HK1.out,HK2.out,HK3.out]
 exact (HO.out.lower (by have:=HS2.out;omega)).kept λ b hb=>hkW b (by have:=(HO.out.mem b hb).1;have:=HS2.out;omega)
theorem k192(t:Tm)(y:Ts)(hy:y.fits)(hys:y.size<=100000000)(hf:t.fits)(hs:t.size<=100000000):HH 192 [tmL t,tsA none y] (tmO (bT y 0 t)):=by
 refine kF (bO Tryz.func192 (by decide) rfl) λ F w vs hF hG hv=>?_
 obtain⟨u,v,rfl,h1,h2⟩:=lN hv
 exact IW t.h t.x y u v w (kZ hF h1) (kY hF h2) hf hy hs hys hG
end
end Go.Proofs.YtkcmapimcgppmaaGreatDoor
