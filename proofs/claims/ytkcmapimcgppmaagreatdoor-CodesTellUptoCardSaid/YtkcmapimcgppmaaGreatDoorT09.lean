/-
  The program's terms, moved: the call's own, and what follows. Conditions: as each lemma states them.
-/
import Derived.Test.YtkcmapimcgppmaaGreatDoorT08
import Derived.Test.YtkcmapimcgppmaaGreatDoorT05
import Derived.WalkLawsBesides
import Derived.Test.YtkcmapimcgppmaaGreatDoorT07
import Derived.Test.YtkcmapimcgppmaaGreatDoorT06
set_option linter.all false
set_option linter.unusedVariables false
set_option linter.unusedSimpArgs false
set_option linter.unnecessarySimpa false
set_option maxHeartbeats 8000000
set_option maxRecDepth 100000
namespace Go.Proofs.YtkcmapimcgppmaaGreatDoor
section
open Go.RowKit
attribute [local simp] ty_p ty_l ty_t kH tDs bN Tm.ts kI oI ac_skip ac_label ac_region ac_seq ac_cond ac_block ac_loop ac_exit ac_ret seqK_n seqK_r seqK_e vo_nil vo_cons blkK JP oN I8 gA gB lG ev gU fF St.out A7 kX upd dD sU K0 asC oH jO tY lF tD qU pV tb Dc.tk Dc.dp Dc.over Dc.app Dc.ln Dc.ds Dc.sing Dc.cont AV.cont Ds.hd Value.oneCell' DE pP C0 AV.imp Dc.imp φOf dY AV.isLL AV.list AV.app AV.arg AV.isL AV.ren Dc.ren Dc.lent tmC tmA tsA iA lo? abin AV.nth Dc.own Dc.toks bP rI Z6 τOf
attribute [local simp] AV.room R8 agC rH Ds.len Ds.dp
theorem own_kid{w:World}{base:Nat}{h a b:Hd}{p q r:Ts}{us:List Value}{S:List Nat}(ho:Own w base (tDs ty (.cons h (.cons a p (.cons b q r)) .nil)) us S)(hn:S.Nodup) :
  ∃l g n cap vl vk S',us=[.int .i64 h.k,.int .i64 h.n,.int .i64 h.a,l,.slice (some ⟨g,0,none⟩) n cap]/\2<=n/\n<=cap/\w.cell? ⟨g,5,none⟩=some (.int .i64 b.k)/\w.cell? ⟨g,6,none⟩=some (.int .i64 b.n)/\w.cell? ⟨g,7,none⟩=some (.int .i64 b.a)/\w.cell? ⟨g,8,none⟩=some vl/\w.cell? ⟨g,9,none⟩=some vk /\
   Own w base (tDs ty (.cons b q .nil)) [.int .i64 b.k,.int .i64 b.n,.int .i64 b.a,vl,vk] S'/\S'.Nodup/\(∀x∈S',x∈S)/\(∃p n c,vl=Value.slice p n c)/\∃p n c,vk=Value.slice p n c:=by
 obtain⟨_,rfl,_,rfl,_,rfl,l,us,lz,lu,B1,T1,T2,T3,rfl,lo,-,-,⟨k,us',zs,es,B2,A1,A2,A3,rfl,ko,kz,⟨rfl,rfl⟩,⟨rfl,rfl⟩,rfl⟩,rfl⟩:=ho
 rw[List.append_nil] at ko
 have hkl:=kz.len
 obtain⟨_,rfl,_,rfl,_,rfl,l1,_,l1z,l1u,C1,D1,D2,D3,rfl,-,-,-,⟨k1,_,k1z,k1u,C2,E1,E2,E3,rfl,-,-,-,hz,rfl⟩,rfl⟩:=kz
 obtain⟨_,rfl,_,rfl,_,rfl,vl,_,vz,vu,F1,G1,G2,G3,rfl,w1,w2,w3,⟨vk,rs,kz',ku',H1,I1,I2,I3,rfl,w4,w5,w6,w7,rfl⟩,rfl⟩:=hz
 have hx:(tDs ty (.cons a p (.cons b q r))).len=(r.len+2)*5:=by rw[aF];rfl
 rcases ko with ⟨_,-,h0,-⟩|⟨g,n,cap,cur,rfl,rfl,hg,hb,hnc,hcl,hcs,hm,hle,hle2,htk⟩
 ·rw[hx] at h0;omega
 ·have cell:=eH hb htk
  have one:∀ {x s:Ds} {v:Value} {sz e m:Nat} {xs:List Value} {B:List Nat},RowO w base sz e v m xs B->∃p n c,v=Value.slice p n c:=λ h=>by
   rcases h with ⟨_,rfl,-⟩|⟨_,_,_,_,-,rfl,-⟩<;>exact⟨_,_,_,rfl⟩
  have sub:((F1++(G1++(G2++(H1++(I1++(I2++[])))))).Sublist (F1++(G1++(G2++(H1++(I1++(I2++I3))))))):=by
   refine (List.Sublist.refl _).append ((List.Sublist.refl _).append ((List.Sublist.refl _).append ((List.Sublist.refl _).append ((List.Sublist.refl _).append ((List.Sublist.refl _).append (List.nil_sublist _))))))
  have sub2:(F1++(G1++(G2++(H1++(I1++(I2++[])))))).Sublist (B1++(T1++(T2++([g]++((C1++(D1++(D2++(C2++(E1++(E2++(F1++(G1++(G2++(H1++(I1++(I2++I3))))))))))))++([]++[])))))):=by
   refine List.Sublist.trans ?_ (List.sublist_append_right _ _)
   refine List.Sublist.trans ?_ (List.sublist_append_right _ _)
   refine List.Sublist.trans ?_ (List.sublist_append_right _ _)
   refine List.Sublist.trans ?_ (List.sublist_append_right _ _)
   refine List.Sublist.trans ?_ (List.sublist_append_left _ _)
   refine List.Sublist.trans ?_ (List.sublist_append_right _ _)
   refine List.Sublist.trans ?_ (List.sublist_append_right _ _)
   refine List.Sublist.trans ?_ (List.sublist_append_right _ _)
   refine List.Sublist.trans ?_ (List.sublist_append_right _ _)
   refine List.Sublist.trans ?_ (List.sublist_append_right _ _)
   refine List.Sublist.trans ?_ (List.sublist_append_right _ _)
   exact sub
  refine⟨l,g,n,cap,vl,vk,_,rfl,by rw[hx] at hm;omega,hnc,?_,?_,?_,?_,?_,⟨_,rfl,_,rfl,_,rfl,vl,_,vz,vu,F1,G1,G2,_,rfl,w1,w2,w3,⟨vk,_,kz',ku',H1,I1,I2,[],rfl,w4,w5,w6,⟨rfl,rfl⟩,rfl⟩,rfl⟩,?_,λ x hx=>sub2.subset hx,one (x:=.nil) (s:=.nil) w1,one (x:=.nil) (s:=.nil) w4⟩
  ·have:=aC (cell 5 _ rfl);simpa using this
  ·have:=aC (cell 6 _ rfl);simpa using this
  ·have:=aC (cell 7 _ rfl);simpa using this
  ·have:=aC (cell 8 _ rfl);simpa using this
  ·have:=aC (cell 9 _ rfl);simpa using this
  ·exact sub2.nodup hn
abbrev zC:Dc:=.lit (.int .i64 0) (.lit (.int .i64 0) (.lit (.int .i64 0) (.nilr 1 43 (.nilr 5 26 .nil))))
def sa111(r:Rl)(v:Ts)(far:Int)(i:Nat)(row:Ts)(t:Tm):St:=bP [(1,iA i),(2,tsA none row),(4,.bx 5 0),(7,.bx 8 0),(8,.bx 9 0)] [(5,150,mvC r v far),(8,26,tmC none none t.h t.x),(9,26,zC)] []
def sb111(row:Ts)(P:Tm):St:=bP [(2,tsA none row),(8,.bx 9 0),(9,.bx 10 0)] [(9,26,zC),(10,26,tmC (some (21,0)) (some (21,1)) P.h P.x)] [(21,0)]
theorem Box.U{w:World}{b T:Nat}{cs:Array Value}(h:Box w b T cs):∀o v,cs[o]? = some v->U w b o=some v:=λ o v hv=>kM (h.cell hv) (by have h':w.heap[b]? = _:=h;simp[World.frozen?,h'])
theorem k111(r:Rl)(i:Nat)(row:Ts)(t:Tm)(v:Ts)(far:Int)(hi:i<=r.g.length)(hl:r.g.length<=100000000)(hv:v.len<=100000000)(hr:row.fits)(hrs:row.size<=100000000)(ht:t.fits)(hts:t.size<=100000000)
  (hA:(aK 5 row t).fits) (hAs:(aK 5 row t).size<=100000000) (hL:((aK 5 row t).lift far i).fits) (hLs:((aK 5 row t).lift far i).size<=100000000) (hB:(byT (r.g.take i) 0 v).fits) (hBs:(byT (r.g.take i) 0 v).size<=100000000) :
  HH 111 [.agg (mvC r v far),iA i,tsA none row,tmL t] (tmO (fG r.g v far i row t)):=by
 refine kF (bO Tryz.func111 (by decide) rfl) λ F w vs hF hG hvs=>?_
 have hrl:row.len<=100000000:=Nat.le_trans (len_le_size row) hrs
 have d0:row.len*5 / 5=row.len:=by omega
 have hdeep:lT row.len (bT (byT (r.g.take i) 0 v) 0 ((aK 5 row t).lift far i)):=rK _ _ _ _ (jU far i _ _ 0 (fT row t))
 have hres:fG r.g v far i row t=cM row.len (bT (byT (r.g.take i) 0 v) 0 ((aK 5 row t).lift far i)):=rfl
 have q1:=k162 row t hr hrs ht hts
 have q2:=h60 (aK 5 row t) far i hA hAs
 have q3:=k193 r v far i hi hl hv
 have q4:=k192 ((aK 5 row t).lift far i) (byT (r.g.take i) 0 v) hB hBs hL hLs
 rw[hres]
 clear hres hA hAs hL hLs hB hBs
 generalize bT (byT (r.g.take i) 0 v) 0 ((aK 5 row t).lift far i)=P at *
 generalize (aK 5 row t).lift far i=L at *
 generalize byT (r.g.take i) 0 v=B at *
 generalize aK 5 row t=A at *
 have hs:=yH (N:=31) hG (RepV.mv (g:=bE F w) (g':=bE (U w) w) hF (Nat.le_refl _) (.inl rfl) rfl hvs) (by simp) (λ a ha=>AV.bare_ok (by simp at ha;rcases ha with rfl|rfl|rfl|rfl<;>rfl) _ _)
 clear hvs hF
 refine calls_of_wp Tryz.func111 rfl ?_
 refine iG qA iD mixed (st':=sa111 r v far i row t) hs ?_ (λ a1 w1 hs1=>?_)
 ·clear hs
  simp[toK,mvC]
  refine aI [] ?_ ?_ ?_<;>simp[AV.ok,Dc.ok,mvC]
 refine iG qA iD mixed (st':=sb111 row P) hs1 ?_ (λ a2 w2 hs2=>?_)
 ·clear hs hs1
  simp[sa111,mvC]
  refine⟨by kernel_rfl,?_⟩
  refine aE q1 ?_ ?_ ?_<;>simp
  refine aE q2 ?_ ?_ ?_<;>simp
  refine aE q3 ?_ ?_ ?_<;>simp[mvC]
  refine aE q4 ?_ ?_ ?_<;>simp[toK]
  refine aI [((21,0),[(21,0)]),((21,1),[(21,1)])] ?_ ?_ ?_<;>simp[AV.ok,Dc.ok]
 clear hs1 hs q1 q2 q3 q4
 obtain⟨g,rfl,hI,hbx,hτ,hbase,hF0,hsl⟩:=hs2.gh
 have bB:=hs2.below
 obtain⟨x9,b9,q9⟩:=oU hI (k:=9) (T:=26) (d:=zC) (by rw[hbx];rfl)
 obtain⟨x10,b10,q10⟩:=oU hI (k:=10) (T:=26) (d:=tmC (some (21,0)) (some (21,1)) P.h P.x) (by rw[hbx];rfl)
 obtain⟨S,hown,hnd,hS⟩:=B6 hI q10 (by simp only[tmC,Dc.own,hτ];simp) (by simp only[tmC,Dc.toks];decide)
 have k9:w.heap.size<=g.B 9:=hbase ▸ (hI.box 9 26 zC (by rw[hbx];rfl)).1
 have k10:w.heap.size<=g.B 10:=hbase ▸ (hI.box 10 26 _ (by rw[hbx];rfl)).1
 have hne:g.B 10≠g.B 9:=λ e=>by
  have:=hI.inj 10 9 (by rw[hbx];exact Option.some_ne_none _) (by rw[hbx];exact Option.some_ne_none _) e
  omega
 have nS:∀b∈S,b≠g.B 10/\b≠g.B 9:=λ b hb=>by
  obtain⟨tk,-,h1,h2⟩:=hS b hb
  have h3:=(hI.fpb tk.1 tk.2 b h1 h2).2.2
  exact⟨h3 10 (by rw[hbx];exact Option.some_ne_none _),h3 9 (by rw[hbx];exact Option.some_ne_none _)⟩
 rw[hbase] at hown
 have s8:a2.tmps.getD 8 undef=.pointer (some ⟨g.B 9,0,none⟩):=by have:=(hsl 8 (by decide)).1;simpa using this
 have s9:a2.tmps.getD 9 undef=.pointer (some ⟨g.B 10,0,none⟩):=by have:=(hsl 9 (by decide)).1;simpa using this
 obtain⟨p2,c2,s2⟩:∃p c,a2.tmps.getD 2 undef=.slice p row.len c:=by
  obtain⟨-,v2,_,e2,⟨p,n,c,e3,h3,-⟩,-,-⟩:=hsl 2 (by decide)
  cases e2
  rw[aF] at h3
  obtain rfl:n=row.len:=by omega
  exact⟨p,c,e3⟩
 have hsz:=hs2.size
 have hdf:=hs2.defers
 obtain rfl:x9=[.int .i64 0,.int .i64 0,.int .i64 0,.slice none 0 0,.slice none 0 0]:=by
  obtain⟨-,_,rfl,-,_,rfl,-,_,rfl,_,rfl,_,rfl,rfl⟩:=q9
  rfl
 obtain⟨q,m,d,q',m',d',rfl⟩:=lit5 q10
 have X9:=hid b9.U
 have X10:=hid b10.U
 have HO:=hid hown
 have HND:=hid hnd
 have HNS:=hid nS
 have HBB:=hid bB
 have HDP:=hid hdeep
 have HK:=hid (And.intro k9 k10)
 obtain⟨tmps,defers⟩:=a2
 obtain rfl:defers=[]:=hdf
 clear hs2 hI hbx hτ hbase hF0 hsl q9 q10 hS hown hnd nS b9 b10 bB hdeep k9 k10 hr hrs ht hts hi hl hv hG
 have e1:tmps=#[tmps.getD 0 undef,tmps.getD 1 undef,tmps.getD 2 undef,tmps.getD 3 undef,tmps.getD 4 undef,tmps.getD 5 undef,tmps.getD 6 undef,tmps.getD 7 undef,tmps.getD 8 undef,tmps.getD 9 undef,tmps.getD 10 undef,tmps.getD 11 undef,tmps.getD 12 undef,tmps.getD 13 undef,tmps.getD 14 undef,tmps.getD 15 undef,tmps.getD 16 undef,tmps.getD 17 undef,tmps.getD 18 undef,tmps.getD 19 undef,tmps.getD 20 undef,tmps.getD 21 undef,tmps.getD 22 undef,tmps.getD 23 undef,tmps.getD 24 undef,tmps.getD 25 undef,tmps.getD 26 undef,tmps.getD 27 undef,tmps.getD 28 undef,tmps.getD 29 undef,tmps.getD 30 undef]:=CM hsz
 clear hsz
 simp only at s8 s9 s2
 generalize tmps.getD 0 undef=x0 at *
 generalize tmps.getD 1 undef=x1 at *
 generalize tmps.getD 2 undef=x2 at *
 generalize tmps.getD 3 undef=x3 at *
 generalize tmps.getD 4 undef=x4 at *
 generalize tmps.getD 5 undef=x5 at *
 generalize tmps.getD 6 undef=x6 at *
 generalize tmps.getD 7 undef=x7 at *
 generalize tmps.getD 8 undef=x8 at *
 generalize tmps.getD 9 undef=x9 at *
 generalize tmps.getD 10 undef=x10 at *
 generalize tmps.getD 11 undef=x11 at *
 generalize tmps.getD 12 undef=x12 at *
 generalize tmps.getD 13 undef=x13 at *
 generalize tmps.getD 14 undef=x14 at *
 generalize tmps.getD 15 undef=x15 at *
 generalize tmps.getD 16 undef=x16 at *
 generalize tmps.getD 17 undef=x17 at *
 generalize tmps.getD 18 undef=x18 at *
 generalize tmps.getD 19 undef=x19 at *
 generalize tmps.getD 20 undef=x20 at *
 generalize tmps.getD 21 undef=x21 at *
 generalize tmps.getD 22 undef=x22 at *
 generalize tmps.getD 23 undef=x23 at *
 generalize tmps.getD 24 undef=x24 at *
 generalize tmps.getD 25 undef=x25 at *
 generalize tmps.getD 26 undef=x26 at *
 generalize tmps.getD 27 undef=x27 at *
 generalize tmps.getD 28 undef=x28 at *
 generalize tmps.getD 29 undef=x29 at *
 generalize tmps.getD 30 undef=x30 at *
 subst e1
 subst s8 s9 s2
 generalize g.w=W0 at *
 generalize g.B 9=B9 at *
 generalize g.B 10=B10 at *
 go_wp2_with fail
 go_loopw [23] (λ i wr=>∃(k:Nat) (u3 u4:Value) (S:List Nat),k<=row.len/\i=.int .i64 k/\Below w.heap.size w wr/\(∀o v,bI[o]? = some v->U wr B9 o=some v) /\
  (∀o v,(#[.int .i64 (cM k P).h.k,.int .i64 (cM k P).h.n,.int .i64 (cM k P).h.a,u3,u4]:Array Value)[o]? = some v->U wr B10 o=some v) /\
  Own wr w.heap.size (tDs ty (cM k P).ts) [.int .i64 (cM k P).h.k,.int .i64 (cM k P).h.n,.int .i64 (cM k P).h.a,u3,u4] S/\S.Nodup/\(∀b∈S,b≠B10/\b≠B9)) (λ i _=>row.len-(intOf i).toNat)
 case atStart=>exact⟨0,_,_,S,Nat.zero_le _,rfl,HBB.out,X9.out,X10.out,HO.out,HND.out,HNS.out⟩
 case round =>
  obtain⟨k,u3,u4,S',hk,rfl,hB,hZ,hX,hO,hN,hNS⟩:=hrel
  clear HO HND HNS X9 X10 HBB
  by_cases hlt:k<row.len
  ·have r1:decide ((k:Int)<(row.len:Int))=true:=decide_eq_true (by omega)
   have h1:=qI k (row.len-k-1+1) P (by rw[show k+(row.len-k-1+1)=row.len by omega];exact HDP.out)
   have h2:=qF k P
   generalize hI:cM k P=I at *
   generalize hJ:cM (k+1) P=J at *
   obtain⟨ih,ix⟩:=I
   obtain⟨-,h3,-⟩:=h1
   match ix,h3,h2,hI with
   | .cons a pp (.cons b qq .nil),_,h2,hI =>
    obtain⟨l,g',n,cap,vl,vk,S2,e,hn2,hnc,c5,c6,c7,c8,c9,hO2,hN2,hsub,⟨z1,z2,z3,rfl⟩,z4,z5,z6,rfl⟩:=own_kid hO hN
    simp only[List.cons.injEq,true_and,and_true] at e
    obtain⟨rfl,rfl⟩:=e
    have i1:(1:Int)<(n:Int):=by omega
    have f4:=aC (hX 4 _ rfl)
    have f3:=aC (hX 3 _ rfl)
    have f2:=aC (hX 2 _ rfl)
    have f1:=aC (hX 1 _ rfl)
    have f0:=aC (hX 0 _ rfl)
    have y4:=aG (hX 4 _ rfl)
    have y3:=aG (hX 3 _ rfl)
    have y2:=aG (hX 2 _ rfl)
    have y1:=aG (hX 1 _ rfl)
    have y0:=aG (hX 0 _ rfl)
    have HX:=hid hX
    have HZ:=hid hZ
    have HB:=hid hB
    have HO2:=hid hO2
    have HN2:=hid hN2
    have HS:=hid λ x hx=>hNS x (hsub x hx)
    have HJ:=hid hJ
    have H2:=hid h2
    simp only at f0 f1 f2 f3 f4 y0 y1 y2 y3 y4
    clear hX hZ hB hO2 hN2 hsub hNS hJ h2 hO hN hI
    go_wp2_with fail
    obtain⟨W,hW⟩:∃W,((((wr.setCell ⟨B10,0,none⟩ (.int .i64 b.k)).setCell ⟨B10,1,none⟩ (.int .i64 b.n)).setCell ⟨B10,2,none⟩ (.int .i64 b.a)).setCell ⟨B10,3,none⟩ (.slice z1 z2 z3)).setCell ⟨B10,4,none⟩ (.slice z4 z5 z6)=W:=⟨_,rfl⟩
    obtain⟨a0,a1,a2,a3,a4,hkW⟩:=oF (HX.out 0 _ rfl) (HX.out 1 _ rfl) (HX.out 2 _ rfl) (HX.out 3 _ rfl) (HX.out 4 _ rfl) hW
    have hBW:Below w.heap.size w W:=by
     rw[<-hW]
     exact (((((HB.out.setCell (p:=⟨B10,0,none⟩) HK.out.2 _).setCell (p:=⟨B10,1,none⟩) HK.out.2 _).setCell (p:=⟨B10,2,none⟩) HK.out.2 _).setCell (p:=⟨B10,3,none⟩) HK.out.2 _).setCell (p:=⟨B10,4,none⟩) HK.out.2 _)
    rw[hW]
    clear hW
    have hJJ:cM (k+1) P=⟨b,qq⟩:=HJ.out.trans H2.out
    go_roundw
    case rel =>
     refine⟨k+1,.slice z1 z2 z3,.slice z4 z5 z6,S2,by omega,by go_num,hBW,λ o v hv=>?_,?_,?_,HN2.out,HS.out⟩
     ·rw[dK (hkW B9 hne.symm)];exact HZ.out o v hv
     ·rw[hJJ]
      intro o v hv
      rcases o with _|_|_|_|_|o
      ·cases hv;exact a0
      ·cases hv;exact a1
      ·cases hv;exact a2
      ·cases hv;exact a3
      ·cases hv;exact a4
      ·simp at hv
     ·rw[hJJ]
      exact HO2.out.kept λ x hx=>hkW x (HS.out x hx).1
    case measure=>simp[intOf];omega
  ·obtain rfl:k=row.len:=by omega
   have r1:decide ((row.len:Int)<(row.len:Int))=false:=decide_eq_false (by omega)
   have f4:=aC (hX 4 _ rfl)
   have f3:=aC (hX 3 _ rfl)
   have f2:=aC (hX 2 _ rfl)
   have f1:=aC (hX 1 _ rfl)
   have f0:=aC (hX 0 _ rfl)
   have y4:=aG (hZ 4 _ rfl)
   have y3:=aG (hZ 3 _ rfl)
   have y2:=aG (hZ 2 _ rfl)
   have y1:=aG (hZ 1 _ rfl)
   have y0:=aG (hZ 0 _ rfl)
   have g4:=aC (hZ 4 _ rfl)
   have g3:=aC (hZ 3 _ rfl)
   have g2:=aC (hZ 2 _ rfl)
   have g1:=aC (hZ 1 _ rfl)
   have g0:=aC (hZ 0 _ rfl)
   obtain⟨z1,z2,z3,rfl⟩:∃p n c,u3=Value.slice p n c:=by
    obtain⟨_,e,_,e2,_,e3,v',_,_,_,_,_,_,_,e4,ro,-⟩:=hO
    cases e;cases e2;cases e3;cases e4
    rcases ro with ⟨_,rfl,-⟩|⟨_,_,_,_,-,rfl,-⟩<;>exact⟨_,_,_,rfl⟩
   obtain⟨z4,z5,z6,rfl⟩:∃p n c,u4=Value.slice p n c:=by
    obtain⟨_,e,_,e2,_,e3,v',_,_,_,_,_,_,_,e4,-,-,-,⟨_,_,_,_,_,_,_,_,e5,ro,-⟩,-⟩:=hO
    cases e;cases e2;cases e3;cases e4;cases e5
    rcases ro with ⟨_,rfl,-⟩|⟨_,_,_,_,-,rfl,-⟩<;>exact⟨_,_,_,rfl⟩
   have HZ:=hid hZ
   have HB:=hid hB
   have HO:=hid hO
   have HN:=hid hN
   have HS:=hid hNS
   generalize cM row.len P=I at *
   obtain⟨⟨k1,k2,k3,il⟩,ix⟩:=I
   clear hX hZ hB hO hN hNS
   go_wp2_with fail
   obtain⟨W,hW⟩:∃W,((((wr.setCell ⟨B9,0,none⟩ (.int .i64 k1)).setCell ⟨B9,1,none⟩ (.int .i64 k2)).setCell ⟨B9,2,none⟩ (.int .i64 k3)).setCell ⟨B9,3,none⟩ (.slice z1 z2 z3)).setCell ⟨B9,4,none⟩ (.slice z4 z5 z6)=W:=⟨_,rfl⟩
   obtain⟨⟨a0,a1,a2,a3,a4⟩,hBF,hkW⟩:=pM HZ.out HB.out HK.out.1 hW
   rw[hW]
   refine bodyPost_ret (v:=.agg #[.int .i64 k1,.int .i64 k2,.int .i64 k3,.slice z1 z2 z3,.slice z4 z5 z6]) (by simp[results,Tryz.results111,go_sem,a0,a1,a2,a3,a4]) rfl ⟨z1,z2,z3,z4,z5,z6,S',rfl,hBF,?_,HN.out⟩
   exact HO.out.kept λ x hx=>hkW x (HS.out x hx).2
def st37(r:Rl)(k:Nat):St:=bP [(1,.bx 2 0),(2,.c (.blk 31 (aQ (r.g.take k)+1) 5 26 (.seg (some (100,0)) (tDs ty (bG r.g (r.g.take k) 0 0)) .nil) .nil)),(7,.c (.row none 9 82 (bW r.g) .nil)),(8,iA r.g.length),(9,iA k)] [(2,65,rlC r)] [(31,aQ (r.g.take k)+1),(100,0)]
theorem k37(r:Rl)(hl:r.g.length<=500)(hs:cF r.g<=100000000)(hf:dW r.g):HH 37 [rlL r] (tsA (some (0,0)) (bG r.g r.g 0 0)):=by
 refine ab Tryz.func37 Tryz.ntmps37 Tryz.results37 rfl (by decide) (by simp) rfl rfl ?_
 have d0:r.g.length*9 / 9=r.g.length:=by omega
 simp[rlL,rlC]
 refine lp (α:={ k:Nat // k<=r.g.length }) (λ k=>st37 r k.1) (λ k=>r.g.length-k.1) ⟨0,Nat.zero_le _⟩ ?_ ?_
 ·refine aI [((31,0),[(31,0)])] ?_ ?_ ?_<;>simp[AV.ok,Dc.ok,rlC,bG,aQ,aT,d0]
 ·rintro⟨k,hk⟩
  have hw:IntKind.i64.wrap ((k:Int)+1)=k+1:=by rw[IntKind.wrap_i64];omega
  by_cases hlt:k<r.g.length
  ·have h1:=kJ hlt
   have hsz:=jH hlt
   have hfa:=hf _ (List.getElem_mem hlt)
   have hpl:=oW (r.g.take k)
   have htl:(r.g.take k).length=k:=by rw[List.length_take];omega
   have e1:bG r.g (r.g.take (k+1)) 0 0=(bG r.g (r.g.take k) 0 0).app (bG r.g [r.g[k]] k (aQ (r.g.take k))):=by
    rw[iK hlt,mD,htl,Nat.zero_add,Nat.zero_add]
   have e2:aQ (r.g.take (k+1))=aQ (r.g.take k)+aQ [r.g[k]]:=by rw[iK hlt,gD]
   have hbl:=mC r.g (r.g.take k) 0 0
   rw[htl] at hpl
   generalize hB1:bG r.g (r.g.take (k+1)) 0 0=B1 at *
   generalize hN1:aQ (r.g.take (k+1))=N1 at *
   generalize hB:bG r.g (r.g.take k) 0 0=B at *
   generalize hN:aQ (r.g.take k)=N at *
   generalize hq:r.g.drop (k+1)=q at h1
   generalize ha:r.g[k]=a at *
   have db:B.len*5 / 5=N:=by rw[hbl];omega
   have dz:(B.len:Int)*5 / 5=N:=by rw[hbl];omega
   cases hr:a.r with
   | true =>
    have e4:aQ [a]=0:=by simp[aQ,hr]
    have e5:bG r.g [a] k N=.nil:=by simp[bG,hr]
    rw[e5,Ts.app_nil] at e1
    rw[e4,Nat.add_zero] at e2
    simp[st37,rlC,aT,d0,hlt,h1,bW,hr,hB,hN,aF,db,dz]
    refine⟨by omega,k+1,by omega,by omega,?_⟩
    refine aI [((31,0),[(31,0)]),((100,0),[(100,0)])] ?_ ?_ ?_<;>simp[AV.ok,Dc.ok,hw,rlC,hB1,hN1,hB,hN,e1,e2,Ds.app_nil]
   | false =>
    have e4:aQ [a]=1:=by simp[aQ,hr]
    have e5:bG r.g [a] k N=.cons (jB r.g k N a).h (jB r.g k N a).x .nil:=by simp[bG,hr]
    rw[e5] at e1
    rw[e4] at e2
    have hby:=rP (bZ 0 N) (r.g.take k) 0
    rw[htl,lY] at hby
    have hb3:k*(N+1)<=500*501:=Nat.mul_le_mul (by omega) (by omega)
    have q0:=k110 N (by omega)
    have q1:=k111 r k .nil a.t (bZ 0 N) N (by omega) (by omega) (by rw[dL];omega) trivial (by simp[Ts.size]) hfa.1 (by omega) (eC trivial hfa.1) (Nat.le_trans (gH _ _) (by simp only[Ts.size];omega)) (gO _ _ (eC trivial hfa.1)) (by rw[jS];exact Nat.le_trans (gH _ _) (by simp only[Ts.size];omega)) (pJ (lZ N) _ _) (by omega)
    change HH 111 _ (tmO (jB r.g k N a)) at q1
    generalize jB r.g k N a=P at *
    simp[st37,rlC,aF,aT,d0,hlt,h1,bW,hr,hB,hN,db,dz,Ds.app_nil]
    refine⟨by omega,by kernel_rfl,?_⟩
    refine aE q0 ?_ ?_ ?_<;>simp
    refine aE q1 ?_ ?_ ?_<;>simp[mvC]
    refine⟨by rw[aF];omega,k+1,by omega,by omega,?_⟩
    refine aI [((31,0),[(31,0)]),((100,0),[(100,0),(29,0),(29,1)])] ?_ ?_ ?_<;>simp[AV.ok,Dc.ok,hw,rlC,hB1,hN1,e2]
    rw[e1,bC];rfl
  ·obtain rfl:k=r.g.length:=by omega
   simp[st37,rlC,aT,d0,Ds.app_nil]
   exact⟨[((0,0),[(31,0),(100,0)])],by simp⟩
def M1(r:Rl)(v:Ts)(far:Int):Ds:=.lit (.int .i64 r.m) (.row 9 82 (bW r.g) .nil (.row 5 26 (tDs ty r.i) .nil (.row 5 26 (tDs ty v) .nil (.lit (.int .i64 far) .nil))))
theorem k114(r:Rl)(v:Ts)(far:Int)(i:Nat)(hi:i<r.g.length)(hl:r.g.length<=500):HH 114 [.agg (mvC r v far),iA i] (agL r.g[i]):=by
 have h1:=kJ hi
 have dg:r.g.length*9 / 9=r.g.length:=by omega
 have h0:¬(i:Int)<0:=by omega
 have hi2:¬r.g.length<=i:=by omega
 generalize r.g.drop (i+1)=qq at h1
 generalize r.g[i]=b at *
 refine ab Tryz.func114 Tryz.ntmps114 Tryz.results114 rfl (by decide) (by simp) rfl rfl ?_
 simp[mvC,h0,aT,dg,hi,hi2,h1,bW]
 refine⟨by omega,[],by simp[agL]⟩
def II(r:Rl)(v:Ts)(far:Int)(i:Nat)(e a:Ts):St:=bP [(0,.el (M1 r v far)),(1,.el (.lit (.int .i64 i) .nil)),(2,.c (.blk 27 (a.len+1) 5 26 (.seg (some (100,0)) (tDs ty (eM r.g v far i .nil a)) .nil) .nil)),(3,tsA none e),(10,tsA none e),(11,iA e.len),(12,iA a.len)] [] [(27,a.len+1),(100,0)]
theorem k113(r:Rl)(v:Ts)(far:Int)(i:Nat)(hi:i<r.g.length)(hl:r.g.length<=500)(hs:cF r.g<=30000000)(hf:dW r.g)(hv:v.fits)(hsz:i*(v.size+1)<=100000000)(hvs:v.size<=100000000) :
  HH 113 [.el (M1 r v far),.el (.lit (.int .i64 i) .nil)] (tsA (some (0,0)) (eM r.g v far i .nil r.g[i].e)):=by
 have h1:=kJ hi
 have hsa:=jH hi
 have ka:=k114 r v far i hi hl
 obtain⟨f1,f2,f3⟩:=hf _ (List.getElem_mem hi)
 have hvl:v.len<=100000000:=Nat.le_trans (len_le_size v) hvs
 have hby:=rP v (r.g.take i) 0
 rw[List.length_take,show min i r.g.length=i by omega] at hby
 generalize r.g.drop (i+1)=qq at h1
 generalize r.g[i]=b at *
 have hil:b.e.len<=100000000:=Nat.le_trans (len_le_size b.e) (by omega)
 have d0:b.e.len*5 / 5=b.e.len:=by omega
 refine ab Tryz.func113 Tryz.ntmps113 Tryz.results113 rfl (by decide) (by simp) rfl rfl ?_
 simp[M1]
 refine aE ka ?_ ?_ ?_<;>simp[mvC,agL]
 refine lp (α:={ q:Ts×Ts // q.1.app q.2=b.e }) (λ q=>II r v far i b.e q.1.1) (λ q=>q.1.2.len) ⟨(.nil,b.e),rfl⟩ ?_ ?_
 ·refine aI [((27,0),[(27,0)])] ?_ ?_ ?_<;>simp[AV.ok,Dc.ok,eM,Ts.len,M1,aF,d0]
 ·rintro⟨⟨a,q⟩,hq⟩
  simp only at hq
  cases q with
  | nil =>
   have e:a=b.e:=by rw[<-hq];exact (Ts.app_nil a).symm
   rw[<-e] at d0
   simp[II,aF,d0,<-e,Ds.app_nil]
   exact⟨[((0,0),[(27,0),(100,0)])],by simp⟩
  | cons h y q =>
   have h3:a.len<b.e.len:=by rw[<-hq];simp[Ts.app_len,Ts.len]
   have h2:(tDs ty b.e).dp (a.len*5)=tDs ty (.cons h y q):=by rw[<-hq];exact fA a _
   have h6:(tDs ty b.e).tk (a.len*5)=tDs ty a:=by rw[<-hq];exact GD a _
   have h4:h.fits/\y.fits:=dR (a:=a) (by rw[hq];exact f2)
   have h5:aH h.l+y.size+1<=b.e.size:=by rw[<-hq];exact app_size
   have h7:a.fits/\a.size<=b.e.size:=by
    have hfa:∀(a r:Ts),(a.app r).fits->a.fits:=λ a=>by
     induction a with
     | nil=>intro _ _;trivial
     | cons h x a _ ih=>intro r h9;exact⟨h9.1,h9.2.1,ih r h9.2.2⟩
    have e9:b.e.size=a.size+(Ts.cons h y q).size:=by rw[<-hq,fO]
    exact⟨hfa a _ (by rw[hq];exact f2),by omega⟩
   have hw:IntKind.i64.wrap ((a.len:Int)+1)=a.len+1:=by rw[IntKind.wrap_i64];omega
   have hts:(⟨h,y⟩:Tm).size<=30000000:=by unfold Tm.size;simp only;omega
   have hab:=gH a ⟨h,y⟩
   have q1:=k111 r i a ⟨h,y⟩ v far (by omega) (by omega) hvl h7.1 (by omega) h4 (by omega) (eC h7.1 h4) (by omega) (gO _ _ (eC h7.1 h4)) (by rw[jS];omega) (pJ hv _ _) (by omega)
   have e1:eM r.g v far i .nil (a.app (.cons h y .nil))=(eM r.g v far i .nil a).app (.cons (fG r.g v far i a ⟨h,y⟩).h (fG r.g v far i a ⟨h,y⟩).x .nil):=by rw[rU];rfl
   generalize fG r.g v far i a ⟨h,y⟩=P at *
   simp[II,aF,d0,h3,h2,h6,M1]
   refine⟨by omega,by kernel_rfl,by omega,?_⟩
   refine aE q1 ?_ ?_ ?_<;>simp[mvC]
   refine⟨by rw[aF,rT];omega,a.app (.cons h y .nil),q,by simp[Ts.len],by rw[Ts.app_assoc];exact hq,?_⟩
   refine aI [((27,0),[(27,0)]),((100,0),[(100,0),(25,0),(25,1)])] ?_ ?_ ?_<;>simp[Ts.len,Ts.app_len,AV.ok,Dc.ok,hw,e1,M1]
   rw[bC];rfl
theorem vH:∀(n:Nat) (t:Tm),2*(dQ n t).size<=n*(2*t.size+n+3)
 | 0,t=>by simp[dQ,Ts.size]
 | 1,t=>by
  have:(dQ 1 t).size=1+t.size:=bA t
  omega
 | n+2,t=>by
  have ih:=vH (n+1) ⟨kH 15,t.ts⟩
  rw[nZ] at ih
  have e0:(dQ (n+2) t).size=1+0+(1+t.size)+(dQ (n+1) ⟨kH 15,t.ts⟩).size:=by rw[<-bA];rfl
  rw[e0]
  have e1:(n+2)*(2*t.size+(n+2)+3)=2*(t.size+2)+(n+1)*(2*(t.size+1)+(n+1)+3):=by
   obtain⟨S,hS⟩:∃S,t.size=S:=⟨_,rfl⟩
   rw[hS]
   simp only[Nat.add_mul,Nat.mul_add]
   have e2:S*2=2*S:=Nat.mul_comm _ _
   have e3:n*(2*S)=2*(n*S):=by rw[<-Nat.mul_assoc,Nat.mul_comm n 2,Nat.mul_assoc]
   omega
  omega
theorem vI:∀(n:Nat) (t:Tm) (j:Nat),j<(dQ n t).len->((dQ n t).tm j).size<=t.size+n
 | 0,t,j,h=>by simp[dQ,Ts.len] at h
 | 1,t,j,h=>by
  have:(dQ 1 t).len=1:=rfl
  obtain rfl:j=0:=by omega
  show Tm.size ⟨t.h,t.x⟩<=_
  have:Tm.size ⟨t.h,t.x⟩=t.size:=rfl
  omega
 | n+2,t,0,h=>by
  show Tm.size ⟨kH 14,t.ts⟩<=_
  rw[nZ];omega
 | n+2,t,j+1,h=>by
  have:=vI (n+1) ⟨kH 15,t.ts⟩ j (by simp only[dQ,Ts.len] at h;omega)
  rw[nZ] at this
  show ((dQ (n+1) ⟨kH 15,t.ts⟩).tm j).size<=_
  omega
def stPa(z:Int)(a:Ts)(u:Tm):St:=bP [(1,iA z),(2,.bx 3 0),(4,.c (.blk 15 (a.len+1) 5 26 (.seg (some (100,0)) (tDs ty a) .nil) .nil))] [(3,26,tmC none none u.h u.x)] [(15,a.len+1),(100,0)]
theorem k15g(t:Tm)(n:Int)(hf:t.fits)(hn:n<=1000000)(hs:t.size+n.toNat<=90000000):HH 15 [tmL t,iA n] (tsA (some (0,0)) (dQ n.toNat t)):=by
 obtain⟨B,hB⟩:∃B,dQ n.toNat t=B:=⟨_,rfl⟩
 rw[hB]
 refine ab Tryz.func15 Tryz.ntmps15 Tryz.results15 rfl (by decide) (by simp) rfl rfl ?_
 simp
 refine lp (α:={ q:Int×Ts×Tm // q.2.1.app (dQ q.1.toNat q.2.2)=B/\q.1<=n/\q.2.2.fits/\q.2.2.size+q.1.toNat<=90000000/\q.2.1.len+q.1.toNat<=1000000 }) (λ q=>stPa q.1.1 q.1.2.1 q.1.2.2) (λ q=>q.1.1.toNat) ⟨(n,.nil,t),hB,Int.le_refl _,hf,hs,by simp[Ts.len];omega⟩ ?_ ?_
 ·refine aI [((15,0),[(15,0)])] ?_ ?_ ?_<;>simp[AV.ok,Dc.ok,Ts.len]
 ·rintro⟨⟨z,a,u⟩,hq,hz,hu,hus,hal⟩
  simp only at hq hz hu hus hal
  by_cases h1:1<z
  ·obtain⟨k,hk⟩:∃k:Nat,z.toNat=k+2:=⟨z.toNat-2,by omega⟩
   have hk1:(z-1).toNat=k+1:=by omega
   have hw:IntKind.i64.wrap (z-1)=z-1:=by rw[IntKind.wrap_i64];omega
   have q1:=g59 14 u.ts (by decide) ((⟨hu.1,hu.2,trivial⟩:u.ts.fits)) (by rw[bA];omega)
   have q2:=g59 15 u.ts (by decide) ((⟨hu.1,hu.2,trivial⟩:u.ts.fits)) (by rw[bA];omega)
   rw[hk] at hq
   simp only[dQ] at hq
   simp[stPa,h1]
   refine aE q1 ?_ ?_ ?_<;>simp
   refine⟨by rw[aF];omega,?_⟩
   refine aE q2 ?_ ?_ ?_<;>simp
   refine⟨z-1,by omega,a.app (.cons (kH 14) u.ts .nil),⟨kH 15,u.ts⟩,⟨by rw[hk1,Ts.app_assoc];exact hq,by omega,⟨eZ (by decide),(⟨hu.1,hu.2,trivial⟩:u.ts.fits)⟩,by rw[nZ,hk1];omega,by rw[hk1];simp only[Ts.app_len,Ts.len];omega⟩,?_⟩
   refine aI [((15,0),[(15,0)]),((100,0),[(100,0),(13,0),(13,1)])] ?_ ?_ ?_<;>simp[AV.ok,Dc.ok,hw,Ts.app_len,Ts.len]
   exact (bC ty a (.cons (kH 14) u.ts .nil)).symm
  ·by_cases h2:z=1
   ·subst h2
    have e:a.app u.ts=B:=hq
    subst e
    simp[stPa]
    refine aE (h60' u hu (by omega)) ?_ ?_ ?_<;>simp
    refine⟨by rw[aF];omega,?_⟩
    try simp[Ds.app_nil]
    exact⟨[((0,0),[(15,0),(100,0),(23,0),(23,1)])],by simp[bC];try (intro a b h;exact Or.inr h)⟩
   ·have h3:z.toNat=0:=by omega
    rw[h3] at hq
    simp only[dQ,Ts.app_nil] at hq
    subst hq
    simp[stPa,h1,h2,Ds.app_nil]
    exact⟨[((0,0),[(15,0),(100,0)])],by simp⟩
end
section
open Go.RowKit
abbrev nG:Value:=.iface 128 (.agg #[])
theorem xW(w:World):Sem.run Tryz.prog (Instr.typeAssert nG 20 128 true) w=.ok (.tuple #[.agg #[],.bool true]) w:=by
 simp[Instr.typeAssert,go_sem]
abbrev AM(w:World):Ending->World->Prop:=λ e w'=>e=.panicked [{ v:=nG,recovered:=false }]/\Below w.heap.size w w'
end
section
open Go.RowKit
attribute [local simp] ty_p ty_l ty_t kH tDs bN Tm.ts kI oI ac_skip ac_label ac_region ac_seq ac_cond ac_block ac_loop ac_exit ac_ret seqK_n seqK_r seqK_e vo_nil vo_cons blkK JP oN I8 gA gB lG ev gU fF St.out A7 kX upd dD sU K0 asC oH jO tY lF tD qU pV tb Dc.tk Dc.dp Dc.over Dc.app Dc.ln Dc.ds Dc.sing Dc.cont AV.cont Ds.hd Value.oneCell' DE pP C0 AV.imp Dc.imp φOf dY AV.isLL AV.list AV.app AV.arg AV.isL AV.ren Dc.ren Dc.lent tmC tmA tsA iA lo? abin AV.nth Dc.own Dc.toks bP rI Z6 τOf
attribute [local simp] AV.room R8 agC rH Ds.len Ds.dp
abbrev tryA(g:Nat)(r:Rl)(v:Ts)(far i:Int):AV:=.fn (.func g) .nil (AV.list [.el (M1 r v far),.el (.lit (.int .i64 i) .nil)])
def TryAt(w:World)(r:Rl)(i:Int)(x y:Value):Prop:=∃m far pa pi pv na ca ni ci nv cv b o b' o',x=.pointer (some ⟨b,o,none⟩)/\y=.pointer (some ⟨b',o',none⟩)/\na=r.g.length/\b<w.heap.size/\b'<w.heap.size /\
  w.cell? ⟨b,o,none⟩=some (.int .i64 m)/\w.cell? ⟨b,o+1,none⟩=some (.slice pa na ca)/\w.cell? ⟨b,o+2,none⟩=some (.slice pi ni ci)/\w.cell? ⟨b,o+3,none⟩=some (.slice pv nv cv)/\w.cell? ⟨b,o+4,none⟩=some (.int .i64 far)/\w.cell? ⟨b',o',none⟩=some (.int .i64 i)
theorem TryAt.on{w W:World}{r:Rl}{i:Int}{x y:Value}(h:TryAt w r i x y)(hb:Below w.heap.size w W):TryAt W r i x y:=by
 obtain⟨m,far,pa,pi,pv,na,ca,ni,ci,nv,cv,b,o,b',o',e1,e2,e3,l1,l2,h0,h1,h2,h3,h4,h5⟩:=h
 exact⟨m,far,pa,pi,pv,na,ca,ni,ci,nv,cv,b,o,b',o',e1,e2,e3,Nat.lt_of_lt_of_le l1 hb.size,Nat.lt_of_lt_of_le l2 hb.size,(hb.cell (p:=⟨b,o,none⟩) l1).trans h0,(hb.cell (p:=⟨b,o+1,none⟩) l1).trans h1,(hb.cell (p:=⟨b,o+2,none⟩) l1).trans h2,(hb.cell (p:=⟨b,o+3,none⟩) l1).trans h3,(hb.cell (p:=⟨b,o+4,none⟩) l1).trans h4,(hb.cell (p:=⟨b',o',none⟩) l2).trans h5⟩
theorem CV{g:Nat}{x y:AV}{t:Ts}(hx:x.isLL=true)(hux:x.unl=true)(huy:y.unl=true)(h:Holds Tryz.prog KA g (x.app y) (tsA (some (0,0)) t)):HH 112 [.fn (.func g) x y] (tsA (some (0,0)) t):=by
 refine⟨bO Tryz.func112 (by decide) rfl,rfl,λ F w vs hF hG hv=>?_⟩
 obtain⟨v,rfl,ys,zs,e1,h1,h2⟩:=kD hv
 cases e1
 have hb:Below w.heap.size w (w.alloc (.cells #[.slice none 0 0] 22)):=aB _ _
 have hFW:∀b o v,F b o=some v->U (w.alloc (.cells #[.slice none 0 0] 22)) b o=some v:=λ b o v hv=>aD hb _ _ _ (aM (hF b o v hv)) (hF b o v hv)
 have hmv:∀ {a:AV} {xs:List Value},a.unl=true->RepV (bE F w) a xs->RepV (bE F (w.alloc (.cells #[.slice none 0 0] 22))) a xs:=λ hu h=>RepV.mv (g:=bE F w) (g':=bE F (w.alloc (.cells #[.slice none 0 0] 22))) (λ _ _ _ h=>h) hb.size (.inr λ b o v hlt hv=>by
  have hlt:b<w.heap.size:=hlt
  have h3:(if b<w.heap.size then U w b o else F b o)=some v:=hv
  rw[if_pos hlt] at h3
  show (if b<(w.alloc (.cells #[.slice none 0 0] 22)).heap.size then U (w.alloc (.cells #[.slice none 0 0] 22)) b o else F b o)=some v
  rw[if_pos (Nat.lt_of_lt_of_le hlt hb.size)]
  exact aD hb _ _ _ hlt h3) hu h
 have hc:=h.2.2 F _ (ys++zs) hFW (iD _ _ hb hG) (RepV.app (hmv huy h2) (hmv hux h1) hx)
 refine (uP g ys.toArray zs.toArray w h.1 (λ v w1=>∃S,Own w1 (w.heap.size+1) (.row 5 26 (tDs ty t) .nil .nil) [v] S/\S.Nodup) ?_).mono ?_
 ·rw[show ys.toArray++zs.toArray=(ys++zs).toArray by simp]
  refine hc.mono ?_
  rintro e w' ⟨v,fp,rfl,h3,⟨-,v',_,e2,-,how,-⟩,-⟩
  cases e2
  obtain⟨-,S,o1,o2,-⟩:=how (0,0) rfl
  obtain⟨p,n,c,rfl⟩:=jR o1
  have o3:Own w' (w.alloc (.cells #[.slice none 0 0] 22)).heap.size (.row 5 26 (tDs ty t) .nil .nil) [.slice p n c] S:=o1
  rw[World.size_alloc] at o3
  exact⟨p,n,c,rfl,by simpa using h3,S,o3,o2⟩
 ·rintro e w' ⟨v,w1,rfl,h3,⟨S,o1,o2⟩,rfl⟩
  have hsz:w.heap.size+1<=w1.heap.size:=by have:=h3.size;simpa using this
  have hO:Own (w1.setCell ⟨w.heap.size,0,none⟩ v) w.heap.size (.row 5 26 (tDs ty t) .nil .nil) [v] S:=(o1.setCell (p:=⟨w.heap.size,0,none⟩) (o1.notMem (Nat.lt_succ_self _)) v).lower (Nat.le_succ _)
  obtain⟨v',_,e2,h8,-⟩:=Vs.res (F:=F) (fp:=fp1 S) (Nat.le_refl _) hO
  cases e2
  refine⟨v,fp1 S,rfl,(hb.trans (h3.mono (by omega))).setCell (p:=⟨w.heap.size,0,none⟩) (Nat.le_refl _) _,⟨bQ _,v,[],rfl,h8,λ j e=>?_,rfl⟩,λ k b hb=>?_,λ k k' b h1 h2=>?_⟩
  ·cases e
   exact⟨rfl,S,hO,o2,λ b hb=>mem_fp1.2 ⟨rfl,hb⟩⟩
  ·exact hO.mem b (mem_fp1.1 hb).2
  ·rw[(mem_fp1.1 h1).1,(mem_fp1.1 h2).1]
theorem f38_of(r:Rl)(v:Ts)(far i:Int){t:Ts}(h:HH 112 [tryA 113 r v far i] (tsA (some (0,0)) t)):HH 38 [rlL r,iA i,tsA none v,iA far] (tsA (some (0,0)) t):=by
 refine ab Tryz.func38 Tryz.ntmps38 Tryz.results38 rfl (by decide) (by simp) rfl rfl ?_
 simp[rlL,rlC]
 refine aE h ?_ ?_ ?_<;>simp[M1]
 ·exact⟨⟨_,_,⟨rfl,rfl⟩,rfl⟩,⟨_,_,⟨rfl,rfl⟩,rfl⟩⟩
 ·exact⟨[((0,0),[(16,0)])],by simp⟩
theorem k38(r:Rl)(v:Ts)(far:Int)(i:Nat)(hi:i<r.g.length)(hl:r.g.length<=500)(hs:cF r.g<=30000000)(hf:dW r.g)(hv:v.fits)(hsz:i*(v.size+1)<=100000000)(hvs:v.size<=100000000) :
  HH 38 [rlL r,iA i,tsA none v,iA far] (tsA (some (0,0)) (eM r.g v far i .nil r.g[i].e)):=f38_of r v far i (CV rfl rfl rfl (k113 r v far i hi hl hs hf hv hsz hvs))
structure Ct where
 m:Int
 t:Tm
structure Dl where
 k:Int
 lv:Int
 t:Tm
 b:Tm
 p:Ts
 s:Lv
 m:List Ts
 c:List Ct
def dU:List Ct->Ds
 | []=>.nil
 | c :: r=>.lit (.int .i64 c.m) (.lit (.int .i64 c.t.h.k) (.lit (.int .i64 c.t.h.n) (.lit (.int .i64 c.t.h.a) (.row 1 43 (bN ty c.t.h.l) .nil (.row 5 26 (tDs ty c.t.x) .nil (dU r))))))
theorem bL(l:List Ct):(dU l).len=l.length*6:=by
 induction l with
 | nil=>rfl
 | cons a r ih=>simp[dU,Ds.len,ih];omega
def aO:List Rl->Ds
 | []=>.nil
 | r :: l=>.lit (.int .i64 r.m) (.row 9 82 (bW r.g) .nil (.row 5 26 (tDs ty r.i) .nil (aO l)))
theorem aN(l:List Rl):(aO l).len=l.length*3:=by
 induction l with
 | nil=>rfl
 | cons a r ih=>simp[aO,Ds.len,ih];omega
theorem aS(l:List Ts):(aZ l).len=l.length:=by
 induction l with
 | nil=>rfl
 | cons a r ih=>simp[aZ,Ds.len,ih]
def dlC(d:Dl):Dc:=.lit (.int .i64 d.k) (.lit (.int .i64 d.lv) (.lit (.int .i64 d.t.h.k) (.lit (.int .i64 d.t.h.n) (.lit (.int .i64 d.t.h.a) (.row none 1 43 (bN ty d.t.h.l) (.row none 5 26 (tDs ty d.t.x) (.lit (.int .i64 d.b.h.k) (.lit (.int .i64 d.b.h.n) (.lit (.int .i64 d.b.h.a) (.row none 1 43 (bN ty d.b.h.l) (.row none 5 26 (tDs ty d.b.x) (.row none 5 26 (tDs ty d.p) (.row none 2 77 (bR d.s) (.row none 1 80 (aZ d.m) (.row none 6 85 (dU d.c) .nil)))))))))))))))
def dlL(d:Dl):AV:=.agg (dlC d)
def aP(l:List Rl):AV:=.c (.row none 3 65 (aO l) .nil)
def bF(s:Lv):Tm:=⟨⟨2,0,0,[s]⟩,.nil⟩
theorem k161(s:Lv)(hs:s.length<=100000000):HH 161 [lvA s] (tmL (bF s)):=by
 refine ab Tryz.func161 Tryz.ntmps161 Tryz.results161 rfl (by decide) (by simp) rfl rfl ?_
 simp[lvA]
 refine aE (k202 s (by omega)) ?_ ?_ ?_<;>simp
 simp[bF]
 exact⟨[],by simp⟩
theorem k169(s:Lv)(hs:s.length<=100000000):HH 169 [lvA s] (tmL (bF s)):=by
 refine ab Tryz.func169 Tryz.ntmps169 Tryz.results169 rfl (by decide) (by simp) rfl rfl ?_
 simp[lvA]
 refine⟨by rw[jZ];omega,?_⟩
 simp[bF,Ds.app_nil]
 exact⟨[],by simp⟩
def MO(n:Int):Nat->Ts->Ts
 | _,.nil=>.nil
 | k,.cons h x r=>.cons (Tm.lift ⟨h,x⟩ n k).h (Tm.lift ⟨h,x⟩ n k).x (MO n (k+1) r)
theorem qD(n:Int):∀(a b:Ts) (k:Nat),MO n k (a.app b)=(MO n k a).app (MO n (k+a.len) b)
 | .nil,b,k=>rfl
 | .cons h x r,b,k=>by
  simp only[Ts.app,MO,Ts.len]
  rw[qD n r b (k+1),show k+1+r.len=k+(r.len+1) by omega]
theorem qC(n:Int):∀(a:Ts) (k:Nat),(MO n k a).len=a.len
 | .nil,_=>rfl
 | .cons h x r,k=>by simp only[MO,Ts.len,qC n r]
theorem iW(n:Int):∀(a:Ts) (k:Nat),(MO n k a).size=a.size
 | .nil,_=>rfl
 | .cons h x r,k=>by
  have:Tm.size ⟨(Tm.lift ⟨h,x⟩ n k).h,(Tm.lift ⟨h,x⟩ n k).x⟩=Tm.size ⟨h,x⟩:=jS ⟨h,x⟩ n k
  simp only[MO]
  rw[eJ,eJ,iW n r,this]
theorem iX(n:Int):∀(a:Ts) (k:Nat),a.fits->(MO n k a).fits
 | .nil,_,_=>trivial
 | .cons h x r,k,hf=>⟨(gO (t:=⟨h,x⟩) n k ⟨hf.1,hf.2.1⟩).1,(gO (t:=⟨h,x⟩) n k ⟨hf.1,hf.2.1⟩).2,iX n r _ hf.2.2⟩
def st83(t:Ts)(a:Ts):St:=bP [(1,iA 1),(2,iA 0),(6,.c (.blk 25 (a.len+1) 5 26 (.seg none (tDs ty (MO 1 0 a)) .nil) .nil)),(9,tsA none t),(10,iA t.len),(11,iA a.len)] [] [(25,a.len+1)]
theorem k83(t:Ts)(hf:t.fits)(hs:t.size<=100000000):HH 83 [tsA none t,iA 1,iA 0] (tsA none (MO 1 0 t)):=by
 have hil:t.len<=100000000:=Nat.le_trans (len_le_size t) hs
 have d0:t.len*5 / 5=t.len:=by omega
 refine ab Tryz.func83 Tryz.ntmps83 Tryz.results83 rfl (by decide) (by simp) rfl rfl ?_
 simp[aF,d0]
 refine lp (α:={ q:Ts×Ts // q.1.app q.2=t }) (λ q=>st83 t q.1.1) (λ q=>q.1.2.len) ⟨(.nil,t),rfl⟩ ?_ ?_
 ·refine aI [((25,0),[(25,0)])] ?_ ?_ ?_<;>simp[AV.ok,Dc.ok,MO,Ts.len]
 ·rintro⟨⟨a,q⟩,hq⟩
  simp only at hq
  cases q with
  | nil =>
   have e:a=t:=by rw[<-hq];exact (Ts.app_nil a).symm
   subst e
   simp[st83,Ds.app_nil]
   exact⟨[],by simp⟩
  | cons h y q =>
   have h1:a.len<t.len:=by rw[<-hq];simp[Ts.app_len,Ts.len]
   have h2:(tDs ty t).dp (a.len*5)=tDs ty (.cons h y q):=by rw[<-hq];exact fA a _
   have h3:h.fits/\y.fits:=dR (a:=a) (by rw[hq];exact hf)
   have h4:aH h.l+y.size+1<=t.size:=by rw[<-hq];exact app_size
   have hw:IntKind.i64.wrap ((a.len:Int)+1)=a.len+1:=by rw[IntKind.wrap_i64];omega
   have hw0:IntKind.i64.wrap (a.len:Int)=a.len:=by rw[IntKind.wrap_i64];omega
   have e1:MO 1 0 (a.app (.cons h y .nil))=(MO 1 0 a).app (.cons (Tm.lift ⟨h,y⟩ 1 (a.len:Nat)).h (Tm.lift ⟨h,y⟩ 1 (a.len:Nat)).x .nil):=by rw[qD,Nat.zero_add];rfl
   have q1:=h60 ⟨h,y⟩ 1 (a.len:Nat) h3 (by unfold Tm.size;simp only;omega)
   generalize Tm.lift ⟨h,y⟩ 1 (a.len:Nat)=P at *
   simp[st83,h1,h2,hw0]
   refine⟨by rw[aF];omega,?_⟩
   refine aE q1 ?_ ?_ ?_<;>simp
   refine⟨by rw[aF,qC];omega,a.app (.cons h y .nil),q,by simp[Ts.len],by rw[Ts.app_assoc];exact hq,?_⟩
   refine aI [((25,0),[(25,0)])] ?_ ?_ ?_<;>simp[Ts.len,Ts.app_len,AV.ok,Dc.ok,hw,e1]
   rw[bC];rfl
def IC(t:Ts)(a:Ts):St:=bP [(0,tsA none t),(1,iA 1),(2,iA 0),(7,.c (.blk 27 (a.len+1) 5 26 (.seg none (tDs ty (MO 1 0 a)) .nil) .nil)),(8,iA a.len)] [] [(27,a.len+1)]
theorem k170(t:Ts)(hf:t.fits)(hs:t.size<=100000000):HH 170 [tsA none t,iA 1,iA 0] (tsA none (MO 1 0 t)):=by
 have hil:t.len<=100000000:=Nat.le_trans (len_le_size t) hs
 have d0:t.len*5 / 5=t.len:=by omega
 refine ab Tryz.func170 Tryz.ntmps170 Tryz.results170 rfl (by decide) (by simp) rfl rfl ?_
 simp
 refine lp (α:={ q:Ts×Ts // q.1.app q.2=t }) (λ q=>IC t q.1.1) (λ q=>q.1.2.len) ⟨(.nil,t),rfl⟩ ?_ ?_
 ·refine aI [((27,0),[(27,0)])] ?_ ?_ ?_<;>simp[AV.ok,Dc.ok,MO,Ts.len]
 ·rintro⟨⟨a,q⟩,hq⟩
  simp only at hq
  cases q with
  | nil =>
   have e:a=t:=by rw[<-hq];exact (Ts.app_nil a).symm
   subst e
   simp[IC,aF,d0,Ds.app_nil]
   exact⟨[],by simp⟩
  | cons h y q =>
   have h1:a.len<t.len:=by rw[<-hq];simp[Ts.app_len,Ts.len]
   have h2:(tDs ty t).dp (a.len*5)=tDs ty (.cons h y q):=by rw[<-hq];exact fA a _
   have h3:h.fits/\y.fits:=dR (a:=a) (by rw[hq];exact hf)
   have h4:aH h.l+y.size+1<=t.size:=by rw[<-hq];exact app_size
   have hw:IntKind.i64.wrap ((a.len:Int)+1)=a.len+1:=by rw[IntKind.wrap_i64];omega
   have hw0:IntKind.i64.wrap (a.len:Int)=a.len:=by rw[IntKind.wrap_i64];omega
   have e1:MO 1 0 (a.app (.cons h y .nil))=(MO 1 0 a).app (.cons (Tm.lift ⟨h,y⟩ 1 (a.len:Nat)).h (Tm.lift ⟨h,y⟩ 1 (a.len:Nat)).x .nil):=by rw[qD,Nat.zero_add];rfl
   have q1:=h63 ⟨h,y⟩ 1 (a.len:Nat) h3 (by unfold Tm.size;simp only;omega)
   generalize Tm.lift ⟨h,y⟩ 1 (a.len:Nat)=P at *
   simp[IC,aF,d0,h1,h2,hw0]
   refine⟨by omega,?_⟩
   refine aE q1 ?_ ?_ ?_<;>simp
   refine⟨by rw[aF,qC];omega,a.app (.cons h y .nil),q,by simp[Ts.len],by rw[Ts.app_assoc];exact hq,?_⟩
   refine aI [((27,0),[(27,0)])] ?_ ?_ ?_<;>simp[Ts.len,Ts.app_len,AV.ok,Dc.ok,hw,e1]
   rw[bC];rfl
def fL(f:Tm):Ts->Tm
 | .nil=>f
 | .cons h x r=>fL ⟨kH 6,.cons f.h f.x (.cons h x .nil)⟩ r
theorem lW:∀(a:Ts) (f:Tm) (h:Hd) (x:Ts),fL f (a.app (.cons h x .nil))=⟨kH 6,.cons (fL f a).h (fL f a).x (.cons h x .nil)⟩
 | .nil,_,_,_=>rfl
 | .cons _ _ r,f,h,x=>lW r _ h x
theorem mT:∀(a:Ts) (f:Tm),(fL f a).size<=f.size+2*a.size
 | .nil,f=>by simp[fL,Ts.size]
 | .cons h x r,f=>by
  have h1:=mT r ⟨kH 6,.cons f.h f.x (.cons h x .nil)⟩
  have h2:Tm.size ⟨kH 6,.cons f.h f.x (.cons h x .nil)⟩=f.size+1+(aH h.l+x.size+1):=by simp[Tm.size,Ts.size,kH,aH];omega
  rw[h2] at h1
  simp only[fL,Ts.size] at h1 ⊢
  omega
theorem mU:∀(a:Ts) (f:Tm),f.fits->a.fits->(fL f a).fits
 | .nil,_,h,_=>h
 | .cons h x r,f,hf,ha=>mU r _ ⟨eZ (by decide),hf.1,hf.2,ha.1,ha.2.1,trivial⟩ ha.2.2
def st95(f:Tm)(t a:Ts):St:=bP [(2,.bx 3 0),(4,.bx 5 0),(9,tsA none t),(10,iA t.len),(11,iA a.len)] [(3,26,tmC none none (fL f a).h (fL f a).x),(5,26,zC)] []
theorem k95(f:Tm)(t:Ts)(hf:f.fits)(hs:f.size<=100000000)(ht:t.fits)(hts:t.size<=100000000):HH 95 [tmL f,tsA none t] (tmL (fL f t)):=by
 have hil:t.len<=100000000:=Nat.le_trans (len_le_size t) hts
 have d0:t.len*5 / 5=t.len:=by omega
 refine ab Tryz.func95 Tryz.ntmps95 Tryz.results95 rfl (by decide) (by simp) rfl rfl ?_
 simp
 refine aE (KB f hf hs) ?_ ?_ ?_<;>simp[aF,d0]
 refine lp (α:={ q:Ts×Ts // q.1.app q.2=t }) (λ q=>st95 f t q.1.1) (λ q=>q.1.2.len) ⟨(.nil,t),rfl⟩ ?_ ?_
 ·refine aI [] ?_ ?_ ?_<;>simp[AV.ok,Dc.ok,fL,Ts.len]
 ·rintro⟨⟨a,q⟩,hq⟩
  simp only at hq
  cases q with
  | nil =>
   have e:a=t:=by rw[<-hq];exact (Ts.app_nil a).symm
   subst e
   simp[st95]
   exact⟨[],by simp⟩
  | cons h y q =>
   have h1:a.len<t.len:=by rw[<-hq];simp[Ts.app_len,Ts.len]
   have h2:(tDs ty t).dp (a.len*5)=tDs ty (.cons h y q):=by rw[<-hq];exact fA a _
   have h3:h.fits/\y.fits:=dR (a:=a) (by rw[hq];exact ht)
   have h4:aH h.l+y.size+1<=t.size:=by rw[<-hq];exact app_size
   have hw:IntKind.i64.wrap ((a.len:Int)+1)=a.len+1:=by rw[IntKind.wrap_i64];omega
   have e1:=lW a f h y
   generalize fL f a=A at *
   generalize fL f (a.app (.cons h y .nil))=B at *
   subst e1
   simp[st95,h1,h2]
   refine⟨by rw[aF];omega,by kernel_rfl,?_⟩
   refine aE (KB ⟨h,y⟩ h3 (by unfold Tm.size;simp only;omega)) ?_ ?_ ?_<;>simp
   refine⟨a.app (.cons h y .nil),q,by simp[Ts.len],by rw[Ts.app_assoc];exact hq,?_⟩
   refine aI [] ?_ ?_ ?_<;>simp[Ts.len,Ts.app_len,AV.ok,Dc.ok,hw,lW]
def HI(f:Tm)(t a:Ts):St:=bP [(1,tsA none t),(4,.bx 5 0),(5,.bx 6 0),(6,iA a.len)] [(5,26,zC),(6,26,tmC none none (fL f a).h (fL f a).x)] []
theorem k179(f:Tm)(t:Ts)(hf:f.fits)(hs:f.size<=100000000)(ht:t.fits)(hts:t.size<=100000000):HH 179 [tmL f,tsA none t] (tmL (fL f t)):=by
 have hil:t.len<=100000000:=Nat.le_trans (len_le_size t) hts
 have d0:t.len*5 / 5=t.len:=by omega
 refine ab Tryz.func179 Tryz.ntmps179 Tryz.results179 rfl (by decide) (by simp) rfl rfl ?_
 simp
 refine aE (oD f hf (by omega)) ?_ ?_ ?_<;>simp
 refine lp (α:={ q:Ts×Ts // q.1.app q.2=t }) (λ q=>HI f t q.1.1) (λ q=>q.1.2.len) ⟨(.nil,t),rfl⟩ ?_ ?_
 ·refine aI [] ?_ ?_ ?_<;>simp[AV.ok,Dc.ok,fL,Ts.len]
 ·rintro⟨⟨a,q⟩,hq⟩
  simp only at hq
  cases q with
  | nil =>
   have e:a=t:=by rw[<-hq];exact (Ts.app_nil a).symm
   subst e
   simp[HI,aF,d0]
   exact⟨[],by simp⟩
  | cons h y q =>
   have h1:a.len<t.len:=by rw[<-hq];simp[Ts.app_len,Ts.len]
   have h2:(tDs ty t).dp (a.len*5)=tDs ty (.cons h y q):=by rw[<-hq];exact fA a _
   have h3:h.fits/\y.fits:=dR (a:=a) (by rw[hq];exact ht)
   have h4:aH h.l+y.size+1<=t.size:=by rw[<-hq];exact app_size
   have hw:IntKind.i64.wrap ((a.len:Int)+1)=a.len+1:=by rw[IntKind.wrap_i64];omega
   have e1:=lW a f h y
   generalize fL f a=A at *
   generalize fL f (a.app (.cons h y .nil))=B at *
   subst e1
   simp[HI,aF,d0,h1,h2]
   refine⟨by kernel_rfl,by omega,?_⟩
   refine aE (oD ⟨h,y⟩ h3 (by unfold Tm.size;simp only;omega)) ?_ ?_ ?_<;>simp
   refine⟨a.app (.cons h y .nil),q,by simp[Ts.len],by rw[Ts.app_assoc];exact hq,?_⟩
   refine aI [] ?_ ?_ ?_<;>simp[Ts.len,Ts.app_len,AV.ok,Dc.ok,hw,lW]
def cMb(a:Ts):Dc:=(.row none 5 26 (tDs ty a) .nil)
def xR(a:Ts):Dc:=.seg none (.row 5 26 (bV ty a) (tDs ty (bU 1 12)) .nil) .nil
def cX:List Ts->Ds
 | []=>.nil
 | a :: r=>.row 5 26 (bV ty a) (tDs ty (bU 1 12)) (cX r)
theorem eX(l:List Ts):(cX l).len=l.length*1:=by
 induction l with
 | nil=>rfl
 | cons a r ih=>simp[cX,Ds.len,ih]<;>omega
theorem jY(p q:List Ts):aZ (p++q)=(aZ p).app (aZ q):=by
 induction p with
 | nil=>rfl
 | cons a r ih=>simp[aZ,Ds.app,ih]
theorem vY(p q:List Ts):cX (p++q)=(cX p).app (cX q):=by
 induction p with
 | nil=>rfl
 | cons a r ih=>simp[cX,Ds.app,ih]
theorem nM(l:List Ts):(aZ l).good:=by
 induction l with
 | nil=>trivial
 | cons a r ih=>exact⟨bQ _,trivial,ih⟩
theorem rE(l:List Ts):(cX l).strip=aZ l:=by
 induction l with
 | nil=>rfl
 | cons a r ih=>simp[cX,aZ,Ds.strip,ih,cU,cJ,jM,ty]
def nU(i:Nat):Ts:=.cons ⟨0,fV 1 i,0,[]⟩ .nil .nil
def cH(n:Nat):List Ts:=(List.range n).map nU
theorem C7(n:Nat):cH (n+1)=cH n++[nU n]:=by simp[cH,List.range_succ]
theorem iU(n:Nat):(cH n).length=n:=by simp[cH]
def iC(l:List Ts):Nat:=(l.map λ a=>1+a.size).sum
theorem jV(l:List Ts):l.length<=iC l:=by
 induction l with
 | nil=>exact Nat.le_refl _
 | cons a r ih=>simp only[iC,List.map_cons,List.sum_cons,List.length_cons] at *;omega
theorem GF(a b:List Ts):iC (a++b)=iC a+iC b:=by simp[iC]
theorem rV(a:Ts)(l:List Ts):iC (a :: l)=1+a.size+iC l:=by simp only[iC,List.map_cons,List.sum_cons]
theorem oS{l:List Ts}{k:Nat}(h:k<l.length):1+l[k].size<=iC l:=by
 have e:l=l.take k++(l[k] :: l.drop (k+1)):=by rw[<-List.drop_eq_getElem_cons h,List.take_append_drop]
 have e2:iC l=iC (l.take k)+iC (l[k] :: l.drop (k+1)):=by rw[<-GF,<-e]
 rw[e2,rV]
 omega
theorem takeMb{l:List Ts}{k:Nat}(h:k<l.length):l.take (k+1)=l.take k++[l[k]]:=(List.take_append_getElem h).symm
theorem ES{l:List Ts}{k:Nat}(h:k<l.length):(aZ l).dp (k*1)=aZ (l[k] :: l.drop (k+1)):=by
 have e:l=l.take k++(l[k] :: l.drop (k+1)):=by rw[<-List.drop_eq_getElem_cons h,List.take_append_drop]
 have h2:(aZ (l.take k)).len=k*1:=by rw[aS,List.length_take];first|(congr 1;omega)|omega
 conv=>lhs;rw[e,jY,<-h2,Ds.dp_app]
theorem dpLMb{l:List Ts}{k:Nat}(h:k<l.length)(y:Ds):((cX l).app y).dp (k*1)=(cX (l[k] :: l.drop (k+1))).app y:=by
 have e:l=l.take k++(l[k] :: l.drop (k+1)):=by rw[<-List.drop_eq_getElem_cons h,List.take_append_drop]
 have h2:(cX (l.take k)).len=k*1:=by rw[eX,List.length_take];first|(congr 1;omega)|omega
 conv=>lhs;rw[e,vY,Ds.app_assoc,<-h2,Ds.dp_app]
theorem hdMb(a:Ts)(r:List Ts)(y:Ds):Ds.hd 1 ((cX (a :: r)).app y)=some (xR a):=rfl
theorem dpMMb{l:List Ts}{n i:Nat}(h:i<n):((cX l).app (aZ (cH n))).dp ((l.length+i)*1)=aZ (nU i :: (cH n).drop (i+1)):=by
 have h0:i<(cH n).length:=by rw[iU];exact h
 have e:cH n=(cH n).take i++(nU i :: (cH n).drop (i+1)):=by
  have e2:(cH n)[i]=nU i:=by simp[cH]
  rw[<-e2,<-List.drop_eq_getElem_cons h0,List.take_append_drop]
 have h2:((cX l).app (aZ ((cH n).take i))).len=(l.length+i)*1:=by
  rw[Ds.app_len,eX,aS,List.length_take,iU]
  have:min i n=i:=by omega
  rw[this];omega
 conv=>lhs;rw[e,jY,<-Ds.app_assoc,<-h2,Ds.dp_app]
def cO(l:List Ts):AV:=.c (.row none 1 80 (aZ l) .nil)
def sO(l:List Ts):AV:=.c (.seg none (.row 1 80 (cX l) (aZ (cH 12)) .nil) .nil)
theorem vR(i:Nat)(hi:i<=1000):HH 157 [iA 1,iA i] (.agg (.row none 5 26 (tDs ty (.cons ⟨0,fV 1 i,0,[]⟩ .nil .nil)) .nil)):=by
 refine ab Tryz.func157 Tryz.ntmps157 Tryz.results157 rfl (by decide) (by simp) rfl rfl ?_
 simp
 refine aE (k120 i hi) ?_ ?_ ?_<;>simp[Ds.len]
 exact⟨[],by simp⟩
theorem DV(a:Ts)(h1:a.size<=200000000):HH 156 [.agg (cMb a)] (.agg (xR a)):=by
 refine ab Tryz.func156 Tryz.ntmps156 Tryz.results156 rfl (by decide) (by simp) rfl rfl ?_
 simp[cMb]
 refine aE (k10 a h1) ?_ ?_ ?_<;>simp[lO,Ds.len,Ds.app]
 simp[xR]
 first|exact⟨[],by simp⟩|exact⟨Ds.app_nil _,[],by simp⟩
theorem rY(a:Ts):HH 185 [.agg (cMb a),.agg (cMb a)] (.v (.bool true)):=by
 refine ab Tryz.func185 Tryz.ntmps185 Tryz.results185 rfl (by decide) (by simp) rfl rfl ?_
 simp[cMb]
 refine aE (k20 a) ?_ ?_ ?_<;>simp
 exact⟨[],by simp⟩
theorem ED(a:Ts)(h1:a.size<=100000000):HH 184 [.agg (xR a),.agg (cMb a)] (.v (.bool true)):=by
 refine ab Tryz.func184 Tryz.ntmps184 Tryz.results184 rfl (by decide) (by simp) rfl rfl ?_
 simp[cMb,xR]
 refine aE (rY a) ?_ ?_ ?_<;>simp[cMb]
 ·exact .inr (by simp[Ds.app,Ds.strip,cU,cJ,ty])
 refine aE (k22 a h1) ?_ ?_ ?_<;>simp[lO]
 exact⟨[],by simp⟩
def GJ(l:List Ts)(k:Nat):St:=bP [(0,cO l),(1,cO l),(5,iA k)] [] []
theorem sameMb(l:List Ts)(hs:iC l<=100000000):HH 181 [cO l,cO l] (.v (.bool true)):=by
 have hl:l.length<=100000000:=Nat.le_trans (jV l) hs
 refine ab Tryz.func181 Tryz.ntmps181 Tryz.results181 rfl (by decide) (by simp) rfl rfl ?_
 have d0:l.length*1 / 1=l.length:=by omega
 simp[cO,aS,d0]
 refine lp (α:={ k:Nat // k<=l.length }) (λ k=>GJ l k.1) (λ k=>l.length-k.1) ⟨0,Nat.zero_le _⟩ ?_ ?_
 ·refine aI [] ?_ ?_ ?_<;>simp[cO,AV.ok,Dc.ok]
 ·rintro⟨k,hk⟩
  by_cases hlt:k<l.length
  ·have h1:=ES hlt
   try simp only[Nat.mul_one] at h1
   have hsz:=oS hlt
   simp[GJ,cO,aS,d0,hlt,h1,aZ]
   refine⟨by kernel_rfl,by omega,?_⟩
   refine aE (rY l[k]) ?_ ?_ ?_<;>simp[cMb]
   have hw:IntKind.i64.wrap ((k:Int)+1)=k+1:=by rw[IntKind.wrap_i64];omega
   refine⟨k+1,by omega,by omega,?_⟩
   refine aI [] ?_ ?_ ?_<;>simp[AV.ok,Dc.ok,hw,Ds.app,cO]
  ·obtain rfl:k=l.length:=by omega
   simp[GJ,cO,aS,d0]
   exact⟨[],by simp⟩
def GO(l:List Ts)(k:Nat):St:=bP [(0,cO l),(3,.c (.blk 11 (k+1) 1 80 (.seg none (cX (l.take k)) .nil) .nil)),(4,iA k)] [] [(11,k+1)]
def zV(l:List Ts)(i:Nat):St:=bP [(0,cO l),(3,.c (.blk 11 (l.length+1+i) 1 80 (.seg none ((cX l).app (aZ (cH i))) .nil) .nil)),(6,iA i)] [] [(11,l.length+1+i)]
theorem DZ(l:List Ts)(hs:iC l<=100000000):HH 76 [cO l] (sO l):=by
 have hl:l.length<=100000000:=Nat.le_trans (jV l) hs
 refine ab Tryz.func76 Tryz.ntmps76 Tryz.results76 rfl (by decide) (by simp) rfl rfl ?_
 have w0:IntKind.i64.wrap ((l.length:Int)+12)=l.length+12:=by rw[IntKind.wrap_i64];omega
 have d0:l.length*1 / 1=l.length:=by omega
 simp[cO,aS,d0,w0]
 refine⟨by omega,?_⟩
 refine lp (α:={ k:Nat // k<=l.length }) (λ k=>GO l k.1) (λ k=>l.length-k.1) ⟨0,Nat.zero_le _⟩ ?_ ?_
 ·refine aI [((11,0),[(11,0)])] ?_ ?_ ?_<;>simp[cO,cX,AV.ok,Dc.ok]
 ·rintro⟨k,hk⟩
  by_cases hlt:k<l.length
  ·have h1:=ES hlt
   try simp only[Nat.mul_one] at h1
   have hsz:=oS hlt
   simp[GO,cO,aS,d0,hlt,h1,aZ]
   refine⟨by omega,?_⟩
   refine aE (DV l[k] (by omega)) ?_ ?_ ?_<;>simp[cMb,xR,jK,Ds.len]
   have hw:IntKind.i64.wrap ((k:Int)+1)=k+1:=by rw[IntKind.wrap_i64];omega
   refine⟨by rw[eX,List.length_take];omega,k+1,by omega,by omega,?_⟩
   refine aI [((11,0),[(11,0)])] ?_ ?_ ?_<;>simp[cO,AV.ok,Dc.ok,hw,-List.take_append_getElem]
   rw[takeMb hlt,vY];rfl
  ·obtain rfl:k=l.length:=by omega
   simp[GO,cO,aS,d0]
   refine lp (α:={ i:Nat // i<=12 }) (λ i=>zV l i.1) (λ i=>12-i.1) ⟨0,Nat.zero_le _⟩ ?_ ?_
   ·refine aI [((11,0),[(11,0)])] ?_ ?_ ?_<;>simp[zV,cO,cH,aZ,AV.ok,Dc.ok]
   ·rintro⟨i,hi⟩
    by_cases h12:i<12
    ·have h13:(i:Int)<12:=by omega
     simp[zV,cO,aS,d0,h13]
     refine aE (vR i (by omega)) ?_ ?_ ?_<;>simp[Ds.len]
     have hw:IntKind.i64.wrap ((i:Int)+1)=i+1:=by rw[IntKind.wrap_i64];omega
     refine⟨by rw[Ds.app_len,eX,aS,iU];omega,i+1,by omega,by omega,?_⟩
     refine aI [((11,0),[(11,0)])] ?_ ?_ ?_<;>simp[cO,AV.ok,Dc.ok,hw,Nat.add_assoc]
     rw[C7,jY,<-Ds.app_assoc];rfl
    ·obtain rfl:i=12:=by omega
     simp[zV,cO,aS,d0]
     have e:=eX l
     try simp only[Nat.mul_one] at e
     refine⟨by first|(rw[Ds.app_nil,Ds.app_len,eX,Ds.len];omega)|(rw[Ds.app_nil,Ds.app_len,eX];omega),[],?_⟩
     simp[sO,Ds.app_nil]
     refine⟨?_,?_⟩<;>rw[<-e]
     ·rw[Ds.tk_app]
     ·rw[Ds.dp_app]
def AQ(l:List Ts)(X:Ds)(k:Nat):St:=bP [(1,cO l),(5,.c (.seg none (.row 1 80 X .nil .nil) .nil)),(6,iA k)] [] []
theorem EG(l:List Ts)(hs:iC l<=100000000):HH 105 [sO l,cO l] (.v (.bool true)):=by
 have hl:l.length<=100000000:=Nat.le_trans (jV l) hs
 refine ab Tryz.func105 Tryz.ntmps105 Tryz.results105 rfl (by decide) (by simp) rfl rfl ?_
 have d0:l.length*1 / 1=l.length:=by omega
 have w0:IntKind.i64.wrap ((l.length:Int)+12)=l.length+12:=by rw[IntKind.wrap_i64];omega
 have e1:((l.length:Int)+12).toNat=l.length+12:=by omega
 have hL:((cX l).app (aZ (cH 12))).len=(l.length+12)*1:=by rw[Ds.app_len,eX,aS,iU];omega
 have d1:((l.length+12)*1) / 1=l.length+12:=by omega
 simp[cO,sO,aS,eX,iU,d0,w0,e1]
 first|refine⟨⟨by omega,by omega⟩,?_⟩|refine⟨by omega,?_⟩
 have t1:Ds.tk (l.length+12) ((cX l).app (aZ (cH 12)))=(cX l).app (aZ (cH 12)):=by
  have:=Ds.tk_app ((cX l).app (aZ (cH 12))) .nil;rw[hL,Ds.app_nil] at this;simpa using this
 have t2:Ds.dp (l.length+12) ((cX l).app (aZ (cH 12)))=.nil:=by
  have:=Ds.dp_app ((cX l).app (aZ (cH 12))) .nil;rw[hL,Ds.app_nil] at this;simpa using this
 rw[t1,t2]
 have m1:∀k (h:k<l.length),∃y,Ds.dp (k*1) ((cX l).app (aZ (cH 12)))=(cX (l[k] :: l.drop (k+1))).app y:=λ k h=>⟨_,dpLMb h _⟩
 have m2:∀j,j<12->∃r,Ds.dp ((l.length+j)*1) ((cX l).app (aZ (cH 12)))=aZ (nU j :: r):=λ j h=>⟨_,dpMMb h⟩
 try simp only[Nat.mul_one] at m1 m2
 generalize (cX l).app (aZ (cH 12))=X at *
 clear t1 t2
 refine lp (α:={ k:Nat // k<=l.length+12 }) (λ k=>AQ l X k.1) (λ k=>l.length+12-k.1) ⟨0,Nat.zero_le _⟩ ?_ ?_
 ·refine aI [] ?_ ?_ ?_<;>simp[cO,AV.ok,Dc.ok,Ds.app]
 ·rintro⟨k,hk⟩
  have hw:IntKind.i64.wrap ((k:Int)+1)=k+1:=by rw[IntKind.wrap_i64];omega
  by_cases hlt:k<l.length
  ·have h1:=ES hlt
   try simp only[Nat.mul_one] at h1
   obtain⟨y,h2⟩:=m1 k hlt
   have hsz:=oS hlt
   have h3:(k:Int)<(l.length:Int)+12:=by omega
   have h4:¬(l.length:Int)<=k:=by omega
   generalize l.drop (k+1)=r at h1 h2
   generalize l[k]=a at *
   simp[AQ,cO,aS,d0,d1,hL,hlt,h1,h2,h3,aZ,hdMb]
   refine⟨by kernel_rfl,by omega,by omega,?_⟩
   refine aE (ED a (by omega)) ?_ ?_ ?_
   ·first|exact⟨⟨rfl,.inl (by simp[Ds.app,cMb,xR])⟩,rfl,⟨⟨rfl,.inl (by simp[Ds.app,cMb])⟩,rfl,trivial⟩⟩|(simp[Ds.app,cMb,xR])
   ·simp
   simp[hlt,h3,h4,d0,d1,hL,aS,cO]
   refine⟨k+1,by omega,by omega,?_⟩
   refine aI [] ?_ ?_ ?_<;>simp[AV.ok,Dc.ok,hw,Ds.app,cO]
  ·by_cases hlt2:k<l.length+12
   ·obtain⟨j,hj⟩:=Nat.exists_eq_add_of_le (Nat.le_of_not_lt hlt)
    obtain⟨r,h1⟩:=m2 j (by omega)
    rw[<-hj] at h1
    have h3:(k:Int)<(l.length:Int)+12:=by omega
    have h4:(l.length:Int)<=k:=by omega
    have w3:IntKind.i64.wrap ((k:Int)-l.length)=j:=by rw[IntKind.wrap_i64];omega
    simp[AQ,cO,aS,d0,d1,hL,hlt,h1,h3,h4,w3,aZ]
    refine⟨by kernel_rfl,by omega,?_⟩
    refine aE (vR j (by omega)) ?_ ?_ ?_<;>simp
    refine aE (rY (nU j)) ?_ ?_ ?_<;>simp[cMb,nU,bW]
    refine⟨k+1,by omega,by omega,?_⟩
    refine aI [] ?_ ?_ ?_<;>simp[AV.ok,Dc.ok,hw,Ds.app,cO]
   ·obtain rfl:k=l.length+12:=by omega
    simp[AQ,cO,aS,d0,d1,hL]
    exact⟨[],by simp⟩
def cCt(a:Ct):Dc:=(.lit (.int .i64 a.m) (.lit (.int .i64 a.t.h.k) (.lit (.int .i64 a.t.h.n) (.lit (.int .i64 a.t.h.a) (.row none 1 43 (bN ty a.t.h.l) (.row none 5 26 (tDs ty a.t.x) .nil))))))
def xS(a:Ct):Dc:=.lit (.int .i64 a.m) (.lit (.int .i64 a.t.h.k) (.lit (.int .i64 a.t.h.n) (.lit (.int .i64 a.t.h.a) (.seg none (.row 1 43 (cC ty a.t.h.l) (bN ty (cW 1 12)) .nil) (.seg none (.row 5 26 (bV ty a.t.x) (tDs ty (bU 1 12)) .nil) .nil)))))
def cY:List Ct->Ds
 | []=>.nil
 | a :: r=>.lit (.int .i64 a.m) (.lit (.int .i64 a.t.h.k) (.lit (.int .i64 a.t.h.n) (.lit (.int .i64 a.t.h.a) (.row 1 43 (cC ty a.t.h.l) (bN ty (cW 1 12)) (.row 5 26 (bV ty a.t.x) (tDs ty (bU 1 12)) (cY r))))))
theorem eY(l:List Ct):(cY l).len=l.length*6:=by
 induction l with
 | nil=>rfl
 | cons a r ih=>simp[cY,Ds.len,ih]<;>omega
theorem rL(p q:List Ct):dU (p++q)=(dU p).app (dU q):=by
 induction p with
 | nil=>rfl
 | cons a r ih=>simp[dU,Ds.app,ih]
theorem wB(p q:List Ct):cY (p++q)=(cY p).app (cY q):=by
 induction p with
 | nil=>rfl
 | cons a r ih=>simp[cY,Ds.app,ih]
theorem sX(l:List Ct):(dU l).good:=by
 induction l with
 | nil=>trivial
 | cons a r ih=>exact⟨rfl,rfl,rfl,rfl,cT _,trivial,bQ _,trivial,ih⟩
theorem rG(l:List Ct):(cY l).strip=dU l:=by
 induction l with
 | nil=>rfl
 | cons a r ih=>simp[cY,dU,Ds.strip,ih,cU,cJ,jM,ty]
def nV(i:Nat):Ct:=⟨fV 1 i,⟨⟨0,0,0,[]⟩,.nil⟩⟩
def cI(n:Nat):List Ct:=(List.range n).map nV
theorem C8(n:Nat):cI (n+1)=cI n++[nV n]:=by simp[cI,List.range_succ]
theorem iV(n:Nat):(cI n).length=n:=by simp[cI]
def gT(l:List Ct):Nat:=(l.map λ a=>1+a.t.size).sum
theorem jW(l:List Ct):l.length<=gT l:=by
 induction l with
 | nil=>exact Nat.le_refl _
 | cons a r ih=>simp only[gT,List.map_cons,List.sum_cons,List.length_cons] at *;omega
theorem GG(a b:List Ct):gT (a++b)=gT a+gT b:=by simp[gT]
theorem rW(a:Ct)(l:List Ct):gT (a :: l)=1+a.t.size+gT l:=by simp only[gT,List.map_cons,List.sum_cons]
theorem oT{l:List Ct}{k:Nat}(h:k<l.length):1+l[k].t.size<=gT l:=by
 have e:l=l.take k++(l[k] :: l.drop (k+1)):=by rw[<-List.drop_eq_getElem_cons h,List.take_append_drop]
 have e2:gT l=gT (l.take k)+gT (l[k] :: l.drop (k+1)):=by rw[<-GG,<-e]
 rw[e2,rW]
 omega
theorem takeCt{l:List Ct}{k:Nat}(h:k<l.length):l.take (k+1)=l.take k++[l[k]]:=(List.take_append_getElem h).symm
theorem dpCt{l:List Ct}{k:Nat}(h:k<l.length):(dU l).dp (k*6)=dU (l[k] :: l.drop (k+1)):=by
 have e:l=l.take k++(l[k] :: l.drop (k+1)):=by rw[<-List.drop_eq_getElem_cons h,List.take_append_drop]
 have h2:(dU (l.take k)).len=k*6:=by rw[bL,List.length_take];first|(congr 1;omega)|omega
 conv=>lhs;rw[e,rL,<-h2,Ds.dp_app]
theorem dpLCt{l:List Ct}{k:Nat}(h:k<l.length)(y:Ds):((cY l).app y).dp (k*6)=(cY (l[k] :: l.drop (k+1))).app y:=by
 have e:l=l.take k++(l[k] :: l.drop (k+1)):=by rw[<-List.drop_eq_getElem_cons h,List.take_append_drop]
 have h2:(cY (l.take k)).len=k*6:=by rw[eY,List.length_take];first|(congr 1;omega)|omega
 conv=>lhs;rw[e,wB,Ds.app_assoc,<-h2,Ds.dp_app]
theorem hdCt(a:Ct)(r:List Ct)(y:Ds):Ds.hd 6 ((cY (a :: r)).app y)=some (xS a):=rfl
theorem dpMCt{l:List Ct}{n i:Nat}(h:i<n):((cY l).app (dU (cI n))).dp ((l.length+i)*6)=dU (nV i :: (cI n).drop (i+1)):=by
 have h0:i<(cI n).length:=by rw[iV];exact h
 have e:cI n=(cI n).take i++(nV i :: (cI n).drop (i+1)):=by
  have e2:(cI n)[i]=nV i:=by simp[cI]
  rw[<-e2,<-List.drop_eq_getElem_cons h0,List.take_append_drop]
 have h2:((cY l).app (dU ((cI n).take i))).len=(l.length+i)*6:=by
  rw[Ds.app_len,eY,bL,List.length_take,iV]
  have:min i n=i:=by omega
  rw[this];omega
 conv=>lhs;rw[e,rL,<-Ds.app_assoc,<-h2,Ds.dp_app]
def cP(l:List Ct):AV:=.c (.row none 6 85 (dU l) .nil)
def sP(l:List Ct):AV:=.c (.seg none (.row 6 85 (cY l) (dU (cI 12)) .nil) .nil)
theorem vS(i:Nat)(hi:i<=1000):HH 159 [iA 1,iA i] (.agg (.lit (.int .i64 (fV 1 i)) (.lit (.int .i64 0) (.lit (.int .i64 0) (.lit (.int .i64 0) (.nilr 1 43 (.nilr 5 26 .nil))))))):=by
 refine ab Tryz.func159 Tryz.ntmps159 Tryz.results159 rfl (by decide) (by simp) rfl rfl ?_
 simp
 refine aE (k120 i hi) ?_ ?_ ?_<;>simp[Ds.len]
 exact⟨[],by simp⟩
theorem DW(a:Ct)(h1:a.t.size<=200000000):HH 158 [.agg (cCt a)] (.agg (xS a)):=by
 refine ab Tryz.func158 Tryz.ntmps158 Tryz.results158 rfl (by decide) (by simp) rfl rfl ?_
 simp[cCt]
 refine aE (k11 a.t h1) ?_ ?_ ?_<;>simp[nY,rF,Ds.len,Ds.app]
 simp[xS]
 first|exact⟨[],by simp⟩|exact⟨Ds.app_nil _,[],by simp⟩
theorem sA(a:Ct):HH 187 [.agg (cCt a),.agg (cCt a)] (.v (.bool true)):=by
 refine ab Tryz.func187 Tryz.ntmps187 Tryz.results187 rfl (by decide) (by simp) rfl rfl ?_
 simp[cCt]
 refine aE (k16 a.t) ?_ ?_ ?_<;>simp
 exact⟨[],by simp⟩
theorem EE(a:Ct)(h1:a.t.size<=100000000):HH 186 [.agg (xS a),.agg (cCt a)] (.v (.bool true)):=by
 refine ab Tryz.func186 Tryz.ntmps186 Tryz.results186 rfl (by decide) (by simp) rfl rfl ?_
 simp[cCt,xS]
 refine aE (sA a) ?_ ?_ ?_<;>simp[cCt]
 ·exact .inr (by simp[Ds.app,Ds.strip,cU,cJ,ty])
 refine aE (k23 a.t h1) ?_ ?_ ?_<;>simp[nY,rF]
 exact⟨[],by simp⟩
def GM(l:List Ct)(k:Nat):St:=bP [(0,cP l),(1,cP l),(5,iA k)] [] []
theorem sameCt(l:List Ct)(hs:gT l<=100000000):HH 182 [cP l,cP l] (.v (.bool true)):=by
 have hl:l.length<=100000000:=Nat.le_trans (jW l) hs
 refine ab Tryz.func182 Tryz.ntmps182 Tryz.results182 rfl (by decide) (by simp) rfl rfl ?_
 have d0:l.length*6 / 6=l.length:=by omega
 simp[cP,bL,d0]
 refine lp (α:={ k:Nat // k<=l.length }) (λ k=>GM l k.1) (λ k=>l.length-k.1) ⟨0,Nat.zero_le _⟩ ?_ ?_
 ·refine aI [] ?_ ?_ ?_<;>simp[cP,AV.ok,Dc.ok]
 ·rintro⟨k,hk⟩
  by_cases hlt:k<l.length
  ·have h1:=dpCt hlt
   try simp only[Nat.mul_one] at h1
   have hsz:=oT hlt
   simp[GM,cP,bL,d0,hlt,h1,dU]
   refine⟨by kernel_rfl,by omega,?_⟩
   refine aE (sA l[k]) ?_ ?_ ?_<;>simp[cCt]
   have hw:IntKind.i64.wrap ((k:Int)+1)=k+1:=by rw[IntKind.wrap_i64];omega
   refine⟨k+1,by omega,by omega,?_⟩
   refine aI [] ?_ ?_ ?_<;>simp[AV.ok,Dc.ok,hw,Ds.app,cP]
  ·obtain rfl:k=l.length:=by omega
   simp[GM,cP,bL,d0]
   exact⟨[],by simp⟩
def GQ(l:List Ct)(k:Nat):St:=bP [(0,cP l),(3,.c (.blk 11 (k+1) 6 85 (.seg none (cY (l.take k)) .nil) .nil)),(4,iA k)] [] [(11,k+1)]
def zW(l:List Ct)(i:Nat):St:=bP [(0,cP l),(3,.c (.blk 11 (l.length+1+i) 6 85 (.seg none ((cY l).app (dU (cI i))) .nil) .nil)),(6,iA i)] [] [(11,l.length+1+i)]
theorem EA(l:List Ct)(hs:gT l<=100000000):HH 77 [cP l] (sP l):=by
 have hl:l.length<=100000000:=Nat.le_trans (jW l) hs
 refine ab Tryz.func77 Tryz.ntmps77 Tryz.results77 rfl (by decide) (by simp) rfl rfl ?_
 have w0:IntKind.i64.wrap ((l.length:Int)+12)=l.length+12:=by rw[IntKind.wrap_i64];omega
 have d0:l.length*6 / 6=l.length:=by omega
 simp[cP,bL,d0,w0]
 refine⟨by omega,?_⟩
 refine lp (α:={ k:Nat // k<=l.length }) (λ k=>GQ l k.1) (λ k=>l.length-k.1) ⟨0,Nat.zero_le _⟩ ?_ ?_
 ·refine aI [((11,0),[(11,0)])] ?_ ?_ ?_<;>simp[cP,cY,AV.ok,Dc.ok]
 ·rintro⟨k,hk⟩
  by_cases hlt:k<l.length
  ·have h1:=dpCt hlt
   try simp only[Nat.mul_one] at h1
   have hsz:=oT hlt
   simp[GQ,cP,bL,d0,hlt,h1,dU]
   refine⟨by omega,?_⟩
   refine aE (DW l[k] (by omega)) ?_ ?_ ?_<;>simp[cCt,xS,jK,Ds.len]
   have hw:IntKind.i64.wrap ((k:Int)+1)=k+1:=by rw[IntKind.wrap_i64];omega
   refine⟨by rw[eY,List.length_take];omega,k+1,by omega,by omega,?_⟩
   refine aI [((11,0),[(11,0)])] ?_ ?_ ?_<;>simp[cP,AV.ok,Dc.ok,hw,-List.take_append_getElem]
   rw[takeCt hlt,wB];rfl
  ·obtain rfl:k=l.length:=by omega
   simp[GQ,cP,bL,d0]
   refine lp (α:={ i:Nat // i<=12 }) (λ i=>zW l i.1) (λ i=>12-i.1) ⟨0,Nat.zero_le _⟩ ?_ ?_
   ·refine aI [((11,0),[(11,0)])] ?_ ?_ ?_<;>simp[zW,cP,cI,dU,AV.ok,Dc.ok]
   ·rintro⟨i,hi⟩
    by_cases h12:i<12
    ·have h13:(i:Int)<12:=by omega
     simp[zW,cP,bL,d0,h13]
     refine aE (vS i (by omega)) ?_ ?_ ?_<;>simp[Ds.len]
     have hw:IntKind.i64.wrap ((i:Int)+1)=i+1:=by rw[IntKind.wrap_i64];omega
     refine⟨by rw[Ds.app_len,eY,bL,iV];omega,i+1,by omega,by omega,?_⟩
     refine aI [((11,0),[(11,0)])] ?_ ?_ ?_<;>simp[cP,AV.ok,Dc.ok,hw,Nat.add_assoc]
     rw[C8,rL,<-Ds.app_assoc];rfl
    ·obtain rfl:i=12:=by omega
     simp[zW,cP,bL,d0]
     have e:=eY l
     try simp only[Nat.mul_one] at e
     refine⟨by first|(rw[Ds.app_nil,Ds.app_len,eY,Ds.len];omega)|(rw[Ds.app_nil,Ds.app_len,eY];omega),[],?_⟩
     simp[sP,Ds.app_nil]
     refine⟨?_,?_⟩<;>rw[<-e]
     ·rw[Ds.tk_app]
     ·rw[Ds.dp_app]
def AS(l:List Ct)(X:Ds)(k:Nat):St:=bP [(1,cP l),(5,.c (.seg none (.row 6 85 X .nil .nil) .nil)),(6,iA k)] [] []
theorem EH(l:List Ct)(hs:gT l<=100000000):HH 106 [sP l,cP l] (.v (.bool true)):=by
 have hl:l.length<=100000000:=Nat.le_trans (jW l) hs
 refine ab Tryz.func106 Tryz.ntmps106 Tryz.results106 rfl (by decide) (by simp) rfl rfl ?_
 have d0:l.length*6 / 6=l.length:=by omega
 have w0:IntKind.i64.wrap ((l.length:Int)+12)=l.length+12:=by rw[IntKind.wrap_i64];omega
 have e1:((l.length:Int)+12).toNat=l.length+12:=by omega
 have hL:((cY l).app (dU (cI 12))).len=(l.length+12)*6:=by rw[Ds.app_len,eY,bL,iV];omega
 have d1:((l.length+12)*6) / 6=l.length+12:=by omega
 simp[cP,sP,bL,eY,iV,d0,w0,e1]
 first|refine⟨⟨by omega,by omega⟩,?_⟩|refine⟨by omega,?_⟩
 have t1:Ds.tk ((l.length+12)*6) ((cY l).app (dU (cI 12)))=(cY l).app (dU (cI 12)):=by
  have:=Ds.tk_app ((cY l).app (dU (cI 12))) .nil;rw[hL,Ds.app_nil] at this;simpa using this
 have t2:Ds.dp ((l.length+12)*6) ((cY l).app (dU (cI 12)))=.nil:=by
  have:=Ds.dp_app ((cY l).app (dU (cI 12))) .nil;rw[hL,Ds.app_nil] at this;simpa using this
 rw[t1,t2]
 have m1:∀k (h:k<l.length),∃y,Ds.dp (k*6) ((cY l).app (dU (cI 12)))=(cY (l[k] :: l.drop (k+1))).app y:=λ k h=>⟨_,dpLCt h _⟩
 have m2:∀j,j<12->∃r,Ds.dp ((l.length+j)*6) ((cY l).app (dU (cI 12)))=dU (nV j :: r):=λ j h=>⟨_,dpMCt h⟩
 try simp only[Nat.mul_one] at m1 m2
 generalize (cY l).app (dU (cI 12))=X at *
 clear t1 t2
 refine lp (α:={ k:Nat // k<=l.length+12 }) (λ k=>AS l X k.1) (λ k=>l.length+12-k.1) ⟨0,Nat.zero_le _⟩ ?_ ?_
 ·refine aI [] ?_ ?_ ?_<;>simp[cP,AV.ok,Dc.ok,Ds.app]
 ·rintro⟨k,hk⟩
  have hw:IntKind.i64.wrap ((k:Int)+1)=k+1:=by rw[IntKind.wrap_i64];omega
  by_cases hlt:k<l.length
  ·have h1:=dpCt hlt
   try simp only[Nat.mul_one] at h1
   obtain⟨y,h2⟩:=m1 k hlt
   have hsz:=oT hlt
   have h3:(k:Int)<(l.length:Int)+12:=by omega
   have h4:¬(l.length:Int)<=k:=by omega
   generalize l.drop (k+1)=r at h1 h2
   generalize l[k]=a at *
   simp[AS,cP,bL,d0,d1,hL,hlt,h1,h2,h3,dU,hdCt]
   refine⟨by kernel_rfl,by omega,by omega,?_⟩
   refine aE (EE a (by omega)) ?_ ?_ ?_
   ·first|exact⟨⟨rfl,.inl (by simp[Ds.app,cCt,xS])⟩,rfl,⟨⟨rfl,.inl (by simp[Ds.app,cCt])⟩,rfl,trivial⟩⟩|(simp[Ds.app,cCt,xS])
   ·simp
   simp[hlt,h3,h4,d0,d1,hL,bL,cP]
   refine⟨k+1,by omega,by omega,?_⟩
   refine aI [] ?_ ?_ ?_<;>simp[AV.ok,Dc.ok,hw,Ds.app,cP]
  ·by_cases hlt2:k<l.length+12
   ·obtain⟨j,hj⟩:=Nat.exists_eq_add_of_le (Nat.le_of_not_lt hlt)
    obtain⟨r,h1⟩:=m2 j (by omega)
    rw[<-hj] at h1
    have h3:(k:Int)<(l.length:Int)+12:=by omega
    have h4:(l.length:Int)<=k:=by omega
    have w3:IntKind.i64.wrap ((k:Int)-l.length)=j:=by rw[IntKind.wrap_i64];omega
    simp[AS,cP,bL,d0,d1,hL,hlt,h1,h3,h4,w3,dU]
    refine⟨by kernel_rfl,by omega,?_⟩
    refine aE (vS j (by omega)) ?_ ?_ ?_<;>simp
    refine aE (sA (nV j)) ?_ ?_ ?_<;>simp[cCt,nV,bW]
    refine⟨k+1,by omega,by omega,?_⟩
    refine aI [] ?_ ?_ ?_<;>simp[AV.ok,Dc.ok,hw,Ds.app,cP]
   ·obtain rfl:k=l.length+12:=by omega
    simp[AS,cP,bL,d0,d1,hL]
    exact⟨[],by simp⟩
abbrev EB(a:Rl):Dc:=jK a
def dB:List Rl->Ds
 | []=>.nil
 | a :: r=>.lit (.int .i64 a.m) (.row 9 82 (cR a.g) (bW (cE 1 12)) (.row 5 26 (bV ty a.i) (tDs ty (bU 1 12)) (dB r)))
theorem eW(l:List Rl):(dB l).len=l.length*3:=by
 induction l with
 | nil=>rfl
 | cons a r ih=>simp[dB,Ds.len,ih]<;>omega
theorem gK(p q:List Rl):aO (p++q)=(aO p).app (aO q):=by
 induction p with
 | nil=>rfl
 | cons a r ih=>simp[aO,Ds.app,ih]
theorem vW(p q:List Rl):dB (p++q)=(dB p).app (dB q):=by
 induction p with
 | nil=>rfl
 | cons a r ih=>simp[dB,Ds.app,ih]
theorem qW(l:List Rl):(aO l).good:=by
 induction l with
 | nil=>trivial
 | cons a r ih=>exact⟨rfl,FK _,trivial,bQ _,trivial,ih⟩
theorem D7(l:List Rl):(dB l).strip=aO l:=by
 induction l with
 | nil=>rfl
 | cons a r ih=>simp[dB,aO,Ds.strip,ih,cU,cJ,jM,ty]
def nR(i:Nat):Rl:=⟨fV 1 i,[],.nil⟩
def cL(n:Nat):List Rl:=(List.range n).map nR
theorem C6(n:Nat):cL (n+1)=cL n++[nR n]:=by simp[cL,List.range_succ]
theorem iT(n:Nat):(cL n).length=n:=by simp[cL]
def fY(l:List Rl):Nat:=(l.map λ a=>1+(cF a.g+a.i.size)).sum
theorem nI(l:List Rl):l.length<=fY l:=by
 induction l with
 | nil=>exact Nat.le_refl _
 | cons a r ih=>simp only[fY,List.map_cons,List.sum_cons,List.length_cons] at *;omega
theorem GE(a b:List Rl):fY (a++b)=fY a+fY b:=by simp[fY]
theorem lI(a:Rl)(l:List Rl):fY (a :: l)=1+(cF a.g+a.i.size)+fY l:=by simp only[fY,List.map_cons,List.sum_cons]
theorem oR{l:List Rl}{k:Nat}(h:k<l.length):1+(cF l[k].g+l[k].i.size)<=fY l:=by
 have e:l=l.take k++(l[k] :: l.drop (k+1)):=by rw[<-List.drop_eq_getElem_cons h,List.take_append_drop]
 have e2:fY l=fY (l.take k)+fY (l[k] :: l.drop (k+1)):=by rw[<-GE,<-e]
 rw[e2,lI]
 omega
theorem takeRr{l:List Rl}{k:Nat}(h:k<l.length):l.take (k+1)=l.take k++[l[k]]:=(List.take_append_getElem h).symm
theorem dpRr{l:List Rl}{k:Nat}(h:k<l.length):(aO l).dp (k*3)=aO (l[k] :: l.drop (k+1)):=by
 have e:l=l.take k++(l[k] :: l.drop (k+1)):=by rw[<-List.drop_eq_getElem_cons h,List.take_append_drop]
 have h2:(aO (l.take k)).len=k*3:=by rw[aN,List.length_take];first|(congr 1;omega)|omega
 conv=>lhs;rw[e,gK,<-h2,Ds.dp_app]
theorem dpLRr{l:List Rl}{k:Nat}(h:k<l.length)(y:Ds):((dB l).app y).dp (k*3)=(dB (l[k] :: l.drop (k+1))).app y:=by
 have e:l=l.take k++(l[k] :: l.drop (k+1)):=by rw[<-List.drop_eq_getElem_cons h,List.take_append_drop]
 have h2:(dB (l.take k)).len=k*3:=by rw[eW,List.length_take];first|(congr 1;omega)|omega
 conv=>lhs;rw[e,vW,Ds.app_assoc,<-h2,Ds.dp_app]
theorem hdRr(a:Rl)(r:List Rl)(y:Ds):Ds.hd 3 ((dB (a :: r)).app y)=some (EB a):=rfl
theorem dpMRr{l:List Rl}{n i:Nat}(h:i<n):((dB l).app (aO (cL n))).dp ((l.length+i)*3)=aO (nR i :: (cL n).drop (i+1)):=by
 have h0:i<(cL n).length:=by rw[iT];exact h
 have e:cL n=(cL n).take i++(nR i :: (cL n).drop (i+1)):=by
  have e2:(cL n)[i]=nR i:=by simp[cL]
  rw[<-e2,<-List.drop_eq_getElem_cons h0,List.take_append_drop]
 have h2:((dB l).app (aO ((cL n).take i))).len=(l.length+i)*3:=by
  rw[Ds.app_len,eW,aN,List.length_take,iT]
  have:min i n=i:=by omega
  rw[this];omega
 conv=>lhs;rw[e,gK,<-Ds.app_assoc,<-h2,Ds.dp_app]
def dS(l:List Rl):AV:=.c (.row none 3 65 (aO l) .nil)
def lD(l:List Rl):AV:=.c (.seg none (.row 3 65 (dB l) (aO (cL 12)) .nil) .nil)
theorem vQ(i:Nat)(hi:i<=1000):HH 78 [iA 1,iA i] (.agg (.lit (.int .i64 (fV 1 i)) (.nilr 9 82 (.nilr 5 26 .nil)))):=by
 refine ab Tryz.func78 Tryz.ntmps78 Tryz.results78 rfl (by decide) (by simp) rfl rfl ?_
 simp
 refine aE (k120 i hi) ?_ ?_ ?_<;>simp[Ds.len]
 exact⟨[],by simp⟩
def GN(l:List Rl)(k:Nat):St:=bP [(0,dS l),(3,.c (.blk 11 (k+1) 3 65 (.seg none (dB (l.take k)) .nil) .nil)),(4,iA k)] [] [(11,k+1)]
def zU(l:List Rl)(i:Nat):St:=bP [(0,dS l),(3,.c (.blk 11 (l.length+1+i) 3 65 (.seg none ((dB l).app (aO (cL i))) .nil) .nil)),(6,iA i)] [] [(11,l.length+1+i)]
theorem DY(l:List Rl)(hs:fY l<=100000000):HH 29 [dS l] (lD l):=by
 have hl:l.length<=100000000:=Nat.le_trans (nI l) hs
 refine ab Tryz.func29 Tryz.ntmps29 Tryz.results29 rfl (by decide) (by simp) rfl rfl ?_
 have w0:IntKind.i64.wrap ((l.length:Int)+12)=l.length+12:=by rw[IntKind.wrap_i64];omega
 have d0:l.length*3 / 3=l.length:=by omega
 simp[dS,aN,d0,w0]
 refine⟨by omega,?_⟩
 refine lp (α:={ k:Nat // k<=l.length }) (λ k=>GN l k.1) (λ k=>l.length-k.1) ⟨0,Nat.zero_le _⟩ ?_ ?_
 ·refine aI [((11,0),[(11,0)])] ?_ ?_ ?_<;>simp[dS,dB,AV.ok,Dc.ok]
 ·rintro⟨k,hk⟩
  by_cases hlt:k<l.length
  ·have h1:=dpRr hlt
   try simp only[Nat.mul_one] at h1
   have hsz:=oR hlt
   simp[GN,dS,aN,d0,hlt,h1,aO]
   refine⟨by omega,?_⟩
   refine aE (k36 l[k] (by omega) (by omega)) ?_ ?_ ?_<;>simp[rlL,rlC,EB,jK,Ds.len]
   have hw:IntKind.i64.wrap ((k:Int)+1)=k+1:=by rw[IntKind.wrap_i64];omega
   refine⟨by rw[eW,List.length_take];omega,k+1,by omega,by omega,?_⟩
   refine aI [((11,0),[(11,0)])] ?_ ?_ ?_<;>simp[dS,AV.ok,Dc.ok,hw,-List.take_append_getElem]
   rw[takeRr hlt,vW];rfl
  ·obtain rfl:k=l.length:=by omega
   simp[GN,dS,aN,d0]
   refine lp (α:={ i:Nat // i<=12 }) (λ i=>zU l i.1) (λ i=>12-i.1) ⟨0,Nat.zero_le _⟩ ?_ ?_
   ·refine aI [((11,0),[(11,0)])] ?_ ?_ ?_<;>simp[zU,dS,cL,aO,AV.ok,Dc.ok]
   ·rintro⟨i,hi⟩
    by_cases h12:i<12
    ·have h13:(i:Int)<12:=by omega
     simp[zU,dS,aN,d0,h13]
     refine aE (vQ i (by omega)) ?_ ?_ ?_<;>simp[Ds.len]
     have hw:IntKind.i64.wrap ((i:Int)+1)=i+1:=by rw[IntKind.wrap_i64];omega
     refine⟨by rw[Ds.app_len,eW,aN,iT];omega,i+1,by omega,by omega,?_⟩
     refine aI [((11,0),[(11,0)])] ?_ ?_ ?_<;>simp[dS,AV.ok,Dc.ok,hw,Nat.add_assoc]
     rw[C6,gK,<-Ds.app_assoc];rfl
    ·obtain rfl:i=12:=by omega
     simp[zU,dS,aN,d0]
     have e:=eW l
     try simp only[Nat.mul_one] at e
     refine⟨by first|(rw[Ds.app_nil,Ds.app_len,eW,Ds.len];omega)|(rw[Ds.app_nil,Ds.app_len,eW];omega),[],?_⟩
     simp[lD,Ds.app_nil]
     refine⟨?_,?_⟩<;>rw[<-e]
     ·rw[Ds.tk_app]
     ·rw[Ds.dp_app]
def AO(l:List Rl)(X:Ds)(k:Nat):St:=bP [(1,dS l),(5,.c (.seg none (.row 3 65 X .nil .nil) .nil)),(6,iA k)] [] []
theorem EF(l:List Rl)(hs:fY l<=100000000):HH 33 [lD l,dS l] (.v (.bool true)):=by
 have hl:l.length<=100000000:=Nat.le_trans (nI l) hs
 refine ab Tryz.func33 Tryz.ntmps33 Tryz.results33 rfl (by decide) (by simp) rfl rfl ?_
 have d0:l.length*3 / 3=l.length:=by omega
 have w0:IntKind.i64.wrap ((l.length:Int)+12)=l.length+12:=by rw[IntKind.wrap_i64];omega
 have e1:((l.length:Int)+12).toNat=l.length+12:=by omega
 have hL:((dB l).app (aO (cL 12))).len=(l.length+12)*3:=by rw[Ds.app_len,eW,aN,iT];omega
 have d1:((l.length+12)*3) / 3=l.length+12:=by omega
 simp[dS,lD,aN,eW,iT,d0,w0,e1]
 first|refine⟨⟨by omega,by omega⟩,?_⟩|refine⟨by omega,?_⟩
 have t1:Ds.tk ((l.length+12)*3) ((dB l).app (aO (cL 12)))=(dB l).app (aO (cL 12)):=by
  have:=Ds.tk_app ((dB l).app (aO (cL 12))) .nil;rw[hL,Ds.app_nil] at this;simpa using this
 have t2:Ds.dp ((l.length+12)*3) ((dB l).app (aO (cL 12)))=.nil:=by
  have:=Ds.dp_app ((dB l).app (aO (cL 12))) .nil;rw[hL,Ds.app_nil] at this;simpa using this
 rw[t1,t2]
 have m1:∀k (h:k<l.length),∃y,Ds.dp (k*3) ((dB l).app (aO (cL 12)))=(dB (l[k] :: l.drop (k+1))).app y:=λ k h=>⟨_,dpLRr h _⟩
 have m2:∀j,j<12->∃r,Ds.dp ((l.length+j)*3) ((dB l).app (aO (cL 12)))=aO (nR j :: r):=λ j h=>⟨_,dpMRr h⟩
 try simp only[Nat.mul_one] at m1 m2
 generalize (dB l).app (aO (cL 12))=X at *
 clear t1 t2
 refine lp (α:={ k:Nat // k<=l.length+12 }) (λ k=>AO l X k.1) (λ k=>l.length+12-k.1) ⟨0,Nat.zero_le _⟩ ?_ ?_
 ·refine aI [] ?_ ?_ ?_<;>simp[dS,AV.ok,Dc.ok,Ds.app]
 ·rintro⟨k,hk⟩
  have hw:IntKind.i64.wrap ((k:Int)+1)=k+1:=by rw[IntKind.wrap_i64];omega
  by_cases hlt:k<l.length
  ·have h1:=dpRr hlt
   try simp only[Nat.mul_one] at h1
   obtain⟨y,h2⟩:=m1 k hlt
   have hsz:=oR hlt
   have h3:(k:Int)<(l.length:Int)+12:=by omega
   have h4:¬(l.length:Int)<=k:=by omega
   generalize l.drop (k+1)=r at h1 h2
   generalize l[k]=a at *
   simp[AO,dS,aN,d0,d1,hL,hlt,h1,h2,h3,aO,hdRr]
   refine⟨by kernel_rfl,by omega,by omega,?_⟩
   refine aE (k48 a (by omega) (by omega)) ?_ ?_ ?_
   ·first|exact⟨⟨rfl,.inl (by simp[Ds.app,rlL,rlC,EB])⟩,rfl,⟨⟨rfl,.inl (by simp[Ds.app,rlL,rlC])⟩,rfl,trivial⟩⟩|(simp[Ds.app,rlL,rlC,EB])
   ·simp
   simp[hlt,h3,h4,d0,d1,hL,aN,dS]
   refine⟨k+1,by omega,by omega,?_⟩
   refine aI [] ?_ ?_ ?_<;>simp[AV.ok,Dc.ok,hw,Ds.app,dS]
  ·by_cases hlt2:k<l.length+12
   ·obtain⟨j,hj⟩:=Nat.exists_eq_add_of_le (Nat.le_of_not_lt hlt)
    obtain⟨r,h1⟩:=m2 j (by omega)
    rw[<-hj] at h1
    have h3:(k:Int)<(l.length:Int)+12:=by omega
    have h4:(l.length:Int)<=k:=by omega
    have w3:IntKind.i64.wrap ((k:Int)-l.length)=j:=by rw[IntKind.wrap_i64];omega
    simp[AO,dS,aN,d0,d1,hL,hlt,h1,h3,h4,w3,aO]
    refine⟨by kernel_rfl,by omega,?_⟩
    refine aE (vQ j (by omega)) ?_ ?_ ?_<;>simp
    refine aE (k107 (nR j) (Nat.zero_le _)) ?_ ?_ ?_<;>simp[rlL,rlC,nR,bW]
    refine⟨k+1,by omega,by omega,?_⟩
    refine aI [] ?_ ?_ ?_<;>simp[AV.ok,Dc.ok,hw,Ds.app,dS]
   ·obtain rfl:k=l.length+12:=by omega
    simp[AO,dS,aN,d0,d1,hL]
    exact⟨[],by simp⟩
def lA(n:Nat):List Lv:=(List.range n).map λ i:Nat=>iB ((i:Int)+1)
theorem sH(n:Nat):lA (n+1)=lA n++[iB ((n:Int)+1)]:=by simp[lA,List.range_succ]
theorem K6(n:Nat):(lA n).length=n:=by simp[lA]
theorem X1(a b:List Lv):aH (a++b)=aH a+aH b:=by
 induction a with
 | nil=>simp[aH]
 | cons p r ih=>simp only[List.cons_append,aH,ih];omega
theorem sI(n:Nat):aH (lA n)=2*n:=by
 induction n with
 | zero=>rfl
 | succ n ih=>rw[sH,X1,ih];simp[aH,iB];omega
theorem sJ(n:Nat)(hn:n<=100000000):∀p∈lA n,∀q∈p,(-9223372036854775808<=q.1/\q.1<=9223372036854775807)/\(-9223372036854775808<=q.2/\q.2<=9223372036854775807):=by
 intro p hp q hq
 simp only[lA,List.mem_map,List.mem_range] at hp
 obtain⟨i,hi,rfl⟩:=hp
 simp only[iB,List.mem_singleton] at hq
 subst hq
 simp only
 omega
abbrev fW(n:Int):Prop:=-9223372036854775808<=n/\n<=9223372036854775807
theorem uF{k n a:Int}{l:List Lv}(hk:0<=k/\k<=100)(hn:fW n)(ha:0<=a/\a<=100000000000)(hl:∀p∈l,∀q∈p,(-9223372036854775808<=q.1/\q.1<=9223372036854775807)/\(-9223372036854775808<=q.2/\q.2<=9223372036854775807)):Hd.fits ⟨k,n,a,l⟩ :=
 ⟨⟨by show -9223372036854775808<=k;omega,by show k<=9223372036854775807;omega⟩,hn,⟨by show -9223372036854775808<=a;omega,by show a<=9223372036854775807;omega⟩,hl⟩
def lsA(l:List Lv):AV:=.c (.row none 1 43 (bN ty l) .nil)
def IA(n k:Nat):St:=bP [(2,.c (.blk 15 (k+1) 1 43 (.seg none (bN ty (lA k)) .nil) .nil)),(5,iA n),(6,iA k)] [] [(15,k+1)]
theorem k178(n:Int)(hn:n<=1000000):HH 178 [iA n] (lsA (lA n.toNat)):=by
 refine ab Tryz.func178 Tryz.ntmps178 Tryz.results178 rfl (by decide) (by simp) rfl rfl ?_
 have e0:(if (0:Int)>n then 0 else n)=(n.toNat:Int):=by split<;>omega
 simp only[gt_iff_lt] at e0
 generalize hm:n.toNat=m at *
 have hm2:m<=100000000:=by omega
 simp[e0]
 refine lp (α:={ k:Nat // k<=m }) (λ k=>IA m k.1) (λ k=>m-k.1) ⟨0,Nat.zero_le _⟩ ?_ ?_
 ·refine aI [((15,0),[(15,0)])] ?_ ?_ ?_<;>simp[AV.ok,Dc.ok,lA]
 ·rintro⟨k,hk⟩
  have hw:IntKind.i64.wrap ((k:Int)+1)=k+1:=by rw[IntKind.wrap_i64];omega
  by_cases hlt:k<m
  ·simp[IA,hlt,hw]
   refine aE (k222 ((k:Int)+1) (by omega) (by omega)) ?_ ?_ ?_<;>simp[lvA]
   refine⟨by rw[eI,K6];omega,k+1,by omega,by omega,?_⟩
   refine aI [((15,0),[(15,0)])] ?_ ?_ ?_<;>simp[AV.ok,Dc.ok,hw,sH]
   rw[lL];rfl
  ·obtain rfl:k=m:=by omega
   simp[IA,Ds.app_nil]
   exact⟨[],by simp[lsA,Ds.app_nil]⟩
def GZ(n:Int)(k:Nat):St:=bP [(0,iA n),(3,.c (.blk 15 (k+1) 1 43 (.seg none (bN ty (lA k)) .nil) .nil)),(4,iA ((k:Int)+1))] [] [(15,k+1)]
theorem k180(n:Int)(hn:n<=1000000):HH 180 [iA n] (lsA (lA n.toNat)):=by
 refine ab Tryz.func180 Tryz.ntmps180 Tryz.results180 rfl (by decide) (by simp) rfl rfl ?_
 generalize hm:n.toNat=m at *
 simp
 refine lp (α:={ k:Nat // k<=m }) (λ k=>GZ n k.1) (λ k=>m-k.1) ⟨0,Nat.zero_le _⟩ ?_ ?_
 ·refine aI [((15,0),[(15,0)])] ?_ ?_ ?_<;>simp[AV.ok,Dc.ok,lA]
 ·rintro⟨k,hk⟩
  have hw:IntKind.i64.wrap ((k:Int)+1+1)=(k:Int)+1+1:=by rw[IntKind.wrap_i64];omega
  by_cases hlt:(k:Int)+1<=n
  ·simp[GZ,hlt,hw]
   refine aE (k223 ((k:Int)+1) (by omega) (by omega)) ?_ ?_ ?_<;>simp[lvA]
   refine⟨by rw[eI,K6];omega,k+1,by omega,by omega,?_⟩
   refine aI [((15,0),[(15,0)])] ?_ ?_ ?_<;>simp[AV.ok,Dc.ok,hw,sH]
   rw[lL];rfl
  ·obtain rfl:k=m:=by omega
   simp[GZ,hlt,Ds.app_nil]
   exact⟨[],by simp[lsA,Ds.app_nil]⟩
def gX(d:Dl)(num far:Int):Tm:=fL ⟨⟨3,num,0,lA d.lv.toNat⟩,.nil⟩ (bZ far d.p.len)
theorem k98(d:Dl)(num far:Int)(hl:d.lv<=1000)(hp:d.p.size<=10000000)(hn:fW num):HH 98 [dlL d,iA num,iA far] (tmL (gX d num far)):=by
 have hpl:d.p.len<=10000000:=Nat.le_trans (len_le_size d.p) hp
 have d0:d.p.len*5 / 5=d.p.len:=by omega
 have hf:Tm.fits ⟨⟨3,num,0,lA d.lv.toNat⟩,.nil⟩:=⟨uF (by decide) hn (by decide) (sJ _ (by omega)),trivial⟩
 have hs:Tm.size ⟨⟨3,num,0,lA d.lv.toNat⟩,.nil⟩<=100000000:=by simp only[Tm.size,sI,Ts.size];omega
 refine ab Tryz.func98 Tryz.ntmps98 Tryz.results98 rfl (by decide) (by simp) rfl rfl ?_
 simp[dlL,dlC]
 refine⟨by kernel_rfl,?_⟩
 refine aE (k178 d.lv (by omega)) ?_ ?_ ?_<;>simp[lsA,aF,d0]
 refine aE (k110f d.p.len far hpl) ?_ ?_ ?_<;>simp
 refine aE (k95 _ (bZ far d.p.len) hf hs (mB far _) (by rw[mA];omega)) ?_ ?_ ?_<;>simp[gX]
 exact⟨[],by simp⟩
theorem k99(d:Dl)(num far:Int)(hl:d.lv<=1000)(hp:d.p.size<=10000000)(hn:fW num):HH 99 [dlL d,iA num,iA far] (tmL (gX d num far)):=by
 have hpl:d.p.len<=10000000:=Nat.le_trans (len_le_size d.p) hp
 have d0:d.p.len*5 / 5=d.p.len:=by omega
 have hf:Tm.fits ⟨⟨3,num,0,lA d.lv.toNat⟩,.nil⟩:=⟨uF (by decide) hn (by decide) (sJ _ (by omega)),trivial⟩
 have hs:Tm.size ⟨⟨3,num,0,lA d.lv.toNat⟩,.nil⟩<=100000000:=by simp only[Tm.size,sI,Ts.size];omega
 refine ab Tryz.func99 Tryz.ntmps99 Tryz.results99 rfl (by decide) (by simp) rfl rfl ?_
 simp[dlL,dlC]
 refine⟨by kernel_rfl,?_⟩
 refine aE (k180 d.lv (by omega)) ?_ ?_ ?_<;>simp[lsA,aF,d0]
 refine aE (k117f d.p.len far hpl) ?_ ?_ ?_<;>simp
 refine aE (k179 _ (bZ far d.p.len) hf hs (mB far _) (by rw[mA];omega)) ?_ ?_ ?_<;>simp[gX]
 exact⟨[],by simp⟩
theorem iZ(d:Dl)(num far:Int)(hl:d.lv<=1000)(hn:fW num):(gX d num far).fits :=
 mU _ _ ⟨uF (by decide) hn (by decide) (sJ _ (by omega)),trivial⟩ (mB far _)
theorem iY(d:Dl)(num far:Int)(hl:d.lv<=1000):(gX d num far).size<=2000+2*d.p.size:=by
 have:=mT (bZ far d.p.len) ⟨⟨3,num,0,lA d.lv.toNat⟩,.nil⟩
 have e:Tm.size ⟨⟨3,num,0,lA d.lv.toNat⟩,.nil⟩=2*d.lv.toNat:=by simp only[Tm.size,sI,Ts.size];omega
 rw[e,mA] at this
 have h2:=len_le_size d.p
 unfold gX
 omega
theorem k165(t:Ts)(b:Tm)(hf:t.fits)(hs:t.size<=100000000)(hbf:b.fits)(hbs:b.size<=100000000):HH 165 [tsA none t,tmL b] (tmL (aK 4 t b)):=by
 refine ab Tryz.func165 Tryz.ntmps165 Tryz.results165 rfl (by decide) (by simp) rfl rfl ?_
 simp
 refine⟨by kernel_rfl,?_⟩
 refine aE (k217 t hf hs) ?_ ?_ ?_<;>simp
 refine aE (KB b hbf hbs) ?_ ?_ ?_<;>simp
 refine aE (k218 4 t b) ?_ ?_ ?_<;>simp
 exact⟨[],by simp⟩
theorem k88(t:Ts)(b:Tm)(hf:t.fits)(hs:t.size<=100000000)(hbf:b.fits)(hbs:b.size<=100000000):HH 88 [tmL b,tsA none t] (tmL (aK 5 t b)):=by
 refine ab Tryz.func88 Tryz.ntmps88 Tryz.results88 rfl (by decide) (by simp) rfl rfl ?_
 simp
 refine aE (k162 t b hf hs hbf hbs) ?_ ?_ ?_<;>simp
 exact⟨[],by simp⟩
theorem k91(t:Ts)(b:Tm)(hf:t.fits)(hs:t.size<=100000000)(hbf:b.fits)(hbs:b.size<=100000000):HH 91 [tmL b,tsA none t] (tmL (aK 4 t b)):=by
 refine ab Tryz.func91 Tryz.ntmps91 Tryz.results91 rfl (by decide) (by simp) rfl rfl ?_
 simp
 refine aE (k165 t b hf hs hbf hbs) ?_ ?_ ?_<;>simp
 exact⟨[],by simp⟩
theorem k221(t:Ts)(b:Tm)(hf:t.fits)(hs:t.size<=100000000)(hbf:b.fits)(hbs:b.size<=100000000):HH 221 [tsA none t,tmL b] (tmL (aK 4 t b)):=by
 refine ab Tryz.func221 Tryz.ntmps221 Tryz.results221 rfl (by decide) (by simp) rfl rfl ?_
 simp
 refine aE (k226 4 t b hf hs hbf hbs) ?_ ?_ ?_<;>simp
 exact⟨[],by simp⟩
theorem aW{a:Tm}(h:a.fits):a.ts.fits:=⟨h.1,h.2,trivial⟩
theorem JZ(a b:Tm)(hf:a.fits)(hs:a.size<=90000000)(hbf:b.fits)(hbs:b.size<=100000000):HH 171 [tmL a,tmL b] (tmL (aK 5 a.ts b)):=by
 have q:=k196 a.ts b (aW hf) (by rw[bA];omega) hbf hbs
 refine ab Tryz.func171 Tryz.ntmps171 Tryz.results171 rfl (by decide) (by simp) rfl rfl ?_
 simp
 refine aE q ?_ ?_ ?_<;>simp
 exact⟨[],by simp⟩
theorem k174(a b:Tm)(hf:a.fits)(hs:a.size<=90000000)(hbf:b.fits)(hbs:b.size<=100000000):HH 174 [tmL a,tmL b] (tmL (aK 4 a.ts b)):=by
 have q:=k221 a.ts b (aW hf) (by rw[bA];omega) hbf hbs
 refine ab Tryz.func174 Tryz.ntmps174 Tryz.results174 rfl (by decide) (by simp) rfl rfl ?_
 simp
 refine aE q ?_ ?_ ?_<;>simp
 exact⟨[],by simp⟩
theorem k176(f x:Tm)(hf:f.fits)(hs:f.size<=100000000)(hx:x.fits)(hxs:x.size<=90000000):HH 176 [tmL f,tmL x] (tmL (fL f x.ts)):=by
 have q:=k179 f x.ts hf hs (aW hx) (by rw[bA];omega)
 refine ab Tryz.func176 Tryz.ntmps176 Tryz.results176 rfl (by decide) (by simp) rfl rfl ?_
 simp
 refine aE q ?_ ?_ ?_<;>simp
 exact⟨[],by simp⟩
def atT(d:Dl)(num far:Int)(x:Tm):Tm:=fL (gX d num far) x.ts
theorem rR(d:Dl)(num far:Int)(x:Tm)(hl:d.lv<=1000)(hn:fW num)(hx:x.fits):(atT d num far x).fits:=mU _ _ (iZ d num far hl hn) (aW hx)
theorem rQ(d:Dl)(num far:Int)(x:Tm)(hl:d.lv<=1000):(atT d num far x).size<=2002+2*d.p.size+2*x.size:=by
 have h1:=mT x.ts (gX d num far)
 have h2:=iY d num far hl
 rw[bA] at h1
 unfold atT
 omega
theorem JY(d:Dl)(num far:Int)(x:Tm)(hl:d.lv<=1000)(hp:d.p.size<=10000000)(hn:fW num)(hx:x.fits)(hxs:x.size<=30000000):HH 172 [dlL d,iA num,iA far,tmL x] (tmL (atT d num far x)):=by
 have c2:=iY d num far hl
 have q1:=k99 d num far hl hp hn
 have q2:=k176 (gX d num far) x (iZ d num far hl hn) (by omega) hx (by omega)
 refine ab Tryz.func172 Tryz.ntmps172 Tryz.results172 rfl (by decide) (by simp) rfl rfl ?_
 simp[dlL,dlC]
 refine⟨by kernel_rfl,?_⟩
 refine aE q1 ?_ ?_ ?_<;>simp[dlL,dlC]
 refine aE q2 ?_ ?_ ?_<;>simp[atT]
 exact⟨[],by simp⟩
def bkC(d:Dl)(l:List Rl)(base:Int):Dc:=(dlC d).app (.row none 3 65 (aO l) (.lit (.int .i64 base) .nil))
theorem pN(n:Int):fW (IntKind.i64.wrap n):=by unfold fW;rw[IntKind.wrap_i64];omega
theorem k90(d:Dl)(l:List Rl)(base n far:Int)(x:Tm)(hl:d.lv<=1000)(hp:d.p.size<=10000000)(hx:x.fits)(hxs:x.size<=30000000):HH 90 [.agg (bkC d l base),iA n,iA far,tmL x] (tmL (atT d (IntKind.i64.wrap (base+n)) far x)):=by
 have hn:=pN (base+n)
 generalize hN:IntKind.i64.wrap (base+n)=num at *
 have c2:=iY d num far hl
 have q1:=k98 d num far hl hp hn
 have q2:=k95 (gX d num far) x.ts (iZ d num far hl hn) (by omega) (aW hx) (by rw[bA];omega)
 refine ab Tryz.func90 Tryz.ntmps90 Tryz.results90 rfl (by decide) (by simp) rfl rfl ?_
 simp[bkC,dlC,hN]
 refine⟨by kernel_rfl,?_⟩
 refine aE q1 ?_ ?_ ?_<;>simp[dlL,dlC]
 refine aE q2 ?_ ?_ ?_<;>simp[atT]
 exact⟨[],by simp⟩
def vT(n:Int):Tm:=⟨⟨1,n,0,[]⟩,.nil⟩
def sT(d:Dl)(base far:Int):Tm:=⟨kH 12,.cons (kI d.m.length) .nil (atT d base (IntKind.i64.wrap (far+1)) (vT 0)).ts⟩
def cB(d:Dl)(base far:Int):Tm:=⟨kH 12,.cons (kI d.c.length) .nil (atT d (IntKind.i64.wrap (base+1)) (IntKind.i64.wrap (far+1)) (vT 0)).ts⟩
theorem bM{n:Int}(h:0<=n/\n<=100000000000):(vT n).fits:=⟨dV (by decide) h (by decide),trivial⟩
theorem k100(d:Dl)(base far:Int)(hl:d.lv<=1000)(hp:d.p.size<=10000000)(hn:fW base)(hm:d.m.length<=10000000):HH 100 [dlL d,iA base,iA far] (tmL (sT d base far)):=by
 generalize hF:IntKind.i64.wrap (far+1)=far1
 have c2:=iY d base far1 hl
 have q1:=k98 d base far1 hl hp hn
 have q2:=k95 (gX d base far1) (vT 0).ts (iZ d base far1 hl hn) (by omega) (aW (bM (by decide))) (by decide)
 have a2:=rQ d base far1 (vT 0) hl
 have q3:=g59 12 (.cons (kI d.m.length) .nil (atT d base far1 (vT 0)).ts) (by decide) ⟨dV (by decide) (by omega) (by decide),trivial,aW (rR d base far1 (vT 0) hl hn (bM (by decide)))⟩ (by have e:(vT 0).size=0:=rfl;rw[e] at a2;simp only[Ts.size,aH,kI,bA];omega)
 refine ab Tryz.func100 Tryz.ntmps100 Tryz.results100 rfl (by decide) (by simp) rfl rfl ?_
 simp[dlL,dlC,aS,hF]
 refine⟨by kernel_rfl,?_⟩
 refine aE (g57 d.m.length) ?_ ?_ ?_<;>simp
 refine aE q1 ?_ ?_ ?_<;>simp[dlL,dlC,hF]
 refine aE (g92 0) ?_ ?_ ?_<;>simp
 refine aE q2 ?_ ?_ ?_<;>simp[vT]
 refine aE q3 ?_ ?_ ?_<;>simp[atT,vT,sT,hF]
 exact⟨[],by simp⟩
theorem k101(d:Dl)(base far:Int)(hl:d.lv<=1000)(hp:d.p.size<=10000000)(hn:fW base):HH 101 [dlL d,iA base,iA far] (tmL (sT d base far)):=by
 generalize hF:IntKind.i64.wrap (far+1)=far1
 have q1:=JY d base far1 (vT 0) hl hp hn (bM (by decide)) (by decide)
 have q2:=g64 12 ⟨kI d.m.length,.nil⟩ (atT d base far1 (vT 0))
 have e0:sT d base far=⟨kH 12,.cons (kI d.m.length) .nil (atT d base far1 (vT 0)).ts⟩:=by rw[sT,hF]
 rw[e0]
 clear e0
 generalize atT d base far1 (vT 0)=A at *
 refine ab Tryz.func101 Tryz.ntmps101 Tryz.results101 rfl (by decide) (by simp) rfl rfl ?_
 simp[dlL,dlC,aS,hF]
 refine⟨by kernel_rfl,?_⟩
 refine aE (g62 d.m.length) ?_ ?_ ?_<;>simp
 refine aE (O1 0) ?_ ?_ ?_<;>simp
 refine aE q1 ?_ ?_ ?_<;>simp[dlL,dlC,vT,hF]
 refine aE q2 ?_ ?_ ?_<;>simp
 exact⟨[],by simp⟩
theorem k93(d:Dl)(base far:Int)(hl:d.lv<=1000)(hp:d.p.size<=10000000)(hm:d.c.length<=10000000):HH 93 [dlL d,iA base,iA far] (tmL (cB d base far)):=by
 have hn:=pN (base+1)
 generalize hF:IntKind.i64.wrap (far+1)=far1
 generalize hB:IntKind.i64.wrap (base+1)=base1 at *
 have c2:=iY d base1 far1 hl
 have d6:d.c.length*6 / 6=d.c.length:=by omega
 have q1:=k98 d base1 far1 hl hp hn
 have q2:=k95 (gX d base1 far1) (vT 0).ts (iZ d base1 far1 hl hn) (by omega) (aW (bM (by decide))) (by decide)
 have a2:=rQ d base1 far1 (vT 0) hl
 have q3:=g59 12 (.cons (kI d.c.length) .nil (atT d base1 far1 (vT 0)).ts) (by decide) ⟨dV (by decide) (by omega) (by decide),trivial,aW (rR d base1 far1 (vT 0) hl hn (bM (by decide)))⟩ (by have e:(vT 0).size=0:=rfl;rw[e] at a2;simp only[Ts.size,aH,kI,bA];omega)
 refine ab Tryz.func93 Tryz.ntmps93 Tryz.results93 rfl (by decide) (by simp) rfl rfl ?_
 simp[dlL,dlC,bL,d6,hF,hB]
 refine⟨by kernel_rfl,?_⟩
 refine aE (g57 d.c.length) ?_ ?_ ?_<;>simp
 refine aE q1 ?_ ?_ ?_<;>simp[dlL,dlC,hF,hB]
 refine aE (g92 0) ?_ ?_ ?_<;>simp
 refine aE q2 ?_ ?_ ?_<;>simp[vT]
 refine aE q3 ?_ ?_ ?_<;>simp[atT,vT,cB,hF,hB]
 exact⟨[],by simp⟩
theorem k102(d:Dl)(base far:Int)(hl:d.lv<=1000)(hp:d.p.size<=10000000)(hm:d.c.length<=10000000):HH 102 [dlL d,iA base,iA far] (tmL (cB d base far)):=by
 have hn:=pN (base+1)
 have d6:d.c.length*6 / 6=d.c.length:=by omega
 generalize hF:IntKind.i64.wrap (far+1)=far1
 generalize hB:IntKind.i64.wrap (base+1)=base1 at *
 have q1:=JY d base1 far1 (vT 0) hl hp hn (bM (by decide)) (by decide)
 have q2:=g64 12 ⟨kI d.c.length,.nil⟩ (atT d base1 far1 (vT 0))
 have e0:cB d base far=⟨kH 12,.cons (kI d.c.length) .nil (atT d base1 far1 (vT 0)).ts⟩:=by rw[cB,hF,hB]
 rw[e0]
 clear e0
 generalize atT d base1 far1 (vT 0)=A at *
 refine ab Tryz.func102 Tryz.ntmps102 Tryz.results102 rfl (by decide) (by simp) rfl rfl ?_
 simp[dlL,dlC,bL,d6,hF,hB]
 refine⟨by kernel_rfl,?_⟩
 refine aE (g62 d.c.length) ?_ ?_ ?_<;>simp
 refine aE (O1 0) ?_ ?_ ?_<;>simp
 refine aE q1 ?_ ?_ ?_<;>simp[dlL,dlC,vT,hF,hB]
 refine aE q2 ?_ ?_ ?_<;>simp
 exact⟨[],by simp⟩
def eF{α:Type}(f:α->Int):List α->Int->Int
 | [],n=>n
 | a :: r,n=>if n<=500 then eF f r (n+f a) else n
theorem gY{α:Type}{f:α->Int}(hf:∀a,0<=f a):∀(l:List α) (n:Int),n<=eF f l n
 | [],n=>Int.le_refl _
 | a :: r,n=>by
  unfold eF
  split
  ·have:=gY hf r (n+f a)
   have:=hf a
   omega
  ·exact Int.le_refl _
theorem pG{α:Type}{f:α->Int}{g:α->Nat}(hf:∀a,0<=f a)(hg:∀a,f a<=500->(g a:Int)<=f a):∀(l:List α) (n:Int),0<=n->eF f l n<=500->n+((l.map g).sum:Nat)<=eF f l n
 | [],n,_,_=>by simp[eF]
 | a :: r,n,h0,h=>by
  have h9:n<=500:=Int.le_trans (gY hf (a :: r) n) h
  unfold eF at h ⊢
  rw[if_pos h9] at h ⊢
  have h1:=gY hf r (n+f a)
  have h2:=hf a
  have h3:=hg a (by omega)
  have h4:=pG hf hg r (n+f a) (by omega) h
  simp only[List.map_cons,List.sum_cons]
  omega
theorem pH{α:Type}{f:α->Int}{B:Int}(hB:0<=B):∀(l:List α) (n:Int),(∀a∈l,0<=f a/\f a<=B)->n<=500->eF f l n<=500+B
 | [],n,_,hn=>by simp only[eF];omega
 | a :: r,n,h,hn=>by
  unfold eF
  rw[if_pos hn]
  obtain⟨h1,h2⟩:=h a (by simp)
  by_cases h5:n+f a<=500
  ·exact pH hB r _ (λ b hb=>h b (by simp[hb])) h5
  ·have:eF f r (n+f a)=n+f a:=by
    cases r with
    | nil=>rfl
    | cons b r=>unfold eF;rw[if_neg h5]
   rw[this]
   omega
theorem pD{t:Ts}(h:t.size<=200000000):0<=t.cnt 500 0/\t.cnt 500 0<=1000000000000:=by
 have e2:=t.cnt_le 500 0 (by decide) (by decide) (by decide)
 have e3:=t.cnt_ge 500 0 (by decide)
 have e4:=t.count_le_size
 omega
def fMb(a:Ts):Int:=1+a.cnt 500 0
def fCt(a:Ct):Int:=1+kL a.t
def fRr(a:Rl):Int:=uB a
theorem F9(a:Ts):0<=fMb a:=by have:=a.cnt_ge 500 0 (by decide);unfold fMb;omega
theorem G0(a:Ct):0<=fCt a:=by have:=pF a.t;unfold fCt;omega
theorem Y6(a:Rl):0<=fRr a:=by
 have:=gG a.g 0
 have:=a.i.cnt_ge 500 0 (by decide)
 unfold fRr uB;omega
theorem KS{a:Ts}(h:a.size<=200000000):0<=fMb a/\fMb a<=10000000000000:=by have:=pD h;unfold fMb;omega
theorem KV{a:Ct}(h:a.t.size<=200000000):0<=fCt a/\fCt a<=10000000000000:=by have:=pE a.t h;unfold fCt;omega
theorem KQ{a:Rl}(h1:cF a.g<=200000000)(h:a.i.size<=200000000):0<=fRr a/\fRr a<=10000000000000:=by
 have:=pD h
 have:=gG a.g 0
 have:=xF a.g 0 h1 (by decide)
 unfold fRr uB
 omega
theorem KR(a:Ts)(h:fMb a<=500):((1+a.size:Nat):Int)<=fMb a:=by
 unfold fMb at *
 have e3:=a.cnt_ge 500 0 (by decide)
 have:=Ts.cnt_eq a 500 0 (by decide) (by decide) (by omega)
 omega
theorem KU(a:Ct)(h:fCt a<=500):((1+a.t.size:Nat):Int)<=fCt a:=by
 unfold fCt at *
 have:=uH (t:=a.t) (by omega)
 omega
theorem KO(a:Rl)(h:fRr a<=500):((1+(cF a.g+a.i.size):Nat):Int)<=fRr a:=by
 unfold fRr uB at *
 have e3:=a.i.cnt_ge 500 0 (by decide)
 have e4:=gG a.g 0
 have:=Ts.cnt_eq a.i 500 0 (by decide) (by decide) (by omega)
 have:=rS a.g 0 (by decide) (by omega)
 omega
def AW(l:List Ts)(k:Nat)(n:Int):St:=bP [(0,cO l),(1,iA 500),(5,iA n),(6,iA k)] [] []
theorem countMb(l:List Ts)(hs:iC l<=200000000):HH 71 [cO l,iA 500] (iA (eF fMb l 0)):=by
 have hl:l.length<=200000000:=Nat.le_trans (jV l) hs
 refine ab Tryz.func71 Tryz.ntmps71 Tryz.results71 rfl (by decide) (by simp) rfl rfl ?_
 have d0:l.length*1 / 1=l.length:=by omega
 simp[cO,aS,d0]
 refine lp (α:={ q:Nat×Int // q.1<=l.length/\0<=q.2/\eF fMb (l.drop q.1) q.2=eF fMb l 0 }) (λ q=>AW l q.1.1 q.1.2) (λ q=>l.length-q.1.1) ⟨(0,0),Nat.zero_le _,Int.le_refl _,rfl⟩ ?_ ?_
 ·refine aI [] ?_ ?_ ?_<;>simp[cO,AV.ok,Dc.ok]
 ·rintro⟨⟨k,n⟩,hk,hn0,hc⟩
  simp only at hk hn0 hc
  by_cases hlt:k<l.length
  ·have h1:=ES hlt
   try simp only[Nat.mul_one] at h1
   have hsz:=oS hlt
   have hd:l.drop k=l[k] :: l.drop (k+1):=List.drop_eq_getElem_cons hlt
   rw[hd,eF] at hc
   generalize hr:l.drop (k+1)=r at h1 hc hd
   have bp:=KS (a:=l[k]) (by omega)
   have b1:=l[k].cnt_ge 500 0 (by decide)
   have q1:=k7 l[k] (by omega)
   by_cases hn:n<=500
   ·rw[if_pos hn] at hc
    rw[show fMb l[k]=1+l[k].cnt 500 0 from rfl] at hc bp
    generalize l[k].cnt 500 0=c1 at *
    have w1:IntKind.i64.wrap (n+1)=n+1:=by rw[IntKind.wrap_i64];omega
    have w2:IntKind.i64.wrap (n+1+c1)=n+1+c1:=by rw[IntKind.wrap_i64];omega
    have hw:IntKind.i64.wrap ((k:Int)+1)=k+1:=by rw[IntKind.wrap_i64];omega
    simp[AW,cO,aS,d0,hlt,hn,h1,aZ]
    first|refine⟨by kernel_rfl,by omega,?_⟩|refine⟨by omega,?_⟩
    refine aE q1 ?_ ?_ ?_<;>simp[w2,w1,hw,dH]
    refine⟨k+1,by omega,n+1+c1,⟨by omega,by omega,?_⟩,?_⟩
    ·rw[hr]
     refine Eq.trans (congrArg (eF fMb r) ?_) hc
     omega
    ·refine aI [] ?_ ?_ ?_<;>simp[AV.ok,Dc.ok,cO]
   ·rw[if_neg hn] at hc
    subst hc
    simp[AW,cO,aS,d0,hlt,hn]
    exact⟨[],by simp⟩
  ·obtain rfl:k=l.length:=by omega
   rw[List.drop_length,eF] at hc
   subst hc
   simp[AW,cO,aS,d0]
   exact⟨[],by simp⟩
def AX(l:List Ct)(k:Nat)(n:Int):St:=bP [(0,cP l),(1,iA 500),(5,iA n),(6,iA k)] [] []
theorem countCt(l:List Ct)(hs:gT l<=200000000):HH 72 [cP l,iA 500] (iA (eF fCt l 0)):=by
 have hl:l.length<=200000000:=Nat.le_trans (jW l) hs
 refine ab Tryz.func72 Tryz.ntmps72 Tryz.results72 rfl (by decide) (by simp) rfl rfl ?_
 have d0:l.length*6 / 6=l.length:=by omega
 simp[cP,bL,d0]
 refine lp (α:={ q:Nat×Int // q.1<=l.length/\0<=q.2/\eF fCt (l.drop q.1) q.2=eF fCt l 0 }) (λ q=>AX l q.1.1 q.1.2) (λ q=>l.length-q.1.1) ⟨(0,0),Nat.zero_le _,Int.le_refl _,rfl⟩ ?_ ?_
 ·refine aI [] ?_ ?_ ?_<;>simp[cP,AV.ok,Dc.ok]
 ·rintro⟨⟨k,n⟩,hk,hn0,hc⟩
  simp only at hk hn0 hc
  by_cases hlt:k<l.length
  ·have h1:=dpCt hlt
   try simp only[Nat.mul_one] at h1
   have hsz:=oT hlt
   have hd:l.drop k=l[k] :: l.drop (k+1):=List.drop_eq_getElem_cons hlt
   rw[hd,eF] at hc
   generalize hr:l.drop (k+1)=r at h1 hc hd
   have bp:=KV (a:=l[k]) (by omega)
   have b1:=pF l[k].t
   have q8:=k8 l[k].t (by omega)
   change HH 8 _ (iA (kL l[k].t)) at q8
   have q1:=q8
   by_cases hn:n<=500
   ·rw[if_pos hn] at hc
    rw[show fCt l[k]=1+kL l[k].t from rfl] at hc bp
    generalize kL l[k].t=c1 at *
    have w1:IntKind.i64.wrap (n+1)=n+1:=by rw[IntKind.wrap_i64];omega
    have w2:IntKind.i64.wrap (n+1+c1)=n+1+c1:=by rw[IntKind.wrap_i64];omega
    have hw:IntKind.i64.wrap ((k:Int)+1)=k+1:=by rw[IntKind.wrap_i64];omega
    simp[AX,cP,bL,d0,hlt,hn,h1,dU]
    first|refine⟨by kernel_rfl,by omega,?_⟩|refine⟨by omega,?_⟩
    refine aE q1 ?_ ?_ ?_<;>simp[w2,w1,hw,dH]
    refine⟨k+1,by omega,n+1+c1,⟨by omega,by omega,?_⟩,?_⟩
    ·rw[hr]
     refine Eq.trans (congrArg (eF fCt r) ?_) hc
     omega
    ·refine aI [] ?_ ?_ ?_<;>simp[AV.ok,Dc.ok,cP]
   ·rw[if_neg hn] at hc
    subst hc
    simp[AX,cP,bL,d0,hlt,hn]
    exact⟨[],by simp⟩
  ·obtain rfl:k=l.length:=by omega
   rw[List.drop_length,eF] at hc
   subst hc
   simp[AX,cP,bL,d0]
   exact⟨[],by simp⟩
def AU(l:List Rl)(k:Nat)(n:Int):St:=bP [(0,dS l),(1,iA 500),(5,iA n),(6,iA k)] [] []
theorem CH(l:List Rl)(hs:fY l<=200000000):HH 26 [dS l,iA 500] (iA (eF fRr l 0)):=by
 have hl:l.length<=200000000:=Nat.le_trans (nI l) hs
 refine ab Tryz.func26 Tryz.ntmps26 Tryz.results26 rfl (by decide) (by simp) rfl rfl ?_
 have d0:l.length*3 / 3=l.length:=by omega
 simp[dS,aN,d0]
 refine lp (α:={ q:Nat×Int // q.1<=l.length/\0<=q.2/\eF fRr (l.drop q.1) q.2=eF fRr l 0 }) (λ q=>AU l q.1.1 q.1.2) (λ q=>l.length-q.1.1) ⟨(0,0),Nat.zero_le _,Int.le_refl _,rfl⟩ ?_ ?_
 ·refine aI [] ?_ ?_ ?_<;>simp[dS,AV.ok,Dc.ok]
 ·rintro⟨⟨k,n⟩,hk,hn0,hc⟩
  simp only at hk hn0 hc
  by_cases hlt:k<l.length
  ·have h1:=dpRr hlt
   try simp only[Nat.mul_one] at h1
   have hsz:=oR hlt
   have hd:l.drop k=l[k] :: l.drop (k+1):=List.drop_eq_getElem_cons hlt
   rw[hd,eF] at hc
   generalize hr:l.drop (k+1)=r at h1 hc hd
   have bp:=KQ (a:=l[k]) (by omega) (by omega)
   have b1:=gG l[k].g 0
   have b2:=l[k].i.cnt_ge 500 0 (by decide)
   have q1:=k73 l[k].g (by omega)
   have q2:=k7 l[k].i (by omega)
   by_cases hn:n<=500
   ·rw[if_pos hn] at hc
    rw[show fRr l[k]=1+dP l[k].g 0+l[k].i.cnt 500 0 from rfl] at hc bp
    generalize dP l[k].g 0=c1 at *
    generalize l[k].i.cnt 500 0=c2 at *
    have w1:IntKind.i64.wrap (n+1)=n+1:=by rw[IntKind.wrap_i64];omega
    have w2:IntKind.i64.wrap (n+1+c1)=n+1+c1:=by rw[IntKind.wrap_i64];omega
    have w3:IntKind.i64.wrap (n+1+c1+c2)=n+1+c1+c2:=by rw[IntKind.wrap_i64];omega
    have hw:IntKind.i64.wrap ((k:Int)+1)=k+1:=by rw[IntKind.wrap_i64];omega
    simp[AU,dS,aN,d0,hlt,hn,h1,aO]
    first|refine⟨by kernel_rfl,by omega,?_⟩|refine⟨by omega,?_⟩
    refine aE q1 ?_ ?_ ?_<;>simp[w2,w1,h1,aO,aN,dH]
    refine⟨by omega,?_⟩
    refine aE q2 ?_ ?_ ?_<;>simp[w3,w1,hw,dH]
    refine⟨k+1,by omega,n+1+c1+c2,⟨by omega,by omega,?_⟩,?_⟩
    ·rw[hr]
     refine Eq.trans (congrArg (eF fRr r) ?_) hc
     omega
    ·refine aI [] ?_ ?_ ?_<;>simp[AV.ok,Dc.ok,dS]
   ·rw[if_neg hn] at hc
    subst hc
    simp[AU,dS,aN,d0,hlt,hn]
    exact⟨[],by simp⟩
  ·obtain rfl:k=l.length:=by omega
   rw[List.drop_length,eF] at hc
   subst hc
   simp[AU,dS,aN,d0]
   exact⟨[],by simp⟩
def gC(d:Dl):Int:=1+kL d.t+kL d.b+d.p.cnt 500 0+lM d.s+eF fMb d.m 0+eF fCt d.c 0
structure BigD (d:Dl):Prop where
 t:d.t.size<=100000000
 b:d.b.size<=100000000
 p:d.p.size<=100000000
 s:d.s.length<=100000000
 m:iC d.m<=100000000
 c:gT d.c<=100000000
theorem JK{l:List Ts}(h:iC l<=100000000):∀a∈l,0<=fMb a/\fMb a<=10000000000000:=λ a ha=>by
 obtain⟨k,hk,rfl⟩:=List.getElem_of_mem ha
 exact KS (by have:=oS hk;omega)
theorem LG{l:List Ct}(h:gT l<=100000000):∀a∈l,0<=fCt a/\fCt a<=10000000000000:=λ a ha=>by
 obtain⟨k,hk,rfl⟩:=List.getElem_of_mem ha
 exact KV (by have:=oT hk;omega)
theorem rr_mem{l:List Rl}(h:fY l<=100000000):∀a∈l,0<=fRr a/\fRr a<=10000000000000:=λ a ha=>by
 obtain⟨k,hk,rfl⟩:=List.getElem_of_mem ha
 exact KQ (by have:=oR hk;omega) (by have:=oR hk;omega)
theorem CI(d:Dl)(h:BigD d):HH 25 [dlL d,iA 500] (iA (gC d)):=by
 have h1:=pE d.t (Nat.le_trans h.t (by decide))
 have h2:=pE d.b (Nat.le_trans h.b (by decide))
 have h3:=pD (Nat.le_trans h.p (by decide))
 have h4:0<=lM d.s/\lM d.s<=501:=by unfold lM;omega
 have h5:=gY F9 d.m 0
 have h6:=gY G0 d.c 0
 have h7:=pH (B:=10000000000000) (by decide) d.m 0 (JK h.m) (by decide)
 have h8:=pH (B:=10000000000000) (by decide) d.c 0 (LG h.c) (by decide)
 have q1:=k8 d.t (Nat.le_trans h.t (by decide))
 have q2:=k8 d.b (Nat.le_trans h.b (by decide))
 have q3:=k7 d.p (Nat.le_trans h.p (by decide))
 have q4:=k70 d.s (Nat.le_trans h.s (by decide))
 have q5:=countMb d.m (Nat.le_trans h.m (by decide))
 have q6:=countCt d.c (Nat.le_trans h.c (by decide))
 change HH 8 _ (iA (kL d.t)) at q1
 change HH 8 _ (iA (kL d.b)) at q2
 unfold gC
 refine ab Tryz.func25 Tryz.ntmps25 Tryz.results25 rfl (by decide) (by simp) rfl rfl ?_
 generalize kL d.t=c1 at *
 generalize kL d.b=c2 at *
 generalize d.p.cnt 500 0=c3 at *
 generalize lM d.s=c4 at *
 generalize eF fMb d.m 0=c5 at *
 generalize eF fCt d.c 0=c6 at *
 have w1:IntKind.i64.wrap (1+c1)=1+c1:=by rw[IntKind.wrap_i64];omega
 have w2:IntKind.i64.wrap (1+c1+c2)=1+c1+c2:=by rw[IntKind.wrap_i64];omega
 have w3:IntKind.i64.wrap (1+c1+c2+c3)=1+c1+c2+c3:=by rw[IntKind.wrap_i64];omega
 have w4:IntKind.i64.wrap (1+c1+c2+c3+c4)=1+c1+c2+c3+c4:=by rw[IntKind.wrap_i64];omega
 have w5:IntKind.i64.wrap (1+c1+c2+c3+c4+c5)=1+c1+c2+c3+c4+c5:=by rw[IntKind.wrap_i64];omega
 have w6:IntKind.i64.wrap (1+c1+c2+c3+c4+c5+c6)=1+c1+c2+c3+c4+c5+c6:=by rw[IntKind.wrap_i64];omega
 simp[dlL,dlC]
 refine⟨by kernel_rfl,?_⟩
 refine aE q1 ?_ ?_ ?_<;>simp[w1]
 refine aE q2 ?_ ?_ ?_<;>simp[w2]
 refine aE q3 ?_ ?_ ?_<;>simp[w3]
 refine aE q4 ?_ ?_ ?_<;>simp[lvA,w4]
 refine aE q5 ?_ ?_ ?_<;>simp[cO,w5]
 refine aE q6 ?_ ?_ ?_<;>simp[cP,w6]
 exact⟨[],by simp⟩
theorem G6{d:Dl}{l:List Rl}(h:gC d+eF fRr l 0<=500):1+d.t.size+d.b.size+d.p.size+d.s.length+iC d.m+gT d.c+fY l<=500:=by
 unfold gC at h
 have h1:=pF d.t
 have h2:=pF d.b
 have h3:=d.p.cnt_ge 500 0 (by decide)
 have h4:1<=lM d.s:=by unfold lM;omega
 have h5:=gY F9 d.m 0
 have h6:=gY G0 d.c 0
 have h7:=gY Y6 l 0
 have e1:=uH (t:=d.t) (by omega)
 have e2:=uH (t:=d.b) (by omega)
 have e3:=Ts.cnt_eq d.p 500 0 (by decide) (by decide) (by omega)
 have e4:lM d.s=1+d.s.length:=by unfold lM at *;omega
 have e5:=pG (g:=λ a:Ts=>1+a.size) F9 KR d.m 0 (by decide) (by omega)
 have e6:=pG (g:=λ a:Ct=>1+a.t.size) G0 KU d.c 0 (by decide) (by omega)
 have e7:=pG (g:=λ a:Rl=>1+(cF a.g+a.i.size)) Y6 KO l 0 (by decide) (by omega)
 unfold iC gT fY
 omega
def jL(d:Dl):Dc:=.lit (.int .i64 d.k) (.lit (.int .i64 d.lv) (.lit (.int .i64 d.t.h.k) (.lit (.int .i64 d.t.h.n) (.lit (.int .i64 d.t.h.a) (.seg none (.row 1 43 (cC ty d.t.h.l) (bN ty (cW 1 12)) .nil) (.seg none (.row 5 26 (bV ty d.t.x) (tDs ty (bU 1 12)) .nil)
 (.lit (.int .i64 d.b.h.k) (.lit (.int .i64 d.b.h.n) (.lit (.int .i64 d.b.h.a) (.seg none (.row 1 43 (cC ty d.b.h.l) (bN ty (cW 1 12)) .nil) (.seg none (.row 5 26 (bV ty d.b.x) (tDs ty (bU 1 12)) .nil)
 (.seg none (.row 5 26 (bV ty d.p) (tDs ty (bU 1 12)) .nil) (.seg none (.row 2 77 (bR d.s) (bR (cZ 1 12)) .nil) (.seg none (.row 1 80 (cX d.m) (aZ (cH 12)) .nil) (.seg none (.row 6 85 (cY d.c) (dU (cI 12)) .nil) .nil)))))))))))))))
def qE(d:Dl):AV:=.agg (jL d)
theorem Y1(d:Dl)(h:BigD d):HH 28 [dlL d] (qE d):=by
 have q1:=k11 d.t (Nat.le_trans h.t (by decide))
 have q2:=k11 d.b (Nat.le_trans h.b (by decide))
 have q3:=k10 d.p (Nat.le_trans h.p (by decide))
 have q4:=k75 d.s (Nat.le_trans h.s (by decide))
 have q5:=DZ d.m h.m
 have q6:=EA d.c h.c
 refine ab Tryz.func28 Tryz.ntmps28 Tryz.results28 rfl (by decide) (by simp) rfl rfl ?_
 simp[dlL,dlC]
 refine aE q1 ?_ ?_ ?_<;>simp[nY,rF,Ds.len]
 refine aE q2 ?_ ?_ ?_<;>simp[nY,rF,Ds.len]
 refine aE q3 ?_ ?_ ?_<;>simp[lO,Ds.len]
 refine aE q4 ?_ ?_ ?_<;>simp[lvA,oY,Ds.len]
 refine aE q5 ?_ ?_ ?_<;>simp[cO,sO,Ds.len]
 refine aE q6 ?_ ?_ ?_<;>simp[cP,sP,qE,jL,Ds.len,Ds.app]
 exact⟨[],by simp⟩
theorem U5(d:Dl)(h:BigD d):HH 103 [dlL d,dlL d] (.v (.bool true)):=by
 have q1:=k16 d.t
 have q2:=k16 d.b
 have q3:=k20 d.p
 have q4:=k127 d.s
 have q5:=sameMb d.m h.m
 have q6:=sameCt d.c h.c
 refine ab Tryz.func103 Tryz.ntmps103 Tryz.results103 rfl (by decide) (by simp) rfl rfl ?_
 simp[dlL,dlC]
 refine aE q1 ?_ ?_ ?_<;>simp
 refine aE q2 ?_ ?_ ?_<;>simp
 refine aE q3 ?_ ?_ ?_<;>simp
 refine aE q4 ?_ ?_ ?_<;>simp[lvA]
 refine aE q5 ?_ ?_ ?_<;>simp[cO]
 refine aE q6 ?_ ?_ ?_<;>simp[cP]
 exact⟨[],by simp⟩
theorem Y2(d:Dl)(h:BigD d):HH 32 [qE d,dlL d] (.v (.bool true)):=by
 have q0:=U5 d h
 have q1:=k23 d.t h.t
 have q2:=k23 d.b h.b
 have q3:=k22 d.p h.p
 have q4:=k104 d.s (Nat.le_trans h.s (by decide))
 have q5:=EG d.m h.m
 have q6:=EH d.c h.c
 refine ab Tryz.func32 Tryz.ntmps32 Tryz.results32 rfl (by decide) (by simp) rfl rfl ?_
 simp[dlL,dlC,qE,jL]
 refine aE q0 ?_ ?_ ?_<;>simp[dlL,dlC]
 ·exact .inr (by simp[Ds.app,Ds.strip,cU,cJ,rE,rG,mK,ty])
 refine aE q1 ?_ ?_ ?_<;>simp[nY,rF]
 refine aE q2 ?_ ?_ ?_<;>simp[nY,rF]
 refine aE q3 ?_ ?_ ?_<;>simp[lO]
 refine aE q4 ?_ ?_ ?_<;>simp[lvA,oY]
 refine aE q5 ?_ ?_ ?_<;>simp[cO,sO]
 refine aE q6 ?_ ?_ ?_<;>simp[cP,sP]
 exact⟨[],by simp⟩
def eD:Ts->Bool
 | .nil=>false
 | .cons h x r=>(decide (h.k=11) || eD x) || eD r
def tH(t:Tm):Bool:=decide (t.h.k=11) || eD t.x
theorem rX:∀a b:Ts,eD (a.app b)=(eD a || eD b)
 | .nil,b=>by simp[Ts.app,eD]
 | .cons h x r,b=>by simp only[Ts.app,eD,rX r b,Bool.or_assoc]
theorem BB{t:Tm}(h:HH 152 [tsA none t.x] (.v (.bool (eD t.x)))):HH 215 [tmL t] (.v (.bool (tH t))):=by
 refine ab Tryz.func215 Tryz.ntmps215 Tryz.results215 rfl (by decide) (by simp) rfl rfl ?_
 unfold tH
 by_cases hk:t.h.k=11
 ·simp[hk]
  exact⟨[],by simp⟩
 ·simp[hk]
  refine aE h ?_ ?_ ?_<;>simp
  exact⟨[],by simp⟩
def stSo(t a:Ts):St:=bP [(0,tsA none t),(3,iA a.len)] [] []
theorem IL:∀(M:Nat) (t:Ts),t.size<M->t.size<=100000000->HH 152 [tsA none t] (.v (.bool (eD t))):=by
 intro M
 induction M with
 | zero=>intro t h;omega
 | succ M ih =>
  intro t hM hs
  have hl:t.len<=100000000:=Nat.le_trans (len_le_size t) hs
  have d0:t.len*5 / 5=t.len:=by omega
  obtain⟨B,hB⟩:∃B,eD t=B:=⟨_,rfl⟩
  rw[hB]
  refine ab Tryz.func152 Tryz.ntmps152 Tryz.results152 rfl (by decide) (by simp) rfl rfl ?_
  simp
  refine lp (α:={ q:Ts×Ts // q.1.app q.2=t/\eD q.1=false }) (λ q=>stSo t q.1.1) (λ q=>q.1.2.len) ⟨(.nil,t),rfl,rfl⟩ ?_ ?_
  ·refine aI [] ?_ ?_ ?_<;>simp[AV.ok,Dc.ok,Ts.len]
  ·rintro⟨⟨a,q⟩,hq,hq0⟩
   simp only at hq hq0
   cases q with
   | nil =>
    have e:a=t:=by rw[<-hq];exact (Ts.app_nil a).symm
    subst e
    obtain rfl:B=false:=by rw[<-hB,hq0]
    simp[stSo,aF,d0]
    exact⟨[],by simp⟩
   | cons h y r =>
    have h1:a.len<t.len:=by rw[<-hq];simp[Ts.app_len,Ts.len]
    have h2:(tDs ty t).dp (a.len*5)=tDs ty (.cons h y r):=by rw[<-hq];exact fA a _
    have h4:aH h.l+y.size+1<=t.size:=by rw[<-hq];exact app_size
    have hw:IntKind.i64.wrap ((a.len:Int)+1)=a.len+1:=by rw[IntKind.wrap_i64];omega
    have q1:=BB (t:=⟨h,y⟩) (ih y (by omega) (by omega))
    have e1:eD t=(tH ⟨h,y⟩ || eD r):=by
     rw[<-hq,rX,hq0]
     rfl
    cases hb:tH ⟨h,y⟩ with
    | true =>
     rw[hb] at q1 e1
     obtain rfl:B=true:=by rw[<-hB];simp[e1]
     simp[stSo,aF,d0,h1,h2]
     refine⟨by omega,?_⟩
     refine aE q1 ?_ ?_ ?_<;>simp
     exact⟨[],by simp⟩
    | false =>
     rw[hb] at q1
     simp[stSo,aF,d0,h1,h2]
     refine⟨by omega,?_⟩
     refine aE q1 ?_ ?_ ?_<;>simp
     refine⟨a.app (.cons h y .nil),r,by simp[Ts.len],⟨by rw[Ts.app_assoc];exact hq,?_⟩,?_⟩
     ·rw[rX,hq0]
      have:eD (.cons h y .nil)=tH ⟨h,y⟩:=by simp[eD,tH]
      rw[this,hb];rfl
     ·refine aI [] ?_ ?_ ?_<;>simp[AV.ok,Dc.ok,hw,Ts.app_len,Ts.len]
theorem AZ(t:Ts)(hs:t.size<=100000000):HH 152 [tsA none t] (.v (.bool (eD t))):=IL _ t (Nat.lt_succ_self _) hs
theorem selfT(t:Tm)(hs:t.size<=100000000):HH 215 [tmL t] (.v (.bool (tH t))):=BB (AZ t.x (by unfold Tm.size at hs;omega))
def N8(a b:Int)(h:Hd)(d:Nat):Bool:=decide (h.k=1) && (decide ((d:Int)<=h.n) && (decide (a<=IntKind.i64.wrap (h.n-d)) && decide (IntKind.i64.wrap (h.n-d)<b)))
def kU(a b:Int):Ts->Int->Nat->Nat->Bool
 | .nil,_,_,_=>false
 | .cons h x r,pk,i,d=>(N8 a b h (aU pk i d) || kU a b x h.k 0 (aU pk i d)) || kU a b r pk (i+1) d
def jF(a b:Int)(t:Tm)(d:Nat):Bool:=N8 a b t.h d || kU a b t.x t.h.k 0 d
theorem sV(f g:Int):∀(a b:Ts) (pk:Int) (i d:Nat),kU f g (a.app b) pk i d=(kU f g a pk i d || kU f g b pk (i+a.len) d)
 | .nil,b,pk,i,d=>by simp[Ts.app,kU,Ts.len]
 | .cons h x r,b,pk,i,d=>by
  simp only[Ts.app,kU,sV f g r b pk (i+1) d,Bool.or_assoc,Ts.len]
  rw[show i+1+r.len=i+(r.len+1) by omega]
theorem ET(k:Int)(i d:Nat):aU k i d<=d+1:=by unfold aU;split<;>omega
def stFr(f g:Int)(t:Tm)(d:Nat)(a:Ts):St:=bP [(1,iA f),(2,iA g),(3,iA d),(4,.bx 5 0),(9,iA a.len)] [(5,26,tmC none none t.h t.x)] []
theorem KM(f g:Int):∀(M:Nat) (t:Tm) (d:Nat),t.size<M->t.size+d<=100000000->HH 216 [tmL t,iA f,iA g,iA d] (.v (.bool (jF f g t d))):=by
 intro M
 induction M with
 | zero=>intro t d h;omega
 | succ M ih =>
  rintro⟨H,x⟩ d hM hs
  have hl:x.len<=100000000:=Nat.le_trans (len_le_size x) (by unfold Tm.size at hs;simp only at hs;omega)
  have d0:x.len*5 / 5=x.len:=by omega
  have hxs:x.size<=M/\x.size+d<=100000000:=by unfold Tm.size at hM hs;simp only at hM hs;omega
  clear hM hs
  have hc:(N8 f g H d=true/\H.k=1/\(d:Int)<=H.n/\f<=IntKind.i64.wrap (H.n-d)/\IntKind.i64.wrap (H.n-d)<g)∨(N8 f g H d=false/\¬H.k=1)∨(N8 f g H d=false/\H.k=1/\¬(d:Int)<=H.n)∨(N8 f g H d=false/\H.k=1/\(d:Int)<=H.n/\¬f<=IntKind.i64.wrap (H.n-d))∨(N8 f g H d=false/\H.k=1/\(d:Int)<=H.n/\f<=IntKind.i64.wrap (H.n-d)/\¬IntKind.i64.wrap (H.n-d)<g):=by
   unfold N8
   by_cases c1:H.k=1<;>by_cases c2:(d:Int)<=H.n<;>by_cases c3:f<=IntKind.i64.wrap (H.n-d)<;>by_cases c4:IntKind.i64.wrap (H.n-d)<g<;>simp[c1,c2,c3,c4]
  unfold jF
  obtain⟨B,hB⟩:∃B,kU f g x H.k 0 d=B:=⟨_,rfl⟩
  simp only
  rw[hB]
  refine ab Tryz.func216 Tryz.ntmps216 Tryz.results216 rfl (by decide) (by simp) rfl rfl ?_
  rcases hc with ⟨hh,c⟩|⟨hh,c⟩|⟨hh,c⟩|⟨hh,c⟩|⟨hh,c⟩
  ·simp only[hh,Bool.true_or]
   obtain⟨c1,c2,c3,c4⟩:=c
   simp[c1,c2,c3,c4]
   exact⟨[],by simp⟩
  all_goals
   simp only[hh,Bool.false_or]
   first
    | (obtain⟨c1,c2,c3,c4⟩:=c;simp only[Int.not_lt] at c4;simp[c1,c2,c3,c4];done)
    | skip
   simp[c]
   refine lp (α:={ q:Ts×Ts // q.1.app q.2=x/\kU f g q.1 H.k 0 d=false }) (λ q=>stFr f g ⟨H,x⟩ d q.1.1) (λ q=>q.1.2.len) ⟨(.nil,x),rfl,rfl⟩ ?_ ?_
   ·refine aI [] ?_ ?_ ?_<;>simp[AV.ok,Dc.ok,Ts.len,c]
   ·rintro⟨⟨a,q⟩,hq,hq0⟩
    simp only at hq hq0
    cases q with
    | nil =>
     have e:a=x:=by rw[<-hq];exact (Ts.app_nil a).symm
     subst e
     obtain rfl:B=false:=by rw[<-hB,hq0]
     simp[stFr,aF,d0]
     exact⟨[],by simp⟩
    | cons h y r =>
     have h1:a.len<x.len:=by rw[<-hq];simp[Ts.app_len,Ts.len]
     have h2:(tDs ty x).dp (a.len*5)=tDs ty (.cons h y r):=by rw[<-hq];exact fA a _
     have h4:aH h.l+y.size+1<=x.size:=by rw[<-hq];exact app_size
     have hw:IntKind.i64.wrap ((a.len:Int)+1)=a.len+1:=by rw[IntKind.wrap_i64];omega
     have hd:=ET H.k a.len d
     have q0:=N6 ⟨H,x⟩ a.len d (by omega)
     have q1:=ih ⟨h,y⟩ (aU H.k a.len d) (by unfold Tm.size;simp only;omega) (by unfold Tm.size;simp only;omega)
     have e1:kU f g x H.k 0 d=(jF f g ⟨h,y⟩ (aU H.k a.len d) || kU f g r H.k (a.len+1) d):=by
      rw[<-hq,sV,hq0,Nat.zero_add]
      rfl
     have e2:kU f g (a.app (.cons h y .nil)) H.k 0 d=jF f g ⟨h,y⟩ (aU H.k a.len d):=by
      rw[sV,hq0,Nat.zero_add]
      simp[kU,jF]
     cases hb:jF f g ⟨h,y⟩ (aU H.k a.len d) with
     | true =>
      rw[hb] at q1 e1
      obtain rfl:B=true:=by rw[<-hB];simp[e1]
      simp[stFr,aF,d0,h1,h2]
      refine⟨by kernel_rfl,by omega,?_⟩
      refine aE q0 ?_ ?_ ?_<;>simp
      refine aE q1 ?_ ?_ ?_<;>simp
      exact⟨[],by simp⟩
     | false =>
      rw[hb] at q1 e2
      simp[stFr,aF,d0,h1,h2]
      refine⟨by kernel_rfl,by omega,?_⟩
      refine aE q0 ?_ ?_ ?_<;>simp
      refine aE q1 ?_ ?_ ?_<;>simp
      refine⟨a.app (.cons h y .nil),r,by simp[Ts.len],⟨by rw[Ts.app_assoc];exact hq,e2⟩,?_⟩
      refine aI [] ?_ ?_ ?_<;>simp[AV.ok,Dc.ok,hw,Ts.app_len,Ts.len]
theorem CR(f g:Int)(t:Tm)(hs:t.size<=100000000):HH 154 [tmL t,iA f,iA g] (.v (.bool (jF f g t 0))):=by
 refine ab Tryz.func154 Tryz.ntmps154 Tryz.results154 rfl (by decide) (by simp) rfl rfl ?_
 simp
 refine aE (KM f g _ t 0 (Nat.lt_succ_self _) (by omega)) ?_ ?_ ?_<;>simp
 exact⟨[],by simp⟩
def mQ:Ts->Int->Nat
 | .cons _ _ (.cons b q .nil),k=>if k=4 then 1+mQ q b.k else 0
 | _,_=>0
def bS(t:Tm):Nat:=mQ t.x t.h.k
theorem nE(x:Ts):(∃a p b q,x=.cons a p (.cons b q .nil))∨(¬x.len=2):=by
 match x with
 | .nil=>exact .inr (by simp[Ts.len])
 | .cons a p .nil=>exact .inr (by simp[Ts.len])
 | .cons a p (.cons b q .nil)=>exact .inl ⟨a,p,b,q,rfl⟩
 | .cons a p (.cons b q (.cons c r s))=>exact .inr (by simp[Ts.len])
theorem pC{x:Ts}{k:Int}(h:¬k=4∨¬x.len=2):mQ x k=0:=by
 match x with
 | .nil=>rfl
 | .cons a p .nil=>rfl
 | .cons a p (.cons b q .nil) =>
  rcases h with h|h
  ·simp[mQ,h]
  ·exact absurd rfl h
 | .cons a p (.cons b q (.cons c r s))=>rfl
theorem sY:∀(M:Nat) (x:Ts) (k:Int),x.size<M->mQ x k<=x.size
 | 0,_,_,h=>by omega
 | M+1,x,k,h=>by
  rcases nE x with ⟨a,p,b,q,rfl⟩|hn
  ·have:=sY M q b.k (by simp only[Ts.size] at h;omega)
   simp only[mQ,Ts.size] at *
   split<;>omega
  ·rw[pC (.inr hn)];omega
def stCo(n:Nat)(u:Tm):St:=bP [(1,.bx 2 0),(3,iA n)] [(2,26,tmC none none u.h u.x)] []
theorem AJ(t:Tm)(hs:t.size<=100000000):HH 148 [tmL t] (iA (bS t)):=by
 have hc:=sY _ t.x t.h.k (Nat.lt_succ_self _)
 have hcs:bS t<=100000000:=by unfold bS;unfold Tm.size at hs;omega
 obtain⟨C,hC⟩:∃C,bS t=C:=⟨_,rfl⟩
 rw[hC] at hcs ⊢
 refine ab Tryz.func148 Tryz.ntmps148 Tryz.results148 rfl (by decide) (by simp) rfl rfl ?_
 simp
 refine lp (α:={ q:Nat×Tm // bS q.2+q.1=C }) (λ q=>stCo q.1.1 q.1.2) (λ q=>q.1.2.x.size) ⟨(0,t),hC⟩ ?_ ?_
 ·refine aI [] ?_ ?_ ?_<;>simp[AV.ok,Dc.ok]
 ·rintro⟨⟨n,H,x⟩,hq⟩
  simp only at hq
  have hw:IntKind.i64.wrap ((n:Int)+1)=n+1:=by rw[IntKind.wrap_i64];omega
  have stop:¬H.k=4∨¬x.len=2->C=n:=λ h=>by
   rw[<-hq]
   unfold bS
   simp only
   rw[pC h];omega
  by_cases hk:H.k=4
  ·rcases nE x with ⟨a,p,b,q,rfl⟩|hn
   ·have e1:bS ⟨H,.cons a p (.cons b q .nil)⟩=1+bS ⟨b,q⟩:=by simp[bS,mQ,hk]
    simp[stCo,hk]
    refine⟨n+1,⟨b,q⟩,by simp[Ts.size];omega,by omega,?_⟩
    refine aI [] ?_ ?_ ?_<;>simp[AV.ok,Dc.ok,hw]
   ·obtain rfl:=stop (.inr hn)
    have d0:x.len*5 / 5=x.len:=by omega
    have hn':¬(x.len:Int)=2:=by omega
    simp[stCo,hk,aF,d0,hn,hn']
    exact⟨[],by simp⟩
  ·obtain rfl:=stop (.inl hk)
   simp[stCo,hk]
   exact⟨[],by simp⟩
def iS:Nat->Tm->Ts
 | 0,_=>.nil
 | n+1,t=>match t.x with
  | .cons a p (.cons b q .nil)=>.cons a p (iS n ⟨b,q⟩)
  | _=>.nil
def kB:Nat->Tm->Tm
 | 0,t=>t
 | n+1,t=>match t.x with
  | .cons _ _ (.cons b q .nil)=>kB n ⟨b,q⟩
  | _=>t
theorem sK:∀(n:Nat) (t:Tm),(iS n t).size+(kB n t).size<=t.size
 | 0,t=>by simp[iS,kB,Ts.size]
 | n+1,⟨H,x⟩=>by
  rcases nE x with ⟨a,p,b,q,rfl⟩|hn
  ·have:=sK n ⟨b,q⟩
   simp only[iS,kB,Ts.size,Tm.size] at *
   omega
  ·match x,hn with
   | .nil,_=>simp[iS,kB,Ts.size]
   | .cons a p .nil,_=>simp[iS,kB,Ts.size]
   | .cons a p (.cons b q .nil),hn=>exact absurd rfl hn
   | .cons a p (.cons b q (.cons c r s)),_=>simp[iS,kB,Ts.size]
theorem sL:∀(n:Nat) (t:Tm),t.fits->(iS n t).fits/\(kB n t).fits
 | 0,t,h=>⟨trivial,h⟩
 | n+1,⟨H,x⟩,h=>by
  match x,h with
  | .nil,h=>exact⟨trivial,h⟩
  | .cons a p .nil,h=>exact⟨trivial,h⟩
  | .cons a p (.cons b q .nil),h =>
   have:=sL n ⟨b,q⟩ ⟨h.2.2.2.1,h.2.2.2.2.1⟩
   exact⟨⟨h.2.1,h.2.2.1,this.1⟩,this.2⟩
  | .cons a p (.cons b q (.cons c r s)),h=>exact⟨trivial,h⟩
theorem L1:∀(n:Nat) (t:Tm),n<=bS t->(iS n t).len=n
 | 0,_,_=>rfl
 | n+1,⟨H,x⟩,h=>by
  rcases nE x with ⟨a,p,b,q,rfl⟩|hn
  ·have h2:n<=bS ⟨b,q⟩:=by
    unfold bS at *
    simp only[mQ] at h
    split at h
    ·simp only;omega
    ·omega
   simp only[iS,Ts.len,L1 n ⟨b,q⟩ h2]
  ·unfold bS at h
   rw[pC (.inr hn)] at h
   omega
def stOp(n:Nat)(a:Ts)(u:Tm):St:=bP [(1,iA n),(2,.bx 3 0),(5,.bx 6 0),(7,.c (.blk 31 (a.len+1) 5 26 (.seg none (tDs ty a) .nil) .nil)),(8,iA a.len)] [(3,26,tmC none none u.h u.x),(6,26,zC)] [(31,a.len+1)]
theorem OpenT(t:Tm)(n:Nat)(hn:n<=bS t)(hf:t.fits)(hs:t.size<=100000000):HH 149 [tmL t,iA n] (.tup (AV.list [tsA none (iS n t),tmL (kB n t),.v (.bool true)])):=by
 have hc:=sY _ t.x t.h.k (Nat.lt_succ_self _)
 have hcs:bS t<=100000000:=by unfold bS;unfold Tm.size at hs;omega
 have q0:=AJ t hs
 have hn0:¬(n:Int)<0:=by omega
 have hn1:¬(bS t:Int)<n:=by omega
 obtain⟨I0,hI0⟩:∃I0,iS n t=I0:=⟨_,rfl⟩
 obtain⟨R0,hR0⟩:∃R0,kB n t=R0:=⟨_,rfl⟩
 rw[hI0,hR0]
 refine ab Tryz.func149 Tryz.ntmps149 Tryz.results149 rfl (by decide) (by simp) rfl rfl ?_
 simp[hn0]
 refine aE q0 ?_ ?_ ?_<;>simp[hn1]
 refine lp (α:={ q:Ts×Nat×Tm // q.1.len+q.2.1=n/\q.2.1<=bS q.2.2/\q.1.app (iS q.2.1 q.2.2)=I0/\kB q.2.1 q.2.2=R0/\q.2.2.fits/\q.2.2.size<=t.size }) (λ q=>stOp n q.1.1 q.1.2.2) (λ q=>q.1.2.1) ⟨(.nil,n,t),by simp[Ts.len],hn,hI0,hR0,hf,Nat.le_refl _⟩ ?_ ?_
 ·refine aI [((31,0),[(31,0)])] ?_ ?_ ?_<;>simp[AV.ok,Dc.ok,Ts.len]
 ·rintro⟨⟨a,m,H,x⟩,ha,hm,hI,hR,hfx,hsx⟩
  simp only at ha hm hI hR hfx hsx
  cases m with
  | zero =>
   simp only[iS,Ts.app_nil] at hI
   simp only[kB] at hR
   have hal:¬(a.len:Int)<n:=by omega
   subst hI hR
   simp[stOp,hal]
   refine aE (oD ⟨H,x⟩ hfx (by omega)) ?_ ?_ ?_<;>simp[Ds.app_nil]
   exact⟨[],by simp⟩
  | succ m =>
   rcases nE x with ⟨a',p,b,q,rfl⟩|hno
   ·have hal:(a.len:Int)<n:=by omega
    have hw:IntKind.i64.wrap ((a.len:Int)+1)=a.len+1:=by rw[IntKind.wrap_i64];omega
    simp only[iS] at hI
    simp only[kB] at hR
    simp only[Tm.size,Ts.size] at hsx
    have h2:m<=bS ⟨b,q⟩:=by
     unfold bS at *
     simp only[mQ] at hm
     split at hm
     ·simp only;omega
     ·omega
    simp[stOp,hal]
    refine aE (oD ⟨a',p⟩ ⟨hfx.2.1,hfx.2.2.1⟩ (by unfold Tm.size at *;simp only;omega)) ?_ ?_ ?_<;>simp
    refine⟨by rw[aF];omega,a.app (.cons a' p .nil),m,by omega,⟨b,q⟩,⟨by simp[Ts.app_len,Ts.len];omega,h2,by rw[Ts.app_assoc];exact hI,hR,⟨hfx.2.2.2.1,hfx.2.2.2.2.1⟩,by unfold Tm.size at *;simp only;omega⟩,?_⟩
    refine aI [((31,0),[(31,0)])] ?_ ?_ ?_<;>simp[Ts.len,Ts.app_len,AV.ok,Dc.ok,hw]
    exact (bC ty a (.cons a' p .nil)).symm
   ·exfalso
    unfold bS at hm
    rw[pC (.inr hno)] at hm
    omega
def iF:Ts->Int->Ts
 | .cons a p (.cons b q .nil),k=>if k=6 then .cons b q (iF p a.k) else .nil
 | _,_=>.nil
def jE:Ts->Hd->Tm
 | .cons a p (.cons b q .nil),H=>if H.k=6 then jE p a else ⟨H,.cons a p (.cons b q .nil)⟩
 | x,H=>⟨H,x⟩
theorem H9{x:Ts}{k:Int}(h:¬k=6∨¬x.len=2):iF x k=.nil:=by
 match x with
 | .nil=>rfl
 | .cons a p .nil=>rfl
 | .cons a p (.cons b q .nil) =>
  rcases h with h|h
  ·simp[iF,h]
  ·exact absurd rfl h
 | .cons a p (.cons b q (.cons c r s))=>rfl
theorem E0{x:Ts}{H:Hd}(h:¬H.k=6∨¬x.len=2):jE x H=⟨H,x⟩:=by
 match x with
 | .nil=>rfl
 | .cons a p .nil=>rfl
 | .cons a p (.cons b q .nil) =>
  rcases h with h|h
  ·simp[jE,h]
  ·exact absurd rfl h
 | .cons a p (.cons b q (.cons c r s))=>rfl
theorem mG:∀(M:Nat) (x:Ts) (H:Hd),x.size<M->(jE x H).size+(iF x H.k).size<=aH H.l+x.size
 | 0,_,_,h=>by omega
 | M+1,x,H,h=>by
  rcases nE x with ⟨a,p,b,q,rfl⟩|hn
  ·have:=mG M p a (by simp only[Ts.size] at h;omega)
   simp only[jE,iF]
   split
   ·simp only[Ts.size] at *
    omega
   ·simp[Tm.size,Ts.size]
  ·rw[E0 (.inr hn),H9 (.inr hn)]
   simp[Tm.size,Ts.size]
theorem mH:∀(M:Nat) (x:Ts) (H:Hd),x.size<M->H.fits->x.fits->(jE x H).fits/\(iF x H.k).fits
 | 0,_,_,h,_,_=>by omega
 | M+1,x,H,h,hH,hx=>by
  rcases nE x with ⟨a,p,b,q,rfl⟩|hn
  ·have:=mH M p a (by simp only[Ts.size] at h;omega) hx.1 hx.2.1
   simp only[jE,iF]
   split
   ·exact⟨this.1,hx.2.2.1,hx.2.2.2.1,this.2⟩
   ·exact⟨⟨hH,hx⟩,trivial⟩
  ·rw[E0 (.inr hn),H9 (.inr hn)]
   exact⟨⟨hH,hx⟩,trivial⟩
theorem zA:∀(t:Ts) (k:Nat),(t.drop k).len=t.len-k
 | .nil,k=>by cases k<;>simp[Ts.drop,Ts.len]
 | .cons h x r,0=>rfl
 | .cons h x r,k+1=>by
  have:=zA r k
  simp only[Ts.drop,Ts.len] at *
  omega
def nN:Ts->Ts
 | .nil=>.nil
 | .cons h x r=>(nN r).app (.cons h x .nil)
theorem J5:∀t:Ts,(nN t).len=t.len
 | .nil=>rfl
 | .cons h x r=>by simp[nN,Ts.app_len,J5 r,Ts.len]
theorem sB:∀t:Ts,(nN t).size=t.size
 | .nil=>rfl
 | .cons h x r=>by simp only[nN,fO,sB r,Ts.size];omega
theorem sC:∀t:Ts,t.fits->(nN t).fits
 | .nil,_=>trivial
 | .cons h x r,hf=>fS (sC r hf.2.2) ⟨hf.1,hf.2.1,trivial⟩
def stSp(a:Ts)(u:Tm):St:=bP [(1,.bx 2 0),(2,.bx 3 0),(4,.c (.blk 23 (a.len+1) 5 26 (.seg none (tDs ty a) .nil) .nil))] [(2,26,tmC none none u.h u.x),(3,26,zC)] [(23,a.len+1)]
def stSq(t:Ts)(u:Tm)(j:Nat):St:=bP [(1,.bx 2 0),(2,.bx 3 0),(4,tsA none t),(5,.c (.blk 42 (t.len-j+1) 5 26 (.seg none (tDs ty (nN (t.drop j))) .nil) .nil)),(6,iA ((j:Int)-1))] [(2,26,tmC none none u.h u.x),(3,26,zC)] [(42,t.len-j+1)]
theorem MF(t:Tm)(hf:t.fits)(hs:t.size<=100000000):HH 151 [tmL t] (.tup (AV.list [tmL (jE t.x t.h),tsA none (nN (iF t.x t.h.k))])):=by
 have hsp:=mG _ t.x t.h (Nat.lt_succ_self _)
 obtain⟨hf1,hf2⟩:=mH _ t.x t.h (Nat.lt_succ_self _) hf.1 hf.2
 have hsz:(jE t.x t.h).size<=100000000/\(iF t.x t.h.k).size<=100000000:=by unfold Tm.size at hs;omega
 generalize hB:iF t.x t.h.k=B at *
 generalize hH:jE t.x t.h=E at *
 have hbl:B.len<=100000000:=Nat.le_trans (len_le_size B) hsz.2
 have d0:B.len*5 / 5=B.len:=by omega
 refine ab Tryz.func151 Tryz.ntmps151 Tryz.results151 rfl (by decide) (by simp) rfl rfl ?_
 simp
 refine lp (α:={ q:Ts×Tm // q.1.app (iF q.2.x q.2.h.k)=B/\jE q.2.x q.2.h=E }) (λ q=>stSp q.1.1 q.1.2) (λ q=>q.1.2.x.size) ⟨(.nil,t),hB,hH⟩ ?_ ?_
 ·refine aI [((23,0),[(23,0)])] ?_ ?_ ?_<;>simp[AV.ok,Dc.ok,Ts.len]
 ·rintro⟨⟨a,H,x⟩,ha,hE⟩
  simp only at ha hE
  have LAST:∀u:Tm,u=E->a=B->True:=λ _ _ _=>trivial
  have stop:¬H.k=6∨¬x.len=2->a=B/\(⟨H,x⟩:Tm)=E:=λ h=>by
   rw[H9 h,Ts.app_nil] at ha
   rw[E0 h] at hE
   exact⟨ha,hE⟩
  have hc:(H.k=6/\∃a p b q,x=.cons a p (.cons b q .nil))∨(H.k=6/\¬x.len=2)∨¬H.k=6:=by
   by_cases hk:H.k=6
   ·rcases nE x with h|h
    ·exact .inl ⟨hk,h⟩
    ·exact .inr (.inl ⟨hk,h⟩)
   ·exact .inr (.inr hk)
  rcases hc with ⟨hk,a',p,b,q,rfl⟩|hc
  ·have e1:iF (.cons a' p (.cons b q .nil)) H.k=.cons b q (iF p a'.k):=by simp[iF,hk]
   have e2:jE (.cons a' p (.cons b q .nil)) H=jE p a':=by simp[jE,hk]
   rw[e1] at ha
   rw[e2] at hE
   have hal:a.len<B.len:=by rw[<-ha];simp[Ts.app_len,Ts.len]
   simp[stSp,hk]
   refine⟨by rw[aF];omega,a.app (.cons b q .nil),⟨a',p⟩,by simp[Ts.size];omega,⟨by rw[Ts.app_assoc];exact ha,hE⟩,?_⟩
   refine aI [((23,0),[(23,0)])] ?_ ?_ ?_<;>simp[Ts.len,Ts.app_len,AV.ok,Dc.ok]
   exact (bC ty a (.cons b q .nil)).symm
  ·obtain⟨rfl,rfl⟩:=stop (by rcases hc with ⟨-,h⟩|h;exact .inr h;exact .inl h)
   have d1:x.len*5 / 5=x.len:=by omega
   have w0:IntKind.i64.wrap ((a.len:Int)-1)=a.len-1:=by rw[IntKind.wrap_i64];omega
   rcases hc with ⟨hk,hn⟩|hk
   case' inl=>have hn':¬(x.len:Int)=2:=by omega
   case' inl=>simp[stSp,hk,aF,d0,d1,w0,hn,hn',Ds.app_nil]
   case' inr=>simp[stSp,hk,aF,d0,w0,Ds.app_nil]
   all_goals
    refine lp (α:={ j:Nat // j<=a.len }) (λ j=>stSq a ⟨H,x⟩ j.1) (λ j=>j.1) ⟨a.len,Nat.le_refl _⟩ ?_ ?_
    ·refine aI [((42,0),[(42,0)])] ?_ ?_ ?_<;>simp[AV.ok,Dc.ok,Ts.drop_len,nN,hk,Ds.app_nil]
    ·rintro⟨j,hj⟩
     cases j with
     | zero =>
      simp[stSq,Ts.drop]
      refine aE (oD ⟨H,x⟩ hf1 (by omega)) ?_ ?_ ?_<;>simp[Ds.app_nil]
      first|exact⟨[],by simp⟩|exact⟨hk,[],by simp⟩
     | succ j =>
      have h1:j<a.len:=hj
      have h2:=pA a j
      have h3:=Ts.drop_step h1
      have h4:=Ts.fits_hd hf2 h1
      have h5:=Ts.size_kd h1
      rw[h3] at h2
      have h6:nN (a.drop j)=(nN (a.drop (j+1))).app (.cons (a.hd j) (a.kd j) .nil):=by rw[h3];rfl
      have h7:(nN (a.drop (j+1))).len<=100000000:=by
       rw[J5,zA];omega
      have w1:IntKind.i64.wrap ((j:Int)-1)=j-1:=by rw[IntKind.wrap_i64];omega
      have n1:a.len-(j+1)+1+1=a.len-j+1:=by omega
      generalize a.hd j=hh at *
      generalize a.kd j=hx at *
      generalize hR:nN (a.drop (j+1))=R at *
      simp[stSq,h2,aF,hR]
      refine⟨by omega,?_⟩
      refine aE (oD ⟨hh,hx⟩ h4 (by show aH hh.l+hx.size<=200000000;omega)) ?_ ?_ ?_<;>simp[w1,n1,aF]
      refine⟨by omega,j,by omega,by omega,?_⟩
      refine aI [((42,0),[(42,0)])] ?_ ?_ ?_<;>simp[AV.ok,Dc.ok,h6]
      exact (bC ty R (.cons hh hx .nil)).symm
def eA(n:Int):AV:=iA n
structure OkAg (t:Tm) (a:Ag):Prop where
 tf:a.t.fits
 ef:a.e.fits
 xf:a.i.fits
 s:a.t.size+a.e.size+a.i.size<=t.size
theorem zN(t:Tm):OkAg t ⟨false,⟨⟨0,0,0,[]⟩,.nil⟩,.nil,0,.nil⟩:=⟨⟨dV (by decide) (by decide) (by decide),trivial⟩,trivial,trivial,by simp[Tm.size,Ts.size,aH]⟩
theorem argT(d:Dl)(t:Tm)(hf:t.fits)(hs:t.size<=100000000)(hm:d.m.length<=100000000):∃a e,HH 150 [dlL d,tmL t] (.tup (AV.list [agL a,iA e]))/\OkAg t a:=by
 have dm:(aZ d.m).len=d.m.length:=aS _
 have q1:=selfT t hs
 cases hb:tH t with
 | false =>
  rw[hb] at q1
  refine⟨⟨false,t,.nil,0,.nil⟩,0,?_,hf,trivial,trivial,by simp[Ts.size]⟩
  refine ab Tryz.func150 Tryz.ntmps150 Tryz.results150 rfl (by decide) (by simp) rfl rfl ?_
  simp[dlL,dlC]
  refine aE q1 ?_ ?_ ?_<;>simp
  refine aE (oD t hf (by omega)) ?_ ?_ ?_<;>simp
  exact⟨[],by simp[agL,agC]⟩
 | true =>
  rw[hb] at q1
  have q2:=AJ t hs
  by_cases hn:(bS t:Int)<=6
  ·have q3:=OpenT t (bS t) (Nat.le_refl _) hf hs
   have hO:=sK (bS t) t
   obtain⟨f1,f2⟩:=sL (bS t) t hf
   generalize iS (bS t) t=T at *
   generalize kB (bS t) t=R at *
   have q4:=MF R f2 (by omega)
   have hS:=mG _ R.x R.h (Nat.lt_succ_self _)
   obtain⟨f3,f4⟩:=mH _ R.x R.h (Nat.lt_succ_self _) f2.1 f2.2
   have hA:(nN (iF R.x R.h.k)).size<=R.size:=by rw[sB];unfold Tm.size;omega
   have f5:=sC _ f4
   generalize nN (iF R.x R.h.k)=A at *
   generalize jE R.x R.h=E at *
   have q5:=AZ T (by omega)
   have q6:=AZ A (by omega)
   have hAl:A.len<=100000000:=Nat.le_trans (len_le_size A) (by omega)
   have dA:A.len*5 / 5=A.len:=by omega
   have hn':¬(6:Int)<bS t:=by omega
   by_cases hg:eD T=false/\E.h.k=11/\0<=E.h.a/\E.h.a<d.m.length/\eD A=false
   ·obtain⟨g1,g2,g3,g4,g5⟩:=hg
    rw[g1] at q5
    rw[g5] at q6
    obtain⟨k,hk⟩:=Int.eq_ofNat_of_zero_le g3
    have hkl:k<d.m.length:=by omega
    have hdp:=ES hkl
    simp only[Nat.mul_one] at hdp
    have g3':¬E.h.a<0:=by omega
    have g4':¬(d.m.length:Int)<=E.h.a:=by omega
    have hil:d.m[k].len*5 / 5=d.m[k].len:=by omega
    by_cases hl:(A.len:Int)=d.m[k].len
    ·have hl':A.len=d.m[k].len:=by omega
     refine⟨⟨true,⟨⟨0,0,0,[]⟩,.nil⟩,T,E.h.a,A⟩,0,?_,⟨dV (by decide) (by decide) (by decide),trivial⟩,f1,f5,?_⟩
     ·refine ab Tryz.func150 Tryz.ntmps150 Tryz.results150 rfl (by decide) (by simp) rfl rfl ?_
      simp[dlL,dlC]
      refine aE q1 ?_ ?_ ?_<;>simp
      refine aE q2 ?_ ?_ ?_<;>simp[hn']
      refine aE q3 ?_ ?_ ?_<;>simp
      refine aE q4 ?_ ?_ ?_<;>simp
      refine aE q5 ?_ ?_ ?_<;>simp[g2,g3',g4',dm]
      refine aE q6 ?_ ?_ ?_<;>simp[g2,g3',g4',dm,hk,hdp,aZ,aF,dA,hil,hl,hl']
      try refine⟨by omega,?_⟩
      exact⟨[],by simp[agL,agC,hk]⟩
     ·have:Tm.size ⟨⟨0,0,0,[]⟩,.nil⟩=0:=by simp[Tm.size,Ts.size,aH]
      simp only[this];omega
    ·have hl':¬A.len=d.m[k].len:=by omega
     refine⟨_,17,?_,zN t⟩
     refine ab Tryz.func150 Tryz.ntmps150 Tryz.results150 rfl (by decide) (by simp) rfl rfl ?_
     simp[dlL,dlC]
     refine aE q1 ?_ ?_ ?_<;>simp
     refine aE q2 ?_ ?_ ?_<;>simp[hn']
     refine aE q3 ?_ ?_ ?_<;>simp
     refine aE q4 ?_ ?_ ?_<;>simp
     refine aE q5 ?_ ?_ ?_<;>simp[g2,g3',g4',dm]
     refine aE q6 ?_ ?_ ?_<;>simp[g2,g3',g4',dm,hk,hdp,aZ,aF,dA,hil,hl,hl']
     try refine⟨by omega,?_⟩
     exact⟨[],by simp[agL,agC]⟩
   ·refine⟨_,16,?_,zN t⟩
    refine ab Tryz.func150 Tryz.ntmps150 Tryz.results150 rfl (by decide) (by simp) rfl rfl ?_
    simp[dlL,dlC]
    refine aE q1 ?_ ?_ ?_<;>simp
    refine aE q2 ?_ ?_ ?_<;>simp[hn']
    refine aE q3 ?_ ?_ ?_<;>simp
    refine aE q4 ?_ ?_ ?_<;>simp
    cases g1:eD T with
    | true =>
     rw[g1] at q5
     refine aE q5 ?_ ?_ ?_<;>simp
     exact⟨[],by simp[agL,agC]⟩
    | false =>
     rw[g1] at q5
     by_cases g2:E.h.k=11
     ·by_cases g3:E.h.a<0
      ·refine aE q5 ?_ ?_ ?_<;>simp[g2,g3]
       exact⟨[],by simp[agL,agC]⟩
      ·by_cases g4:(d.m.length:Int)<=E.h.a
       ·refine aE q5 ?_ ?_ ?_<;>simp[g2,g3,g4,dm]
        exact⟨[],by simp[agL,agC]⟩
       ·cases g5:eD A with
        | true =>
         rw[g5] at q6
         refine aE q5 ?_ ?_ ?_<;>simp[g2,g3,g4,dm]
         refine aE q6 ?_ ?_ ?_<;>simp[g2,g3,g4,dm]
         exact⟨[],by simp[agL,agC]⟩
        | false=>exact absurd ⟨g1,g2,by omega,by omega,g5⟩ hg
     ·refine aE q5 ?_ ?_ ?_<;>simp[g2]
      exact⟨[],by simp[agL,agC]⟩
  ·refine⟨_,3,?_,zN t⟩
   have hn':(6:Int)<bS t:=by omega
   refine ab Tryz.func150 Tryz.ntmps150 Tryz.results150 rfl (by decide) (by simp) rfl rfl ?_
   simp[dlL,dlC]
   refine aE q1 ?_ ?_ ?_<;>simp
   refine aE q2 ?_ ?_ ?_<;>simp[hn']
   exact⟨[],by simp[agL,agC]⟩
def mZ(f:Nat->Hd->Ts->Bool):Ts->Nat->Bool
 | .nil,_=>false
 | .cons h x r,k=>f k h x || mZ f r (k+1)
theorem oO(f:Nat->Hd->Ts->Bool):∀(a b:Ts) (k:Nat),mZ f (a.app b) k=(mZ f a k || mZ f b (k+a.len))
 | .nil,b,k=>by simp[Ts.app,mZ,Ts.len]
 | .cons h x r,b,k=>by
  simp only[Ts.app,mZ,oO f r b (k+1),Bool.or_assoc,Ts.len]
  rw[show k+1+r.len=k+(r.len+1) by omega]
def fE(far:Int)(k:Nat)(h:Hd)(y:Ts):Bool:=jF (IntKind.i64.wrap (far+k)) (IntKind.i64.wrap (IntKind.i64.wrap (far+k)+1)) ⟨h,y⟩ 0
def fI(far:Int)(_:Nat)(h:Hd)(y:Ts):Bool:=jF far (IntKind.i64.wrap (far+1)) ⟨h,y⟩ 0
def stMe(a:Ag)(far:Int)(k:Nat):St:=bP [(1,iA far),(2,.bx 3 0),(5,iA k)] [(3,82,agC a)] []
def stMf(a:Ag)(far:Int)(k:Nat):St:=bP [(1,iA far),(2,.bx 3 0),(6,iA k)] [(3,82,agC a)] []
theorem DR(a:Ag)(far:Int)(h1:a.t.size<=100000000)(h2:a.e.size<=100000000)(h3:a.i.size<=100000000):∃b,HH 153 [agL a,iA far] (.v (.bool b)):=by
 have hel:a.e.len<=100000000:=Nat.le_trans (len_le_size _) h2
 have hil:a.i.len<=100000000:=Nat.le_trans (len_le_size _) h3
 have de:a.e.len*5 / 5=a.e.len:=by omega
 have di:a.i.len*5 / 5=a.i.len:=by omega
 cases hr:a.r with
 | false =>
  refine⟨jF far (IntKind.i64.wrap (far+1)) a.t 0,?_⟩
  refine ab Tryz.func153 Tryz.ntmps153 Tryz.results153 rfl (by decide) (by simp) rfl rfl ?_
  simp[agL,hr]
  refine aE (CR far (IntKind.i64.wrap (far+1)) a.t h1) ?_ ?_ ?_<;>simp
  exact⟨[],by simp⟩
 | true =>
  obtain⟨F,hF⟩:∃F,IntKind.i64.wrap (far+a.e.len)=F:=⟨_,rfl⟩
  obtain⟨B1,hB1⟩:∃B,mZ (fE far) a.e 0=B:=⟨_,rfl⟩
  obtain⟨B2,hB2⟩:∃B,mZ (fI F) a.i 0=B:=⟨_,rfl⟩
  refine⟨B1 || B2,?_⟩
  refine ab Tryz.func153 Tryz.ntmps153 Tryz.results153 rfl (by decide) (by simp) rfl rfl ?_
  simp[agL,hr]
  refine lp (α:={ q:Ts×Ts // q.1.app q.2=a.e/\mZ (fE far) q.1 0=false }) (λ q=>stMe a far q.1.1.len) (λ q=>q.1.2.len) ⟨(.nil,a.e),rfl,rfl⟩ ?_ ?_
  ·refine aI [] ?_ ?_ ?_<;>simp[AV.ok,Dc.ok,Ts.len,hr]
  ·rintro⟨⟨p,q⟩,hq,hq0⟩
   simp only at hq hq0
   cases q with
   | nil =>
    have e:p=a.e:=by rw[<-hq];exact (Ts.app_nil p).symm
    have hp:p.len=a.e.len:=by rw[e]
    rw[e] at hq0
    obtain rfl:B1=false:=by rw[<-hB1,hq0]
    rw[Bool.false_or]
    simp[stMe,aF,de,hp,hF]
    refine lp (α:={ q:Ts×Ts // q.1.app q.2=a.i/\mZ (fI F) q.1 0=false }) (λ q=>stMf a F q.1.1.len) (λ q=>q.1.2.len) ⟨(.nil,a.i),rfl,rfl⟩ ?_ ?_
    ·refine aI [] ?_ ?_ ?_<;>simp[AV.ok,Dc.ok,Ts.len]
    ·rintro⟨⟨p,q⟩,hq,hq0⟩
     simp only at hq hq0
     cases q with
     | nil =>
      have e:p=a.i:=by rw[<-hq];exact (Ts.app_nil p).symm
      have hp:p.len=a.i.len:=by rw[e]
      rw[e] at hq0
      obtain rfl:B2=false:=by rw[<-hB2,hq0]
      simp[stMf,aF,di,hp]
      exact⟨[],by simp⟩
     | cons h y r =>
      have h1:p.len<a.i.len:=by rw[<-hq];simp[Ts.app_len,Ts.len]
      have h2:(tDs ty a.i).dp (p.len*5)=tDs ty (.cons h y r):=by rw[<-hq];exact fA p _
      have h4:aH h.l+y.size+1<=a.i.size:=by rw[<-hq];exact app_size
      have hw:IntKind.i64.wrap ((p.len:Int)+1)=p.len+1:=by rw[IntKind.wrap_i64];omega
      have q1:=CR F (IntKind.i64.wrap (F+1)) ⟨h,y⟩ (by unfold Tm.size;simp only;omega)
      have e1:mZ (fI F) a.i 0=(jF F (IntKind.i64.wrap (F+1)) ⟨h,y⟩ 0 || mZ (fI F) r (p.len+1)):=by
       rw[<-hq,oO,hq0,Nat.zero_add];rfl
      have e2:mZ (fI F) (p.app (.cons h y .nil)) 0=jF F (IntKind.i64.wrap (F+1)) ⟨h,y⟩ 0:=by
       rw[oO,hq0,Nat.zero_add];simp[mZ,fI]
      cases hb:jF F (IntKind.i64.wrap (F+1)) ⟨h,y⟩ 0 with
      | true =>
       rw[hb] at q1 e1
       obtain rfl:B2=true:=by rw[<-hB2];simp[e1]
       simp[stMf,aF,di,h1,h2]
       refine⟨by omega,?_⟩
       refine aE q1 ?_ ?_ ?_<;>simp
       exact⟨[],by simp⟩
      | false =>
       rw[hb] at q1 e2
       simp[stMf,aF,di,h1,h2]
       refine⟨by omega,?_⟩
       refine aE q1 ?_ ?_ ?_<;>simp
       refine⟨p.app (.cons h y .nil),r,by simp[Ts.len],⟨by rw[Ts.app_assoc];exact hq,e2⟩,?_⟩
       refine aI [] ?_ ?_ ?_<;>simp[AV.ok,Dc.ok,hw,Ts.app_len,Ts.len]
   | cons h y r =>
    have h1:p.len<a.e.len:=by rw[<-hq];simp[Ts.app_len,Ts.len]
    have h2:(tDs ty a.e).dp (p.len*5)=tDs ty (.cons h y r):=by rw[<-hq];exact fA p _
    have h4:aH h.l+y.size+1<=a.e.size:=by rw[<-hq];exact app_size
    have hw:IntKind.i64.wrap ((p.len:Int)+1)=p.len+1:=by rw[IntKind.wrap_i64];omega
    have q1:=CR (IntKind.i64.wrap (far+p.len)) (IntKind.i64.wrap (IntKind.i64.wrap (far+p.len)+1)) ⟨h,y⟩ (by unfold Tm.size;simp only;omega)
    have e1:mZ (fE far) a.e 0=(fE far p.len h y || mZ (fE far) r (p.len+1)):=by
     rw[<-hq,oO,hq0,Nat.zero_add];rfl
    have e2:mZ (fE far) (p.app (.cons h y .nil)) 0=fE far p.len h y:=by
     rw[oO,hq0,Nat.zero_add];simp[mZ]
    change HH 154 _ (.v (.bool (fE far p.len h y))) at q1
    cases hb:fE far p.len h y with
    | true =>
     rw[hb] at q1 e1
     obtain rfl:B1=true:=by rw[<-hB1];simp[e1]
     simp[stMe,aF,de,h1,h2]
     refine⟨by omega,?_⟩
     refine aE q1 ?_ ?_ ?_<;>simp
     exact⟨[],by simp⟩
    | false =>
     rw[hb] at q1 e2
     simp[stMe,aF,de,h1,h2]
     refine⟨by omega,?_⟩
     refine aE q1 ?_ ?_ ?_<;>simp
     refine⟨p.app (.cons h y .nil),r,by simp[Ts.len],⟨by rw[Ts.app_assoc];exact hq,e2⟩,?_⟩
     refine aI [] ?_ ?_ ?_<;>simp[AV.ok,Dc.ok,hw,Ts.app_len,Ts.len,hr]
section
def zAg:Ag:=⟨false,⟨⟨0,0,0,[]⟩,.nil⟩,.nil,0,.nil⟩
def pX(f:Tm->Ag×Int):Ts->List Ag->Option (List Ag×Int)
 | .nil,_=>none
 | .cons h x r,acc=>if (f ⟨h,x⟩).2=0 then pX f r (acc++[(f ⟨h,x⟩).1]) else some (acc,(f ⟨h,x⟩).2)
def eK(f:Tm->Ag×Int):Ts->List Ag
 | .nil=>[]
 | .cons h x r=>(f ⟨h,x⟩).1 :: eK f r
theorem tC(f:Tm->Ag×Int):∀a b:Ts,eK f (a.app b)=eK f a++eK f b
 | .nil,b=>rfl
 | .cons h x r,b=>by simp only[Ts.app,eK,tC f r b,List.cons_append]
theorem lV(f:Tm->Ag×Int):∀a:Ts,(eK f a).length=a.len
 | .nil=>rfl
 | .cons h x r=>by simp only[eK,List.length_cons,lV f r,Ts.len]
theorem tV(f:Tm->Ag×Int)(hf:∀t:Tm,t.fits->t.size<=100000000->OkAg t (f t).1):∀t:Ts,t.fits->t.size<=100000000->dW (eK f t)/\cF (eK f t)<=t.size
 | .nil,_,_=>⟨fun a ha=>(by cases ha),Nat.le_refl _⟩
 | .cons h x r,hft,hs=>by
  simp only[Ts.size] at hs
  have h1:=hf ⟨h,x⟩ ⟨hft.1,hft.2.1⟩ (by unfold Tm.size;simp only;omega)
  obtain⟨h2,h3⟩:=tV f hf r hft.2.2 (by omega)
  refine⟨fun a ha=>?_,?_⟩
  ·rcases List.mem_cons.1 ha with rfl|ha
   ·exact⟨h1.tf,h1.ef,h1.xf⟩
   ·exact h2 a ha
  ·have h4:=h1.s
   simp only[cF,eK,List.map_cons,List.sum_cons,Ts.size] at *
   rw[show Tm.size ⟨h,x⟩=aH h.l+x.size from rfl] at h4
   omega
theorem xD(f:Tm->Ag×Int):∀(t:Ts) (acc l:List Ag) (e:Int),pX f t acc=some (l,e)->e≠0/\∃p h x q,t=p.app (.cons h x q)/\l=acc++eK f p/\(f ⟨h,x⟩).2=e
 | .nil,acc,l,e,h=>by simp[pX] at h
 | .cons h x r,acc,l,e,he=>by
  simp only[pX] at he
  split at he
  ·obtain⟨h1,p,h',x',q,rfl,rfl,h2⟩:=xD f r _ l e he
   exact⟨h1,.cons h x p,h',x',q,rfl,by simp[eK],h2⟩
  ·rename_i hn
   cases he
   exact⟨hn,.nil,h,x,r,rfl,by simp[eK],rfl⟩
def rZ:Dc:=.lit (.int .i64 0) (.nilr 9 82 (.nilr 5 26 .nil))
attribute [local simp] rZ tE
structure OkRl (t:Tm) (r:Rl):Prop where
 gf:dW r.g
 xf:r.i.fits
 s:cF r.g+r.i.size<=t.size
 l:r.g.length<=10
def CZ(d:Dl)(c:Ct)(n:Nat)(T:Ts)(R:Tm)(g:List Ag):St:=bP [(2,.bx 3 0),(3,.bx 4 0),(4,.bx 5 0),(6,iA n),(7,tsA none T),(8,.bx 9 0),(10,.bx 11 0),(11,iA g.length)] [(3,47,dlC d),(4,85,cCt c),(5,65,rZ),(9,26,tmC none none R.h R.x),(11,65,.lit (.int .i64 c.m) (.blk 59 (g.length+1) 9 82 (.seg none (bW g) .nil) (.nilr 5 26 .nil)))] [(59,g.length+1)]
def stO5(d:Dl)(c:Ct)(n:Nat)(R:Tm)(g:List Ag):St:=bP [(2,.bx 3 0),(3,.bx 4 0),(4,.bx 5 0),(6,iA n),(8,.bx 9 0),(10,.bx 11 0)] [(3,47,dlC d),(4,85,cCt c),(5,65,rZ),(9,26,tmC none none R.h R.x),(11,65,.lit (.int .i64 c.m) (.row none 9 82 (bW g) (.nilr 5 26 .nil)))] []
def zT(d:Dl)(c:Ct)(n:Nat)(E:Tm)(A:Ts)(g:List Ag):St:=bP [(2,.bx 3 0),(3,.bx 4 0),(4,.bx 5 0),(6,iA n),(10,.bx 11 0),(14,.bx 15 0),(15,tsA none A)] [(3,47,dlC d),(4,85,cCt c),(5,65,rZ),(11,65,.lit (.int .i64 c.m) (.row none 9 82 (bW g) (.nilr 5 26 .nil))),(15,26,tmC none none E.h E.x)] []
def stO7(d:Dl)(c:Ct)(n:Nat)(A:Ts)(g:List Ag):St:=bP [(2,.bx 3 0),(3,.bx 4 0),(4,.bx 5 0),(6,iA n),(10,.bx 11 0),(15,tsA none A)] [(3,47,dlC d),(4,85,cCt c),(5,65,rZ),(11,65,rlC ⟨c.m,g,A⟩)] []
def stO2(d:Dl)(c:Ct)(n:Nat)(g:List Ag)(A:Ts)(i:Nat):St:=bP [(2,.bx 3 0),(3,.bx 4 0),(4,.bx 5 0),(6,iA n),(10,.bx 11 0),(15,tsA none A),(16,iA i)] [(3,47,dlC d),(4,85,cCt c),(5,65,rZ),(11,65,rlC ⟨c.m,g,A⟩)] []
def stO3(d:Dl)(c:Ct)(n:Nat)(g:List Ag)(A:Ts)(i k:Nat):St:=bP [(2,.bx 3 0),(3,.bx 4 0),(4,.bx 5 0),(6,iA n),(10,.bx 11 0),(15,tsA none A),(16,iA i),(17,iA k)] [(3,47,dlC d),(4,85,cCt c),(5,65,rZ),(11,65,rlC ⟨c.m,g,A⟩)] []
def stO4(d:Dl)(c:Ct)(n:Nat)(g:List Ag)(A:Ts)(i k:Nat):St:=bP [(2,.bx 3 0),(3,.bx 4 0),(4,.bx 5 0),(6,iA n),(10,.bx 11 0),(15,tsA none A),(16,iA i),(18,iA k)] [(3,47,dlC d),(4,85,cCt c),(5,65,rZ),(11,65,rlC ⟨c.m,g,A⟩)] []
def xY(mb:Ag->Int->Bool)(n:Nat)(g:List Ag)(A:Ts)(i:Nat):Prop:=∃h:i<g.length,g[i].r=true/\((∃k,∃hk:k<g.length,i<k/\mb g[k] ((k:Int)-1-i)=true)∨∃k,k<A.len/\jF ((n:Int)-1-i) ((n:Int)-i) ⟨A.hd k,A.kd k⟩ 0=true)
noncomputable def BI(k:Nat):Code:=match Tryz.f74.body with
 | some c=>V0 k c
 | none=>.skip
abbrev iE(r:Rl)(e:Int):Exit->St->Prop:=DE tb 158 [ResultVar.cell 4 65,ResultVar.tmp 5] (.tup (AV.list [rlL r,iA e]))
end
end
end Go.Proofs.YtkcmapimcgppmaaGreatDoor
