/-
  The constant by which trees are good: its functions, with what they have captured; a row cloned, and what follows. Conditions: as each lemma states them.
-/
import Derived.Test.YtlfnfiihfjggoaaGreatDoorT16
import Derived.Test.YtlfnfiihfjggoaaGreatDoorT08
import Derived.Test.YtlfnfiihfjggoaaGreatDoorT07
import Derived.Test.YtlfnfiihfjggoaaGreatDoorT09
import Derived.Test.YtlfnfiihfjggoaaGreatDoorT06
set_option linter.all false
set_option linter.unusedVariables false
set_option linter.unusedSimpArgs false
set_option linter.unnecessarySimpa false
set_option maxHeartbeats 8000000
set_option maxRecDepth 100000
namespace Go.Proofs.YtlfnfiihfjggoaaGreatDoor
open Go.RowKit Go.Proofs.Tryz
section
attribute [local simp] ty_p ty_l ty_t kH tDs cB Tm.ts rN gI ac_skip ac_label ac_region ac_seq ac_cond ac_block ac_loop ac_exit ac_ret seqK_n seqK_r seqK_e vo_nil vo_cons blkK LC rU BZ jO jP oK ev jQ gF St.out Z5 oC upd eD wV K0 asC rO mI yF oJ xE uR tU tb Dc.tk Dc.dp Dc.over Dc.app Dc.ln Dc.ds Dc.sing Dc.cont AV.cont Ds.hd Value.oneCell' GA tO AB AV.imp Dc.imp φOf eR AV.isLL AV.list AV.app AV.arg AV.isL AV.ren Dc.ren Dc.lent tmC tmA tsA iA lo? abin AV.nth Dc.own Dc.toks bV pG JD τOf
attribute [local simp] AV.room FB agC vD Ds.len Ds.dp
section
attribute [local simp] AV.vals
theorem w_own(t:Tm)(hf:t.fits)(hs:t.size<=100000000):HH 144 [tmL t] (tmO t):=by
 refine ab0 func144 ntmps144 results144 ?_
 simp
 apply aC (NQ t hf hs)<;>simp
 exact⟨[((0,0),[(5,0)]),((0,1),[(5,1)])],by simp⟩
def stAO(f:Tm)(t a:Ts):St:=bV [(2,.bx 3 0),(4,.bx 5 0),(9,tsA none t),(10,iA t.len),(11,iA a.len)] [(3,27,tmC (some (100,0)) (some (100,1)) (cL f a).h (cL f a).x),(5,27,zC)] [(100,0)]
theorem JU(f:Tm)(t:Ts)(hf:f.fits)(hs:f.size<=100000000)(ht:t.fits)(hts:t.size<=100000000):HH 52 [tmL f,tsA none t] (tmO (cL f t)):=by
 have hil:t.len<=100000000:=Nat.le_trans (len_le_size t) hts
 have d0:t.len*5 / 5=t.len:=by omega
 refine ab0 func52 ntmps52 results52 ?_
 simp
 apply aC (w_own f hf hs)<;>simp[aF,d0]
 refine lp (α:={ q:Ts×Ts // q.1.app q.2=t }) (λ q=>stAO f t q.1.1) (λ q=>q.1.2.len) ⟨(.nil,t),rfl⟩ ?_ ?_
 ·apply aK [((100,0),[(9,0)]),((100,1),[(9,1)])]<;>simp[AV.ok,Dc.ok,cL,Ts.len]
 ·rintro⟨⟨a,q⟩,hq⟩
  simp only at hq
  cases q with
  | nil =>
   have e:a=t:=by rw[<-hq];exact (Ts.app_nil a).symm
   subst e
   simp[stAO]
   exact⟨[((0,0),[(100,0)]),((0,1),[(100,1)])],by simp⟩
  | cons h y q =>
   have h1:a.len<t.len:=by rw[<-hq];simp[Ts.app_len,Ts.len]
   have h2:(tDs ty t).dp (a.len*5)=tDs ty (.cons h y q):=by rw[<-hq];exact fH a _
   have h3:h.fits/\y.fits:=dS (a:=a) (by rw[hq];exact ht)
   have h4:aH h.l+y.size+1<=t.size:=by rw[<-hq];exact app_size
   have hw:=wr1 (k:=a.len) (by omega)
   have e1:=lG a f h y
   generalize cL f a=A at *
   generalize cL f (a.app (.cons h y .nil))=B at *
   subst e1
   simp[stAO,h1,h2]
   refine⟨by rw[aF];omega,by kernel_rfl,?_⟩
   apply aC (w_own ⟨h,y⟩ h3 (by unfold Tm.size;simp only;omega))<;>simp
   refine⟨a.app (.cons h y .nil),q,by simp[Ts.len],by rw[Ts.app_assoc];exact hq,?_⟩
   apply aK [((100,0),[]),((100,1),[(19,0),(100,0),(100,1),(18,0),(18,1)])]<;>simp[Ts.len,Ts.app_len,AV.ok,Dc.ok,hw,lG]
section
variable {d:Dl} {x:Tm}
theorem BY(hd:D3 d){num:Int}(far:Int)(hn:fW num):HH 53 [dlL d,iA num,iA far] (tmO (fO d num far)):=by
 have hl:=hd.lv
 have hp:=hd.ps
 have hpl:d.p.len<=10000000:=Nat.le_trans (len_le_size d.p) hd.ps'
 have d0:d.p.len*5 / 5=d.p.len:=by omega
 have hf:Tm.fits ⟨⟨3,num,0,mX d.lv.toNat⟩,.nil⟩:=⟨sU (by decide) hn (by decide) (sK _ (by omega)),trivial⟩
 have hs:Tm.size ⟨⟨3,num,0,mX d.lv.toNat⟩,.nil⟩<=100000000:=by simp only[Tm.size,sJ,Ts.size];omega
 refine ab0 func53 ntmps53 results53 ?_
 simp[dlL,dlC]
 refine⟨by kernel_rfl,?_⟩
 apply aC (k178 d.lv (by omega))<;>simp[lsA,aF,d0]
 apply aC (SZ d.p.len far hpl)<;>simp
 apply aC (JU _ (dO far d.p.len) hf hs (gV far _) (by rw[gU];omega))<;>simp[fO]
 exact⟨[((0,0),[(18,0)]),((0,1),[(18,1)])],by simp⟩
theorem PM(hd:D3 d)(base far:Int)(hx:x.fits)(hxs:x.size<=30000000):HH 55 [dlL d,iA base,tmL x,iA far] (tmO (bW d base x far)):=by
 have c2:=gA d (W (base+2)) far hd.lv'
 have ps:=hd.ps
 have q1:=BY hd far (kT (base+2))
 have q2:=JU (fO d (W (base+2)) far) x.ts (gD d _ far hd.lv' (kT _)) (by omega) (aO hx) (by rw[aN];omega)
 change HH 52 _ (tmO (bW d base x far)) at q2
 change HH 53 _ (tmO (fO d (W (base+2)) far)) at q1
 generalize bW d base x far=X at *
 generalize fO d (W (base+2)) far=C at *
 refine ab0 func55 ntmps55 results55 ?_
 simp[dlL,dlC]
 refine⟨by kernel_rfl,?_⟩
 apply aC q1<;>simp[dlL,dlC]
 apply aC q2<;>simp
 exact⟨[((0,0),[(17,0)]),((0,1),[(17,1)])],by simp⟩
theorem MB(hd:D3 d){base:Int}(far:Int)(hn:fW base):HH 50 [dlL d,iA base,iA far] (tmO (aS d base far)):=by
 generalize hF:IntKind.i64.wrap (far+1)=far1
 have hl:=hd.lv'
 have hm:=hd.ml'
 have hps:=hd.ps
 have c2:=gA d base far1 hl
 have q1:=BY hd far1 hn
 have q2:=k95 (fO d base far1) (vT 0).ts (gD d base far1 hl hn) (by omega) (aO (bO (by decide))) (by decide)
 have a2:=nG d base far1 (vT 0) hl
 have q3:=g59 12 (.cons (rN d.m.length) .nil (atT d base far1 (vT 0)).ts) (by decide) ⟨eQ (by decide) (by omega) (by decide),trivial,aO (nH d base far1 (vT 0) hl hn (bO (by decide)))⟩ (by have e:(vT 0).size=0:=rfl;rw[e] at a2;simp only[Ts.size,aH,rN,aN];omega)
 refine ab0 func50 ntmps50 results50 ?_
 simp[dlL,dlC,aW,hF]
 refine⟨by kernel_rfl,?_⟩
 apply aC (g57 d.m.length)<;>simp
 apply aC q1<;>simp[dlL,dlC,hF]
 apply aC (g92 0)<;>simp
 apply aC q2<;>simp[vT]
 apply aC q3<;>simp[atT,vT,aS,hF]
 exact⟨[((0,0),[(21,0)]),((0,1),[(21,1)])],by simp⟩
end
def RawT(F:Mem)(t:Ts)(w:World)(e':Ending)(w':World):Prop:=∃v n zs,e'=.returned v/\Below w.heap.size w w'/\w'.ownsRow w.heap.size 27 5 v n zs/\Vs F w.heap.size (tDs ty t) zs
theorem L6(t:Ts)(va:Value)(F:Mem)(w:World)(hF:∀b o v,F b o=some v->U w b o=some v)(ha:Rd F w.heap.size va 5 (tDs ty t) .nil)(hn:t.len<=2000000):Calls prog 69 #[va] w (RawT F t w):=by
 obtain⟨q,n,c,rfl,hc0,hc1,hc2,hc3,h6⟩:=ha
 rw[aF] at hc0
 obtain rfl:n=t.len:=by omega
 cases q with
 | none =>
  have hp:t.len=0/\c=0:=by
   rcases h6 with ⟨-,h⟩|⟨h,-,h2⟩|⟨b,o,h,-⟩
   ·exact⟨by omega,h⟩
   ·exact absurd rfl h2
   ·cases h
  obtain⟨hp,rfl⟩:=hp
  have e:t=.nil:=by cases t with
   | nil=>rfl
   | cons h x r=>simp[Ts.len] at hp
  subst e
  clear hF h6 hc3
  have he:∀W:World,(binOp .eql 25 (.slice none 0 0) (.slice none 0 0)).run prog W=.ok (.bool true) W:=λ _=>rfl
  go_enter func69,ntmps69
  go_wp2_with fail
  go_ret
  exact⟨_,0,[],rfl,Below.refl _ _,World.ownsRow_nil _ _ _ _,rfl⟩
 | some ad =>
  obtain⟨i0,hi0,hz0,hz1,hz2⟩:=info_parts IU
  have hown0:(w.alloc (.cells #[] 27)).ownsRow w.heap.size 27 5 (.slice (some ⟨w.heap.size,0,none⟩) 0 0) 0 []:=by
   obtain⟨xs,h1,h2,-⟩:=RowG.empty w 5 27
   obtain⟨rfl,-⟩:=h2
   exact h1
  have cells:∃xs,Vs F w.heap.size (tDs ty t) xs/\∀j u,xs[j]? = some u->(w.alloc (.cells #[] 27)).cell? (ad.add j)=some u:=by
   rcases h6 with ⟨h6,-⟩|⟨h6,-,-⟩|⟨b',o',e2,hl,hA,-⟩
   ·cases h6
   ·have e:t=.nil:=by cases t with
     | nil=>rfl
     | cons h x r=>simp[Ts.len] at h6
    subst e
    exact⟨[],rfl,λ j u hu=>by simp at hu⟩
   ·cases e2
    obtain⟨xs,h8,h9⟩:=hA.vs
    refine⟨xs,h8,λ j u hu=>?_⟩
    have e1:((⟨b',o',none⟩:Addr).add j)=⟨b',o'+j,none⟩:=by
     unfold Addr.add;split
     ·rename_i hj;subst hj;rfl
     ·rfl
    rw[e1]
    exact aD (aE (aA w (.cells #[] 27)) _ _ _ hl (hF _ _ _ (h9 j u hu)))
  obtain⟨xs,hvs,hcs⟩:=cells
  obtain⟨v',w2,hrun,h2,h3,-,h5⟩:=run_append_own_at (P:=prog) (w.alloc (.cells #[] 27)) w.heap.size 25 25 27 i0 _ 5 72 underlying25 hi0 hz0 hz1 hz2 rfl (by decide) _ 0 [] hown0 ad t.len c xs (by rw[hvs.len,aF]) hcs (hvs.one (CE _ _)) (by unfold maxLen;omega) (by omega) (by simp)
  have HB:Hid (Below w.heap.size w w2):=hid ((aA w (.cells #[] 27)).grown h3 (by simp) (λ g hg=>by cases hg;exact Nat.le_refl _))
  have HO:Hid (w2.ownsRow w.heap.size 27 5 v' t.len xs):=hid (by simpa using h2)
  have HV:=hid hvs
  obtain⟨n,hpn⟩:∃n,t.len=n:=⟨_,rfl⟩
  rw[hpn] at hrun hc1 HO ⊢
  clear h2 h3 h5 hvs hcs hown0 hpn hn hc3 hF h6 hc0
  have he:∀W:World,(binOp .eql 25 (.slice (some ad) n c) (.slice none 0 0)).run prog W=.ok (.bool false) W:=λ _=>rfl
  go_enter func69,ntmps69
  go_wp2_with (at_builtin;refine aR rfl _ _ 25 rfl _ _ _ rfl rfl hrun ?_)
  go_ret
  exact⟨_,n,xs,rfl,HB.out,HO.out,HV.out⟩
theorem w_clone{G:World->Prop}(t:Ts)(hn:t.len<=2000000):N0 prog G 69 (.list [tsA none t]) 5 27 (tDs ty t):=by
 refine⟨bT func69 (by decide) rfl,cY t,λ F w vs hF hG hv=>?_⟩
 obtain⟨u,rfl,h1⟩:=qF hv
 obtain⟨-,v1,_,e1,h4,-,-⟩:=h1
 cases e1
 exact L6 t u F w hF h4 hn
/-! ### What is known of places -/
def Knows(b o:Nat)(x:Ds)(w:World):Prop:=RepV (bJ (U w) w) (.el x) [.pointer (some ⟨b,o,none⟩)]
theorem Knows.on{b o:Nat}{x:Ds}{w w':World}(hb:Below w.heap.size w w')(h:Knows b o x w):Knows b o x w':=by
 have hU:∀b o v,U w b o=some v->U w' b o=some v:=λ b o v hv=>aE hb _ _ _ (aL hv) hv
 refine RepV.mv (g:=bJ (U w) w) (g':=bJ (U w') w') hU hb.size (.inr λ b o v hlt hv=>?_) rfl h
 have hlt:b<w.heap.size:=hlt
 have hv:(if b<w.heap.size then U w b o else U w b o)=some v:=hv
 rw[if_pos hlt] at hv
 show (if b<w'.heap.size then U w' b o else U w' b o)=some v
 rw[if_pos (Nat.lt_of_lt_of_le hlt hb.size)]
 exact hU _ _ _ hv
def GQ(b0 o0:Nat)(x0:Ds)(b2 o2:Nat)(x2:Ds)(w:World):Prop:=KA w/\Knows b0 o0 x0 w/\Knows b2 o2 x2 w
theorem stGQ(b0 o0:Nat)(x0:Ds)(b2 o2:Nat)(x2:Ds):iU (GQ b0 o0 x0 b2 o2 x2):=λ w w' hb ⟨h1,h2,h3⟩=>⟨lQ w w' hb h1,h2.on hb,h3.on hb⟩
theorem HH.q{G:World->Prop}{f:Nat}{ps:List AV}{r:AV}(h:HH f ps r)(hq:∀w,G w->KA w):Holds prog G f (.list ps) r:=Holds.under hq h
theorem abH {G : World → Prop} (hS : iU G) {f : Nat} {fn : Func} {c : Code} {l : List AV} {r : AV} {N : Nat} {rs : Array ResultVar} (hf : prog.funcs[f]? = some fn) (hN : fn.ntmps = N) (hrs : fn.results = rs) (hb : fn.body = some c) (hname : fn.name ≠ "runtime.NumGoroutine")
  (hl:l.length<=N) (ho:(l.all AV.bare)=true) (hr:(r.plain && r.still && r.flat)=true) (h:dL prog G tb N c (GA tb N rs.toList r) (jQ l)):Holds prog G f (.list l) r:=by
 subst hN hrs
 simp only[Bool.and_eq_true] at hr
 exact rD oE hS mixed hf hb hname hl (λ a ha=>AV.bare_ok (List.all_eq_true.1 ho a ha) _ _) hr.1.1 hr.1.2 hr.2 h
theorem lpH{G:World->Prop}(hS:iU G){α:Type}(I:α->St)(μ:α->Nat)(x0:α){c:Code}{Q:Exit->St->Prop}{st:St}{N:Nat}(h0:Le G N st (I x0))(hr:∀x,dL prog G tb N c (LC G N I μ x Q) (I x)):N2 prog G N c Q st:=LZ oE hS mixed I μ x0 h0 hr
theorem LS{F F':Mem}{w w':World}{fp:Tk->List Nat}{t:Tm}{v:Value}(h:RepV (jF F' w w' fp) (tmO t) [v]):RepV (jF F w w' fp) (tmO t) [v]:=by
 obtain⟨ys,e,hc⟩:=h
 exact⟨ys,e,RepC.conv rfl hc⟩
abbrev ptr(b o:Nat):Value:=.pointer (some ⟨b,o,none⟩)
abbrev xC(base:Int):Ds:=.lit (.int .i64 base) .nil
abbrev fvI(b0 o0 b2 o2:Nat):Value:=.func (.func 49) #[] #[ptr b0 o0,ptr b2 o2]
abbrev fvP(b0 o0 b2 o2:Nat):Value:=.func (.func 54) #[] #[ptr b0 o0,ptr b2 o2]
@[simp] theorem calleeOf_I (a b:Value):eR (.v (.func (.func 49) #[] #[a,b]))=some (49,.nil,.cons (.v a) (.cons (.v b) .nil)):=rfl
@[simp] theorem calleeOf_P (a b:Value):eR (.v (.func (.func 54) #[] #[a,b]))=some (54,.nil,.cons (.v a) (.cons (.v b) .nil)):=rfl
@[simp] theorem calleeOf_4:eR (.v (.func (.func 56) #[] #[]))=some (56,.nil,.nil):=rfl
section
variable {d:Dl} {x:Tm}
theorem w_g1(hd:D3 d){base:Int}(hb:fW base)(far:Int):HH 49 [iA far,.el (dlC d).ds,.el (xC base)] (tmO (aS d base far)):=by
 have q:=MB hd far hb
 generalize aS d base far=X at *
 refine ab0 func49 ntmps49 results49 ?_
 simp[dlC]
 apply aC q<;>simp[dlL,dlC]
 exact⟨[((0,0),[(9,0)]),((0,1),[(9,1)])],by simp⟩
theorem w_g2(hd:D3 d){base:Int}(far:Int)(hx:x.fits)(hxs:x.size<=10):HH 51 [tmL x,iA far,.el (dlC d).ds,.el (xC base)] (tmL (atT d (W (base+1)) far x)):=by
 have c2:=gA d (W (base+1)) far hd.lv'
 have ps:=hd.ps
 have q1:=k98 d (W (base+1)) far hd.lv' hd.ps' (kT _)
 have q2:=k95 (fO d (W (base+1)) far) x.ts (gD d _ far hd.lv' (kT _)) (by omega) (aO hx) (by rw[aN];omega)
 change HH 52 _ (tmL (atT d (W (base+1)) far x)) at q2
 generalize atT d (W (base+1)) far x=X at *
 generalize fO d (W (base+1)) far=C at *
 refine ab0 func51 ntmps51 results51 ?_
 simp[dlC]
 refine⟨by kernel_rfl,?_⟩
 apply aC q1<;>simp[dlL,dlC]
 apply aC q2<;>simp
 exact⟨[],by simp⟩
theorem w_g3(hd:D3 d)(base far:Int)(hx:x.fits)(hxs:x.size<=10):HH 54 [tmL x,iA far,.el (dlC d).ds,.el (xC base)] (tmO (bW d base x far)):=by
 have q:=PM hd base far hx (by omega)
 generalize bW d base x far=X at *
 refine ab0 func54 ntmps54 results54 ?_
 simp[dlC]
 apply aC q<;>simp[dlL,dlC]
 exact⟨[((0,0),[(12,0)]),((0,1),[(12,1)])],by simp⟩
theorem w_g4{a b:Tm}(ha:a.fits)(hb:b.fits)(has:a.size<=1000)(hbs:b.size<=1000):HH 56 [tmL a,tmL b] (tmL (prT a b)):=by
 have q:=tL 13 (iN a b) (by decide) (jZ ha hb) (by rw[jY];omega)
 change HH 57 _ (tmL (prT a b)) at q
 generalize prT a b=X at *
 refine ab0 func56 ntmps56 results56 ?_
 simp
 apply aC q<;>simp[iN]
 exact⟨[],by simp⟩
variable {b0 o0 b2 o2:Nat} {base:Int}
abbrev GD(d:Dl)(base:Int)(b0 o0 b2 o2:Nat):World->Prop:=GQ b0 o0 (dlC d).ds b2 o2 (xC base)
theorem q_g1(hd:D3 d)(hb:fW base)(far:Int):Holds prog (GD d base b0 o0 b2 o2) 49 (.list [iA far,.v (ptr b0 o0),.v (ptr b2 o2)]) (tmO (aS d base far)):=by
 refine⟨bT func49 (by decide) rfl,rfl,λ F w vs hF hG hv=>?_⟩
 obtain⟨u,v,z,rfl,h1,h2,h3⟩:=xO hv
 obtain rfl:v=ptr b0 o0:=by simpa[RepV] using h2
 obtain rfl:z=ptr b2 o2:=by simpa[RepV] using h3
 obtain rfl:=qG h1
 refine ((w_g1 hd hb far).2.2 (U w) w [.int .i64 far,ptr b0 o0,ptr b2 o2] (λ _ _ _ h=>h) hG.1 ⟨_,_,rfl,rfl,_,_,rfl,hG.2.1,_,_,rfl,hG.2.2,rfl⟩).mono ?_
 rintro e w' ⟨v',fp,h4,h5,h6,h7,h8⟩
 exact⟨v',fp,h4,h5,LS h6,h7,h8⟩
theorem q_g3(hd:D3 d)(far:Int)(hx:x.fits)(hxs:x.size<=10):Holds prog (GD d base b0 o0 b2 o2) 54 (.list [tmL x,iA far,.v (ptr b0 o0),.v (ptr b2 o2)]) (tmO (bW d base x far)):=by
 refine⟨bT func54 (by decide) rfl,rfl,λ F w vs hF hG hv=>?_⟩
 obtain⟨u,vs',rfl,h1,hv'⟩:=hv
 obtain⟨f,v,z,rfl,h2,h3,h4⟩:=xO hv'
 obtain rfl:v=ptr b0 o0:=by simpa[RepV] using h3
 obtain rfl:z=ptr b2 o2:=by simpa[RepV] using h4
 obtain rfl:=qG h2
 have ht:=zD (mQ hF h1)
 refine ((w_g3 hd base far hx hxs).2.2 (U w) w [u,.int .i64 far,ptr b0 o0,ptr b2 o2] (λ _ _ _ h=>h) hG.1 ⟨_,_,rfl,ht,_,_,rfl,rfl,_,_,rfl,hG.2.1,_,_,rfl,hG.2.2,rfl⟩).mono ?_
 rintro e w' ⟨v',fp,h4,h5,h6,h7,h8⟩
 exact⟨v',fp,h4,h5,LS h6,h7,h8⟩
theorem q_g5(hd:D3 d)(far:Int)(hx:x.fits)(hxs:x.size<=10):Holds prog (GD d base b0 o0 b2 o2) 58 (.list [tmL x,iA far,.el (dlC d).ds,.el (xC base),.el (.lit (fvP b0 o0 b2 o2) .nil)]) (tmL (fTT d base x far)):=by
 have hS:=stGQ b0 o0 (dlC d).ds b2 o2 (xC base)
 have hq:∀w,GD d base b0 o0 b2 o2 w->KA w:=λ w h=>h.1
 have q1:=X8 hd base (W (far+1))
 have q2:=q_g3 (b0:=b0) (o0:=o0) (b2:=b2) (o2:=o2) (base:=base) hd far hx hxs
 have s1:=bU hd base (W (far+1))
 have s2:=eN (x:=x) hd base far
 have q3:=k91 (bW d base x far).ts (aY d base (W (far+1))) (aO (eO hd _ _ hx)) (by rw[aN];omega) (bQ hd _ _) (by omega)
 change HH 59 _ (tmL (fTT d base x far)) at q3
 generalize fTT d base x far=X at *
 generalize bW d base x far=P at *
 generalize aY d base (W (far+1))=T at *
 refine abH hS func58 ntmps58 results58 rfl (by decide) (by simp) rfl rfl ?_
 simp[dlC]
 refine⟨by kernel_rfl,?_⟩
 apply aC (q1.q hq)<;>simp[dlL,dlC]
 apply aC q2<;>simp
 apply aC (q3.q hq)<;>simp
 exact⟨[],by simp⟩
theorem q_g6(hd:D3 d)(hb:fW base)(far:Int)(hx:x.fits)(hxs:x.size<=10):Holds prog (GD d base b0 o0 b2 o2) 61 (.list [tmL x,iA far,.el (tmC none none (bM d.s).h (bM d.s).x).ds,.el (.lit (fvP b0 o0 b2 o2) .nil),.el (.lit (fvI b0 o0 b2 o2) .nil)]) (tmL (hTT d base x far)):=by
 have hS:=stGQ b0 o0 (dlC d).ds b2 o2 (xC base)
 have hq:∀w,GD d base b0 o0 b2 o2 w->KA w:=λ w h=>h.1
 have q1:=q_g1 (b0:=b0) (o0:=o0) (b2:=b2) (o2:=o2) (base:=base) hd hb (W (far+1))
 have q2:=q_g3 (b0:=b0) (o0:=o0) (b2:=b2) (o2:=o2) (base:=base) hd far hx hxs
 have s1:=dQ hd base (W (far+1))
 have s2:=eN (x:=x) hd base far
 have s3:=nV hd
 have q3:=k91 (iN (bW d base x far) (aS d base (W (far+1)))) (bM d.s) (jZ (eO hd _ _ hx) (dR hd hb _)) (by rw[jY];omega) (mE hd) (by omega)
 change HH 59 _ (tmL (hTT d base x far)) at q3
 generalize hTT d base x far=X at *
 generalize bW d base x far=P at *
 generalize aS d base (W (far+1))=T at *
 generalize bM d.s=S at *
 refine abH hS func61 ntmps61 results61 rfl (by decide) (by simp) rfl rfl ?_
 simp[dlC]
 refine⟨by kernel_rfl,?_⟩
 apply aC q2<;>simp
 apply aC q1<;>simp
 apply aC (q3.q hq)<;>simp[iN]
 exact⟨[],by simp⟩
end
end
section
attribute [local simp] AV.vals
section
variable {d:Dl} {l:List Rl} {base:Int} {b0 o0 b2 o2:Nat}
abbrev fn2(d:Dl)(base:Int)(b0 o0 b2 o2:Nat):AV:=.fn (.func 51) .nil (.cons (.ev b0 o0 (dlC d).ds) (.cons (.ev b2 o2 (xC base)) .nil))
abbrev fn5(d:Dl)(base:Int)(b0 o0 b2 o2:Nat):AV:=.fn (.func 58) .nil (.cons (.ev b0 o0 (dlC d).ds) (.cons (.ev b2 o2 (xC base)) (.cons (.bx 9 0) .nil)))
abbrev fn6:AV:=.fn (.func 61) .nil (.cons (.bx 5 0) (.cons (.bx 9 0) (.cons (.bx 7 0) .nil)))
def stG(d:Dl)(l:List Rl)(base:Int)(b0 o0 b2 o2:Nat)(a:List Rl):St :=
 bV [(0,.ev b0 o0 (dlC d).ds),(1,.el (.row 3 54 (bA l) .nil .nil)),(2,.ev b2 o2 (xC base)),(4,.bx 5 0),(6,.bx 7 0),(7,fn2 d base b0 o0 b2 o2),(8,.bx 9 0),(9,.v (.func (.func 56) #[] #[])),(10,fn5 d base b0 o0 b2 o2),(11,fn6),(12,.bx 13 0),
  (13,.c (.blk 109 (a.length+1) 5 27 (.seg none (tDs ty (gBs d base l.length a 0)) .nil) .nil)),(69,aV l),(70,iA l.length),(71,iA a.length)]
  [(5,27,tmC none none (bM d.s).h (bM d.s).x),(7,69,.lit (fvI b0 o0 b2 o2) .nil),(9,99,.lit (fvP b0 o0 b2 o2) .nil),(13,27,tmC none none (gM d base l.length).h (gM d base l.length).x)] [(109,a.length+1)]
theorem q_good(h:G3 d l)(hb:fW base):Holds prog (GD d base b0 o0 b2 o2) 46 (.list [.ev b0 o0 (dlC d).ds,.el (.row 3 54 (bA l) .nil .nil),.ev b2 o2 (xC base)]) (rQ [xW d l base]):=by
 have hS:iU (GD d base b0 o0 b2 o2):=stGQ b0 o0 (dlC d).ds b2 o2 (xC base)
 have hq:∀w,GD d base b0 o0 b2 o2 w->KA w:=λ w h=>h.1
 have hd:=h.toD3
 have c1:=λ far:Int=>q_g1 (b0:=b0) (o0:=o0) (b2:=b2) (o2:=o2) (base:=base) hd hb far
 have c3:=λ (x:Tm) (far:Int) (hx:x.fits) (hxs:x.size<=10)=>q_g3 (b0:=b0) (o0:=o0) (b2:=b2) (o2:=o2) (base:=base) hd far hx hxs
 have c5:=λ (x:Tm) (far:Int) (hx:x.fits) (hxs:x.size<=10)=>q_g5 (b0:=b0) (o0:=o0) (b2:=b2) (o2:=o2) (base:=base) hd far hx hxs
 have c6:=λ (x:Tm) (far:Int) (hx:x.fits) (hxs:x.size<=10)=>q_g6 (b0:=b0) (o0:=o0) (b2:=b2) (o2:=o2) (base:=base) hd hb far hx hxs
 generalize GD d base b0 o0 b2 o2=G at *
 have hk:=h.k
 have hlc:=h.lc.symm
 have hll:=h.ll
 have d3:l.length*3 / 3=l.length:=by omega
 have d6:d.c.length*6 / 6=d.c.length:=by omega
 have hn:=lN h
 have sT:=nV hd
 have fT:=mE hd
 have f0:=vTf 0 (by decide)
 have f1:=vTf 1 (by decide)
 have f2:=vTf 2 (by decide)
 generalize hR:xW d l base=R
 have m1:=k161 d.s (by have:=hd.sl;omega)
 have m2:=w_g2 (base:=base) hd 5 f0 (by decide)
 have m3:=w_g4 f1 f0 (by decide) (by decide)
 have m4:=c5 _ 6 (dE f1 f0) (by decide)
 have m5:=w_g4 f2 f1 (by decide) (by decide)
 have m6:=c6 _ 7 (dE f2 f1) (by decide)
 have m7:=c1 8
 have z1:=sV hd base (e:=vT 0) rfl 5 6 7 8 (prT (vT 1) (vT 0)) (prT (vT 2) (vT 1)) (by decide) (by decide)
 have y1:=sW hd hb f0 5 6 7 8 (dE f1 f0) (dE f2 f1)
 have m8:=k91 (kS (atT d (W (base+1)) 5 (vT 0)) (fTT d base (prT (vT 1) (vT 0)) 6) (hTT d base (prT (vT 2) (vT 1)) 7) (aS d base 8)) (bM d.s) y1 (by omega) fT (by omega)
 have z2:=bD 4 (kS (atT d (W (base+1)) 5 (vT 0)) (fTT d base (prT (vT 1) (vT 0)) 6) (hTT d base (prT (vT 2) (vT 1)) 7) (aS d base 8)) (bM d.s)
 have y2:=bE 4 (by decide) y1 fT
 have m9:=k88 (dY l.length).ts (aG 4 (kS (atT d (W (base+1)) 5 (vT 0)) (fTT d base (prT (vT 1) (vT 0)) 6) (hTT d base (prT (vT 2) (vT 1)) 7) (aS d base 8)) (bM d.s)) (aO (gN hn)) (by rw[aN,dB];omega) y2 (by omega)
 change HH 62 _ (tmL (gM d base l.length)) at m9
 clear z1 y1 z2 y2
 refine abH hS func46 ntmps46 results46 rfl (by decide) (by simp) rfl rfl ?_
 generalize aG 4 (kS (atT d (W (base+1)) 5 (vT 0)) (fTT d base (prT (vT 1) (vT 0)) 6) (hTT d base (prT (vT 2) (vT 1)) 7) (aS d base 8)) (bM d.s)=A4 at *
 generalize atT d (W (base+1)) 5 (vT 0)=AT at *
 generalize fTT d base (prT (vT 1) (vT 0)) 6=FT at *
 generalize hTT d base (prT (vT 2) (vT 1)) 7=HT at *
 generalize aS d base 8=IT at *
 generalize prT (vT 1) (vT 0)=P10 at *
 generalize prT (vT 2) (vT 1)=P21 at *
 simp[dlC,hk,aT,bS,d3,d6,hlc]
 refine⟨by kernel_rfl,?_⟩
 apply aC (m1.q hq)<;>simp[lvA]
 apply aC ((JT l.length).q hq)<;>simp[aT,d3,hlc]
 refine⟨by kernel_rfl,?_⟩
 apply aC ((w_v 0).q hq)<;>simp
 apply aC (m2.q hq)<;>simp[vT,dlC,hk]
 apply aC ((w_v 1).q hq)<;>simp
 apply aC ((w_v 0).q hq)<;>simp
 apply aC (m3.q hq)<;>simp[vT]
 apply aC m4<;>simp[dlC,hk]
 ·exact⟨_,_,⟨rfl,rfl⟩,rfl⟩
 apply aC ((w_v 2).q hq)<;>simp
 apply aC ((w_v 1).q hq)<;>simp
 apply aC (m5.q hq)<;>simp[vT]
 apply aC m6<;>simp
 ·exact⟨⟨_,_,⟨rfl,rfl⟩,rfl⟩,⟨_,_,⟨rfl,rfl⟩,rfl⟩,⟨_,_,⟨rfl,rfl⟩,rfl⟩⟩
 apply aC m7<;>simp
 apply aC (m8.q hq)<;>simp[kS,gQ,iN]
 apply aC (m9.q hq)<;>simp[dY]
 clear m2 m3 m4 m5 m6 m7 m8 m9
 refine lpH hS (α:={ q:List Rl×List Rl // q.1++q.2=l }) (λ q=>stG d l base b0 o0 b2 o2 q.1.1) (λ q=>q.1.2.length) ⟨([],l),rfl⟩ ?_ ?_
 ·apply aK [((109,0),[(109,0)])]<;>simp[AV.ok,Dc.ok,gBs,dlC,hk,aV,aT,d3,hlc]
 ·rintro⟨⟨a,q⟩,hqq⟩
  simp only at hqq
  cases q with
  | nil =>
   have e:a=l:=by rw[<-hqq];simp
   subst e
   have fC:=BA h hb
   have sC:=AZ h base
   have fM:=AY hd hb hn
   have sM:=AX hd base a.length
   have fB:=vK hd hb hn a 0 (by omega) h.rs
   have sB:=vI hd base a.length a 0 λ r hr=>(h.rs r hr).1
   have sB2:jA a<=300:=h.ss
   have lB:=sY d base a.length a 0
   have f14:(eY 14 (vT 2)).fits:=fZ (by decide) f2
   have f15:(eY 15 (vT 2)).fits:=fZ (by decide) f2
   have p1:=tL 14 (vT 2).ts (by decide) (aO f2) (by decide)
   change HH 57 _ (tmL (eY 14 (vT 2))) at p1
   have p2:=g14 (gM d base a.length) (gBs d base a.length a 0) (eY 14 (vT 2)) fM fB f14 (by rw[kB,bF];omega) (by omega)
   change HH 67 _ (tmO (gC d a base)) at p2
   have p3:=tL 15 (vT 2).ts (by decide) (aO f2) (by decide)
   change HH 57 _ (tmL (eY 15 (vT 2))) at p3
   have p4:=k95 (gC d a base) (gQ (eY 15 (vT 2)) (vT 1) (vT 0)) fC (by omega) K2 (by rw[K1];decide)
   change HH 52 _ (tmL (gX d a base)) at p4
   have fX:=AS h hb
   have sX:=AR h base
   have p5:=k93 d base 1 hd.lv' hd.ps' hd.cl'
   have p6:=c5 _ 2 f0 (by decide)
   have p7:=c6 _ 3 f1 (by decide)
   have fSr:=K4 hd hb
   have sSr:=K3 hd base
   have p8:=k88 (gQ (fU d base 1) (fTT d base (vT 0) 2) (hTT d base (vT 1) 3)) (gX d a base) fSr (by omega) fX (by omega)
   change HH 62 _ (tmL (gS d a base)) at p8
   have fS:=AW h hb
   have sS:=AU h base
   have p9:=c1 2
   have fI2:=dR hd hb 2
   have sI2:=dQ hd base 2
   have p10:=k91 (aS d base 2).ts (bM d.s) (aO fI2) (by rw[aN];omega) fT (by omega)
   have fJ2:=sQ hd hb 2
   have sJ2:=pY hd base 2
   have p11:=X8 hd base 1
   have fT1:=bQ hd base 1
   have sT1:=bU hd base 1
   have p12:=k88 (aY d base 1).ts (aG 4 (aS d base 2).ts (bM d.s)) (aO fT1) (by rw[aN];omega) fJ2 (by omega)
   change HH 62 _ (tmL (gP d base)) at p12
   have p13:=c3 _ 2 f0 (by decide)
   have fR:=EC h hb
   have sR:=EB h base
   have p14:=tL 18 (yG (fU d base 1) (bW d base (vT 0) 2) (gP d base) (gS d a base) (vT 0)) (by decide) fR (by omega)
   change HH 57 _ (tmL (wU d a base)) at p14
   have hpl:=len_le_size d.p
   have hps:=hd.ps
   have p15:=w_clone (G:=G) d.p (by omega)
   have p16:=X8 hd base 0
   have fT0:=bQ hd base 0
   have sT0:=bU hd base 0
   have p17:=c1 1
   have fI1:=dR hd hb 1
   have sI1:=dQ hd base 1
   have p18:=k91 (aS d base 1).ts (bM d.s) (aO fI1) (by rw[aN];omega) fT (by omega)
   change HH 59 _ (tmL (gTy d base)) at p18
   have fJ1:=sQ hd hb 1
   have sJ1:=pY hd base 1
   have sP0:(d.p.app (aY d base 0).ts).size<=3300:=by rw[iJ,aN];omega
   have fP0:(d.p.app (aY d base 0).ts).fits:=kL hd.pf (aO fT0)
   have p19:=o_pis (d.p.app (aY d base 0).ts) (gTy d base) fP0 (by omega) fJ1 (by show (aG 4 (aS d base 1).ts (bM d.s)).size<=_;omega)
   have fRc:=V6 h hb
   have sRc:=wT h base
   have p20:=o_lams (d.p.app (aY d base 0).ts) (wU d a base) fP0 (by omega) fRc (by omega)
   have eA:=bG ty d.p (aY d base 0).ts
   have e0:R=⟨d.lv,aG 4 (d.p.app (aY d base 0).ts) (gTy d base),true,aG 5 (d.p.app (aY d base 0).ts) (wU d a base)⟩:=hR.symm
   clear hR c1 c3 c5 c6 fC sC fM sM fB sB sB2 f14 f15 fX sX fSr sSr fS sS fI2 sI2 fJ2 sJ2 fT1 sT1 fR sR fT0 sT0 fI1 sI1 fJ1 sJ1 sP0 fP0 fRc sRc m1
   simp only[stG]
   generalize gM d base a.length=GM at *
   generalize gBs d base a.length a 0=GB at *
   generalize gC d a base=GC at *
   generalize gX d a base=GX at *
   generalize gS d a base=GS at *
   generalize gP d base=GP' at *
   generalize wU d a base=GR at *
   generalize gTy d base=GT at *
   generalize aG 4 (aS d base 2).ts (bM d.s)=J2 at *
   generalize aS d base 2=I2 at *
   generalize aS d base 1=I1 at *
   generalize aY d base 1=T1 at *
   generalize hT0:aY d base 0=T0 at *
   generalize fU d base 1=S1 at *
   generalize bW d base (vT 0) 2=P2 at *
   generalize fTT d base (vT 0) 2=F2 at *
   generalize hTT d base (vT 1) 3=H3 at *
   generalize eY 14 (vT 2)=V14 at *
   generalize eY 15 (vT 2)=V15 at *
   generalize bM d.s=SO at *
   generalize hY:aG 4 (d.p.app T0.ts) GT=Y at *
   generalize hZ:aG 5 (d.p.app T0.ts) GR=Z at *
   simp[aV,aT,d3,Ds.app_nil]
   refine⟨by kernel_rfl,?_⟩
   apply aC ((w_v 2).q hq)<;>simp
   apply aC (p1.q hq)<;>simp[vT]
   apply aC (p2.q hq)<;>simp[Ds.app_nil]
   refine⟨by kernel_rfl,?_⟩
   apply aC ((w_v 2).q hq)<;>simp
   apply aC (p3.q hq)<;>simp[vT]
   apply aC ((w_v 1).q hq)<;>simp
   apply aC ((w_v 0).q hq)<;>simp
   apply aC (p4.q hq)<;>simp[gQ,iN,vT,dlC,hk]
   apply aC (p5.q hq)<;>simp[dlL,dlC,hk]
   apply aC ((w_v 0).q hq)<;>simp
   apply aC p6<;>simp[vT,dlC,hk]
   ·exact⟨_,_,⟨rfl,rfl⟩,rfl⟩
   apply aC ((w_v 1).q hq)<;>simp
   apply aC p7<;>simp[vT]
   ·exact⟨⟨_,_,⟨rfl,rfl⟩,rfl⟩,⟨_,_,⟨rfl,rfl⟩,rfl⟩,⟨_,_,⟨rfl,rfl⟩,rfl⟩⟩
   apply aC (p8.q hq)<;>simp[gQ,iN]
   refine⟨by kernel_rfl,?_⟩
   apply aC p9<;>simp
   apply aC (p10.q hq)<;>simp[dlC,hk]
   apply aC (p11.q hq)<;>simp[dlL,dlC,hk]
   apply aC (p12.q hq)<;>simp
   refine⟨by kernel_rfl,?_⟩
   apply aC (p5.q hq)<;>simp[dlL,dlC,hk]
   apply aC ((w_v 0).q hq)<;>simp
   apply aC p13<;>simp[vT]
   apply aC ((w_v 0).q hq)<;>simp
   apply aC (p14.q hq)<;>simp[yG,kS,gQ,iN,vT,dlC,hk]
   refine⟨by kernel_rfl,?_⟩
   apply asksB p15<;>simp[dlC,hk]
   apply aC (p16.q hq)<;>simp[dlL,dlC,hk]
   refine⟨by rw[aF];omega,by kernel_rfl,?_⟩
   apply aC p17<;>simp
   apply aC (p18.q hq)<;>simp
   apply aC (p19.q hq)<;>simp
   ·exact .inl eA.symm
   apply aC (p20.q hq)<;>simp
   ·exact .inl eA.symm
   exact⟨[((0,0),[(178,0),(173,0),(173,1),(176,0),(176,1)])],by simp[e0,rQ,fN]⟩
  | cons r q =>
   have h1:a.length<l.length:=by rw[<-hqq];simp
   have hI1:(a.length:Int)<l.length:=by omega
   have h2:=EM hqq
   obtain⟨hr,hm⟩:=h.rs r (by rw[<-hqq];simp)
   have hw:=wr1 (k:=a.length) (by omega)
   have hc:fW (a.length:Int):=by unfold fW;omega
   have fe:(eI a.length l.length).fits:=gO hc hn
   have e1:gBs d base l.length (a++[r]) 0=(gBs d base l.length a 0).app (gB d base l.length a.length r).ts:=by rw[BB,Nat.zero_add];rfl
   have e2:=sY d base l.length a 0
   have k1:=w_at (d:=d) (x:=vT 3) hr base a.length 8
   have k2:=w_holds hd hr hm hb hc 8
   have k3:=w_g2 (base:=base) hd 4 fe (by rw[eH];omega)
   have k4:=w_g4 fe f0 (by rw[eH];omega) (by decide)
   have k5:=c5 _ 5 (dE fe f0) (by rw[iL,eH,bF];omega)
   have k6:=w_g4 fe f1 (by rw[eH];omega) (by decide)
   have k7:=c6 _ 6 (dE fe f1) (by rw[iL,eH,bF];omega)
   have k8:=c1 7
   have z1:=sV hd base (e:=eI a.length l.length) rfl 4 5 6 7 (prT (eI a.length l.length) (vT 0)) (prT (eI a.length l.length) (vT 1)) (by rw[iL,eH,bF];omega) (by rw[iL,eH,bF];omega)
   have y1:=sW hd hb fe 4 5 6 7 (dE fe f0) (dE fe f1)
   have z2:=rE hd hr base a.length 8
   have k9:=k88 (kS (atT d (W (base+1)) 4 (eI a.length l.length)) (fTT d base (prT (eI a.length l.length) (vT 0)) 5) (hTT d base (prT (eI a.length l.length) (vT 1)) 6) (aS d base 7)) (fG d r base a.length 8) y1 (by omega) (rF hd hr hm hb hc 8) (by omega)
   change HH 62 _ (tmL (gB d base l.length a.length r)) at k9
   clear z1 y1 z2
   simp only[stG]
   generalize hB1:gBs d base l.length (a++[r]) 0=B1 at *
   generalize gBs d base l.length a 0=B0 at *
   generalize gB d base l.length a.length r=GB at *
   generalize fG d r base a.length 8=H8 at *
   generalize atT d (W (base+1)) 4 (eI a.length l.length)=AT at *
   generalize fTT d base (prT (eI a.length l.length) (vT 0)) 5=FT at *
   generalize hTT d base (prT (eI a.length l.length) (vT 1)) 6=HT at *
   generalize aS d base 7=IT at *
   generalize prT (eI a.length l.length) (vT 0)=P0 at *
   generalize prT (eI a.length l.length) (vT 1)=P1 at *
   subst e1
   simp[h1,hI1,h2,hw,aV,bA,aT,d3,hlc]
   refine⟨by omega,?_⟩
   apply aC ((X6 a.length l.length).q hq)<;>simp[aT,d3,dlC,hk]
   refine⟨by kernel_rfl,?_⟩
   apply aC ((w_v 3).q hq)<;>simp
   apply aC (k1.q hq)<;>simp[dlL,dlC,rlL,rlC,vT,hk]
   apply aC (k2.q hq)<;>simp[rwL,rwC,rlC,dlC,vT,hk]
   apply aC (k3.q hq)<;>simp[eI,dlC,hk]
   apply aC ((w_v 0).q hq)<;>simp
   apply aC (k4.q hq)<;>simp[eI,vT]
   apply aC k5<;>simp[dlC,hk]
   ·exact⟨_,_,⟨rfl,rfl⟩,rfl⟩
   apply aC ((w_v 1).q hq)<;>simp
   apply aC (k6.q hq)<;>simp[eI,vT]
   apply aC k7<;>simp
   ·exact⟨⟨_,_,⟨rfl,rfl⟩,rfl⟩,⟨_,_,⟨rfl,rfl⟩,rfl⟩,⟨_,_,⟨rfl,rfl⟩,rfl⟩⟩
   apply aC k8<;>simp
   apply aC (k9.q hq)<;>simp[kS,gQ,iN]
   refine⟨by rw[aF,e2];omega,a++[r],q,by simp,by rw[List.append_assoc];exact hqq,?_⟩
   apply aK [((109,0),[(109,0)])]<;>simp[AV.ok,Dc.ok,hw,hB1,stG,aV]
   rw[bG];rfl
end
end
section
section
variable {d:Dl} {l:List Rl} {base:Int}
theorem el_at{F:Mem}{w:World}{x:Ds}{u:Value}(hF:∀b o v,F b o=some v->U w b o=some v)(h:RepV (bJ F w) (.el x) [u]):∃b o,u=ptr b o/\Knows b o x w/\RepV (bJ F w) (.ev b o x) [ptr b o]:=by
 obtain⟨h0,b,o,ys,e,hb,h1,h2⟩:=h
 cases e
 refine⟨b,o,rfl,⟨h0,b,o,ys,rfl,hb,h1.mono (λ b o v _ hv=>hF b o v hv) (Nat.le_refl _),λ j u hu=>?_⟩,⟨rfl,h0,hb,ys,h1,h2⟩⟩
 have h3:=h2 j u hu
 have hlt:b<w.heap.size:=hb
 have h3:(if b<w.heap.size then U w b (o+j) else F b (o+j))=some u:=h3
 rw[if_pos hlt] at h3
 show (if b<w.heap.size then U w b (o+j) else U w b (o+j))=some u
 rw[if_pos hlt]
 exact h3
theorem w_Good1(h:G3 d l)(hb:fW base):HH 46 [.el (dlC d).ds,.el (.row 3 54 (bA l) .nil .nil),.el (xC base)] (rQ [xW d l base]):=by
 refine⟨bT func46 (by decide) rfl,rfl,λ F w vs hF hG hv=>?_⟩
 obtain⟨u,v,z,rfl,h1,h2,h3⟩:=xO hv
 obtain⟨b0,o0,rfl,k0,e0⟩:=el_at hF h1
 obtain⟨b2,o2,rfl,k2,e2⟩:=el_at hF h3
 exact (q_good (b0:=b0) (o0:=o0) (b2:=b2) (o2:=o2) h hb).2.2 F w _ hF ⟨hG,k0,k2⟩ ⟨_,_,rfl,e0,_,_,rfl,h2,_,_,rfl,e2,rfl⟩
theorem JV(h:G3 d l)(hb:fW base):HH 12 [dlL d,aV l,iA base] (rQ [xW d l base]) :=
 LJ d l base _ (FI rfl rfl rfl (w_Good1 h hb))
end
end
section
theorem wD(t:Tm)(n:Int)(hf:t.fits)(hs:t.size<=100000000):HH 161 [tmL t,iA n] (tmL (upT t n)):=by
 have q:=h63 t n 0 hf (by omega)
 change HH 162 _ (tmL (upT t n)) at q
 generalize upT t n=U at *
 refine ab0 func161 ntmps161 results161 ?_
 simp
 apply aC q<;>simp
 exact⟨[],by simp⟩
section
variable {r:Rl} {d:Dl} {x y:Tm}
theorem D3.lw(h:D3 d):d.lv<=1000:=by have:=h.lv;omega
theorem D3.pw(h:D3 d):d.p.size<=10000000:=by have:=h.ps;omega
theorem qT(hd:D3 d)(base far:Int):HH 82 [dlL d,iA base,iA far] (tmL (aY d base far)):=by
 have q:=k99 d (W (base+3)) far hd.lw hd.pw (kT _)
 change HH 157 _ (tmL (aY d base far)) at q
 generalize aY d base far=X at *
 refine ab0 func82 ntmps82 results82 ?_
 simp[dlL,dlC]
 apply aC q<;>simp[dlL,dlC]
 exact⟨[],by simp⟩
theorem nW(hd:D3 d)(base far:Int)(hx:x.fits)(hxs:x.size<=30000000):HH 81 [dlL d,iA base,tmL x,iA far] (tmL (bW d base x far)):=by
 have q:=SX d (W (base+2)) far x hd.lw hd.pw (kT _) hx hxs
 change HH 79 _ (tmL (bW d base x far)) at q
 generalize bW d base x far=X at *
 refine ab0 func81 ntmps81 results81 ?_
 simp[dlL,dlC]
 apply aC q<;>simp[dlL,dlC]
 exact⟨[],by simp⟩
theorem D5(hr:R3 r)(hx:x.fits)(hxs:x.size<=2):HH 213 [rlL r,tmL x] (tsA none (bN r x)):=by
 have h1:=mZ r
 have h2:=hr.len
 have q1:=k220 r (by omega)
 have q2:=g21 (r.g.length-nR r) ((r.g.length:Int)-nR r) x (by omega) hx (by omega) (by omega)
 rw[show ((r.g.length:Int)-nR r).toNat=r.g.length-nR r by omega] at q2
 change HH 207 _ (tsA none (bN r x)) at q2
 change HH 250 _ (iA ((r.g.length:Int)-nR r)) at q1
 generalize bN r x=V at *
 refine ab0 func213 ntmps213 results213 ?_
 simp[rlL,rlC]
 refine⟨by kernel_rfl,?_⟩
 apply aC q1<;>simp[rlL,rlC]
 apply aC q2<;>simp
 exact⟨[],by simp⟩
theorem r_tele0(hr:R3 r)(v:Ts)(far:Int){j:Nat}(hj:j<nR r)(hv:v.fits)(hvs:VB v):HH 247 [rlL r,iA (rI r j),tsA none v,iA far] (tsA none (tlT r v far j)):=by
 obtain⟨h1,h2⟩:=yC hj
 have h3:=hr.len
 have h4:=hr.sz
 have m1:rI r j*(v.size+1)<=299*91001:=Nat.mul_le_mul (by omega) (by omega)
 have q:=k42 r v far (rI r j) h1 (by omega) (by omega) hr.fit hv (by omega) (by omega)
 rw[h2] at q
 exact q
theorem RE(hr:R3 r)(v:Ts)(far:Int){j:Nat}(hj:j<nR r)(hv:v.fits)(hvs:VB v):HH 215 [rlL r,iA (rI r j),tsA none v,iA far] (tsA none (inT r v far j)):=by
 obtain⟨h1,h2⟩:=yC hj
 have h3:=hr.len
 have h4:=hr.sz
 have m1:rI r j*(v.size+1)<=299*91001:=Nat.mul_le_mul (by omega) (by omega)
 have q:=k43 r v far (rI r j) h1 (by omega) (by omega) hr.fit hv (by omega) (by omega)
 rw[h2] at q
 exact q
theorem pS(hr:R3 r):HH 158 [rlL r] (.c (.row none 1 3 (jL (bP r.g 0)) .nil)):=k47 r (by have:=hr.len;omega)
theorem Z0(hr:R3 r)(far:Int)(hx:x.fits)(hxs:x.size<=2){j:Nat}(hj:j<nR r):HH 204 [rlL r,iA j,tmL x,iA far] (tsA none (tlT r (bN r x) far j)):=by
 have q0:=pS hr
 have q1:=D5 hr hx hxs
 have q2:=r_tele0 hr (bN r x) far hj (cF r hx) (cP hr hxs)
 have hj':j<(bP r.g 0).length:=hj
 have e1:=T4 hj
 generalize tlT r (bN r x) far j=T at *
 generalize bN r x=V at *
 refine ab0 func204 ntmps204 results204 ?_
 simp[rlL,rlC]
 refine⟨by kernel_rfl,?_⟩
 apply aC q0<;>simp[rlL,rlC,e1]
 refine⟨by rw[bZ];omega,?_⟩
 apply aC q1<;>simp[rlL,rlC]
 apply aC q2<;>simp[rlL,rlC]
 exact⟨[],by simp⟩
def stAp(f:Nat->Tm)(n k:Nat):St:=bV [(0,tsA none (dH f n)),(3,.c (.blk 20 (k+1) 5 27 (.seg none (tDs ty (apJ f k)) .nil) .nil)),(4,iA k)] [] [(20,k+1)]
theorem KS(f:Nat->Tm)(n:Nat)(hn:n<=1000)(hf:∀j,j<n->(f j).fits/\(f j).size<=10000000):HH 206 [tsA none (dH f n)] (tsA none (apJ f n)):=by
 have lM:=fL f n
 have d0:n*5 / 5=n:=by omega
 refine ab0 func206 ntmps206 results206 ?_
 simp
 refine lp (α:={ k:Nat // k<=n }) (λ k=>stAp f n k.1) (λ k=>n-k.1) ⟨0,Nat.zero_le _⟩ ?_ ?_
 ·apply aK [((20,0),[(20,0)])]<;>simp[AV.ok,Dc.ok,apJ]
 ·rintro⟨k,hk⟩
  have hw:=wr1 (k:=k) (by omega)
  by_cases hlt:k<n
  ·obtain⟨rest,hdp⟩:=mapJ_dp f hlt
   have q:=wD (f k) k (hf k hlt).1 (by have:=(hf k hlt).2;omega)
   have e1:apJ f (k+1)=(apJ f k).app (upT (f k) k).ts:=rfl
   have e2:=yT f k
   simp only[stAp]
   generalize upT (f k) k=U at *
   generalize f k=E at *
   generalize hAs:apJ f (k+1)=B at *
   generalize apJ f k=A at *
   generalize dH f n=M at *
   subst e1
   simp[hlt,hw,aF,lM,d0,hdp]
   refine⟨by omega,?_⟩
   apply aC q<;>simp
   refine⟨by rw[aF,e2];omega,k+1,by omega,by omega,?_⟩
   apply aK [((20,0),[(20,0)])]<;>simp[AV.ok,Dc.ok,hw,hAs]
   rw[bG];rfl
  ·obtain rfl:k=n:=by omega
   simp only[stAp]
   generalize dH f k=M at *
   generalize apJ f k=A at *
   simp[aF,lM,d0,Ds.app_nil]
   exact⟨[],by simp[Ds.app_nil]⟩
def stRw(d:Dl)(r:Rl)(base:Int)(x:Tm)(far:Int)(k:Nat):St:=bV [(2,iA base),(4,iA far),(5,.bx 6 0),(6,.bx 7 0),(8,.bx 9 0),(10,.bx 11 0),(11,.c (.blk 38 (k+1) 5 27 (.seg none (tDs ty (dH (jB d r base x far) k)) .nil) .nil)),(12,iA k)] [(6,34,dlC d),(7,54,rlC r),(9,27,tmC none none x.h x.x),(11,27,zC)] [(38,k+1)]
theorem r_Row(hd:D3 d)(hr:R3 r)(base far:Int)(hx:x.fits)(hxs:x.size<=2):HH 110 [dlL d,rlL r,iA base,tmL x,iA far] (tmL (oF d r base x far)):=by
 have hn:=mZ r
 have hl:=hr.len
 have hN:(bP r.g 0).length=nR r:=rfl
 have q0:=pS hr
 have qa:=KS (jB d r base x far) (nR r) (by omega) λ j hj=>⟨oS hd hr base far hx hj,by have:=oR hd hr base far hxs hj;omega⟩
 have qt:=h17 (apJ (jB d r base x far) (nR r)) (nI _ λ _ hj=>oS hd hr base far hx hj) (by have:=mP (f:=jB d r base x far) hr λ j hj=>oR hd hr base far hxs hj;omega)
 change HH 205 _ (tmL (oF d r base x far)) at qt
 refine ab0 func110 ntmps110 results110 ?_
 simp[dlL,dlC,rlL,rlC]
 refine lp (α:={ k:Nat // k<=nR r }) (λ k=>stRw d r base x far k.1) (λ k=>nR r-k.1) ⟨0,Nat.zero_le _⟩ ?_ ?_
 ·apply aK [((38,0),[(38,0)])]<;>simp[AV.ok,Dc.ok,dH,rlC,dlC]
 ·rintro⟨k,hk⟩
  have hw:=wr1 (k:=k) (by omega)
  by_cases hlt:k<nR r
  ·have q1:=Z0 hr far hx hxs hlt
   have s1:=iH far hr hlt (cP hr hxs)
   have f1:=iI far hr hlt (cF r hx)
   have q2:=qT hd base (W (far+(tlT r (bN r x) far k).len))
   have s2:=bU hd base (W (far+(tlT r (bN r x) far k).len))
   have q3:=SV (tlT r (bN r x) far k) (aY d base (W (far+(tlT r (bN r x) far k).len))) f1 (by omega) (bQ hd _ _) (by omega)
   change HH 94 _ (tmL (jB d r base x far k)) at q3
   have e1:dH (jB d r base x far) (k+1)=(dH (jB d r base x far) k).app (jB d r base x far k).ts:=rfl
   have e2:=fL (jB d r base x far) k
   simp only[stRw]
   generalize hT:tlT r (bN r x) far k=T at *
   generalize aY d base (W (far+T.len))=TR at *
   generalize jB d r base x far k=E at *
   generalize hAs:dH (jB d r base x far) (k+1)=B at *
   generalize dH (jB d r base x far) k=A at *
   subst e1
   have d5:T.len*5 / 5=T.len:=by omega
   simp[rlC,dlC]
   apply aC q0<;>simp[rlL,rlC,bZ,hN,hlt]
   apply aC q1<;>simp[rlL,rlC,aF,d5]
   apply aC q2<;>simp[dlL,dlC]
   apply aC q3<;>simp
   refine⟨by rw[aF,e2];omega,k+1,by omega,by omega,?_⟩
   apply aK [((38,0),[(38,0)])]<;>simp[AV.ok,Dc.ok,hw,hAs,rlC,dlC]
   rw[bG];rfl
  ·obtain rfl:k=nR r:=by omega
   simp only[stRw]
   generalize oF d r base x far=P at *
   generalize apJ (jB d r base x far) (nR r)=A at *
   generalize dH (jB d r base x far) (nR r)=B at *
   simp[rlC,dlC]
   apply aC q0<;>simp[rlL,rlC,bZ,hN,Ds.app_nil]
   apply aC qa<;>simp[Ds.app_nil]
   apply aC qt<;>simp
   exact⟨[],by simp⟩
theorem yM(hd:D3 d){c:Int}:HH 87 [dlL d,iA c,tmL x] (tmL (pP d c x)):=by
 have q:=g64 13 (eI c d.c.length) x
 change HH 155 _ (tmL (pP d c x)) at q
 generalize pP d c x=X at *
 have d6:d.c.length*6 / 6=d.c.length:=by omega
 refine ab0 func87 ntmps87 results87 ?_
 simp[dlL,dlC,bS,d6]
 refine⟨by kernel_rfl,?_⟩
 apply aC (g65 c d.c.length)<;>simp
 apply aC q<;>simp[eI]
 exact⟨[],by simp⟩
theorem qU(hd:D3 d)(base far:Int){c:Int}(hc:fW c)(hx:x.fits)(hxs:x.size<=2):HH 86 [dlL d,iA base,iA c,tmL x,iA far] (tmL (jM d base c x far)):=by
 have q1:=yM (x:=x) hd (c:=c)
 have q2:=nW (x:=pP d c x) hd base far (oP hd hc hx) (by rw[oO];omega)
 change HH 81 _ (tmL (iO d base c x far)) at q2
 have q3:=qT hd base (W (far+1))
 have s1:=kA hd base c far hxs
 have s2:=bU hd base (W (far+1))
 have q4:=yH (iO d base c x far) (aY d base (W (far+1))) (jC hd base hc far hx) (by omega) (bQ hd _ _) (by omega)
 change HH 80 _ (tmL (jM d base c x far)) at q4
 generalize jM d base c x far=X at *
 generalize iO d base c x far=S at *
 generalize pP d c x=H at *
 generalize aY d base (W (far+1))=T at *
 refine ab0 func86 ntmps86 results86 ?_
 simp[dlL,dlC]
 refine⟨by kernel_rfl,?_⟩
 apply aC q1<;>simp[dlL,dlC]
 apply aC q2<;>simp[dlL,dlC]
 apply aC q3<;>simp[dlL,dlC]
 apply aC q4<;>simp
 exact⟨[],by simp⟩
end
end
section
section
variable {r:Rl} {d:Dl} {x y:Tm}
abbrev vC(n:Int):Dc:=.lit (.int .i64 1) (.lit (.int .i64 n) (.lit (.int .i64 0) (.nilr 1 30 (.nilr 5 27 .nil))))
theorem RJ(hd:D3 d)(hr:R3 r)(base far:Int){c:Int}(hc:fW c)(hx:x.fits)(hxs:x.size<=2)(h0:bP r.g 0=[]):HH 111 [dlL d,rlL r,iA base,iA c,tmL x,tmL y,iA far] (tmL (cC d r base c x y far)):=by
 have hN:nR r=0:=by unfold nR;rw[h0];rfl
 have e0:cC d r base c x y far=aG 5 (iO d base c x far).ts (jN (aG 5 (dY 0).ts (aY d base (W (far+2)))) .nil (vT 0)):=by unfold cC;rw[if_pos hN]
 have s1:=bU hd base (W (far+2))
 have s2:=kA hd base c far hxs
 have s3:=zW hd base (W (far+2))
 have a1:=bD 5 (dY 0).ts (aY d base (W (far+2)))
 rw[aN,dB] at a1
 have f1:=bE 5 (by decide) (aO (gN (n:=0) (by decide))) (bQ hd base (W (far+2)))
 have q0:=pS hr
 have q1:=yM (x:=x) hd (c:=c)
 have q2:=nW (x:=pP d c x) hd base far (oP hd hc hx) (by rw[oO];omega)
 change HH 81 _ (tmL (iO d base c x far)) at q2
 have q3:=qT hd base (W (far+2))
 have q4:=IQ (dY 0) (aY d base (W (far+2))) (gN (by decide)) (by rw[dB];omega) (bQ hd _ _) (by omega)
 have q5:=g19 (aG 5 (dY 0).ts (aY d base (W (far+2)))) .nil (vT 0) f1 trivial (bO (by decide)) (by rw[bF];show _+0+0<=_;omega) (by decide)
 have q6:=IQ (iO d base c x far) (jN (aG 5 (dY 0).ts (aY d base (W (far+2)))) .nil (vT 0)) (jC hd base hc far hx) (by omega) (zX hd base _) (by omega)
 rw[e0]
 clear e0
 generalize aG 5 (iO d base c x far).ts (jN (aG 5 (dY 0).ts (aY d base (W (far+2)))) .nil (vT 0))=R at *
 generalize jN (aG 5 (dY 0).ts (aY d base (W (far+2)))) .nil (vT 0)=C at *
 generalize aG 5 (dY 0).ts (aY d base (W (far+2)))=A at *
 generalize iO d base c x far=S at *
 generalize pP d c x=H at *
 generalize aY d base (W (far+2))=T at *
 refine ab0 func111 ntmps111 results111 ?_
 simp[dlL,dlC,rlL,rlC]
 apply aC q0<;>simp[rlL,rlC,h0,jL]
 apply aC (rJ 0)<;>simp
 refine⟨by kernel_rfl,?_⟩
 apply aC q1<;>simp[dlL,dlC]
 apply aC q2<;>simp[dlL,dlC]
 refine⟨by kernel_rfl,?_⟩
 apply aC (g62 0)<;>simp
 apply aC q3<;>simp[dlL,dlC]
 apply aC q4<;>simp[dY]
 refine⟨by kernel_rfl,?_⟩
 apply aC q5<;>simp[vT]
 apply aC q6<;>simp
 exact⟨[],by simp⟩
def stTb(d:Dl)(r:Rl)(base:Int)(x y D:Tm)(far:Int)(k:Nat):St :=
 bV [(2,iA base),(6,iA far),(7,.bx 8 0),(8,.bx 9 0),(11,.bx 12 0),(12,.bx 13 0),(14,.bx 15 0),(15,iA (nR r)),(16,.bx 17 0),(17,.bx 18 0),(19,.c (.blk 70 (k+1) 5 27 (.seg none (tDs ty (dH (tbA r (upT x 2) (W (far+2))) k)) .nil) .nil)),
  (20,.c (.blk 96 (k+1) 5 27 (.seg none (tDs ty (dH (tbB r (aQ (nR r) (upT y 2)) (upT x 1) (W (far+1))) k)) .nil) .nil)),(21,iA k)]
  [(8,34,dlC d),(9,54,rlC r),(12,27,tmC none none x.h x.x),(13,27,tmC none none y.h y.x),(15,27,zC),(17,27,vC 0),(18,27,tmC none none D.h D.x)] [(70,k+1),(96,k+1)]
theorem RI(hd:D3 d)(hr:R3 r)(base far:Int){c:Int}(hc:fW c)(hx:x.fits)(hxs:x.size<=2)(hy:y.fits)(hys:y.size<=2)(h0:bP r.g 0≠[]):HH 111 [dlL d,rlL r,iA base,iA c,tmL x,tmL y,iA far] (tmL (cC d r base c x y far)):=by
 have hn:=mZ r
 have hl:=hr.len
 have hN:(bP r.g 0).length=nR r:=rfl
 have hne:nR r≠0:=λ h=>h0 (List.eq_nil_of_length_eq_zero h)
 have hneI:((nR r:Nat):Int)≠0:=by omega
 have e0:cC d r base c x y far=aG 5 (iO d base c x far).ts (cL (tbC d r base x y far) (eY 15 (vT 0)).ts):=by unfold cC;rw[if_neg hne]
 rw[e0]
 clear e0
 generalize hR:aG 5 (iO d base c x far).ts (cL (tbC d r base x y far) (eY 15 (vT 0)).ts)=R
 have q0:=pS hr
 have q1:=yM (x:=x) hd (c:=c)
 have q2:=nW (x:=pP d c x) hd base far (oP hd hc hx) (by rw[oO];omega)
 change HH 81 _ (tmL (iO d base c x far)) at q2
 refine ab0 func111 ntmps111 results111 ?_
 simp[dlL,dlC,rlL,rlC]
 apply aC q0<;>simp[rlL,rlC,bZ,hN]
 apply aC (rJ 0)<;>simp
 refine⟨by kernel_rfl,?_⟩
 apply aC q1<;>simp[dlL,dlC]
 apply aC q2<;>simp[dlL,dlC,hneI,hne]
 refine lp (α:={ k:Nat // k<=nR r }) (λ k=>stTb d r base x y (iO d base c x far) far k.1) (λ k=>nR r-k.1) ⟨0,Nat.zero_le _⟩ ?_ ?_
 ·apply aK [((70,0),[(70,0)]),((96,0),[(96,0)])]<;>simp[AV.ok,Dc.ok,dH,rlC,dlC]
 ·rintro⟨k,hk⟩
  have hw:=wr1 (k:=k) (by omega)
  have hx1:(upT x 1).size<=2:=by rw[eM];exact hxs
  have hx2:(upT x 2).size<=2:=by rw[eM];exact hxs
  clear q0 q1 q2
  by_cases hlt:k<nR r
  ·have hltI:(k:Int)<nR r:=by omega
   have q2:=wD x 2 hx (by omega)
   have q3:=Z0 hr (W (far+2)) (bX 2 hx) hx2 hlt
   have s3:=iH (W (far+2)) hr hlt (cP hr hx2)
   have q4:=h17 (tlT r (bN r (upT x 2)) (W (far+2)) k) (iI _ hr hlt (cF r (bX 2 hx))) (by omega)
   change HH 205 _ (tmL (tbA r (upT x 2) (W (far+2)) k)) at q4
   have q2':=wD x 1 hx (by omega)
   have q5:=Z0 hr (W (far+1)) (bX 1 hx) hx1 hlt
   have s5:=iH (W (far+1)) hr hlt (cP hr hx1)
   have t5:=iI (W (far+1)) hr hlt (cF r (bX 1 hx))
   have l5:=Y1 hr (v:=bN r (upT x 1)) (W (far+1)) hlt
   have q2y:=wD y 2 hy (by omega)
   have qp:=g21 (nR r) (nR r) (upT y 2) (by omega) (bX 2 hy) (by omega) (by rw[eM];omega)
   rw[show ((nR r:Nat):Int).toNat=nR r by omega] at qp
   have q6:=g21 (tlT r (bN r (upT x 1)) (W (far+1)) k).len (tlT r (bN r (upT x 1)) (W (far+1)) k).len (vT 0) (by omega) (bO (by decide)) (by omega) (by rw[bF];omega)
   rw[show (((tlT r (bN r (upT x 1)) (W (far+1)) k).len:Nat):Int).toNat=(tlT r (bN r (upT x 1)) (W (far+1)) k).len by omega] at q6
   have sP:=qO hr hys
   have fP:=eJ (nR r) _ (bX 2 hy)
   have n1:=wL (aQ (nR r) (upT y 2)) k
   have p9:=vU l5
   have q7:=SW (mA (aQ (nR r) (upT y 2)) k) (aQ (tlT r (bN r (upT x 1)) (W (far+1)) k).len (vT 0)) (mN k fP) (by omega) (eJ _ _ (bO (by decide))) (by omega)
   have x7:=zK (x:=upT x 1) hr (W (far+1)) sP hlt
   have q8:=h17 (tlT r (bN r (upT x 1)) (W (far+1)) k) t5 (by omega)
   have u8:=mJ (tlT r (bN r (upT x 1)) (W (far+1)) k)
   have q9:=IQ (tup (tlT r (bN r (upT x 1)) (W (far+1)) k)) (cL (mA (aQ (nR r) (upT y 2)) k) (aQ (tlT r (bN r (upT x 1)) (W (far+1)) k).len (vT 0))) (oM _ t5) (by omega) (iE _ _ (mN k fP) (eJ _ _ (bO (by decide)))) (by omega)
   change HH 92 _ (tmL (tbB r (aQ (nR r) (upT y 2)) (upT x 1) (W (far+1)) k)) at q9
   obtain⟨rest,hdp⟩:=AC (t:=aQ (nR r) (upT y 2)) (n:=k) (by rw[mV];exact hlt)
   have eA:dH (tbA r (upT x 2) (W (far+2))) (k+1)=(dH (tbA r (upT x 2) (W (far+2))) k).app (tbA r (upT x 2) (W (far+2)) k).ts:=rfl
   have eB:dH (tbB r (aQ (nR r) (upT y 2)) (upT x 1) (W (far+1))) (k+1)=(dH (tbB r (aQ (nR r) (upT y 2)) (upT x 1) (W (far+1))) k).app (tbB r (aQ (nR r) (upT y 2)) (upT x 1) (W (far+1)) k).ts:=rfl
   have lA:=fL (tbA r (upT x 2) (W (far+2))) k
   have lB:=fL (tbB r (aQ (nR r) (upT y 2)) (upT x 1) (W (far+1))) k
   have lP:=mV (nR r) (upT y 2)
   simp only[stTb]
   generalize hA1:dH (tbA r (upT x 2) (W (far+2))) (k+1)=A1 at *
   generalize hB1:dH (tbB r (aQ (nR r) (upT y 2)) (upT x 1) (W (far+1))) (k+1)=B1 at *
   generalize dH (tbA r (upT x 2) (W (far+2))) k=A0 at *
   generalize dH (tbB r (aQ (nR r) (upT y 2)) (upT x 1) (W (far+1))) k=B0 at *
   generalize tbA r (upT x 2) (W (far+2)) k=Ak at *
   generalize tbB r (aQ (nR r) (upT y 2)) (upT x 1) (W (far+1)) k=Bk at *
   generalize cL (mA (aQ (nR r) (upT y 2)) k) (aQ (tlT r (bN r (upT x 1)) (W (far+1)) k).len (vT 0))=X7 at *
   generalize tup (tlT r (bN r (upT x 1)) (W (far+1)) k)=U8 at *
   generalize mA (aQ (nR r) (upT y 2)) k=N7 at *
   generalize aQ (nR r) (upT y 2)=PP at *
   generalize hV:vT 0=V0 at *
   generalize hT5:tlT r (bN r (upT x 1)) (W (far+1)) k=T5 at *
   generalize aQ T5.len V0=P9 at *
   generalize tlT r (bN r (upT x 2)) (W (far+2)) k=T3 at *
   generalize upT x 1=X1 at *
   generalize upT x 2=X2 at *
   generalize upT y 2=Y2 at *
   generalize iO d base c x far=D at *
   subst eA eB
   have d5:T5.len*5 / 5=T5.len:=by omega
   simp[hlt,hltI,rlC,dlC]
   refine⟨by kernel_rfl,?_⟩
   apply aC q2<;>simp
   apply aC q3<;>simp[rlL,rlC]
   apply aC q4<;>simp
   refine⟨by rw[aF,lA];omega,by kernel_rfl,?_⟩
   apply aC q2'<;>simp
   apply aC q5<;>simp[rlL,rlC]
   apply aC q2y<;>simp
   apply aC qp<;>simp[hdp,aF,lP]
   refine⟨by omega,by kernel_rfl,?_⟩
   apply aC q8<;>simp[aF,d5]
   subst hV
   apply aC q6<;>simp[vT]
   apply aC q7<;>simp
   apply aC q9<;>simp
   refine⟨by rw[aF,lB];omega,k+1,by omega,by omega,?_⟩
   apply aK [((70,0),[(70,0)]),((96,0),[(96,0)])]<;>simp[AV.ok,Dc.ok,hw,hA1,hB1,rlC,dlC]
   refine⟨?_,?_⟩<;>(rw[bG];rfl)
  ·obtain rfl:k=nR r:=by omega
   have fF:(dY (nR r)).fits:=vL hr
   have q1:=k169 d.s (by have:=hd.sl;omega)
   have s1:(bM d.s).size<=301:=nV hd
   have fS:(bM d.s).fits:=mE hd
   have q2:=IQ (dY (nR r)) (bM d.s) fF (by rw[dB];omega) fS (by omega)
   have a2:=bD 5 (dY (nR r)).ts (bM d.s)
   rw[aN,dB] at a2
   have m2:=lC (f:=tbA r (upT x 2) (W (far+2))) hr λ j hj=>zU (x:=upT x 2) hr (W (far+2)) hx2 hj
   have q3:=g19 (aG 5 (dY (nR r)).ts (bM d.s)) (dH (tbA r (upT x 2) (W (far+2))) (nR r)) (vT 0) (bE 5 (by decide) (aO fF) fS) (lD _ λ _ hj=>zV hr _ (bX 2 hx) hj) (bO (by decide)) (by rw[bF];omega) (by rw[fL];omega)
   change HH 88 _ (tmL (tbT d r (upT x 2) (W (far+2)))) at q3
   have s3:=zL hd hr (W (far+2)) hx2
   have f3:=zM hd hr (W (far+2)) (bX 2 hx)
   have q4:=qT hd base (W (far+3))
   have s4:=bU hd base (W (far+3))
   have q5:=yH (tbT d r (upT x 2) (W (far+2))) (aY d base (W (far+3))) f3 (by omega) (bQ hd _ _) (by omega)
   have a5:=bD 4 (tbT d r (upT x 2) (W (far+2))).ts (aY d base (W (far+3)))
   rw[aN] at a5
   have q6:=IQ (dY (nR r)) (aG 4 (tbT d r (upT x 2) (W (far+2))).ts (aY d base (W (far+3)))) fF (by rw[dB];omega) (bE 4 (by decide) (aO f3) (bQ hd _ _)) (by omega)
   change HH 92 _ (tmL (tbM d r base x far)) at q6
   have s6:=zN hd hr base far hxs
   have q7:=g66 14 (vT 0)
   change HH 89 _ (tmL (eY 14 (vT 0))) at q7
   have m8:=lC (f:=tbB r (aQ (nR r) (upT y 2)) (upT x 1) (W (far+1))) hr λ j hj=>zS (x:=upT x 1) hr (W (far+1)) (qO hr hys) hx1 hj
   have q8:=g19 (tbM d r base x far) (dH (tbB r (aQ (nR r) (upT y 2)) (upT x 1) (W (far+1))) (nR r)) (eY 14 (vT 0)) (zO hd hr base far hx) (lD _ λ _ hj=>zT hr _ (eJ _ _ (bX 2 hy)) (bX 1 hx) hj) (fZ (by decide) (bO (by decide))) (by rw[kB,bF];omega) (by rw[fL];omega)
   change HH 88 _ (tmL (tbC d r base x y far)) at q8
   have s8:=zP hd hr base far hxs hys
   have q9:=g66 15 (vT 0)
   change HH 89 _ (tmL (eY 15 (vT 0))) at q9
   have q10:=k176 (tbC d r base x y far) (eY 15 (vT 0)) (zQ hd hr base far hx hy) (by omega) (fZ (by decide) (bO (by decide))) (by decide)
   have s10:=zI hd hr base far hxs hys
   have s11:=kA hd base c far hxs
   have q12:=IQ (iO d base c x far) (cL (tbC d r base x y far) (eY 15 (vT 0)).ts) (jC hd base hc far hx) (by omega) (zJ hd hr base far hx hy) (by omega)
   rw[hR] at q12
   clear hR
   simp only[stTb]
   generalize iO d base c x far=S at *
   generalize cL (tbC d r base x y far) (eY 15 (vT 0)).ts=Z at *
   generalize tbC d r base x y far=C at *
   generalize tbM d r base x far=M at *
   generalize dH (tbB r (aQ (nR r) (upT y 2)) (upT x 1) (W (far+1))) (nR r)=B0 at *
   generalize dH (tbA r (upT x 2) (W (far+2))) (nR r)=A0 at *
   generalize aG 4 (tbT d r (upT x 2) (W (far+2))).ts (aY d base (W (far+3)))=A5 at *
   generalize aG 5 (dY (nR r)).ts (bM d.s)=A2 at *
   generalize tbT d r (upT x 2) (W (far+2))=TT at *
   generalize aY d base (W (far+3))=TR at *
   generalize hSo:bM d.s=SO at *
   generalize hv14:eY 14 (vT 0)=V14 at *
   generalize hv15:eY 15 (vT 0)=V15 at *
   simp[rlC,dlC,Ds.app_nil]
   apply aC q1<;>simp[lvA]
   apply aC (g62 (nR r))<;>simp
   refine⟨by kernel_rfl,?_⟩
   apply aC q2<;>simp[dY]
   apply aC q3<;>simp[vT,Ds.app_nil]
   apply aC q4<;>simp[dlL,dlC]
   apply aC q5<;>simp
   apply aC q6<;>simp[dY]
   refine⟨by kernel_rfl,?_⟩
   apply aC q7<;>simp[vT]
   apply aC q8<;>simp[Ds.app_nil]
   refine⟨by kernel_rfl,?_⟩
   apply aC q9<;>simp[vT]
   apply aC q10<;>simp
   apply aC q12<;>simp
   exact⟨[],by simp⟩
theorem KU(hd:D3 d)(hr:R3 r)(base far:Int){c:Int}(hc:fW c)(hx:x.fits)(hxs:x.size<=2)(hy:y.fits)(hys:y.size<=2):HH 111 [dlL d,rlL r,iA base,iA c,tmL x,tmL y,iA far] (tmL (cC d r base c x y far)):=by
 by_cases h0:bP r.g 0=[]
 ·exact RJ hd hr base far hc hx hxs h0
 ·exact RI hd hr base far hc hx hxs hy hys h0
end
end
section
section
variable {r:Rl} {d:Dl} {x y:Tm}
theorem dp_aK{j:Nat}(hj:j<nR r):∃q,(cA r.g).dp (rI r j*9)=cA (aJ r j :: q):=by
 obtain⟨h1,h2⟩:=yC hj
 refine⟨r.g.drop (rI r j+1),?_⟩
 rw[lX h1,h2]
theorem r_At(hr:R3 r){j:Nat}(hj:j<nR r):HH 113 [rlL r,iA j] (tmL (pcT r j)):=by
 have hN:(bP r.g 0).length=nR r:=rfl
 have h0:¬(j:Int)<0:=by omega
 have hge:¬nR r<=j:=by omega
 have e1:=T4 hj
 obtain⟨qq,e2⟩:=dp_aK hj
 have hlt:=(S9 hj).2
 have hel:=BF hr hj
 have d0:(aJ r j).e.len*5 / 5=(aJ r j).e.len:=by omega
 have q0:=pS hr
 have q1:=k117f (aJ r j).e.len 0 (by omega)
 have q2:=h18 (dO 0 (aJ r j).e.len) (gV _ _) (by rw[gU];omega)
 have q3:=g64 13 (eI j (nR r)) (kZ (dO 0 (aJ r j).e.len))
 change HH 155 _ (tmL (pcT r j)) at q3
 generalize pcT r j=X at *
 generalize kZ (dO 0 (aJ r j).e.len)=P at *
 generalize dO 0 (aJ r j).e.len=V at *
 generalize aJ r j=b at *
 refine ab0 func113 ntmps113 results113 ?_
 simp[rlL,rlC,h0]
 apply aC q0<;>simp[rlL,rlC,h0,hge,bZ,hN,e1,e2,cA,aU,aF,d0]
 refine⟨by kernel_rfl,by omega,by omega,?_⟩
 apply aC q1<;>simp[bZ,hN]
 apply aC (g65 j (nR r))<;>simp
 apply aC q2<;>simp
 apply aC q3<;>simp[eI]
 exact⟨[],by simp⟩
theorem RH(hd:D3 d)(hr:R3 r)(far:Int)(hx:x.fits)(hxs:x.size<=2):HH 114 [dlL d,rlL r,tmL x,iA far] (tmL (jX d r x far)):=by
 have hl:=hr.len
 have sv:=cP hr hxs
 have m1:r.g.length*((bN r x).size+1)<=299*91001:=Nat.mul_le_mul hl (by omega)
 have hi:=hr.isz
 have q1:=D5 hr hx hxs
 have q2:=k44 r (bN r x) far (by omega) (cF r hx) (by omega) (by omega) hr.ifit (by omega)
 have s2:=wX hr far hxs
 have q3:=h18 (kG r (bN r x) far r.i) (wY hr far hx) (by omega)
 have q4:=g64 13 (eI r.m d.m.length) (kZ (kG r (bN r x) far r.i))
 change HH 155 _ (tmL (jX d r x far)) at q4
 generalize jX d r x far=X at *
 generalize kZ (kG r (bN r x) far r.i)=P at *
 generalize kG r (bN r x) far r.i=E at *
 generalize bN r x=V at *
 refine ab0 func114 ntmps114 results114 ?_
 simp[dlL,dlC,rlL,rlC]
 refine⟨by kernel_rfl,?_⟩
 apply aC q1<;>simp[rlL,rlC]
 apply aC q2<;>simp[rlL,rlC,aW]
 apply aC (g65 r.m d.m.length)<;>simp
 apply aC q3<;>simp
 apply aC q4<;>simp[eI]
 exact⟨[],by simp⟩
theorem r_Wants(hr:R3 r)(far:Int)(hx:x.fits)(hxs:x.size<=2){j:Nat}(hj:j<nR r):HH 116 [dlL d,rlL r,iA j,tmL x,iA far] (tmL (jS d r x far j)):=by
 have hN:(bP r.g 0).length=nR r:=rfl
 have h0:¬(j:Int)<0:=by omega
 have hge:¬nR r<=j:=by omega
 have e1:=T4 hj
 obtain⟨qq,e2⟩:=dp_aK hj
 have hlt:=(S9 hj).2
 have sv:=cP hr hxs
 have q0:=pS hr
 have q1:=D5 hr hx hxs
 have q2:=RE hr (bN r x) far hj (cF r hx) sv
 have s2:=J0 far hr hj sv
 have q3:=h18 (inT r (bN r x) far j) (J1 far hr hj (cF r hx)) (by omega)
 have q4:=g64 13 (eI (aJ r j).m d.m.length) (kZ (inT r (bN r x) far j))
 change HH 155 _ (tmL (jS d r x far j)) at q4
 generalize jS d r x far j=X at *
 generalize kZ (inT r (bN r x) far j)=P at *
 generalize inT r (bN r x) far j=E at *
 generalize bN r x=V at *
 generalize aJ r j=b at *
 refine ab0 func116 ntmps116 results116 ?_
 simp[dlL,dlC,rlL,rlC,h0]
 apply aC q0<;>simp[rlL,rlC,h0,hge,bZ,hN,e1]
 refine⟨by kernel_rfl,by omega,?_⟩
 apply aC q1<;>simp[rlL,rlC]
 apply aC q2<;>simp[rlL,rlC,bZ,hN,e1,e2,cA,aU,aW]
 refine⟨by kernel_rfl,by omega,by omega,?_⟩
 apply aC (g65 b.m d.m.length)<;>simp
 apply aC q3<;>simp
 apply aC q4<;>simp[eI]
 exact⟨[],by simp⟩
def stKd(d:Dl)(r:Rl)(x h:Tm)(far:Int)(k:Nat):St:=bV [(4,iA far),(5,.bx 6 0),(6,.bx 7 0),(7,.bx 8 0),(8,.bx 9 0),(10,.bx 11 0),(11,.c (.blk 46 (k+1) 5 27 (.seg none (tDs ty (dH (iV d r x h far) k)) .nil) .nil)),(12,iA k)] [(6,34,dlC d),(7,54,rlC r),(8,27,tmC none none x.h x.x),(9,27,tmC none none h.h h.x),(11,27,zC)] [(46,k+1)]
theorem r_Kids(hd:D3 d)(hr:R3 r)(hm:iQ r)(far:Int)(hx:x.fits)(hxs:x.size<=2){h:Tm}(hh:h.fits)(hhs:h.size<=2):HH 117 [dlL d,rlL r,tmL x,tmL h,iA far] (tmL (fA d r x h far)):=by
 have hn:=mZ r
 have hl:=hr.len
 have hN:(bP r.g 0).length=nR r:=rfl
 have q0:=pS hr
 have qa:=KS (iV d r x h far) (nR r) (by omega) λ j hj=>⟨pC hd hr hm far hx hh hj,by have:=pB (d:=d) hr far hxs hhs hj;omega⟩
 have qt:=h17 (apJ (iV d r x h far) (nR r)) (nI _ λ _ hj=>pC hd hr hm far hx hh hj) (by have:=mP (f:=iV d r x h far) hr λ j hj=>pB (d:=d) hr far hxs hhs hj;omega)
 change HH 205 _ (tmL (fA d r x h far)) at qt
 refine ab0 func117 ntmps117 results117 ?_
 simp[dlL,dlC,rlL,rlC]
 refine lp (α:={ k:Nat // k<=nR r }) (λ k=>stKd d r x h far k.1) (λ k=>nR r-k.1) ⟨0,Nat.zero_le _⟩ ?_ ?_
 ·apply aK [((46,0),[(46,0)])]<;>simp[AV.ok,Dc.ok,dH,rlC,dlC]
 ·rintro⟨k,hk⟩
  have hw:=wr1 (k:=k) (by omega)
  by_cases hlt:k<nR r
  ·have q1:=Z0 hr far hx hxs hlt
   have f1:=iI far hr hlt (cF r hx)
   have s1:=iH far hr hlt (cP hr hxs)
   have q2:=wD h (tlT r (bN r x) far k).len hh (by omega)
   have q3:=r_At hr hlt
   have q4:=r_Wants (d:=d) hr far hx hxs hlt
   have p1:=D8 hr hlt
   have p2:=qK hd hr far hx hlt (hm.2 _ (uL hlt))
   have z1:=D7 hr hlt
   have z2:=qJ (d:=d) hr far hxs hlt
   have z3:Tm.size ⟨(pcT r k).h,(pcT r k).x⟩=(pcT r k).size:=rfl
   have q5:=SW (upT h (tlT r (bN r x) far k).len) (.cons (pcT r k).h (pcT r k).x (jS d r x far k).ts) (bX _ hh) (by rw[eM];omega) ⟨p1.1,p1.2,aO p2⟩ (by rw[cG,aN];omega)
   change HH 90 _ (tmL (kidX d r x h far k)) at q5
   have z5:=wQ (d:=d) hr far hxs hhs hlt
   have q6:=SV (tlT r (bN r x) far k) (kidX d r x h far k) f1 (by omega) (wR hd hr hm far hx hh hlt) (by omega)
   change HH 94 _ (tmL (iV d r x h far k)) at q6
   have e1:dH (iV d r x h far) (k+1)=(dH (iV d r x h far) k).app (iV d r x h far k).ts:=rfl
   have e2:=fL (iV d r x h far) k
   simp only[stKd]
   generalize hAs:dH (iV d r x h far) (k+1)=B at *
   generalize dH (iV d r x h far) k=A at *
   generalize iV d r x h far k=E at *
   generalize kidX d r x h far k=K at *
   generalize jS d r x far k=w at *
   generalize pcT r k=p at *
   generalize upT h (tlT r (bN r x) far k).len=u at *
   generalize hT:tlT r (bN r x) far k=T at *
   subst e1
   have d5:T.len*5 / 5=T.len:=by omega
   simp[rlC,dlC]
   apply aC q0<;>simp[rlL,rlC,bZ,hN,hlt]
   apply aC q1<;>simp[rlL,rlC,aF,d5]
   refine⟨by kernel_rfl,?_⟩
   apply aC q2<;>simp
   apply aC q3<;>simp[rlL,rlC]
   apply aC q4<;>simp[dlL,dlC,rlL,rlC]
   apply aC q5<;>simp
   apply aC q6<;>simp
   refine⟨by rw[aF,e2];omega,k+1,by omega,by omega,?_⟩
   apply aK [((46,0),[(46,0)])]<;>simp[AV.ok,Dc.ok,hw,hAs,rlC,dlC]
   rw[bG];rfl
  ·obtain rfl:k=nR r:=by omega
   simp only[stKd]
   generalize fA d r x h far=P at *
   generalize apJ (iV d r x h far) (nR r)=A at *
   generalize dH (iV d r x h far) (nR r)=B at *
   simp[rlC,dlC]
   apply aC q0<;>simp[rlL,rlC,bZ,hN,Ds.app_nil]
   apply aC qa<;>simp[Ds.app_nil]
   apply aC qt<;>simp
   exact⟨[],by simp⟩
theorem r_id(a b c:Tm):HH 159 [tmL a,tmL b,tmL c] (tmL (idT a b c)):=by
 refine ab0 func159 ntmps159 results159 ?_
 simp[idT]
 apply aC (g129 19 (tDs ty (gQ a b c)))<;>simp[gQ,iN]
 exact⟨[],by simp⟩
theorem yL(a b:Tm):HH 160 [tmL a,tmL b] (tmL (eX 12 a b)):=by
 have q:=g64 12 a b
 change HH 155 _ (tmL (eX 12 a b)) at q
 generalize eX 12 a b=X at *
 refine ab0 func160 ntmps160 results160 ?_
 simp
 apply aC q<;>simp
 exact⟨[],by simp⟩
theorem RD(a b:Tm):HH 76 [tmL a,tmL b] (tmL (prT a b)):=by
 have q:=g64 13 a b
 change HH 155 _ (tmL (prT a b)) at q
 generalize prT a b=X at *
 refine ab0 func76 ntmps76 results76 ?_
 simp
 apply aC q<;>simp
 exact⟨[],by simp⟩
theorem GJ(t:Ts)(b:Tm)(hf:t.fits)(hs:t.size<=100000000)(hbf:b.fits)(hbs:b.size<=100000000):HH 77 [tmL b,tsA none t] (tmL (aG 5 t b)):=by
 have q:=k196 t b hf hs hbf hbs
 generalize aG 5 t b=X at *
 refine ab0 func77 ntmps77 results77 ?_
 simp
 apply aC q<;>simp
 exact⟨[],by simp⟩
theorem r_pis(t:Ts)(b:Tm)(hf:t.fits)(hs:t.size<=100000000)(hbf:b.fits)(hbs:b.size<=100000000):HH 78 [tmL b,tsA none t] (tmL (aG 4 t b)):=by
 have q:=SV t b hf hs hbf hbs
 generalize aG 4 t b=X at *
 refine ab0 func78 ntmps78 results78 ?_
 simp
 apply aC q<;>simp
 exact⟨[],by simp⟩
theorem RG(hd:D3 d)(hr:R3 r)(hm:iQ r){base c:Int}(hb:fW base)(hc:fW c)(far:Int)(h0:bP r.g 0=[]):HH 84 [dlL d,rlL r,iA base,iA c,iA far] (tmL (fG d r base c far)):=by
 have hN:nR r=0:=by unfold nR;rw[h0];rfl
 have e0:fG d r base c far=eX 12 (idT (jM d base c (vT 3) far) (cC d r base c (vT 3) ⟨⟨0,0,0,[]⟩,.nil⟩ far) (vT 2)) (isT d r base far 1):=by unfold fG;rw[if_pos hN]
 have z0:Tm.fits ⟨⟨0,0,0,[]⟩,.nil⟩:=⟨eQ (by decide) (by decide) (by decide),trivial⟩
 have f3:(vT 3).fits:=bO (by decide)
 have s3:(vT 3).size<=2:=by decide
 have a1:=kW 3 1 (by decide)
 have q0:=pS hr
 have q1:=qU hd base far hc f3 s3
 have q2:=KU (y:=⟨⟨0,0,0,[]⟩,.nil⟩) hd hr base far hc f3 s3 z0 (by decide)
 have q3:=r_id (jM d base c (vT 3) far) (cC d r base c (vT 3) ⟨⟨0,0,0,[]⟩,.nil⟩ far) (vT 2)
 have q4:=IR d base (W (far+1)) hd.lw hd.pw hb
 have q5:=wD (vT 3) 1 f3 (by decide)
 have q6:=RH hd hr (W (far+1)) a1.1 a1.2
 have q7:=wD (vT 0) 1 (vTf 0 (by decide)) (by decide)
 have q8:=r_id (aS d base (W (far+1))) (jX d r (upT (vT 3) 1) (W (far+1))) (upT (vT 0) 1)
 change HH 159 _ (tmL (isT d r base far 1)) at q8
 have q9:=yL (idT (jM d base c (vT 3) far) (cC d r base c (vT 3) ⟨⟨0,0,0,[]⟩,.nil⟩ far) (vT 2)) (isT d r base far 1)
 rw[e0]
 clear e0 a1
 generalize eX 12 (idT (jM d base c (vT 3) far) (cC d r base c (vT 3) ⟨⟨0,0,0,[]⟩,.nil⟩ far) (vT 2)) (isT d r base far 1)=X at *
 generalize idT (jM d base c (vT 3) far) (cC d r base c (vT 3) ⟨⟨0,0,0,[]⟩,.nil⟩ far) (vT 2)=I at *
 generalize isT d r base far 1=S at *
 generalize aS d base (W (far+1))=IX at *
 generalize jX d r (upT (vT 3) 1) (W (far+1))=WT at *
 generalize upT (vT 3) 1=U3 at *
 generalize upT (vT 0) 1=U0 at *
 generalize cC d r base c (vT 3) ⟨⟨0,0,0,[]⟩,.nil⟩ far=T at *
 generalize jM d base c (vT 3) far=F at *
 refine ab0 func84 ntmps84 results84 ?_
 simp[dlL,dlC,rlL,rlC]
 apply aC (rJ 3)<;>simp
 apply aC (rJ 2)<;>simp
 apply aC (rJ 1)<;>simp
 apply aC (rJ 0)<;>simp
 apply aC q0<;>simp[rlL,rlC,h0,jL]
 refine⟨by kernel_rfl,?_⟩
 apply aC q1<;>simp[dlL,dlC,vT]
 apply aC q2<;>simp[dlL,dlC,rlL,rlC,vT]
 apply aC q3<;>simp[vT]
 refine⟨by kernel_rfl,?_⟩
 apply aC q4<;>simp[dlL,dlC]
 apply aC q5<;>simp[vT]
 apply aC q6<;>simp[dlL,dlC,rlL,rlC]
 apply aC q7<;>simp[vT]
 apply aC q8<;>simp
 apply aC q9<;>simp
 exact⟨[],by simp⟩
theorem RF(hd:D3 d)(hr:R3 r)(hm:iQ r){base c:Int}(hb:fW base)(hc:fW c)(far:Int)(h0:bP r.g 0≠[]):HH 84 [dlL d,rlL r,iA base,iA c,iA far] (tmL (fG d r base c far)):=by
 have hN:(bP r.g 0).length=nR r:=rfl
 have hne:nR r≠0:=λ h=>h0 (List.eq_nil_of_length_eq_zero h)
 have hneI:((nR r:Nat):Int)≠0:=by omega
 have e0:fG d r base c far=eX 12 (oF d r base (vT 3) far) (eX 12 (jJ d r base c far) (eX 12 (isT d r base far 2) (fA d r (upT (vT 3) 3) (upT (vT 1) 3) (W (far+3))))):=by unfold fG;rw[if_neg hne]
 have f3:(vT 3).fits:=bO (by decide)
 have s3:(vT 3).size<=2:=by decide
 have a1:=kW 3 1 (by decide)
 have a2:=kW 3 2 (by decide)
 have a3:=kW 3 3 (by decide)
 have b3:=kW 1 3 (by decide)
 have q0:=pS hr
 have q1:=wD (vT 3) 1 f3 (by decide)
 have q2:=qU hd base (W (far+1)) hc a1.1 a1.2
 have q3:=KU (y:=vT 0) hd hr base (W (far+1)) hc a1.1 a1.2 (vTf 0 (by decide)) (by decide)
 have q4:=wD (vT 2) 1 (vTf 2 (by decide)) (by decide)
 have q5:=r_id (jM d base c (upT (vT 3) 1) (W (far+1))) (cC d r base c (upT (vT 3) 1) (vT 0) (W (far+1))) (upT (vT 2) 1)
 change HH 159 _ (tmL (jJ d r base c far)) at q5
 have q6:=IR d base (W (far+2)) hd.lw hd.pw hb
 have q7:=wD (vT 3) 2 f3 (by decide)
 have q8:=RH hd hr (W (far+2)) a2.1 a2.2
 have q9:=wD (vT 0) 2 (vTf 0 (by decide)) (by decide)
 have q10:=r_id (aS d base (W (far+2))) (jX d r (upT (vT 3) 2) (W (far+2))) (upT (vT 0) 2)
 change HH 159 _ (tmL (isT d r base far 2)) at q10
 have q11:=r_Row hd hr base far f3 s3
 have q12:=wD (vT 3) 3 f3 (by decide)
 have q13:=wD (vT 1) 3 (vTf 1 (by decide)) (by decide)
 have q14:=r_Kids hd hr hm (W (far+3)) a3.1 a3.2 b3.1 b3.2
 have q15:=yL (isT d r base far 2) (fA d r (upT (vT 3) 3) (upT (vT 1) 3) (W (far+3)))
 have q16:=yL (jJ d r base c far) (eX 12 (isT d r base far 2) (fA d r (upT (vT 3) 3) (upT (vT 1) 3) (W (far+3))))
 have q17:=yL (oF d r base (vT 3) far) (eX 12 (jJ d r base c far) (eX 12 (isT d r base far 2) (fA d r (upT (vT 3) 3) (upT (vT 1) 3) (W (far+3)))))
 rw[e0]
 clear e0 a1 a2 a3 b3
 generalize eX 12 (oF d r base (vT 3) far) (eX 12 (jJ d r base c far) (eX 12 (isT d r base far 2) (fA d r (upT (vT 3) 3) (upT (vT 1) 3) (W (far+3)))))=X at *
 generalize eX 12 (jJ d r base c far) (eX 12 (isT d r base far 2) (fA d r (upT (vT 3) 3) (upT (vT 1) 3) (W (far+3))))=X16 at *
 generalize eX 12 (isT d r base far 2) (fA d r (upT (vT 3) 3) (upT (vT 1) 3) (W (far+3)))=X15 at *
 generalize fA d r (upT (vT 3) 3) (upT (vT 1) 3) (W (far+3))=K at *
 generalize isT d r base far 2=S at *
 generalize oF d r base (vT 3) far=R at *
 generalize jJ d r base c far=M at *
 generalize aS d base (W (far+2))=IX at *
 generalize jX d r (upT (vT 3) 2) (W (far+2))=WT at *
 generalize cC d r base c (upT (vT 3) 1) (vT 0) (W (far+1))=T at *
 generalize jM d base c (upT (vT 3) 1) (W (far+1))=F at *
 generalize upT (vT 3) 1=A1 at *
 generalize upT (vT 3) 2=A2 at *
 generalize upT (vT 3) 3=A3 at *
 generalize upT (vT 1) 3=B3 at *
 generalize upT (vT 2) 1=C1 at *
 generalize upT (vT 0) 2=C2 at *
 refine ab0 func84 ntmps84 results84 ?_
 simp[dlL,dlC,rlL,rlC]
 apply aC (rJ 3)<;>simp
 apply aC (rJ 2)<;>simp
 apply aC (rJ 1)<;>simp
 apply aC (rJ 0)<;>simp
 apply aC q0<;>simp[rlL,rlC,bZ,hN,hneI,hne]
 refine⟨by kernel_rfl,?_⟩
 apply aC q1<;>simp[vT]
 apply aC q2<;>simp[dlL,dlC]
 apply aC q1<;>simp[vT]
 apply aC (rJ 0)<;>simp
 apply aC q3<;>simp[dlL,dlC,rlL,rlC,vT]
 apply aC q4<;>simp[vT]
 apply aC q5<;>simp
 refine⟨by kernel_rfl,?_⟩
 apply aC q6<;>simp[dlL,dlC]
 apply aC q7<;>simp[vT]
 apply aC q8<;>simp[dlL,dlC,rlL,rlC]
 apply aC q9<;>simp[vT]
 apply aC q10<;>simp
 refine⟨by kernel_rfl,?_⟩
 apply aC q11<;>simp[dlL,dlC,rlL,rlC,vT]
 apply aC q12<;>simp[vT]
 apply aC q13<;>simp[vT]
 apply aC q14<;>simp[dlL,dlC,rlL,rlC]
 apply aC q15<;>simp
 apply aC q16<;>simp
 apply aC q17<;>simp
 exact⟨[],by simp⟩
theorem r_holds(hd:D3 d)(hr:R3 r)(hm:iQ r){base c:Int}(hb:fW base)(hc:fW c)(far:Int):HH 84 [dlL d,rlL r,iA base,iA c,iA far] (tmL (fG d r base c far)):=by
 by_cases h0:bP r.g 0=[]
 ·exact RG hd hr hm hb hc far h0
 ·exact RF hd hr hm hb hc far h0
end
end
section
section
variable {d:Dl} {l:List Rl} {base:Int} {x:Tm}
theorem TL{n m:Int}(h:W (n+1)=m):aG 4 (bW d base x n).ts (aY d base m)=fTT d base x n:=by subst h;rfl
theorem IV{n m:Int}(h:W (n+1)=m):aG 4 (bW d base x n).ts (aG 4 (aS d base m).ts (bM d.s))=hTT d base x n:=by subst h;rfl
theorem fns_eq{n:Int}(h:n=d.c.length)(c far:Int):jM d base c x far=fTT d base (prT (eI c n) x) far:=by subst h;rfl
theorem shp_eq{n:Int}(h:n=d.c.length)(c:Int):pP d c x=prT (eI c n) x:=by subst h;rfl
def stGr(d:Dl)(l:List Rl)(base:Int)(a:List Rl):St :=
 bV [(1,aV l),(2,iA base),(3,.bx 4 0),(7,.bx 8 0),(8,tsA none (gQ (vT 0) (vT 1) (vT 2))),(12,.bx 13 0),(13,.c (.blk 142 (a.length+1) 5 27 (.seg none (tDs ty (gBs d base l.length a 0)) .nil) .nil)),(14,iA a.length)]
  [(4,34,dlC d),(8,27,tmC none none (bM d.s).h (bM d.s).x),(13,27,tmC none none (gM d base l.length).h (gM d base l.length).x)] [(142,a.length+1)]
theorem r_Good(h:G3 d l)(hb:fW base):HH 14 [dlL d,aV l,iA base] (lF [xW d l base]):=by
 have hd:=h.toD3
 have hk:=h.k
 have hlc:=h.lc.symm
 have hll:=h.ll
 have d3:l.length*3 / 3=l.length:=by omega
 have d6:d.c.length*6 / 6=d.c.length:=by omega
 have hn:=lN h
 have sT:=nV hd
 have fT:=mE hd
 have f0:=vTf 0 (by decide)
 have f1:=vTf 1 (by decide)
 have f2:=vTf 2 (by decide)
 generalize hR:xW d l base=R
 have m1:=k169 d.s (by have:=hd.sl;omega)
 have m2:=RD (vT 1) (vT 0)
 have m3:=RD (vT 2) (vT 1)
 change HH _ _ (tmL (prT (vT 1) (vT 0))) at m2
 change HH _ _ (tmL (prT (vT 2) (vT 1))) at m3
 have m4:=SX d (W (base+1)) 5 (vT 0) hd.lw hd.pw (kT _) f0 (by decide)
 have m5:=nW (x:=prT (vT 1) (vT 0)) hd base 6 (dE f1 f0) (by decide)
 have m6:=qT hd base 7
 have sp6:=eN (x:=prT (vT 1) (vT 0)) hd base 6
 have st7:=bU hd base 7
 have si8:=dQ hd base 8
 have sp7:=eN (x:=prT (vT 2) (vT 1)) hd base 7
 rw[iL,bF,bF] at sp6 sp7
 have fi8:=dR hd hb 8
 have m7:=yH (bW d base (prT (vT 1) (vT 0)) 6) (aY d base 7) (eO hd _ _ (dE f1 f0)) (by omega) (bQ hd _ _) (by omega)
 rw[TL (by decide)] at m7
 have m8:=nW (x:=prT (vT 2) (vT 1)) hd base 7 (dE f2 f1) (by decide)
 have m9:=IR d base 8 hd.lw hd.pw hb
 have m10:=yH (aS d base 8) (bM d.s) fi8 (by omega) fT (by omega)
 have s10:=bD 4 (aS d base 8).ts (bM d.s)
 rw[aN] at s10
 have m11:=yH (bW d base (prT (vT 2) (vT 1)) 7) (aG 4 (aS d base 8).ts (bM d.s)) (eO hd _ _ (dE f2 f1)) (by omega) (bE 4 (by decide) (aO fi8) fT) (by omega)
 rw[IV (by decide)] at m11
 have z1:=sV hd base (e:=vT 0) rfl 5 6 7 8 (prT (vT 1) (vT 0)) (prT (vT 2) (vT 1)) (by decide) (by decide)
 have y1:=sW hd hb f0 5 6 7 8 (dE f1 f0) (dE f2 f1)
 have m12:=r_pis (kS (atT d (W (base+1)) 5 (vT 0)) (fTT d base (prT (vT 1) (vT 0)) 6) (hTT d base (prT (vT 2) (vT 1)) 7) (aS d base 8)) (bM d.s) y1 (by omega) fT (by omega)
 have z2:=bD 4 (kS (atT d (W (base+1)) 5 (vT 0)) (fTT d base (prT (vT 1) (vT 0)) 6) (hTT d base (prT (vT 2) (vT 1)) 7) (aS d base 8)) (bM d.s)
 have y2:=bE 4 (by decide) y1 fT
 have m13:=GJ (dY l.length).ts (aG 4 (kS (atT d (W (base+1)) 5 (vT 0)) (fTT d base (prT (vT 1) (vT 0)) 6) (hTT d base (prT (vT 2) (vT 1)) 7) (aS d base 8)) (bM d.s)) (aO (gN hn)) (by rw[aN,dB];omega) y2 (by omega)
 change HH 77 _ (tmL (gM d base l.length)) at m13
 clear z1 y1 z2 y2 sp6 st7 si8 sp7 fi8 s10
 refine ab0 func14 ntmps14 results14 ?_
 generalize aG 4 (kS (atT d (W (base+1)) 5 (vT 0)) (fTT d base (prT (vT 1) (vT 0)) 6) (hTT d base (prT (vT 2) (vT 1)) 7) (aS d base 8)) (bM d.s)=A4 at *
 generalize aG 4 (aS d base 8).ts (bM d.s)=A8 at *
 generalize atT d (W (base+1)) 5 (vT 0)=AT at *
 generalize fTT d base (prT (vT 1) (vT 0)) 6=FT at *
 generalize hTT d base (prT (vT 2) (vT 1)) 7=HT at *
 generalize aS d base 8=IT at *
 generalize bW d base (prT (vT 1) (vT 0)) 6=P6 at *
 generalize bW d base (prT (vT 2) (vT 1)) 7=P7 at *
 generalize aY d base 7=T7 at *
 generalize prT (vT 1) (vT 0)=P10 at *
 generalize prT (vT 2) (vT 1)=P21 at *
 simp[dlL,dlC,hk,aV,aT,bS,d3,d6,hlc]
 apply aC m1<;>simp[lvA]
 apply aC (rJ 0)<;>simp
 apply aC (rJ 1)<;>simp
 apply aC (rJ 2)<;>simp[aT,d3]
 apply aC (g62 l.length)<;>simp
 refine⟨by kernel_rfl,?_⟩
 apply aC m2<;>simp[vT]
 apply aC m3<;>simp[vT]
 refine⟨by kernel_rfl,?_⟩
 apply aC m4<;>simp[dlL,dlC,hk,vT]
 apply aC m5<;>simp[dlL,dlC,hk]
 apply aC m6<;>simp[dlL,dlC,hk]
 apply aC m7<;>simp
 apply aC m8<;>simp[dlL,dlC,hk]
 apply aC m9<;>simp[dlL,dlC,hk]
 apply aC m10<;>simp
 apply aC m11<;>simp
 apply aC m9<;>simp[dlL,dlC,hk]
 apply aC m12<;>simp[kS,gQ,iN]
 apply aC m13<;>simp[dY]
 clear m2 m3 m4 m5 m6 m7 m8 m9 m10 m11 m12 m13
 refine lp (α:={ q:List Rl×List Rl // q.1++q.2=l }) (λ q=>stGr d l base q.1.1) (λ q=>q.1.2.length) ⟨([],l),rfl⟩ ?_ ?_
 ·apply aK [((142,0),[(142,0)])]<;>simp[AV.ok,Dc.ok,gBs,dlC,hk,aV,gQ,iN,vT]
 ·rintro⟨⟨a,q⟩,hqq⟩
  simp only at hqq
  cases q with
  | nil =>
   have e:a=l:=by rw[<-hqq];simp
   subst e
   have hcl:(a.length:Int)=d.c.length:=by omega
   have fC:=BA h hb
   have sC:=AZ h base
   have fM:=AY hd hb hn
   have sM:=AX hd base a.length
   have fB:=vK hd hb hn a 0 (by omega) h.rs
   have sB:=vI hd base a.length a 0 λ r hr=>(h.rs r hr).1
   have sB2:jA a<=300:=h.ss
   have lB:=sY d base a.length a 0
   have f14:(eY 14 (vT 2)).fits:=fZ (by decide) f2
   have f15:(eY 15 (vT 2)).fits:=fZ (by decide) f2
   have p1:=g66 14 (vT 2)
   change HH 89 _ (tmL (eY 14 (vT 2))) at p1
   have p2:=g19 (gM d base a.length) (gBs d base a.length a 0) (eY 14 (vT 2)) fM fB f14 (by rw[kB,bF];omega) (by omega)
   change HH 88 _ (tmL (gC d a base)) at p2
   have p3:=g66 15 (vT 2)
   change HH 89 _ (tmL (eY 15 (vT 2))) at p3
   have p4:=SW (gC d a base) (gQ (eY 15 (vT 2)) (vT 1) (vT 0)) fC (by omega) K2 (by rw[K1];decide)
   change HH 90 _ (tmL (gX d a base)) at p4
   have fX:=AS h hb
   have sX:=AR h base
   have p5:=k102 d base 1 hd.lw hd.pw (by have:=hd.cl;omega)
   have p6:=nW (x:=vT 0) hd base 2 f0 (by decide)
   have p7:=qT hd base 3
   have sp2:=eN (x:=vT 0) hd base 2
   have st3:=bU hd base 3
   rw[bF] at sp2
   have p8:=yH (bW d base (vT 0) 2) (aY d base 3) (eO hd _ _ f0) (by omega) (bQ hd _ _) (by omega)
   rw[TL (by decide)] at p8
   have p9:=nW (x:=vT 1) hd base 3 f1 (by decide)
   have sp3:=eN (x:=vT 1) hd base 3
   rw[bF] at sp3
   have p10:=IR d base 4 hd.lw hd.pw hb
   have fI4:=dR hd hb 4
   have sI4:=dQ hd base 4
   have p11:=yH (aS d base 4) (bM d.s) fI4 (by omega) fT (by omega)
   have sJ4:=pY hd base 4
   have p12:=yH (bW d base (vT 1) 3) (aG 4 (aS d base 4).ts (bM d.s)) (eO hd _ _ f1) (by omega) (sQ hd hb 4) (by omega)
   rw[IV (by decide)] at p12
   have fSr:=K4 hd hb
   have sSr:=K3 hd base
   have p13:=GJ (gQ (fU d base 1) (fTT d base (vT 0) 2) (hTT d base (vT 1) 3)) (gX d a base) fSr (by omega) fX (by omega)
   change HH 77 _ (tmL (gS d a base)) at p13
   have fS:=AW h hb
   have sS:=AU h base
   have p14:=qT hd base 1
   have p15:=IR d base 2 hd.lw hd.pw hb
   have fI2:=dR hd hb 2
   have sI2:=dQ hd base 2
   have p16:=yH (aS d base 2) (bM d.s) fI2 (by omega) fT (by omega)
   have sJ2:=pY hd base 2
   have fT1:=bQ hd base 1
   have sT1:=bU hd base 1
   have p17:=IQ (aY d base 1) (aG 4 (aS d base 2).ts (bM d.s)) fT1 (by omega) (sQ hd hb 2) (by omega)
   change HH 92 _ (tmL (gP d base)) at p17
   have p18:=g129 18 (tDs ty (yG (fU d base 1) (bW d base (vT 0) 2) (gP d base) (gS d a base) (vT 0)))
   have hpl:=len_le_size d.p
   have hps:=hd.ps
   have p19:=qT hd base 0
   have fT0:=bQ hd base 0
   have sT0:=bU hd base 0
   have p20:=IR d base 1 hd.lw hd.pw hb
   have fI1:=dR hd hb 1
   have sI1:=dQ hd base 1
   have p21:=yH (aS d base 1) (bM d.s) fI1 (by omega) fT (by omega)
   change HH 80 _ (tmL (gTy d base)) at p21
   have sJ1:=pY hd base 1
   have sP0:(d.p.app (aY d base 0).ts).size<=3300:=by rw[iJ,aN];omega
   have fP0:(d.p.app (aY d base 0).ts).fits:=kL hd.pf (aO fT0)
   have p22:=SV (d.p.app (aY d base 0).ts) (gTy d base) fP0 (by omega) (sQ hd hb 1) (by show (aG 4 (aS d base 1).ts (bM d.s)).size<=_;omega)
   have fRc:=V6 h hb
   have sRc:=wT h base
   have p23:=k196 (d.p.app (aY d base 0).ts) (wU d a base) fP0 (by omega) fRc (by omega)
   have eA:=bG ty d.p (aY d base 0).ts
   have e0:R=⟨d.lv,aG 4 (d.p.app (aY d base 0).ts) (gTy d base),true,aG 5 (d.p.app (aY d base 0).ts) (wU d a base)⟩:=hR.symm
   have eRc:wU d a base=⟨kH 18,yG (fU d base 1) (bW d base (vT 0) 2) (gP d base) (gS d a base) (vT 0)⟩:=rfl
   clear hR fC sC fM sM fB sB sB2 f14 f15 fX sX fSr sSr fS sS fI2 sI2 fT1 sT1 fT0 sT0 fI1 sI1 sP0 fP0 fRc sRc m1 sp2 st3 sp3 fI4 sI4 sJ4 sJ2 sJ1
   simp only[stGr]
   generalize gM d base a.length=GM at *
   generalize gBs d base a.length a 0=GB at *
   generalize gC d a base=GC at *
   generalize gX d a base=GX at *
   generalize gS d a base=GS at *
   generalize gP d base=GP' at *
   generalize wU d a base=GR at *
   generalize gTy d base=GT at *
   generalize aG 4 (aS d base 2).ts (bM d.s)=J2 at *
   generalize aG 4 (aS d base 4).ts (bM d.s)=J4 at *
   generalize aS d base 2=I2 at *
   generalize aS d base 1=I1 at *
   generalize aS d base 4=I4 at *
   generalize aY d base 1=T1 at *
   generalize aY d base 3=T3 at *
   generalize hT0:aY d base 0=T0 at *
   generalize fU d base 1=S1 at *
   generalize bW d base (vT 0) 2=P2 at *
   generalize bW d base (vT 1) 3=P3 at *
   generalize fTT d base (vT 0) 2=F2 at *
   generalize hTT d base (vT 1) 3=H3 at *
   generalize eY 14 (vT 2)=V14 at *
   generalize eY 15 (vT 2)=V15 at *
   generalize bM d.s=SO at *
   generalize hY:aG 4 (d.p.app T0.ts) GT=Y at *
   generalize hZ:aG 5 (d.p.app T0.ts) GR=Z at *
   subst eRc
   simp[aV,aT,d3,Ds.app_nil,gQ,iN,vT]
   refine⟨by kernel_rfl,?_⟩
   apply aC p1<;>simp[vT]
   apply aC p2<;>simp[Ds.app_nil]
   refine⟨by kernel_rfl,?_⟩
   apply aC p3<;>simp[vT]
   apply aC p4<;>simp[gQ,iN,vT,dlC,hk]
   apply aC p5<;>simp[dlL,dlC,hk]
   apply aC p6<;>simp[dlL,dlC,hk,vT]
   apply aC p7<;>simp[dlL,dlC,hk]
   apply aC p8<;>simp
   apply aC p9<;>simp[dlL,dlC,hk,vT]
   apply aC p10<;>simp[dlL,dlC,hk]
   apply aC p11<;>simp
   apply aC p12<;>simp
   apply aC p13<;>simp[gQ,iN]
   refine⟨by kernel_rfl,?_⟩
   apply aC p14<;>simp[dlL,dlC,hk]
   apply aC p15<;>simp[dlL,dlC,hk]
   apply aC p16<;>simp
   apply aC p17<;>simp
   refine⟨by kernel_rfl,?_⟩
   apply aC p5<;>simp[dlL,dlC,hk]
   apply aC p6<;>simp[dlL,dlC,hk,vT]
   apply aC p18<;>simp[yG,kS,gQ,iN,vT]
   refine⟨by kernel_rfl,by rw[aF];omega,?_⟩
   apply aC p19<;>simp[dlL,dlC,hk]
   refine⟨by rw[aF];omega,by kernel_rfl,?_⟩
   apply aC p20<;>simp[dlL,dlC,hk]
   apply aC p21<;>simp
   apply aC p22<;>simp
   ·exact .inl eA.symm
   refine⟨by kernel_rfl,?_⟩
   apply aC p23<;>simp[kH,yG,kS,gQ,iN,vT]
   ·exact .inl eA.symm
   exact⟨[],by simp[e0,lF,fN]⟩
  | cons r q =>
   have h1:a.length<l.length:=by rw[<-hqq];simp
   have hI1:(a.length:Int)<l.length:=by omega
   have h2:=EM hqq
   obtain⟨hr,hm⟩:=h.rs r (by rw[<-hqq];simp)
   have hw:=wr1 (k:=a.length) (by omega)
   have hc:fW (a.length:Int):=by unfold fW;omega
   have hcl:(l.length:Int)=d.c.length:=by omega
   have fe:(eI a.length l.length).fits:=gO hc hn
   have e1:gBs d base l.length (a++[r]) 0=(gBs d base l.length a 0).app (gB d base l.length a.length r).ts:=by rw[BB,Nat.zero_add];rfl
   have e2:=sY d base l.length a 0
   have k1:=r_holds hd hr hm hb hc 8
   have k3:=SX d (W (base+1)) 4 (eI a.length l.length) hd.lw hd.pw (kT _) fe (by rw[eH];omega)
   have k4:=qU hd base 5 hc f0 (by decide)
   rw[fns_eq hcl] at k4
   have k5:=yM (x:=vT 1) hd (c:=a.length)
   rw[shp_eq hcl] at k5
   have fp:=dE fe f1
   have sp:=iL (eI a.length l.length) (vT 1)
   rw[eH,bF] at sp
   have k6:=nW (x:=prT (eI a.length l.length) (vT 1)) hd base 6 fp (by omega)
   have k7:=IR d base 7 hd.lw hd.pw hb
   have si7:=dQ hd base 7
   have fi7:=dR hd hb 7
   have sp6:=eN (x:=prT (eI a.length l.length) (vT 1)) hd base 6
   have k8:=yH (aS d base 7) (bM d.s) fi7 (by omega) fT (by omega)
   have s8:=bD 4 (aS d base 7).ts (bM d.s)
   rw[aN] at s8
   have k9:=yH (bW d base (prT (eI a.length l.length) (vT 1)) 6) (aG 4 (aS d base 7).ts (bM d.s)) (eO hd _ _ fp) (by omega) (bE 4 (by decide) (aO fi7) fT) (by omega)
   rw[IV (by decide)] at k9
   have z1:=sV hd base (e:=eI a.length l.length) rfl 4 5 6 7 (prT (eI a.length l.length) (vT 0)) (prT (eI a.length l.length) (vT 1)) (by rw[iL,eH,bF];omega) (by rw[iL,eH,bF];omega)
   have y1:=sW hd hb fe 4 5 6 7 (dE fe f0) (dE fe f1)
   have z2:=rE hd hr base a.length 8
   have k10:=GJ (kS (atT d (W (base+1)) 4 (eI a.length l.length)) (fTT d base (prT (eI a.length l.length) (vT 0)) 5) (hTT d base (prT (eI a.length l.length) (vT 1)) 6) (aS d base 7)) (fG d r base a.length 8) y1 (by omega) (rF hd hr hm hb hc 8) (by omega)
   change HH 77 _ (tmL (gB d base l.length a.length r)) at k10
   clear z1 y1 z2 sp6 si7 fi7 s8 fp sp
   simp only[stGr]
   generalize hB1:gBs d base l.length (a++[r]) 0=B1 at *
   generalize gBs d base l.length a 0=B0 at *
   generalize gB d base l.length a.length r=GB at *
   generalize fG d r base a.length 8=H8 at *
   generalize atT d (W (base+1)) 4 (eI a.length l.length)=AT' at *
   generalize fTT d base (prT (eI a.length l.length) (vT 0)) 5=FT' at *
   generalize hTT d base (prT (eI a.length l.length) (vT 1)) 6=HT' at *
   generalize aG 4 (aS d base 7).ts (bM d.s)=J7 at *
   generalize aS d base 7=IT' at *
   generalize bW d base (prT (eI a.length l.length) (vT 1)) 6=PL at *
   generalize prT (eI a.length l.length) (vT 0)=P0 at *
   generalize prT (eI a.length l.length) (vT 1)=P1 at *
   subst e1
   simp[h1,hI1,h2,hw,aV,bA,aT,d3,dlC,hk,gQ,iN,vT]
   refine⟨by kernel_rfl,by omega,?_⟩
   apply aC k1<;>simp[dlL,dlC,rlL,rlC,hk,aT,d3]
   apply aC (g65 a.length l.length)<;>simp
   apply aC k3<;>simp[dlL,dlC,hk,eI]
   apply aC k4<;>simp[dlL,dlC,hk,vT]
   apply aC k5<;>simp[dlL,dlC,hk,vT]
   apply aC k6<;>simp[dlL,dlC,hk]
   apply aC k7<;>simp[dlL,dlC,hk]
   apply aC k8<;>simp
   apply aC k9<;>simp
   apply aC k7<;>simp[dlL,dlC,hk]
   apply aC k10<;>simp[kS,gQ,iN]
   refine⟨by rw[aF,e2];omega,a++[r],q,by simp,by rw[List.append_assoc];exact hqq,?_⟩
   apply aK [((142,0),[(142,0)])]<;>simp[AV.ok,Dc.ok,hw,hB1,stGr,aV,dlC,hk,gQ,iN,vT]
   rw[bG];rfl
end
end
def seT:Tm:=⟨⟨11,0,0,[]⟩,.nil⟩
def zeT:Tm:=⟨⟨0,0,0,[]⟩,.nil⟩
def natD:Dl:=⟨3,0,zeT,zeT,.nil,[],[.nil],[⟨0,seT⟩,⟨0,⟨⟨4,0,0,[]⟩,.cons seT.h .nil (.cons seT.h .nil .nil)⟩⟩]⟩
def DD:Rl:=⟨0,[],.nil⟩
def E8:List Rl:=[DD,⟨0,[⟨true,zeT,.nil,0,.nil⟩],.nil⟩]
def IA:Dc:=.lit (.int .i64 3) (.lit (.int .i64 0) (.lit (.int .i64 0) (.lit (.int .i64 0) (.lit (.int .i64 0) (.nilr 1 30 (.nilr 5 27 (.lit (.int .i64 0) (.lit (.int .i64 0) (.lit (.int .i64 0) (.nilr 1 30 (.nilr 5 27 (.nilr 5 27 (.nilr 2 68 (.row none 1 71 (bI natD.m) (.row none 6 76 (fD natD.c) .nil)))))))))))))))
theorem nat_any:HH 36 [] (.agg IA):=work 10000 (by kernel_rfl)
theorem MY:HH 9 [dlL natD] (.tup (AV.list [aV E8,iA 0])):=work 1000000 (by kernel_rfl)
theorem LA:D3 natD:=⟨by decide,trivial,by decide,by decide,λ q hq=>(by cases hq),by decide,by decide⟩
theorem OZ:zeT.fits:=⟨eQ (by decide) (by decide) (by decide),trivial⟩
theorem KZ:∀r∈E8,R3 r/\iQ r:=λ r hr=>by
 simp only[E8,List.mem_cons,List.not_mem_nil,or_false] at hr
 rcases hr with rfl|rfl
 ·exact⟨⟨by decide,λ a ha=>(by cases ha),trivial⟩,by decide,λ a ha=>(by cases ha)⟩
 ·refine⟨⟨by decide,λ a ha=>?_,trivial⟩,by decide,λ a ha=>?_⟩<;>(simp only[List.mem_cons,List.not_mem_nil,or_false] at ha;subst ha)
  ·exact⟨OZ,trivial,trivial⟩
  ·exact⟨by decide,by decide⟩
theorem natG:G3 natD E8:={ LA with k:=rfl,lc:=rfl,rs:=KZ,ss:=by decide }
theorem natWant:jX natD DD (vT 0) 3=⟨kH 13,.cons (gI 0 1) .nil (.cons (gI 0 1) .nil .nil)⟩:=by rfl
theorem SE:∃A H X Y,xW natD E8 0=⟨0,A,true,⟨⟨5,0,0,[]⟩,.cons H X (.cons ⟨18,0,0,[]⟩ Y .nil)⟩⟩:=⟨_,_,_,_,rfl⟩
theorem JH:HH 8 [] (.v (.bool true)):=by
 have q1:=nat_any
 have q2:=MY
 have q3:=JV natG (base:=0) (by decide)
 obtain⟨A,H,X,Y,e⟩:=SE
 rw[e] at q3
 have q3:=q3.frz
 change HH _ _ (lF _) at q3
 clear e
 have q4:=work (f:=29) (a:=.list [iA 0]) (r:=.agg (.lit (.int .i64 1) (.lit (.int .i64 0) (.lit (.int .i64 0) (.nilr 1 30 (.nilr 5 27 .nil)))))) 10000 (by kernel_rfl)
 have q5:=w_Want (x:=vT 0) LA (KZ DD (by simp[E8])).1 (by decide) 3 (vTf 0 (by decide)) (by decide)
 rw[natWant] at q5
 have q6:=work (f:=30) (a:=.list [iA 13,.c (.row none 5 27 (tDs ty (.cons (gI 0 1) .nil (.cons (gI 0 1) .nil .nil))) .nil)]) (r:=.agg (.lit (.int .i64 13) (.lit (.int .i64 0) (.lit (.int .i64 0) (.nilr 1 30 (.row none 5 27 (tDs ty (.cons (gI 0 1) .nil (.cons (gI 0 1) .nil .nil))) .nil)))))) 10000 (by kernel_rfl)
 have q7:=k16 ⟨kH 13,.cons (gI 0 1) .nil (.cons (gI 0 1) .nil .nil)⟩
 refine ab0 func8 ntmps8 results8 ?_
 simp
 apply aC q1<;>simp[IA]
 apply aC q2<;>simp[IA,dlL,dlC,natD,zeT,cB,bY,aV]
 apply aC q1<;>simp[IA]
 apply aC q3<;>simp[IA,aV,dlL,dlC,natD,zeT,cB,bY,lF,fN]
 refine⟨by kernel_rfl,?_⟩
 apply aC q1<;>simp[IA,E8,DD,bA]
 apply aC q4<;>simp
 apply aC q5<;>simp[IA,dlL,dlC,natD,zeT,cB,bY,rlL,rlC,DD,cA,vT]
 apply aC q6<;>simp
 apply aC q7<;>simp
 exact⟨[],by simp⟩
def fxL(l:List (Nat×Value)):Nat->Option Value:=λ t=>(l.find? λ p=>p.1 == t).map (·.2)
theorem LL{l:List (Nat×Value)}{t:Nat}{x:Value}(h:fxL l t=some x):(t,x)∈l:=by
 unfold fxL at h
 obtain⟨⟨a,b⟩,h1,rfl⟩:=Option.map_eq_some_iff.1 h
 have h2:=List.find?_some h1
 have h3:=List.mem_of_find?_eq_some h1
 have:a=t:=by simpa using h2
 subst this
 exact h3
theorem L3(d:Dl)(h:BigD d):0<=jR d/\jR d<=100000000000000:=by
 have h1:=tF d.t (Nat.le_trans h.t (by decide))
 have h2:=tF d.b (Nat.le_trans h.b (by decide))
 have h3:=tE (Nat.le_trans h.p (by decide))
 have h4:0<=oX d.s/\oX d.s<=301:=by unfold oX;omega
 have h5:=kN BD d.m 0
 have h6:=kN BE d.c 0
 have h7:=tI (B:=10000000000000) (by decide) d.m 0 (SH h.m) (by decide)
 have h8:=tI (B:=10000000000000) (by decide) d.c 0 (UF h.c) (by decide)
 unfold jR
 omega
theorem LU(l:List Rl)(h:jA l<=100000000):0<=gJ fRr l 0/\gJ fRr l 0<=100000000000000:=by
 have h7:=tI (B:=10000000000000) (by decide) l 0 (rr_mem h) (by decide)
 have h6:=kN IY l 0
 omega
theorem big8(d:Dl)(l:List Rl)(base:Int)(h:BigD d)(hl:jA l<=100000000)(hb:300<jR d+gJ fRr l 0∨300<d.lv):HH 3 [dlL d,aV l,iA base] (.v (.bool true)):=by
 have b1:=L3 d h
 have b2:=LU l hl
 have q1:=LR d h
 have q2:=LQ l (Nat.le_trans hl (by decide))
 generalize jR d=c1 at *
 generalize gJ fRr l 0=c2 at *
 refine ab0 func3 ntmps3 results3 ?_
 have w1:IntKind.i64.wrap (c1+c2)=c1+c2:=by rw[IntKind.wrap_i64];omega
 by_cases hc:300<c1+c2
 ·simp[dlL,dlC,aV]
  apply aC q1<;>simp[dlL,dlC]
  apply aC q2<;>simp[fJ,w1,hc]
  apply aC JH<;>simp
  exact⟨[],by simp⟩
 ·have hb':300<d.lv:=by omega
  simp[dlL,dlC,aV]
  apply aC q1<;>simp[dlL,dlC]
  apply aC q2<;>simp[fJ,w1,hc,hb']
  apply aC JH<;>simp
  exact⟨[],by simp⟩
theorem LV{g:Gh}(hI:Inv g){k T:Nat}{d:Dc}(h:g.st.bx k=some (T,d)):RepV (bJ (U g.w) g.w) (.el d.ds) [.pointer (some ⟨g.B k,0,none⟩)]:=by
 obtain⟨xs,hb,hr⟩:=Y7 hI h
 have hlt:g.B k<g.w.heap.size:=bC hb
 refine⟨hr.good,g.B k,0,xs,rfl,hlt,hr.vs.mono (λ b o v _ hv=>hI.F b o v hv) (Nat.le_refl _),λ j u hu=>?_⟩
 show (if g.B k<g.w.heap.size then _ else _)=_
 rw[if_pos hlt,Nat.zero_add]
 exact hb.U j u (by simpa using hu)
theorem vA(d:Dl):(cX d).ds.strip=(dlC d).ds:=by
 simp[cX,dlC,Ds.strip,Ds.app,cW,dP,pT,uY,vB]
theorem E9:(∃a b c d e,cB ty (dJ 1 12)=.row a b c d e)/\(∃v r,tDs ty (cH 1 12)=.lit v r)/\(∃v r,bY (dV 1 12)=.lit v r)/\(∃a b c d e,bI (cQ 12)=.row a b c d e)/\(∃v r,fD (cR 12)=.lit v r) :=
 ⟨⟨_,_,_,_,_,rfl⟩,⟨_,_,rfl⟩,⟨_,_,rfl⟩,⟨_,_,_,_,_,rfl⟩,⟨_,_,rfl⟩⟩
theorem EA(d:Dl)(l:List Rl)(base:Int)(hd:D3 d)(hl:jA l<=300)(hf:∀r∈l,iF r.g/\r.i.fits/\iQ r)(hb:fW base) :
  ∃C:List Cr,HH 12 [dlL d,aV l,iA base] (rQ C)/\HH 14 [dlL d,aV l,iA base] (lF C)/\C.length<=1/\(C.map λ c=>c.t.size+c.b.size+2).sum<=26000000:=by
 by_cases hk:d.k=3/\l.length=d.c.length
 ·have h:G3 d l:=⟨hd,hk.1,hk.2,λ r hr=>by
   obtain⟨k,hk,rfl⟩:=List.getElem_of_mem hr
   have:=sF hk
   obtain⟨f1,f2,f3⟩:=hf _ hr
   exact⟨⟨by omega,f1,f2⟩,f3⟩,hl⟩
  refine⟨[xW d l base],JV h hb,r_Good h hb,Nat.le_refl _,?_⟩
  have h1:=wT h base
  have h2:=bU hd base 0
  have h3:=pY hd base 1
  have h4:=hd.ps
  have h5:=bD 4 (d.p.app (aY d base 0).ts) (gTy d base)
  have h6:=bD 5 (d.p.app (aY d base 0).ts) (wU d l base)
  have h7:(d.p.app (aY d base 0).ts).size<=3300:=by rw[iJ,aN];omega
  have h8:(gTy d base).size<=5600:=h3
  show (aG 4 (d.p.app (aY d base 0).ts) (gTy d base)).size+(aG 5 (d.p.app (aY d base 0).ts) (wU d l base)).size+2+0<=_
  omega
 ·have hn:d.k≠3∨l.length≠d.c.length:=by omega
  exact⟨[],TG d l base hn,CH d l base (by have:=hd.cl;omega) (by have:=uO l;omega) hn,Nat.zero_le _,Nat.zero_le _⟩
abbrev DTy:Nat:=34
def s1D(d:Dl)(r:List Rl)(base:Int):St:=bV [(1,aV r),(2,iA base),(3,.bx 4 0)] [(4,DTy,dlC d)] []
def s3D(d:Dl)(r l:List Rl)(base:Int):St:=bV [(1,aV r),(2,iA base),(3,.bx 4 0),(7,aV l)] [(4,DTy,dlC d)] []
def s4D(d:Dl)(r l:List Rl)(base:Int):St:=bV [(1,aV r),(2,iA base),(3,.bx 4 0),(7,aV l),(9,.bx 10 0),(10,jH r)] [(4,DTy,dlC d),(10,DTy,cX d)] []
def l5D(d:Dl)(r l:List Rl)(base:Int):List (Nat×AV):=[(1,aV r),(2,iA base),(3,.el (dlC d).ds),(7,aV l),(9,.el (cX d).ds),(10,jH r)]
def s5D(d:Dl)(r l:List Rl)(base:Int)(fx:Nat->Option Value):St:=stX (l5D d r l base) [] [] fx
def l6D(d:Dl)(r l:List Rl)(base:Int)(C:List Cr):List (Nat×AV):=l5D d r l base++[(11,.c (.row (some (38,0)) 12 84 (fN C) .nil)),(12,.c (.row (some (42,0)) 12 84 (fN C) .nil))]
def s6D(d:Dl)(r l:List Rl)(base:Int)(C:List Cr)(fx:Nat->Option Value):St:=stX (l6D d r l base C) [] [(38,0),(42,0)] fx
def l7D(d:Dl)(C:List Cr):List (Nat×AV):=[(3,.el (dlC d).ds),(9,.el (cX d).ds),(69,.v (.bool true)),(70,.c (.row (some (38,0)) 12 84 (fN C) .nil)),(71,.c (.row (some (42,0)) 12 84 (fN C) .nil))]
def s7D(d:Dl)(C:List Cr)(fx:Nat->Option Value):St:=stX (l7D d C) [] [(38,0),(42,0)] fx
def s8D(d:Dl):St:=stX [(3,.el (dlC d).ds),(9,.el (cX d).ds),(75,.v (.bool true))] [] [] (λ _=>none)
def s9D:St:=bV [(6,.v (.bool true))] [] []
noncomputable def cT(k:Nat):Code:=match Tryz.f3.body with
 | some c=>GE k c
 | none=>.skip
theorem lawA(d:Dl)(r l:List Rl)(base e0:Int){Q:Exit->Act->World->Prop}{F0:Mem}{w0:World}{a:Act}{w:World}(n1 n2:Int)(hc:n1+n2<=300)(b1:0<=n1/\n1<=100000000000000)(b2:0<=n2/\n2<=100000000000000)(hlv:d.lv<=300)
  (a1:HH 6 [dlL d,iA 300] (iA n1)) (a2:HH 7 [aV r,iA 300] (iA n2)) (q27:HH 9 [dlL d] (.tup (AV.list [aV l,iA e0])))
  (hs:Sat KA F0 w0 83 (jQ [dlL d,aV r,iA base]) a w) (k:∀a' w',Sat KA F0 w0 83 (s3D d r l base) a' w'->(cT 3).wp prog Q a' w'):(cT 0).wp prog Q a w:=by
 refine kX oE lQ mixed (st':=s1D d r base) hs ?_ (λ a0 w0 hs0=>?_)
 ·simp[toK,dlL,dlC,aV]
  apply aK []<;>simp[AV.ok,Dc.ok,dlC,aV]
 clear hs
 refine kX oE lQ mixed (st':=s1D d r base) hs0 ?_ (λ a1' w1 hs1=>?_)
 ·have w1:IntKind.i64.wrap (n1+n2)=n1+n2:=by rw[IntKind.wrap_i64];omega
  have hc':¬300<n1+n2:=by omega
  have hl':¬300<d.lv:=by omega
  simp[s1D,dlC,aV]
  apply aC a1<;>simp[dlL,dlC]
  apply aC a2<;>simp[aV,w1,hc',hl',hc,hlv,toK]
  apply aK []<;>simp[AV.ok,Dc.ok,dlC,aV]
 clear hs0 a1 a2 hc hlv b1 b2
 refine kX oE lQ mixed (st':=s3D d r l base) hs1 ?_ k
 simp[s1D,dlC,aV]
 apply aC q27<;>simp[dlL,dlC,aV,toK]
 apply aK []<;>simp[AV.ok,Dc.ok,dlC,aV]
theorem lawA2(d:Dl)(r l:List Rl)(base:Int){Q:Exit->Act->World->Prop}{F0:Mem}{w0:World}{a:Act}{w:World}(q28:HH 10 [dlL d] (oH d))(q29:HH 11 [aV r] (jH r))
  (hs:Sat KA F0 w0 83 (s3D d r l base) a w) (k:∀a' w',Sat KA F0 w0 83 (s4D d r l base) a' w'->(cT 4).wp prog Q a' w'):(cT 3).wp prog Q a w:=by
 refine kX oE lQ mixed (st':=s4D d r l base) hs ?_ k
 simp[s3D,dlC,aV]
 apply aC q28<;>simp[dlL,dlC]
 apply aC q29<;>simp[aV,jH,oH,cX,Ds.app,toK]
 apply aK []<;>simp[AV.ok,Dc.ok,dlC,aV,jH,cX,Ds.app]
theorem lawB(d:Dl)(r l:List Rl)(base:Int)(C:List Cr)(fx:Nat->Option Value){Q:Exit->Act->World->Prop}{F0:Mem}{w0:World}{a:Act}{w:World}(q30:HH 12 [dlL d,aV l,iA base] (rQ C))(hfd:∀k x,fx k=some x->k=3∨k=9)
  (hs:Sat KA F0 w0 83 (s5D d r l base fx) a w) (k:∀a' w',Sat KA F0 w0 83 (s6D d r l base C fx) a' w'->(cT 5).wp prog Q a' w'):(cT 4).wp prog Q a w:=by
 refine kX oE lQ mixed (st':=s6D d r l base C fx) hs ?_ k
 obtain⟨⟨m1,m2,m3,m4,m5,hL⟩,⟨m6,m7,hT⟩,⟨m8,m9,hP⟩,⟨n1,n2,n3,n4,n5,hM⟩,⟨n6,n7,hC⟩⟩:=E9
 have hst:=vA d
 simp[cX,dlC,Ds.strip,Ds.app,hL,hT,hP,hM,hC] at hst
 simp[s5D,stX,l5D,dlC,aV,cX,Ds.app,hL,hT,hP,hM,hC]
 refine⟨by kernel_rfl,?_⟩
 apply aC q30<;>simp[dlL,dlC,aV,rQ,cX,Ds.app,Ds.strip,hst,hL,hT,hP,hM,hC]
 apply aC q30<;>simp[dlL,dlC,aV,rQ,cX,Ds.app,Ds.strip,hst,hL,hT,hP,hM,hC]
 refine⟨rfl,SN (aK [((38,0),[(38,0)]),((42,0),[(42,0)])] ?_ ?_ ?_) λ k x e=>?_⟩
 ·simp[l6D,l5D,AV.ok,Dc.ok,dlC,aV,cX,jH,Ds.app,hL,hT,hP,hM,hC]
 ·simp
 ·decide
 ·rcases hfd k x e with rfl|rfl<;>simpa[fxE] using e
def eZ:Code->Array Oper
 | .seq (.region _ o _) _=>o
 | _=>#[]
theorem UD{c y:Code}{O:Array Oper}{i N:Nat}{F0:Mem}{w0:World}(hc:c=.seq (.region i O true) y){k m:Nat}(hO:tP O=true)(hk:decide (k+m<=O.size)=true)(hcut:cutOk O (k+m)=true){st st':St}{a:Act}{w:World}{Q:Exit->Act->World->Prop}(hs:Sat KA F0 w0 N st a w)
  (h:lZ prog KA tb N O ((O.toList.drop k).take m) (toK KA N st') st) (hQ:∀a w,Sat KA F0 w0 N st' a w->wpAny prog .any (eZ c) Q ((eZ c).size-(k+m)) (gR (eZ c).size (k+m)) a w):wpAny prog .any (eZ c) Q ((eZ c).size-k) (gR (eZ c).size k) a w:=by
 subst hc
 exact UY oE lQ hO (of_decide_eq_true hk) hcut hs h hQ
theorem vN{c y:Code}{O:Array Oper}{i:Nat}(hc:c=.seq (.region i O true) y){k:Nat}{o:Oper}{a:Act}{w:World}{Q:Exit->Act->World->Prop}(hi:O[k]? = some o)(hr:Region.ready .any O (gR O.size k)=[k])(hw:Region.wanted o (yielded O a.tmps)=true)
  (h:o.wp prog a w (wpAny prog .any (eZ c) Q ((eZ c).size-(k+1)) (gR (eZ c).size (k+1))) Q):wpAny prog .any (eZ c) Q ((eZ c).size-k) (gR (eZ c).size k) a w:=by
 subst hc
 exact UZ hi hr hw h
theorem cut_end{c y:Code}{O:Array Oper}{i N:Nat}{F0:Mem}{w0:World}(hc:c=.seq (.region i O true) y){k:Nat}(hO:tP O=true)(hk:decide (k<=O.size)=true){st:St}{a:Act}{w:World}{K:Exit->St->Prop}{Q:Exit->Act->World->Prop}(hs:Sat KA F0 w0 N st a w)
  (h:lZ prog KA tb N O (O.toList.drop k) K st) (hQ:∀s a w,K .normal s->Sat KA F0 w0 N s a w->Q .normal a w):wpAny prog .any (eZ c) Q ((eZ c).size-k) (gR (eZ c).size k) a w:=by
 subst hc
 exact any_end oE lQ hO (of_decide_eq_true hk) hs h hQ
theorem OB{c y:Code}{O:Array Oper}{i N:Nat}{F0:Mem}{w0:World}(hc:c=.seq (.region i O true) y){st:St}{a:Act}{w:World}{Q:Exit->Act->World->Prop}(hs:Sat KA F0 w0 N st a w)
  (h:∀w',Sat KA F0 w0 N st a w'->wpAny prog .any (eZ c) (Exit.then (y.wp prog Q) Q) ((eZ c).size-0) (gR (eZ c).size 0) a w'):c.wp prog Q a w:=by
 subst hc
 exact wp_seq (GF mixed hs h)
theorem E5{o:Oper}{a:Act}{w w':World}{v:Value}{next:Act->World->Prop}{Q:Exit->Act->World->Prop}(h:(execOp a.eval o).run prog w=.ok (.value v) w')(k:next (a.put o.dst v) w'):o.wp prog a w next Q:=by
 unfold Oper.wp
 rw[h]
 exact k
theorem op_call{o:Oper}{a:Act}{w:World}{next:Act->World->Prop}{Q:Exit->Act->World->Prop}{f:Nat}{xs:Array Operand}{ts:Array TypeId}(ho:o.op=.call { callee:=.value (.func f),args:=xs,argTypes:=ts })(hc:rX prog f){vs:Array Value}(hv:xs.map a.eval=vs)
  {R:Ending->World->Prop} (h:Calls prog f vs w R) (hR:∀e w',R e w'->∃v,e=.returned v/\next (a.put o.dst v) w'):o.wp prog a w next Q:=by
 obtain⟨fn,k1,k2,k3⟩:=hc
 have hrun:(execOp a.eval o).run prog w=.ok (.enter f vs) w:=by
  obtain⟨dst,op,ty,pos,after,guard⟩:=o
  simp only at ho
  subst ho
  have e1:a.eval (.func f)=.func (.func f) #[] #[]:=rfl
  subst hv
  simp[execOp,resolve,e1,Deferred.ofValue,invoke,callFunc,k1,k2,k3]
 unfold Oper.wp
 rw[hrun]
 refine h.mono ?_
 intro e w' hr
 obtain⟨v,rfl,hk⟩:=hR e w' hr
 exact hk
theorem lawC1(d:Dl)(r l:List Rl)(base:Int)(C C2:List Cr)(fx:Nat->Option Value){Q:Exit->Act->World->Prop}{F0:Mem}{w0:World}{a:Act}{w:World}(hs:Sat KA F0 w0 83 (s6D d r l base C fx) a w)
  (q1:HH 14 [dlL d,aV l,iA base] (lF C)) (q2:HH 12 [dlL d,aV r,iA base] (rQ C2)) (q3:HH 14 [dlL d,aV r,iA base] (lF C2)) (s1:HH 13 [lF C,lF C] (.v (.bool true))) (s2:HH 13 [lF C2,lF C2] (.v (.bool true)))
  (q32:HH 15 [oH d,dlL d] (.v (.bool true))) (q33:HH 16 [jH r,aV r] (.v (.bool true))) (hfd:∀k x,fx k=some x->k=3∨k=9)
  (k:∀a' w',Sat KA F0 w0 83 (s7D d C fx) a' w'->wpAny prog .any (eZ (cT 5)) Q ((eZ (cT 5)).size-(0+30)) (gR (eZ (cT 5)).size (0+30)) a' w'):wpAny prog .any (eZ (cT 5)) Q ((eZ (cT 5)).size-0) (gR (eZ (cT 5)).size 0) a w:=by
 obtain⟨⟨m1,m2,m3,m4,m5,hL⟩,⟨m6,m7,hT⟩,⟨m8,m9,hP⟩,⟨n1,n2,n3,n4,n5,hM⟩,⟨n6,n7,hC⟩⟩:=E9
 have hst:=vA d
 simp[cX,dlC,Ds.strip,Ds.app,hL,hT,hP,hM,hC] at hst
 refine UD (c:=cT 5) (m:=30) rfl (by kernel_rfl) (by kernel_rfl) (by kernel_rfl) (st':=s7D d C fx) hs ?_ k
 simp[s6D,stX,l6D,l5D,dlC,aV,cX,jH,Ds.app,hL,hT,hP,hM,hC]
 apply aC q1<;>simp[dlL,dlC,aV,lF]
 apply aC s1<;>simp[lF,cX,Ds.app,hL,hT,hP,hM,hC]
 apply aC q2<;>simp[dlL,dlC,aV,rQ,cX,jH,AM,Ds.app,Ds.strip,hst,hL,hT,hP,hM,hC]
 apply aC q3<;>simp[dlL,dlC,aV,lF]
 apply aC s2<;>simp[lF,cX,Ds.app,hL,hT,hP,hM,hC]
 apply aC q32<;>simp[oH,cX,dlL,dlC,Ds.app,hL,hT,hP,hM,hC]
 apply aC q33<;>simp[jH,aV,toK]
 refine SN (aK [((38,0),[(38,0)]),((42,0),[(42,0)])] ?_ ?_ ?_) λ k x e=>?_
 ·simp[l7D,AV.ok,Dc.ok,dlC,cX,Ds.app,hL,hT,hP,hM,hC]
 ·simp
 ·decide
 ·rcases hfd k x e with rfl|rfl<;>simpa[fxE] using e
theorem info44:∃ie,prog.info? 44=some ie/\ie.zero=some (.slice none 0 0)/\ie.size=1:=by
 have h:(prog.info? 44).map (λ i=>(i.zero,i.size))=some (some (.slice none 0 0),1):=by kernel_rfl
 obtain⟨ie,h1,h2⟩:=Option.map_eq_some_iff.1 h
 exact⟨ie,h1,congrArg Prod.fst h2,congrArg Prod.snd h2⟩
theorem map1{α β:Type}(f:α->β)(x:α):(#[x]:Array α).map f=#[f x]:=by simp
theorem map2{α β:Type}(f:α->β)(x y:α):(#[x,y]:Array α).map f=#[f x,f y]:=by simp
theorem RW{o:Oper}{a:Act}{w w':World}{v:Value}{next:Act->World->Prop}{Q:Exit->Act->World->Prop}{t n:Nat}{ps:Array (Nat×Operand)}{ps':Array (Nat×Value)}(ho:o.op=.buildSlice t n ps)(hp:(ps.map λ (i,x)=>(i,a.eval x))=ps')
  (hr:(Instr.buildSlice t n ps').run prog w=.ok v w') (k:next (a.put o.dst v) w'):o.wp prog a w next Q:=by
 subst hp
 obtain⟨dst,op,ty,pos,after,guard⟩:=o
 simp only at ho
 subst ho
 exact E5 (oQ hr) k
theorem fill2(p:Option Addr)(n c:Nat)(p':Option Addr)(n' c':Nat):Instr.fill (λ i=>some (i*1,1)) ((Array.range (2*1)).map ((Value.slice none 0 0).cells[· % (Value.slice none 0 0).cells.size]!)) [(0,.slice p n c),(1,.slice p' n' c')]=some #[.slice p n c,.slice p' n' c']:=by kernel_rfl
theorem lawC2(W0:World)(hG:KA W0)(d:Dl)(C:List Cr)(fx:Nat->Option Value)(v3 v9:Value){Q:Exit->Act->World->Prop}{a:Act}{w:World}(hs:Sat KA (U W0) W0 83 (s7D d C fx) a w)(hsz:(C.map λ c=>c.t.size+c.b.size+2).sum<=26000000)(f3:fx 3=some v3)(f9:fx 9=some v9)
  (e3:RepV (bJ (U W0) W0) (.el (dlC d).ds) [v3]) (e9:RepV (bJ (U W0) W0) (.el (cX d).ds) [v9])
  (k:∀a' w',Below W0.heap.size W0 w'->Sat KA (U w') w' 83 (s8D d) a' w'->wpAny prog .any (eZ (cT 5)) Q ((eZ (cT 5)).size-34) (gR (eZ (cT 5)).size 34) a' w'):wpAny prog .any (eZ (cT 5)) Q ((eZ (cT 5)).size-30) (gR (eZ (cT 5)).size 30) a w:=by
 obtain⟨g6,rfl,hI6,hbx6,hτ6,hbase6,hF6,hsl6⟩:=hs.gh
 have p13:RepC g6 (.row (some (38,0)) 12 84 (fN C) .nil) [a.tmps.getD 70 undef]:=hsl6 70 (by decide)
 have p14:RepC g6 (.row (some (42,0)) 12 84 (fN C) .nil) [a.tmps.getD 71 undef]:=hsl6 71 (by decide)
 have u69:a.tmps.getD 69 undef=.bool true:=by
  have:RepV g6 (.v (.bool true)) [a.tmps.getD 69 undef]:=hsl6 69 (by decide)
  simpa[RepV] using this
 have hall:=RepC.app p14 p13
 obtain⟨S,hown,hnd,-⟩:=Z8 hI6 hall (by simp only[Dc.app,Dc.own,hτ6];simp[s7D,stX]) (by simp only[Dc.app,Dc.toks];decide)
 rw[hbase6] at hown
 have hown':Own g6.w W0.heap.size (BK [C,C]) [a.tmps.getD 70 undef,a.tmps.getD 71 undef] S:=hown
 clear hown hall
 obtain⟨⟨w13,n13,c13,v13⟩,⟨w14,n14,c14,v14⟩⟩:(∃p n c,a.tmps.getD 70 undef=Value.slice p n c)/\(∃p n c,a.tmps.getD 71 undef=Value.slice p n c):=by
  refine⟨?_,?_⟩
  ·obtain⟨-,_,_,e,⟨p,n,c,e2,-⟩,-⟩:=p13;exact⟨p,n,c,(List.cons.inj e).1.trans e2⟩
  ·obtain⟨-,_,_,e,⟨p,n,c,e2,-⟩,-⟩:=p14;exact⟨p,n,c,(List.cons.inj e).1.trans e2⟩
 have u3:a.tmps.getD 3 undef=v3:=hs.fix 3 _ f3
 have u9:a.tmps.getD 9 undef=v9:=hs.fix 9 _ f9
 have bB6:=hs.below
 have hsz6:=hs.size
 have hdf6:=hs.defers
 generalize g6.w=w8 at *
 obtain⟨tmps,defers⟩:=a
 obtain rfl:defers=[]:=hdf6
 simp only at *
 rw[v13,v14] at hown'
 clear hs hsl6 hbx6 hτ6 hF6 hI6 p13 p14 hbase6 f3 f9
 have e1:tmps=#[tmps.getD 0 undef,tmps.getD 1 undef,tmps.getD 2 undef,tmps.getD 3 undef,tmps.getD 4 undef,tmps.getD 5 undef,tmps.getD 6 undef,tmps.getD 7 undef,tmps.getD 8 undef,tmps.getD 9 undef,tmps.getD 10 undef,tmps.getD 11 undef,tmps.getD 12 undef,tmps.getD 13 undef,tmps.getD 14 undef,tmps.getD 15 undef,tmps.getD 16 undef,tmps.getD 17 undef,tmps.getD 18 undef,tmps.getD 19 undef,tmps.getD 20 undef,tmps.getD 21 undef,tmps.getD 22 undef,tmps.getD 23 undef,tmps.getD 24 undef,tmps.getD 25 undef,tmps.getD 26 undef,tmps.getD 27 undef,tmps.getD 28 undef,tmps.getD 29 undef,tmps.getD 30 undef,tmps.getD 31 undef,tmps.getD 32 undef,tmps.getD 33 undef,tmps.getD 34 undef,tmps.getD 35 undef,tmps.getD 36 undef,tmps.getD 37 undef,tmps.getD 38 undef,tmps.getD 39 undef,tmps.getD 40 undef,tmps.getD 41 undef,tmps.getD 42 undef,tmps.getD 43 undef,tmps.getD 44 undef,tmps.getD 45 undef,tmps.getD 46 undef,tmps.getD 47 undef,tmps.getD 48 undef,tmps.getD 49 undef,tmps.getD 50 undef,tmps.getD 51 undef,tmps.getD 52 undef,tmps.getD 53 undef,tmps.getD 54 undef,tmps.getD 55 undef,tmps.getD 56 undef,tmps.getD 57 undef,tmps.getD 58 undef,tmps.getD 59 undef,tmps.getD 60 undef,tmps.getD 61 undef,tmps.getD 62 undef,tmps.getD 63 undef,tmps.getD 64 undef,tmps.getD 65 undef,tmps.getD 66 undef,tmps.getD 67 undef,tmps.getD 68 undef,tmps.getD 69 undef,tmps.getD 70 undef,tmps.getD 71 undef,tmps.getD 72 undef,tmps.getD 73 undef,tmps.getD 74 undef,tmps.getD 75 undef,tmps.getD 76 undef,tmps.getD 77 undef,tmps.getD 78 undef,tmps.getD 79 undef,tmps.getD 80 undef,tmps.getD 81 undef,tmps.getD 82 undef]:=LW hsz6
 clear hsz6
 generalize tmps.getD 0 undef=x0 at *
 generalize tmps.getD 1 undef=x1 at *
 generalize tmps.getD 2 undef=x2 at *
 generalize tmps.getD 3 undef=x3 at *
 generalize tmps.getD 4 undef=x4 at *
 generalize tmps.getD 5 undef=x5 at *
 generalize tmps.getD 6 undef=x6 at *
 generalize tmps.getD 7 undef=x7 at *
 generalize tmps.getD 8 undef=x8 at *
 generalize tmps.getD 9 undef=x9 at *
 generalize tmps.getD 10 undef=x10 at *
 generalize tmps.getD 11 undef=x11 at *
 generalize tmps.getD 12 undef=x12 at *
 generalize tmps.getD 13 undef=x13 at *
 generalize tmps.getD 14 undef=x14 at *
 generalize tmps.getD 15 undef=x15 at *
 generalize tmps.getD 16 undef=x16 at *
 generalize tmps.getD 17 undef=x17 at *
 generalize tmps.getD 18 undef=x18 at *
 generalize tmps.getD 19 undef=x19 at *
 generalize tmps.getD 20 undef=x20 at *
 generalize tmps.getD 21 undef=x21 at *
 generalize tmps.getD 22 undef=x22 at *
 generalize tmps.getD 23 undef=x23 at *
 generalize tmps.getD 24 undef=x24 at *
 generalize tmps.getD 25 undef=x25 at *
 generalize tmps.getD 26 undef=x26 at *
 generalize tmps.getD 27 undef=x27 at *
 generalize tmps.getD 28 undef=x28 at *
 generalize tmps.getD 29 undef=x29 at *
 generalize tmps.getD 30 undef=x30 at *
 generalize tmps.getD 31 undef=x31 at *
 generalize tmps.getD 32 undef=x32 at *
 generalize tmps.getD 33 undef=x33 at *
 generalize tmps.getD 34 undef=x34 at *
 generalize tmps.getD 35 undef=x35 at *
 generalize tmps.getD 36 undef=x36 at *
 generalize tmps.getD 37 undef=x37 at *
 generalize tmps.getD 38 undef=x38 at *
 generalize tmps.getD 39 undef=x39 at *
 generalize tmps.getD 40 undef=x40 at *
 generalize tmps.getD 41 undef=x41 at *
 generalize tmps.getD 42 undef=x42 at *
 generalize tmps.getD 43 undef=x43 at *
 generalize tmps.getD 44 undef=x44 at *
 generalize tmps.getD 45 undef=x45 at *
 generalize tmps.getD 46 undef=x46 at *
 generalize tmps.getD 47 undef=x47 at *
 generalize tmps.getD 48 undef=x48 at *
 generalize tmps.getD 49 undef=x49 at *
 generalize tmps.getD 50 undef=x50 at *
 generalize tmps.getD 51 undef=x51 at *
 generalize tmps.getD 52 undef=x52 at *
 generalize tmps.getD 53 undef=x53 at *
 generalize tmps.getD 54 undef=x54 at *
 generalize tmps.getD 55 undef=x55 at *
 generalize tmps.getD 56 undef=x56 at *
 generalize tmps.getD 57 undef=x57 at *
 generalize tmps.getD 58 undef=x58 at *
 generalize tmps.getD 59 undef=x59 at *
 generalize tmps.getD 60 undef=x60 at *
 generalize tmps.getD 61 undef=x61 at *
 generalize tmps.getD 62 undef=x62 at *
 generalize tmps.getD 63 undef=x63 at *
 generalize tmps.getD 64 undef=x64 at *
 generalize tmps.getD 65 undef=x65 at *
 generalize tmps.getD 66 undef=x66 at *
 generalize tmps.getD 67 undef=x67 at *
 generalize tmps.getD 68 undef=x68 at *
 generalize tmps.getD 69 undef=x69 at *
 generalize tmps.getD 70 undef=x70 at *
 generalize tmps.getD 71 undef=x71 at *
 generalize tmps.getD 72 undef=x72 at *
 generalize tmps.getD 73 undef=x73 at *
 generalize tmps.getD 74 undef=x74 at *
 generalize tmps.getD 75 undef=x75 at *
 generalize tmps.getD 76 undef=x76 at *
 generalize tmps.getD 77 undef=x77 at *
 generalize tmps.getD 78 undef=x78 at *
 generalize tmps.getD 79 undef=x79 at *
 generalize tmps.getD 80 undef=x80 at *
 generalize tmps.getD 81 undef=x81 at *
 generalize tmps.getD 82 undef=x82 at *
 subst e1
 subst u3 u9 u69 v13 v14
 obtain⟨u,hu⟩:∃u,w8.alloc (.cells #[.slice w13 n13 c13,.slice w14 n14 c14] 44)=u:=⟨_,rfl⟩
 have hb4:Below w8.heap.size w8 u:=by rw[<-hu];exact aA _ _
 have hg4:u.heap[w8.heap.size]? = some (Obj.cells #[.slice w13 n13 c13,.slice w14 n14 c14] 44 (0,0)):=by rw[<-hu];exact heap_alloc_new _ _
 have hA:=hown'.below hb4
 have HAP:=Q0 [C,C] [.slice w13 n13 c13,.slice w14 n14 c14] S W0.heap.size (some ⟨w8.heap.size,0,none⟩) 2 u (Nat.le_refl _) (by decide)
  (λ _=>⟨_,0,rfl,bC hg4,λ j v hv=>by
   rw[Nat.zero_add]
   refine nJ ?_ (by simp[World.frozen?,hg4])
   simp only[World.cell?,hg4]
   simpa using hv⟩) hA hnd (by
   simp only[nU,yD,List.map_cons,List.map_nil,List.sum_cons,List.sum_nil]
   omega)
 have HB4:=aB bB6 hb4
 have HGE:=λ x hx=>(hown'.mem x hx).1
 obtain⟨ie,i1,i2,i3⟩:=info44
 refine vN (c:=cT 5) rfl (k:=30) rfl (by kernel_rfl) rfl ?_
 have hf:=fill2 w13 n13 c13 w14 n14 c14
 refine RW rfl ((map2 _ _ _).trans rfl) (ps':=#[(0,.slice w13 n13 c13),(1,.slice w14 n14 c14)]) (v:=.slice (some ⟨w8.heap.size,0,none⟩) 2 2) (w':=u) ?_ ?_
 ·rw[<-hu]
  exact run_buildSlice (P:=prog) w8 50 44 2 #[(0,.slice w13 n13 c13),(1,.slice w14 n14 c14)] _ ie _ (by kernel_rfl) i1 i2 (by rw[i3];decide) (by rw[i3];decide) (by rw[i3];exact hf)
 refine vN (c:=cT 5) rfl (k:=31) rfl (by kernel_rfl) rfl ?_
 have HAP':Calls prog 17 #[.slice (some ⟨w8.heap.size,0,none⟩) 2 2] u _:=HAP
 refine op_call (vs:=#[.slice (some ⟨w8.heap.size,0,none⟩) 2 2]) rfl (bT func17 (by decide) rfl) ((map1 _ _).trans rfl) HAP' ?_
 rintro e w9 ⟨rfl,hb⟩
 refine⟨_,rfl,?_⟩
 have HB9:Below W0.heap.size W0 w9:=⟨hb.os.trans HB4.os,hb.tape.trans HB4.tape,hb.output.trans HB4.output,Nat.le_trans HB4.size hb.size,λ z hz=>(hb.block z (Nat.lt_of_lt_of_le hz HB4.size) (λ h=>by have:=HGE z h;omega)).trans (HB4.block z hz)⟩
 refine vN (c:=cT 5) rfl (k:=32) rfl (by kernel_rfl) rfl ?_
 refine E5 (v:=.bool true) (w':=w9) rfl ?_
 refine vN (c:=cT 5) rfl (k:=33) rfl (by kernel_rfl) rfl ?_
 refine E5 (v:=.bool true) (w':=w9) rfl ?_
 have up:∀ {x:Ds} {v:Value},RepV (bJ (U W0) W0) (.el x) [v]->RepV (bJ (U w9) w9) (.el x) [v]:=λ {x v} h=>by
  obtain⟨-,b,o,ys,e,-⟩:=id h
  cases e
  exact Knows.on HB9 h
 refine k _ w9 HB9 (GG (lQ _ _ HB9 hG) (λ t=>?_) rfl rfl rfl rfl (λ t x e=>by cases e) λ t ht=>?_)
 ·show (pG _ t).ok _ _
  unfold pG
  split
  ·rename_i q hq
   have:=(kM hq).1
   simp at this
   rcases this with rfl|rfl|rfl<;>trivial
  ·trivial
 ·show RepV _ (pG _ t) _
  unfold pG
  split
  ·rename_i q hq
   obtain⟨h4,rfl⟩:=kM hq
   simp only[List.mem_cons,List.not_mem_nil,or_false] at h4
   rcases h4 with rfl|rfl|rfl
   ·exact up e3
   ·exact up e9
   ·rfl
  ·trivial
theorem lawC3(d:Dl){Q:Exit->Act->World->Prop}{w0:World}{a:Act}{w:World}(hs:Sat KA (U w0) w0 83 (s8D d) a w)(q32:HH 15 [oH d,dlL d] (.v (.bool true)))(hQ:∀a w,Sat KA (U w0) w0 83 s9D a w->Q .normal a w) :
  wpAny prog .any (eZ (cT 5)) Q ((eZ (cT 5)).size-34) (gR (eZ (cT 5)).size 34) a w:=by
 obtain⟨⟨m1,m2,m3,m4,m5,hL⟩,⟨m6,m7,hT⟩,⟨m8,m9,hP⟩,⟨n1,n2,n3,n4,n5,hM⟩,⟨n6,n7,hC⟩⟩:=E9
 refine cut_end (c:=cT 5) rfl (by kernel_rfl) (by kernel_rfl) (K:=toK KA 83 s9D) hs ?_ (λ s a w hK hs'=>hQ a w (hK.2 _ _ _ _ hs'))
 simp[s8D,stX,dlC,cX,Ds.app,hL,hT,hP,hM,hC]
 apply aC q32<;>simp[oH,cX,dlL,dlC,Ds.app,hL,hT,hP,hM,hC]
 apply aC JH<;>simp[toK]
 apply aK []<;>simp[AV.ok,Dc.ok]
theorem small8(d:Dl)(r:List Rl)(base:Int)(vd vr:Value)(w:World)(hG:KA w)(rd:RepV (bJ (U w) w) (dlL d) [vd])(rr:RepV (bJ (U w) w) (aV r) [vr])(pf:d.p.fits)(sf:AG d.s)(cf:∀c∈d.c,c.t.fits/\mW c.m)(rf:∀a∈r,iF a.g/\a.i.fits/\iQ a)(hbw:fW base)
  (hB:BigD d) (hR:jA r<=100000000) (hc:jR d+gJ fRr r 0<=300) (hlv:d.lv<=300) :
  Calls prog 3 #[vd,vr,.int .i64 base] w λ e w'=>e=.returned (.bool true)/\Below w.heap.size w w':=by
 have hz:=BI hc
 have b1:=L3 d hB
 have b2:=LU r hR
 have hml:=qP d.m
 have hcl:=oN d.c
 obtain⟨l,e0,q27,hok⟩:=rulesT d cf (by omega) (by omega)
 have hos:=hok.s
 have hd:D3 d:=⟨hlv,pf,by omega,by omega,sf,by omega,by omega⟩
 obtain⟨C,g1,g2,g3,g4⟩:=EA d l base hd (by omega) (λ a ha=>by obtain⟨h1,h2,-,h3⟩:=hok.gf a ha;exact⟨h1,h2,h3⟩) hbw
 obtain⟨C2,k1,k2,k3,-⟩:=EA d r base hd (by omega) rf hbw
 have s1:=k96 C (by omega)
 have s2:=k96 C2 (by omega)
 have a1:=LR d hB
 have a2:=LQ r (Nat.le_trans hR (by decide))
 have q28:=IM d hB
 have q29:=NG r hR
 have q32:=IN d hB
 have q33:=NM r hR
 change HH 16 [jH r,aV r] _ at q33
 change HH 11 [aV r] _ at q29
 change HH 7 [aV r,iA 300] _ at a2
 clear hd hok hB hR pf sf rf cf hz hml hcl hos g3 k3
 generalize jR d=n1 at *
 generalize gJ fRr r 0=n2 at *
 have hs:=R8 (N:=83) (l:=[dlL d,aV r,iA base]) hG (vs:=[vd,vr,.int .i64 base]) ⟨_,_,rfl,rd,_,_,rfl,rr,_,_,rfl,TD base,rfl⟩ (by simp) (λ a ha=>AV.bare_ok (by simp at ha;rcases ha with rfl|rfl|rfl<;>rfl) _ _)
 refine calls_of_wp func3 rfl ?_
 refine lawA d r l base e0 n1 n2 hc b1 b2 hlv a1 a2 q27 hs λ a2' w2 hs2=>?_
 refine lawA2 d r l base q28 q29 hs2 λ a3 w3 hs3=>?_
 clear hs hs2 a1 a2 hc hlv b1 b2 q27 q28 q29
 obtain⟨g,rfl,hI,hbx,hτ,hbase,hF0,hsl⟩:=hs3.gh
 have hGw:KA g.w:=lQ _ _ hs3.below hG
 have bB:=hs3.below
 have e3:=LV hI (k:=4) (T:=DTy) (d:=dlC d) (by rw[hbx];rfl)
 have e9:=LV hI (k:=10) (T:=DTy) (d:=cX d) (by rw[hbx];rfl)
 have s1':RepV (bJ (U g.w) g.w) (aV r) [a3.tmps.getD 1 undef]:=RepV.mv (g:=g) (g':=bJ (U g.w) g.w) hI.F (Nat.le_refl _) (.inl rfl) rfl (hsl 1 (by decide))
 have s7:RepV (bJ (U g.w) g.w) (aV l) [a3.tmps.getD 7 undef]:=RepV.mv (g:=g) (g':=bJ (U g.w) g.w) hI.F (Nat.le_refl _) (.inl rfl) rfl (hsl 7 (by decide))
 have s10:RepV (bJ (U g.w) g.w) (jH r) [a3.tmps.getD 10 undef]:=RepV.mv (g:=g) (g':=bJ (U g.w) g.w) hI.F (Nat.le_refl _) (.inl rfl) rfl (hsl 10 (by decide))
 have t2:a3.tmps.getD 2 undef=.int .i64 base:=qG (hsl 2 (by decide))
 have t3:a3.tmps.getD 3 undef=.pointer (some ⟨g.B 4,0,none⟩):=by have:=(hsl 3 (by decide)).1;simpa using this
 have t9:a3.tmps.getD 9 undef=.pointer (some ⟨g.B 10,0,none⟩):=by have:=(hsl 9 (by decide)).1;simpa using this
 have hsz3:=hs3.size
 have hdf:=hs3.defers
 rw[<-t3] at e3
 rw[<-t9] at e9
 obtain⟨fx,hfx⟩:∃fx,fxL [(3,a3.tmps.getD 3 undef),(9,a3.tmps.getD 9 undef)]=fx:=⟨_,rfl⟩
 have hs4:Sat KA (U g.w) g.w 83 (s5D d r l base fx) a3 g.w:=by
  rw[<-hfx]
  refine GG hGw (λ k=>?_) rfl rfl hsz3 hdf (λ k x e=>?_) λ k hk=>?_
  ·show (pG (l5D d r l base) k).ok _ _
   unfold pG
   split
   ·rename_i q hq
    have:=(kM hq).1
    simp[l5D] at this
    rcases this with rfl|rfl|rfl|rfl|rfl|rfl<;>trivial
   ·trivial
  ·have:=LL e
   simp only[List.mem_cons,Prod.mk.injEq,List.not_mem_nil,or_false] at this
   rcases this with ⟨rfl,rfl⟩|⟨rfl,rfl⟩<;>rfl
  ·show RepV _ (pG (l5D d r l base) k) _
   unfold pG
   split
   ·rename_i q hq
    obtain⟨h4,rfl⟩:=kM hq
    simp only[l5D,List.mem_cons,List.not_mem_nil,or_false] at h4
    rcases h4 with rfl|rfl|rfl|rfl|rfl|rfl
    ·exact s1'
    ·show RepV _ (iA base) [a3.tmps.getD 2 undef];rw[t2];exact TD base
    ·exact e3
    ·exact s7
    ·exact e9
    ·exact s10
   ·trivial
 have hfd:∀k x,fx k=some x->k=3∨k=9:=λ k x e=>by
  rw[<-hfx] at e
  have:=LL e
  simp only[List.mem_cons,Prod.mk.injEq,List.not_mem_nil,or_false] at this
  rcases this with ⟨rfl,-⟩|⟨rfl,-⟩<;>simp
 have f3:fx 3=some (a3.tmps.getD 3 undef):=by rw[<-hfx];rfl
 have f9:fx 9=some (a3.tmps.getD 9 undef):=by rw[<-hfx];rfl
 clear hs3 s1' s7 s10 t2 t3 t9 hsl hI hbx hτ hbase hF0 hsz3 hdf hfx
 refine lawB d r l base C fx g1 hfd hs4 λ a6 w6 hs6=>?_
 clear hs4
 refine OB (c:=cT 5) rfl hs6 λ w6' hs6'=>?_
 refine lawC1 d r l base C C2 fx hs6' g2 k1 k2 s1 s2 q32 q33 hfd λ a7 w7 hs7=>?_
 refine lawC2 g.w hGw d C fx _ _ hs7 g4 f3 f9 e3 e9 λ a8 w8 hb8 hs8=>?_
 refine lawC3 d hs8 q32 λ a9 w9 hs9=>?_
 have hb9:=hs9.below
 have hv:a9.tmps.getD 6 undef=.bool true:=by
  obtain⟨g9,rfl,-,-,-,-,-,hsl9⟩:=hs9.gh
  have:RepV g9 (.v (.bool true)) [a9.tmps.getD 6 undef]:=hsl9 6 (by decide)
  simpa[RepV] using this
 have hd9:=hs9.defers
 have hn9:=hs9.size
 obtain⟨tmps,defers⟩:=a9
 obtain rfl:defers=[]:=hd9
 simp only at hv hn9
 refine wp_ret ?_
 have hres:(results Tryz.f3 tmps).run prog w9=.ok (.bool true) w9:=by
  have h6:tmps[6]? = some (.bool true):=by
   have hlt:6<tmps.size:=by omega
   rw[Array.getElem?_eq_getElem hlt]
   have:tmps.getD 6 undef=tmps[6]:=by simp[Array.getD,hlt]
   rw[<-this,hv]
  simp[results,results3,h6,hv]
 simp[bodyPost,hres]
 exact aB (aB bB hb8) hb9
theorem SQ(d:Dl)(r:List Rl)(base:Int)(vd vr:Value)(w:World)(hG:KA w)(rd:RepV (bJ (U w) w) (dlL d) [vd])(rr:RepV (bJ (U w) w) (aV r) [vr])(pf:d.p.fits)(sf:AG d.s)(cf:∀c∈d.c,c.t.fits/\mW c.m)(rf:∀a∈r,iF a.g/\a.i.fits/\iQ a)(hbw:fW base)
  (hB:BigD d) (hR:jA r<=100000000) :
  Calls prog 3 #[vd,vr,.int .i64 base] w λ e w'=>e=.returned (.bool true)/\Below w.heap.size w w':=by
 by_cases hb:300<jR d+gJ fRr r 0∨300<d.lv
 ·exact (big8 d r base hB hR hb).val (vs:=[vd,vr,.int .i64 base]) hG ⟨_,_,rfl,rd,_,_,rfl,rr,_,_,rfl,TD base,rfl⟩
 ·exact small8 d r base vd vr w hG rd rr pf sf cf rf hbw hB hR (by omega) (by omega)
end
section
open Go.ChangeShapes Go.WideShapes Go.ChangeAt Go.RowKit
namespace GoodTellsRow
theorem SS(os:Os):laidMet prog Rows.goodTellsUptoRow.laid ((wP os).forCall (λ _ _=>0) ⟨#[],#[noDl,.slice none 0 0,.int .i64 0],[]⟩).memory :=
 laidMet_of_run' 16 (by kernel_rfl) (by kernel_rfl)
theorem reads(os:Os){H:Type}(enc:TypeId×Value->H):∃places,DataW.whole enc prog ((wP os).forCall (λ _ _=>0) ⟨#[],#[noDl,.slice none 0 0,.int .i64 0],[]⟩).memory Tryz.f3.params.toList Rows.goodTellsSpec.vars false #[noDl,Value.slice none 0 0,.int .i64 0].toList 8=some ([noDlD,.nil,.lit (.int .i64 0)],[],places) :=
 ⟨[],by kernel_rfl⟩
theorem UH(H:Type)(enc:TypeId×Value->H)(W:World)(base:Nat)(args:Array Value)(ds gs:List (DataW H))(before:List MemPlace)
  (hval:∀(j:Nat) t v,Tryz.f3.params[j]? = some t->args[j]? = some v->Value.okWide prog W .any base t v)
  (hW:DataW.Whole enc prog Tryz.f3.params.toList Rows.goodTellsSpec.vars false W args.toList ds gs before)
  (hc:Rows.uptoSmall H (ds++gs)=true) (hL:laidMetH prog Rows.goodTellsUptoRow.laid W) :
  Calls prog 3 args W λ e W'=>∃v,e=.returned v/\Rows.goodTellsSpec.post enc prog Tryz.f3 false true false false W args v W':=by
 have hW':=hW
 obtain⟨p,q,hA0,hV,rfl,hfz,hnd⟩:=hW
 have hA:DataW.TrodAll enc prog W 0 (λ _=>true) true Tryz.f3.params.toList args.toList ds p:=hA0
 rw[params3] at hA hval
 obtain⟨v0,vs0,d0,ds0,p0,q0,hargs,rfl,rfl,h0,r0⟩:=trodAll_cons hA
 obtain⟨v1,vs1,d1,ds1,p1,q1,rfl,rfl,rfl,h1,r0⟩:=trodAll_cons r0
 obtain⟨v2,vs2,d2,ds2,p2,q2,rfl,rfl,rfl,h2,r0⟩:=trodAll_cons r0
 obtain⟨rfl,rfl,rfl⟩:=trodAll_nil r0
 obtain rfl:args=#[v0,v1,v2]:=by cases args;simp_all
 obtain⟨rfl,rfl⟩:=trodVars_none hV
 clear hA0 hA
 simp only[List.append_nil] at hW' hfz hc
 have hfree:kI W (p0++(p1++p2)):=λ b off hp=>hfz b off hp
 obtain⟨z0,hfree⟩:=iY hfree
 obtain⟨z1,z2⟩:=iY hfree
 obtain⟨d,f1,s1,g1⟩:=in_decl (hval 0 34 v0 rfl rfl) h0 z0
 obtain⟨l,f2,s2,g2⟩:=TC (hval 1 35 v1 rfl rfl) h1 z1
 obtain⟨base',rfl,rfl,rfl,hi⟩:=Go.ChangeShapes.open_int (H:=H) underlying3 (hval 2 3 v2 rfl rfl) h2
 have hbulk:Rows.uptoBulkAll [d0,d1,.lit (.int .i64 base')]<=1048576:=by simpa[Rows.uptoSmall] using hc
 simp only[Rows.uptoBulkAll] at hbulk
 have hrr:RepV (bJ (U W) W) (aV l) [v1]:=⟨Y8 _,v1,[],rfl,g2,Gh.Ow_none,rfl⟩
 have hfw:fW base':=wf_in hi
 refine (SQ d l base' v0 v1 W (ka_of hL) g1 hrr f1.p f1.s f1.c (λ a ha=>⟨(f2 a ha).1.1,(f2 a ha).1.2,(f2 a ha).2⟩) hfw ⟨by omega,by omega,by omega,by omega,by omega,by omega⟩ (by omega)).mono λ e W' ⟨he,hb⟩=>?_
 subst he
 have hlt:∀x∈p0++(p1++[]),x.block<W.heap.size:=λ x hx=>hW'.lt x hx
 exact⟨_,rfl,SP hW' hb (λ _ _ _=>trodAll_cons_mk (shut_bool underlying4 _) trodAll_mk0)
  (λ sp hsp=>by
   have k0:=MG (sp:=sp) h0 hb (λ x hx=>hlt x (by simp[hx])) (λ x hx=>hsp x (by simp[hx]))
   have k1:=FR (sp:=sp) h1 hb (λ x hx=>hlt x (by simp[hx])) (λ x hx=>hsp x (by simp[hx]))
   have k2:DataW.Trod enc prog W' 0 sp true 3 (.int .i64 base') (.lit (.int .i64 base')) []:=shut_int underlying3 hi
   have:=trodAll_cons_mk k0 (trodAll_cons_mk k1 (trodAll_cons_mk k2 (trodAll_mk0 (enc:=enc) (P:=prog) (w:=W'))))
   rw[params3]
   exact this) (λ _=>rfl)
  (ok_one (by kernel_rfl) rfl (okWide_bool_mk underlying4 _))⟩
theorem lifted(os:Os)(started:os.Started)(H:Type)(enc:TypeId×Value->H)(F:Stop.Interp) :
  ReturnsInHanded {} Tryz.checked os 3 .any ((Rows.OpenSpec.upto Rows.goodTellsSpec).preRow enc prog Tryz.f3 Rows.goodTellsUptoRow.domain false Rows.goodTellsUptoRow.laid) (((Rows.OpenSpec.upto Rows.goodTellsSpec).at F).post enc prog Tryz.f3 false true false false):=by
 obtain⟨places,hx⟩:=reads os enc
 refine returnsInHanded_of_row (C:=Tryz.checked) (s:=Rows.OpenSpec.upto Rows.goodTellsSpec) RR started (by kernel_rfl) func3
  (witness_row_at (enc:=enc) (C:=Tryz.checked) false (wP os) #[noDl,.slice none 0 0,.int .i64 0] rfl (by kernel_rfl) (by kernel_rfl) (by kernel_rfl)
   (OpenSpec.preRow_of_cond 8 hx (by kernel_rfl) (λ k hk=>by cases hk;kernel_rfl) (by kernel_rfl) (SS os))) ?_
 intro W base args ds gs before hval hW _ hcond _ hL _ _
 exact UH H enc W base args ds gs before hval hW (hcond _ rfl) hL
end GoodTellsRow
end
end Go.Proofs.YtlfnfiihfjggoaaGreatDoor
