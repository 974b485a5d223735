/-
  Long functions walked piece by piece, states told anew between, and what follows. Conditions: as each lemma states them.
-/
import Derived.Test.YtkcmapimcgppmaaGreatDoorT04
import Derived.Test.YtkcmapimcgppmaaGreatDoorT05
import Derived.Great.BuildSlice
import Derived.Test.YtkcmapimcgppmaaGreatDoorT01
import Derived.Test.YtkcmapimcgppmaaGreatDoorT03
import Derived.Test.YtkcmapimcgppmaaGreatDoorT02
set_option linter.all false
set_option linter.unusedVariables false
set_option linter.unusedSimpArgs false
set_option linter.unnecessarySimpa false
set_option maxHeartbeats 8000000
set_option maxRecDepth 100000
namespace Go.Proofs.YtkcmapimcgppmaaGreatDoor
section
open Go.RowKit
section
variable {P:Program} {G:World->Prop} {tb:TB} {N:Nat}
def SC(P:Program)(G:World->Prop)(N:Nat)(c:Code)(Q:Exit->St->Prop)(st:St):Prop:=∀F0 w0 a w,Sat G F0 w0 N st a w->c.wp P (FP G N F0 w0 Q) a w
theorem sc_seq(hT:gI P tb)(hS:jG G)(hm:P.follows .mixedOrders=true){x y:Code}{Q:Exit->St->Prop}{st:St}(h:dI P G tb N x (tE (SC P G N y Q) Q) st):SC P G N (x.seq y) Q st:=by
 intro F0 w0 a w hs
 refine wp_seq (wp_mono (gP hT hS hm h F0 w0 a w hs) ?_)
 rintro e a' w' ⟨st',hq,hs'⟩
 cases e with
 | normal=>exact hq F0 w0 a' w' hs'
 | _=>exact⟨st',hq,hs'⟩
theorem sc_le{c:Code}{Q:Exit->St->Prop}{st st':St}(h:Le G N st st')(k:SC P G N c Q st'):SC P G N c Q st:=λ F0 w0 a w hs=>k F0 w0 a w (h F0 w0 a w hs)
theorem EI (hT : gI P tb) (hS : jG G) (hm : P.follows .mixedOrders = true) {f : Nat} {fn : Func} {c : Code} {l : List AV} {r : AV} (hf : P.funcs[f]? = some fn) (hb : fn.body = some c) (hname : fn.name ≠ "runtime.NumGoroutine")
  (hN:l.length<=fn.ntmps) (hl:∀a∈l,a.ok (λ _=>none) (λ _=>none)) (hr:r.plain=true) (hr2:r.still=true) (hr3:r.flat=true) (h:SC P G fn.ntmps c (DE tb fn.ntmps fn.results.toList r) (gU l)):Holds P G f (.list l) r:=by
 refine⟨⟨fn,hf,hname,by rw[hb];simp⟩,hr,λ F w vs hF hG hv=>?_⟩
 have hlen:∀(l:List AV) (vs:List Value),RepV (bE F w) (.list l) vs->vs.length=l.length/\∀t,RepV (bE F w) (l.getD t .junk) [vs.getD t undef]:=by
  intro l
  induction l with
  | nil=>intro vs h;rw[show vs=[] from h];exact⟨rfl,λ t=>trivial⟩
  | cons a l ih =>
   rintro vs ⟨y,ys,rfl,h1,h2⟩
   obtain⟨h3,h4⟩:=ih ys h2
   refine⟨by simp[h3],λ t=>?_⟩
   cases t with
   | zero=>exact h1
   | succ t=>exact h4 t
 obtain⟨hvl,hvs⟩:=hlen l vs hv
 have hsat:Sat G F w fn.ntmps (gU l) { tmps:=vs.toArray++Array.replicate (fn.ntmps-vs.toArray.size) undef,defers:=[] } w:=by
  refine⟨⟨fun t=>?_,λ k T d e=>by cases e⟩,⟨bE F w,rfl,⟨hF,Nat.le_refl _,λ k T d e=>(by cases e),λ k k' h1=>(absurd rfl h1),λ k j b h1=>(absurd rfl h1),λ k k' b h1=>(absurd rfl h1)⟩,rfl,rfl,rfl,λ _ _ _=>rfl,λ t ht=>?_⟩,Below.refl _ _,hG,?_,rfl,λ t x e=>by cases e⟩
  ·show (l.getD t .junk).ok _ _
   rw[List.getD_eq_getElem?_getD]
   cases ht:l[t]? with
   | none=>trivial
   | some x=>exact hl x (List.mem_of_getElem? ht)
  ·have:=hvs t
   have e:(vs.toArray++Array.replicate (fn.ntmps-vs.toArray.size) undef).getD t undef=vs.getD t undef:=by
    rw[Array.getD_eq_getD_getElem?,Array.getElem?_append,List.getD_eq_getElem?_getD]
    by_cases h1:t<vs.length
    ·simp[h1]
    ·have h2:vs[t]? = none:=List.getElem?_eq_none (by omega)
     simp only[List.size_toArray,h1,if_false,h2,Option.getD_none]
     rw[Array.getElem?_replicate]
     split<;>rfl
   show RepV _ (l.getD t .junk) [(vs.toArray++Array.replicate (fn.ntmps-vs.toArray.size) undef).getD t undef]
   rw[e]
   exact this
  ·simp;omega
 refine calls_of_wp hf hb (wp_mono (h F w _ _ hsat) ?_)
 rintro e a' w' ⟨st,hq,hs⟩
 have fin:(∃l q,fn.results.toList.mapM (pP tb fn.ntmps st)=some l/\AV.imp (λ _=>none) st.τ (φOf q) (λ k=>if k=0 then some 0 else none) r (C0 l)/\(q.flatMap (·.2)).Nodup) ->
   a'.defers=[]/\∃v,(results fn a'.tmps).run P w'=.ok v w'/\∃v1 fp,Ending.returned v=.returned v1/\Below w.heap.size w w'/\RepV (fP F w w' fp) r [v1]/\(∀k b,b∈fp k->w.heap.size<=b/\b<w'.heap.size)/\∀k k' b,b∈fp k->b∈fp k'->k=k':=by
  rintro⟨l',q,h1,h2,h3⟩
  obtain⟨g,rfl,hI,hbx,hτ,hbase,hF0,hsl⟩:=hs.gh
  obtain⟨vs',h4,h5,h6⟩:=zZ hT hI hbx hsl h1
  have hres:∃v,(results fn a'.tmps).run P g.w=.ok v g.w/\RepV g (C0 l') [v]:=by
   have h7:=tJ h4
   match l',vs',h5,h6,h7 with
   | [x],[v],⟨_,_,e,h8,_⟩,_,h7 =>
    cases e
    exact⟨v,h7,h8⟩
   | [],[],h5,_,h7=>exact⟨.tuple #[],h7,[],rfl,h5⟩
   | x :: y :: l',u :: v :: vs',h5,_,h7=>exact⟨.tuple (u :: v :: vs').toArray,by rw[h7];simp,_,rfl,h5⟩
  obtain⟨v,h7,h8⟩:=hres
  have hw:Weak g (fP F w g.w (Y5 g (φOf q))) (φOf q):=⟨fun b o u hu=>by
    show (if b<w.heap.size then F b o else U g.w b o)=some u
    split
    ·rename_i hb
     rw[<-hF0 b o (by rw[hbase];exact hb)]
     exact hu
    ·exact hI.F _ _ _ hu,rfl,hbase.symm,λ k b h=>mem_fpOf.2 h⟩
  have h9:RepV (fP F w g.w (Y5 g (φOf q))) r [v]:=RepV.imp hI hw (.inl hr2) (.inl hr3) (by rw[hτ];exact h2) h8
  refine⟨hs.defers,v,h7,v,Y5 g (φOf q),rfl,hs.below,h9,λ k b hb=>?_,λ k k' b hb hb'=>?_⟩
  ·obtain⟨u,-,h10,h11⟩:=mem_fpOf.1 hb
   obtain⟨h12,h13,-⟩:=hI.fpb u.1 u.2 b h10 h11
   rw[hbase] at h12
   exact⟨h12,h13⟩
  ·obtain⟨u,hu,h10,h11⟩:=mem_fpOf.1 hb
   obtain⟨u',hu',h12,h13⟩:=mem_fpOf.1 hb'
   have:=hI.fpd u u' b h10 h12 h11 h13
   subst this
   exact φ_disj h3 hu hu'
 cases e with
 | normal=>exact fin hq
 | ret=>exact fin hq
 | _=>exact hq.elim
end
theorem abS {f : Nat} {fn : Func} {c : Code} {l : List AV} {r : AV} {N : Nat} {rs : Array ResultVar} (hf : Tryz.prog.funcs[f]? = some fn) (hN : fn.ntmps = N) (hrs : fn.results = rs) (hb : fn.body = some c) (hname : fn.name ≠ "runtime.NumGoroutine")
  (hl:l.length<=N) (ho:(l.all AV.bare)=true) (hr:(r.plain && r.still && r.flat)=true) (h:SC Tryz.prog KA N c (DE tb N rs.toList r) (gU l)):HH f l r:=by
 subst hN hrs
 simp only[Bool.and_eq_true] at hr
 exact EI qA iD mixed hf hb hname hl (λ a ha=>AV.bare_ok (List.all_eq_true.1 ho a ha) _ _) hr.1.1 hr.1.2 hr.2 h
theorem step{x y:Code}{Q:Exit->St->Prop}{st:St}{N:Nat}(h:dI Tryz.prog KA tb N x (tE (SC Tryz.prog KA N y Q) Q) st):SC Tryz.prog KA N (x.seq y) Q st:=sc_seq qA iD mixed h
theorem last{c:Code}{Q:Exit->St->Prop}{st:St}{N:Nat}(h:dI Tryz.prog KA tb N c Q st):SC Tryz.prog KA N c Q st:=λ F0 w0 a w hs=>gP qA iD mixed h F0 w0 a w hs
theorem MS{c:Code}{Q:Exit->St->Prop}{st st':St}{N:Nat}(h:Le KA N st st')(k:SC Tryz.prog KA N c Q st'):SC Tryz.prog KA N c Q st:=sc_le h k
def V0:Nat->Code->Code
 | 0,c=>c
 | n+1,.seq _ y=>V0 n y
 | _,c=>c
theorem MR{x y:Code}{Q:Exit->St->Prop}{st:St}{N:Nat}(h:∀K:Exit->St->Prop,(∀s,SC Tryz.prog KA N y Q s->K .normal s)->(∀e s,e≠.normal->Q e s->K e s)->dI Tryz.prog KA tb N x K st):SC Tryz.prog KA N (x.seq y) Q st :=
 step (h _ (λ _ k=>k) (λ e s hne q=>by cases e<;>first|exact absurd rfl hne|exact q))
end
section
open Go.RowKit
variable {P:Program}
structure Sty (P:Program) (K:Kd) (t:Nat):Prop where
 t:P.underlying t=some (.slice K.e)
 i:∃(i:TypeInfo) (z:Value),P.info? K.e=some i/\i.zero=some z/\i.size=K.sz/\z.cells.size=K.sz/\i.bytes<=1000
def RowA(K:Kd)(w:World)(v:Value):Prop :=
 (∃p,v=.slice p 0 0)∨∃g n cap cur,v=.slice (some ⟨g,0,none⟩) n cap/\w.heap[g]? = some (Obj.cells cur K.e (0,0))/\n<=cap/\0<cap/\cap<=maxLen/\cur.size=cap*K.sz
theorem CQ{K:Kd}{t:Nat}(hS:Sty P K t)(ty:TypeId)(w:World){v:Value}(hv:RowA K w v){a:Addr}{m c:Nat}{news:List Value}(hl:news.length=m*K.sz)(hm:0<m)(hnews:∀j u,news[j]? = some u->w.cell? (a.add j)=some u)
  (h1:∀u∈news,u.oneCell'=true) (h63:vn v+m<=100000000000) :
  ∃h cap' cur' w',(Builtin.append_ #[t,t] ty #[v,.slice (some a) m c]).run P w=.ok (.slice (some ⟨h,0,none⟩) (vn v+m) cap') w'/\w'.heap[h]? = some (Obj.cells cur' K.e (0,0))/\vn v+m<=cap'/\cap'<=maxLen/\cur'.size=cap'*K.sz /\
   (∀j,j<news.length->cur'[vn v*K.sz+j]? = news[j]?)/\(∀g n cap cur,v=.slice (some ⟨g,0,none⟩) n cap->w.heap[g]? = some (Obj.cells cur K.e (0,0))->∀p,p<vn v*K.sz->cur'[p]? = cur[p]?) /\
   ((vb v=some h/\w'=w.setCells h (vn v*K.sz) news)∨(h=w.heap.size/\Below w.heap.size w w')):=by
 obtain⟨ht,i,z,hi,hz,hsz,hzs,hby⟩:=hS
 have hmm:vn v+m<=maxLen:=by unfold maxLen;omega
 have hmb:(vn v+m)*i.bytes<=100000000000*1000:=Nat.mul_le_mul h63 hby
 have hmb1:m*i.bytes<=100000000000*1000:=Nat.mul_le_mul (by omega) hby
 have hbel:∀o,Below w.heap.size w (w.drew.alloc o):=λ o=>aA (aR w) (aB w.drew o)
 rcases hv with ⟨p,rfl⟩|⟨g,n,cap,cur,rfl,hg,hnc,hc0,hcm,hcs⟩
 ·cases p with
  | none =>
   have hr:=run_append_nil (P:=P) w t ty K.e i z ht hi hz a m c news (by rw[hl,hsz]) hnews hm (by omega) (by omega)
   simp only[vn,Nat.zero_add] at hmm hmb ⊢
   refine⟨_,_,_,_,hr,heap_alloc_new w.drew _,grownCap_ge w m 0 K.e,grownCap_le_maxLen w m 0 K.e hmm,?_,λ j hj=>?_,(λ _ _ _ _ e=>by cases e),.inr ⟨rfl,hbel _⟩⟩
   ·have:=grownCap_ge w m 0 K.e
    simp only[Array.size_append,List.size_toArray,size_zeroCells,hzs,hl,<-Nat.add_mul]
    congr 1;omega
   ·rw[Nat.zero_mul,Nat.zero_add,Array.getElem?_append_left (by simpa using hj)];simp
  | some b =>
   have hr:=run_append_grow (P:=P) w t ty K.e i z ht hi hz b 0 0 [] (by simp) (λ j v h=>by simp at h) a m c news (by rw[hl,hsz]) hnews (by omega) (by omega)
    (by rw[Nat.zero_add,nextslicecap_zero hm];omega)
   simp only[vn,Nat.zero_add] at hmm hmb hr ⊢
   refine⟨_,_,_,_,hr,heap_alloc_new w.drew _,grownCap_ge w m 0 K.e,grownCap_le_maxLen w m 0 K.e hmm,?_,λ j hj=>?_,(λ _ _ _ _ _ _ p hp=>by omega),.inr ⟨rfl,hbel _⟩⟩
   ·have:=grownCap_ge w m 0 K.e
    simp only[Array.size_append,List.size_toArray,size_zeroCells,hzs,hl,List.length_nil,Nat.zero_add,<-Nat.add_mul]
    congr 1;omega
   ·rw[Nat.zero_mul,Nat.zero_add]
    simp only[Array.append_assoc]
    rw[Array.getElem?_append_right (by simp)]
    rw[Array.getElem?_append_left (by simpa using hj)];simp
 ·have hn:vn (.slice (some ⟨g,0,none⟩) n cap)=n:=rfl
  rw[hn] at hmm hmb h63 ⊢
  by_cases hroom:n+m<=cap
  ·have hle:n*K.sz+news.length<=cur.size:=by rw[hl,hcs,<-Nat.add_mul];exact Nat.mul_le_mul_right _ hroom
   have hth:=uT (w:=w) hg hle
   have hr:=run_append_room_cells (P:=P) w t ty K.e i ht hi g 0 n cap a m c news (by rw[hl,hsz]) hnews h1 hroom (λ j hj=>by rw[Nat.zero_add,hsz];exact (hth j hj).1) (λ j hj=>by rw[Nat.zero_add,hsz];exact (hth j hj).2)
   rw[Nat.zero_add,hsz] at hr
   obtain⟨cur',e1,e2,e3,e4⟩:=iL news (n*K.sz) cur w hg hle
   refine⟨g,cap,cur',_,hr,e1,hroom,hcm,by rw[e2,hcs],e4,λ g' n' cap' cur0 e h0 p hp=>?_,.inl ⟨nA hc0,rfl⟩⟩
   cases e
   rw[hg] at h0;cases h0
   exact e3 p (.inl hp)
  ·have hol:n*K.sz<=cur.size:=by rw[hcs];exact Nat.mul_le_mul_right _ hnc
   have hfit:Builtin.nextslicecap (n+m) cap*i.bytes<=281474976710656:=growslice_fits (by omega) (by omega)
   have hr:=run_append_grow (P:=P) w t ty K.e i z ht hi hz ⟨g,0,none⟩ n cap (cur.toList.take (n*K.sz)) (by rw[List.length_take,Array.length_toList,hsz];omega) (λ j v h=>by
     have hj:j<n*K.sz:=by have:=(List.getElem?_eq_some_iff.1 h).1;rw[List.length_take] at this;omega
     rw[List.getElem?_take,if_pos hj] at h
     rw[Addr.add_mid]
     simpa[World.cell?,hg] using h) a m c news (by rw[hl,hsz]) hnews (by omega) (by omega) hfit
   have hge:=grownCap_ge w (n+m) cap K.e
   refine⟨_,_,_,_,hr,heap_alloc_new w.drew _,hge,grownCap_le_maxLen w (n+m) cap K.e hmm,?_,λ j hj=>?_,λ g' n' cap' cur0 e h0 p hp=>?_,.inr ⟨rfl,hbel _⟩⟩
   ·simp only[Array.size_append,List.size_toArray,size_zeroCells,hzs,hl,List.length_take,Array.length_toList,Nat.min_eq_left hol,<-Nat.add_mul]
    congr 1;omega
   ·rw[Array.append_assoc,Array.getElem?_append_right (by simp;omega)]
    rw[Array.getElem?_append_left (by simp;omega)]
    simp[Nat.min_eq_left hol]
   ·cases e
    rw[hg] at h0;cases h0
    rw[Array.append_assoc,Array.getElem?_append_left (by simp;omega)]
    simp[hp]
end
section
open Go.RowKit
variable {P:Program}
theorem RowI.rowA{K:Kd}{lo:Nat}{w:World}{v:Value}{d k:Nat}(h:RowI K lo w v d k):RowA K w v:=by
 rcases h with ⟨p,rfl,-⟩|⟨g,n,cap,cur,rfl,h1,h2,h3,h4,h5,h6,h7,h8⟩
 ·exact .inl ⟨p,rfl⟩
 ·exact .inr ⟨g,n,cap,cur,rfl,h2,h3,h4,h5,h6⟩
def Cur(K:Kd)(s:Nat)(w:World)(v gv:Value)(t k:Nat):Prop :=
 (t=0/\gv=v)∨∃h cap cur,gv=.slice (some ⟨h,0,none⟩) (vn v+t) cap/\w.heap[h]? = some (Obj.cells cur K.e (0,0))/\vn v+t<=cap/\0<cap/\cap<=maxLen/\cur.size=cap*K.sz/\(vb v=some h∨s<=h)/\Mkd K w cur (vn v+t) k
theorem Cur.on{K:Kd}(hK:K.Ok){X:Nat->Prop}{s:Nat}{w w':World}{v gv:Value}{t k:Nat}(h:Cur K s w v gv t k)(ht:Tn K.em X w w')(hx:∀(b:Nat) (cur:Array Value),w.heap[b]? = some (Obj.cells cur K.e (0,0))->(vb v=some b∨s<=b)->¬X b):Cur K s w' v gv t k:=by
 rcases h with h|⟨h,cap,cur,h1,h2,h3,h4,h5,h6,h7,h8⟩
 ·exact .inl h
 ·exact .inr ⟨h,cap,cur,h1,by rw[ht.block h (aV h2) (hx h cur h2 h7)];exact h2,h3,h4,h5,h6,h7,h8.on hK ht⟩
theorem Cur.len{K:Kd}{s:Nat}{w:World}{v gv:Value}{lo d t k k':Nat}(hr:RowI K lo w v d k')(h:Cur K s w v gv t k):∃p c,gv=.slice p (vn v+t) c:=by
 rcases h with ⟨rfl,rfl⟩|⟨h,cap,cur,h1,-⟩
 ·rcases hr with ⟨p,rfl,-⟩|⟨g,n,cap,cur,rfl,-⟩
  ·exact⟨p,0,rfl⟩
  ·exact⟨_,cap,rfl⟩
 ·exact⟨_,_,h1⟩
theorem RowI.tnx{K:Kd}(hK:K.Ok){lo:Nat}{w w':World}{v:Value}{d k h o:Nat}{xs:List Value}{cur0:Array Value}(hr:RowI K lo w v d k)(hvb:∀b,vb v=some b->b=h->d*K.sz<=o)(hh:w.heap[h]? = some (Obj.cells cur0 K.e (0,0)))(hw:w'=w.setCells h o xs)(hfit:o+xs.length<=cur0.size):RowI K lo w' v d k:=by
 subst hw
 have ht:=iQ (em:=K.em) (o:=o) xs hh hK.ne
 rcases hr with hr|⟨g,n,cap,cur,rfl,h1,h2,h3,h4,h5,h6,h7,h8⟩
 ·exact .inl hr
 ·by_cases e:g=h
  ·subst e
   have e9:cur=cur0:=by rw[h2] at hh;injection hh with hh;injection hh
   subst e9
   obtain⟨cur',e1,e2,e3,e4⟩:=iL xs o cur w h2 hfit
   have:=hvb g (nA h4) rfl
   exact .inr ⟨g,n,cap,cur',rfl,h1,e1,h3,h4,h5,by rw[e2,h6],h7,(h8.on hK ht).head hK λ p hp=>e3 p (.inl (by omega))⟩
  ·exact .inr ⟨g,n,cap,cur,rfl,h1,by rw[jX e];exact h2,h3,h4,h5,h6,h7,h8.on hK ht⟩
theorem Cur.grow{K:Kd}(hK:K.Ok){ts:Nat}(hS:Sty P K ts)(ty:TypeId){lo s:Nat}{w:World}{v gv:Value}{t k:Nat}(hr:RowI K lo w v (vn v) k)(hs:∀b,vb v=some b->b<s)(hsw:s<=w.heap.size)(h:Cur K s w v gv t k)
  {a:Addr} {c:Nat} {xs:List Value} (hx:K.cel w (mk k (vn v+t)) xs) (hxs:∀j u,xs[j]? = some u->w.cell? (a.add j)=some u) (h63:vn v+t+1<=100000000000) :
  ∃gv' w',(Builtin.append_ #[ts,ts] ty #[gv,.slice (some a) 1 c]).run P w=.ok gv' w'/\RowI K lo w' v (vn v) k/\Cur K s w' v gv' (t+1) k/\Tn K.em (λ b=>vb v=some b∨s<=b) w w':=by
 have hl:xs.length=1*K.sz:=by rw[Nat.one_mul];exact hK.len _ _ _ hx
 have hA:RowA K w gv:=by
  rcases h with ⟨-,rfl⟩|⟨h,cap,cur,h1,h2,h3,h4,h5,h6,h7,h8⟩
  ·exact hr.rowA
  ·exact .inr ⟨h,_,cap,cur,h1,h2,h3,h4,h5,h6⟩
 have hn:vn gv=vn v+t:=by
  obtain⟨p,c,e⟩:=h.len hr
  rw[e];rfl
 obtain⟨h',cap',cur',w',e1,e2,e3,e4,e5,e6,e7,e8⟩:=CQ hS ty w hA hl (by omega) hxs (hK.one _ _ _ hx) (by omega)
 rw[hn] at e1 e3 e6 e7 e8
 have hmk:Mkd K w cur' (vn v+t) k:=by
  rcases h with ⟨rfl,rfl⟩|⟨h,cap,cur,h1,h2,h3,h4,h5,h6,h7,h8⟩
  ·rcases hr with ⟨p,rfl,-⟩|⟨g,n,cap,cur,rfl,h1,h2,h3,h4,h5,h6,h7,h8⟩
   ·intro i hi;simp[vn] at hi
   ·exact h8.head hK λ p hp=>e7 g n cap cur rfl h2 p hp
  ·exact h8.head hK λ p hp=>e7 h _ cap cur h1 h2 p hp
 have fin:∀X,Tn K.em X w w'->(vb v=some h'∨s<=h')->Cur K s w' v (.slice (some ⟨h',0,none⟩) (vn v+t+1) cap') (t+1) k:=λ X ht hb =>
  .inr ⟨h',cap',cur',rfl,e2,e3,by omega,e4,e5,hb,(hmk.on hK ht).next (hK.on _ _ _ _ ht.keep hx) e6⟩
 rcases e8 with ⟨e8,rfl⟩|⟨rfl,e8⟩
 ·have hb:vb v=some h'∨s<=h':=by
   rcases h with ⟨-,rfl⟩|⟨h,cap,cur,rfl,h2,h3,h4,h5,h6,h7,h8⟩
   ·exact .inl e8
   ·rw[nA h4] at e8;cases e8;exact h7
  have hh:∃cur0,w.heap[h']? = some (Obj.cells cur0 K.e (0,0))/\(vn v+t)*K.sz+xs.length<=cur0.size:=by
   obtain⟨cur0,c1,c2⟩:∃cur0,w.heap[h']? = some (Obj.cells cur0 K.e (0,0))/\True:=by
    rcases hA with ⟨p,rfl⟩|⟨g,n,cap,cur,rfl,g1,g2,g3,g4,g5⟩
    ·cases p<;>cases e8
    ·rw[nA g3] at e8;cases e8;exact⟨cur,g1,trivial⟩
   refine⟨cur0,c1,?_⟩
   apply Classical.byContradiction
   intro hc
   have:=e5
   have hsz:(w.setCells h' ((vn v+t)*K.sz) xs).heap[h']? = some (Obj.cells cur' K.e (0,0)):=e2
   have key:∀(vs:List Value) (o:Nat) (c0:Array Value) (w:World),w.heap[h']? = some (Obj.cells c0 K.e (0,0))->∃c1,(w.setCells h' o vs).heap[h']? = some (Obj.cells c1 K.e (0,0))/\c1.size=c0.size:=by
    intro vs
    induction vs with
    | nil=>intro o c0 w h;exact⟨c0,h,rfl⟩
    | cons u vs ih =>
     intro o c0 w h
     obtain⟨c1,i1,i2⟩:=ih (o+1) _ (w.setCell ⟨h',o,none⟩ u) (by rw[setCell_eq_setRow w h' o c0 K.e (0,0) u h];exact setRow_heap w h' c0 _ K.e _ h)
     exact⟨c1,i1,by rw[i2,Array.size_setIfInBounds]⟩
   obtain⟨c1',k1,k2⟩:=key xs ((vn v+t)*K.sz) cur0 w c1
   rw[hsz] at k1;cases k1
   have hm:(vn v+t+1)*K.sz<=cap'*K.sz:=Nat.mul_le_mul_right _ e3
   rw[Nat.add_mul,Nat.one_mul] at hm
   rw[Nat.one_mul] at hl
   omega
  obtain⟨cur0,c1,c2⟩:=hh
  have ht:=iQ (em:=K.em) (o:=(vn v+t)*K.sz) xs c1 hK.ne
  refine⟨_,_,e1,hr.tnx hK (λ b hb' e=>?_) c1 rfl c2,fin _ ht hb,ht.mono λ b _ e=>by rw[e];exact hb⟩
  exact Nat.mul_le_mul_right _ (by omega)
 ·have ht:Tn K.em (λ _=>False) w w':=Tn.of_below e8
  exact⟨_,_,e1,hr.on hK ht (λ _ _ _ _=>id),fin _ ht (.inr hsw),ht.mono λ _ _=>False.elim⟩
def Ent(K:Kd)(s:Nat)(w:World)(v u:Value)(n d k:Nat):Prop :=
 ∃h cap cur,u=.slice (some ⟨h,0,none⟩) n cap/\w.heap[h]? = some (Obj.cells cur K.e (0,0))/\d<=n/\n<=cap/\cap<=maxLen/\(vb v=some h∨s<=h)/\Mkd K w cur d k
theorem Ent.on{K:Kd}(hK:K.Ok){X:Nat->Prop}{s:Nat}{w w':World}{v u:Value}{n d k:Nat}(h:Ent K s w v u n d k)(ht:Tn K.em X w w')(hx:∀(b:Nat) (cur:Array Value),w.heap[b]? = some (Obj.cells cur K.e (0,0))->(vb v=some b∨s<=b)->¬X b):Ent K s w' v u n d k:=by
 obtain⟨h,cap,cur,h1,h2,h3,h4,h5,h6,h7⟩:=h
 exact⟨h,cap,cur,h1,by rw[ht.block h (aV h2) (hx h cur h2 h6)];exact h2,h3,h4,h5,h6,h7.on hK ht⟩
theorem Ent.get{K:Kd}{s:Nat}{w:World}{v u:Value}{n d k i:Nat}(h:Ent K s w v u n d k)(hi:i<d):∃h cap xs,u=.slice (some ⟨h,0,none⟩) n cap/\K.cel w (mk k i) xs/\w.rangeAt h (i*K.sz) xs:=by
 obtain⟨h,cap,cur,h1,h2,h3,h4,h5,h6,h7⟩:=h
 obtain⟨xs,e1,e2⟩:=h7 i hi
 exact⟨h,cap,xs,h1,e1,mJ h2 e2⟩
theorem Ent.less{K:Kd}{s s':Nat}{w:World}{v u:Value}{n d d' k:Nat}(h:Ent K s w v u n d k)(hd:d'<=d)(hs:s'<=s):Ent K s' w v u n d' k:=by
 obtain⟨h,cap,cur,h1,h2,h3,h4,h5,h6,h7⟩:=h
 exact⟨h,cap,cur,h1,h2,by omega,h4,h5,h6.imp id (by omega),h7.less hd⟩
theorem Cur.ent{K:Kd}{s:Nat}{w:World}{v gv:Value}{t k:Nat}(h:Cur K s w v gv t k)(ht:0<t):Ent K s w v gv (vn v+t) (vn v+t) k:=by
 rcases h with ⟨rfl,-⟩|⟨h,cap,cur,h1,h2,h3,h4,h5,h6,h7,h8⟩
 ·omega
 ·exact⟨h,cap,cur,h1,h2,Nat.le_refl _,h3,h5,h7,h8⟩
theorem RowI.many{K:Kd}(hK:K.Ok){ts:Nat}(hS:Sty P K ts)(ty:TypeId){lo:Nat}{w:World}{v:Value}{k:Nat}(hr:RowI K lo w v (vn v) k){a:Addr}{c m:Nat}{news:List Value}(hl:news.length=m*K.sz)(hm:0<m)(hnews:∀j u,news[j]? = some u->w.cell? (a.add j)=some u)
  (h1:∀u∈news,u.oneCell'=true) (h63:vn v+m<=100000000000) :
  ∃gv' w',(Builtin.append_ #[ts,ts] ty #[v,.slice (some a) m c]).run P w=.ok gv' w'/\RowI K lo w' v (vn v) k/\Ent K w.heap.size w' v gv' (vn v+m) (vn v) k/\Tn K.em (λ b=>vb v=some b) w w':=by
 obtain⟨h',cap',cur',w',e1,e2,e3,e4,e5,e6,e7,e8⟩:=CQ hS ty w hr.rowA hl hm hnews h1 h63
 have hmk:Mkd K w cur' (vn v) k:=by
  rcases hr with ⟨p,rfl,-⟩|⟨g,n,cap,cur,rfl,h1,h2,h3,h4,h5,h6,h7,h8⟩
  ·intro i hi;simp[vn] at hi
  ·exact h8.head hK λ p hp=>e7 g n cap cur rfl h2 p hp
 rcases e8 with ⟨e8,rfl⟩|⟨rfl,e8⟩
 ·have hh:∃cur0,w.heap[h']? = some (Obj.cells cur0 K.e (0,0)):=by
   rcases hr with ⟨p,rfl,-⟩|⟨g,n,cap,cur,rfl,h1,h2,h3,h4,-⟩
   ·cases p<;>cases e8
   ·rw[nA h4] at e8;cases e8;exact⟨cur,h2⟩
  obtain⟨cur0,c1⟩:=hh
  have ht:=iQ (em:=K.em) (o:=vn v*K.sz) news c1 hK.ne
  refine⟨_,_,e1,?_,⟨h',cap',cur',rfl,e2,by omega,e3,e4,.inl e8,hmk.on hK ht⟩,ht.mono λ b _ e=>by rw[e];exact e8⟩
  rcases hr with hr|⟨g,n,cap,cur,rfl,h1,h2,h3,h4,h5,h6,h7,h8⟩
  ·exact .inl hr
  ·have e9:g=h':=by rw[nA h4] at e8;injection e8
   subst e9
   have e10:cur=cur0:=by rw[h2] at c1;injection c1 with c1;injection c1
   subst e10
   have hsz:cur'.size=cur.size:=by
    have key:∀(vs:List Value) (o:Nat) (c0:Array Value) (w:World),w.heap[g]? = some (Obj.cells c0 K.e (0,0))->∃c1,(w.setCells g o vs).heap[g]? = some (Obj.cells c1 K.e (0,0))/\c1.size=c0.size:=by
     intro vs
     induction vs with
     | nil=>intro o c0 w h;exact⟨c0,h,rfl⟩
     | cons u vs ih =>
      intro o c0 w h
      obtain⟨c1,i1,i2⟩:=ih (o+1) _ (w.setCell ⟨g,o,none⟩ u) (by rw[setCell_eq_setRow w g o c0 K.e (0,0) u h];exact setRow_heap w g c0 _ K.e _ h)
      exact⟨c1,i1,by rw[i2,Array.size_setIfInBounds]⟩
    obtain⟨c1',k1,k2⟩:=key news (vn (.slice (some ⟨g,0,none⟩) n cap)*K.sz) cur w h2
    rw[e2] at k1;cases k1
    exact k2
   exact .inr ⟨g,n,cap,cur',rfl,h1,e2,h3,h4,h5,by rw[hsz,h6],h7,hmk.on hK ht⟩
 ·have ht:Tn K.em (λ _=>False) w w':=Tn.of_below e8
  exact⟨_,_,e1,hr.on hK ht (λ _ _ _ _=>id),⟨w.heap.size,cap',cur',rfl,e2,by omega,e3,e4,.inr (Nat.le_refl _),hmk.on hK ht⟩,ht.mono λ _ _=>False.elim⟩
def Gsl(K:Kd)(eS G s:Nat)(w:World)(vs:List Value)(d x j:Nat):Prop :=
 ∃arr,w.heap[G]? = some (Obj.cells arr eS (0,0))/\arr.size=vs.length/\∀k v,k<j->vs[k]? = some v->∃u,arr[k]? = some u/\Ent K s w v u (vn v+x) (vn v+d) k
theorem Gsl.on{K:Kd}(hK:K.Ok){eS G s:Nat}{X:Nat->Prop}{w w':World}{vs:List Value}{d x j:Nat}(h:Gsl K eS G s w vs d x j)(ht:Tn K.em X w w')(hG:∀cur,w.heap[G]? = some (Obj.cells cur eS (0,0))->¬X G)
  (hx:∀(b:Nat) (cur:Array Value),w.heap[b]? = some (Obj.cells cur K.e (0,0))->((∃k v,k<j/\vs[k]? = some v/\vb v=some b)∨s<=b)->¬X b):Gsl K eS G s w' vs d x j:=by
 obtain⟨arr,h1,h2,h3⟩:=h
 refine⟨arr,by rw[ht.block G (aV h1) (hG arr h1)];exact h1,h2,λ k v hk hv=>?_⟩
 obtain⟨u,h4,h5⟩:=h3 k v hk hv
 exact⟨u,h4,h5.on hK ht λ b cur hc hb=>hx b cur hc (hb.imp (λ e=>⟨k,v,hk,hv,e⟩) id)⟩
theorem Gsl.put{K:Kd}(hK:K.Ok){eS G s:Nat}(heS:eS≠K.em)(heE:eS≠K.e){w:World}{vs:List Value}{d x j:Nat}(h:Gsl K eS G s w vs d x j){v u:Value}(hv:vs[j]? = some v)(hu:Ent K s w v u (vn v+x) (vn v+d) j) :
  w.there G j 1/\Gsl K eS G s (w.setCell ⟨G,j,none⟩ u) vs d x (j+1)/\Tn K.em (λ b=>b=G) w (w.setCell ⟨G,j,none⟩ u):=by
 obtain⟨arr,h1,h2,h3⟩:=h
 have hj:j<vs.length:=(List.getElem?_eq_some_iff.1 hv).1
 have ht:=iQ (em:=K.em) (o:=j) [u] h1 heS
 have hne:∀(b:Nat) (cur:Array Value),w.heap[b]? = some (Obj.cells cur K.e (0,0))->¬b=G:=λ b cur hc e=>by
  subst e;rw[h1] at hc;cases hc;exact heE rfl
 have hh:(w.setCell ⟨G,j,none⟩ u).heap[G]? = some (Obj.cells (arr.setIfInBounds j u) eS (0,0)):=by
  rw[setCell_eq_setRow w G j arr eS (0,0) u h1];exact setRow_heap w G arr _ eS _ h1
 refine⟨uT h1 (by omega),⟨_,hh,by rw[Array.size_setIfInBounds,h2],λ k v' hk hv'=>?_⟩,ht⟩
 by_cases e:k=j
 ·subst e
  rw[hv] at hv';cases hv'
  refine⟨u,by rw[Array.getElem?_setIfInBounds,if_pos rfl,if_pos (by omega)],hu.on hK ht λ b cur hc _=>hne b cur hc⟩
 ·obtain⟨u',h4,h5⟩:=h3 k v' (by omega) hv'
  exact⟨u',by rw[Array.getElem?_setIfInBounds,if_neg (by omega)];exact h4,h5.on hK ht λ b cur hc _=>hne b cur hc⟩
theorem Gsl.get{K:Kd}{eS G s:Nat}{w:World}{vs:List Value}{d x j k:Nat}(h:Gsl K eS G s w vs d x j)(hk:k<j){v:Value}(hv:vs[k]? = some v):∃u,w.cell? ⟨G,k,none⟩=some u/\w.frozen? ⟨G,k,none⟩=false/\Ent K s w v u (vn v+x) (vn v+d) k:=by
 obtain⟨arr,h1,h2,h3⟩:=h
 obtain⟨u,h4,h5⟩:=h3 k v hk hv
 exact⟨u,by simp[World.cell?,h1,h4],by simp[World.frozen?,h1],h5⟩
end
section
open Go.RowKit
def I6(P:Program)(K:Kd)(f:Nat):Prop:=∀(k i:Nat) (w:World),k<=10000000000->i<=10000000000->Calls P f #[.int .i64 k,.int .i64 i] w λ e w'=>∃xs,e=.returned (.agg xs.toArray)/\K.cel w' (mk k i) xs/\Below w.heap.size w w'
def AI(P:Program)(K:Kd)(f:Nat):Prop:=∀(M:Int) (w:World) (xs ys:List Value),K.cel w M xs->K.cel w M ys->Calls P f #[.agg xs.toArray,.agg ys.toArray] w λ e w'=>e=.returned (.bool true)/\Below w.heap.size w w'
theorem Kd.Ok.below{K:Kd}(hK:K.Ok){w w':World}{M:Int}{xs:List Value}(h:K.cel w M xs)(hb:Below w.heap.size w w'):K.cel w' M xs:=hK.on _ _ _ _ (Tn.of_below (X:=λ _=>False) hb).keep h
theorem RowI.isSlice{K:Kd}{lo:Nat}{w:World}{v:Value}{d k:Nat}(h:RowI K lo w v d k):∃p n c,v=.slice p n c/\n<=c/\c<=maxLen:=by
 rcases h with ⟨p,rfl,-⟩|⟨g,n,cap,cur,rfl,h1,h2,h3,h4,h5,-⟩
 ·exact⟨p,0,0,rfl,Nat.le_refl _,Nat.zero_le _⟩
 ·exact⟨_,n,cap,rfl,h3,h5⟩
theorem RowI.lies{K:Kd}{lo:Nat}{w:World}{p:Option Addr}{n c d k:Nat}(h:RowI K lo w (.slice p n c) d k)(h0:0<n):∃g,p=some ⟨g,0,none⟩/\0<c:=by
 rcases h with ⟨p,e,-⟩|⟨g,n,cap,cur,e,h1,h2,h3,h4,-⟩
 ·cases e;omega
 ·cases e;exact⟨g,rfl,h4⟩
theorem RowsG.typed{K:Kd}{lo:Nat}{w:World}{vs:List Value}{d:Nat->Nat}(h:RowsG K lo w vs d){b:Nat}(hb:InV vs b):lo<=b/\∃cur,w.heap[b]? = some (Obj.cells cur K.e (0,0)):=by
 obtain⟨v,hv,e⟩:=hb
 obtain⟨k,hk⟩:=List.getElem?_of_mem hv
 rcases h k v hk with ⟨p,rfl,-⟩|⟨g,n,cap,cur,rfl,h1,h2,h3,h4,-⟩
 ·cases p<;>cases e
 ·rw[nA h4] at e;cases e
  exact⟨h1,cur,h2⟩
theorem RowsG.cong{K:Kd}{lo:Nat}{w:World}{vs:List Value}{d d':Nat->Nat}(h:RowsG K lo w vs d)(he:∀k v,vs[k]? = some v->d k=d' k):RowsG K lo w vs d':=λ k v hv=>by rw[<-he k v hv];exact h k v hv
theorem RowsG.below{K:Kd}(hK:K.Ok){lo:Nat}{w w':World}{vs:List Value}{d:Nat->Nat}(h:RowsG K lo w vs d)(hb:Below w.heap.size w w'):RowsG K lo w' vs d:=h.on hK (Tn.of_below (X:=λ _=>False) hb) λ _ _ _ _=>id
def dF(vs:List Value)(k i:Nat):Nat->Nat:=λ j=>if j<k then vn (vs.getD j undef) else if j=k then i else 0
theorem uG(vs:List Value)(k i:Nat):dF vs k i k=i:=by simp[dF]
theorem RowsG.dNext{K:Kd}{lo:Nat}{w:World}{vs:List Value}{k i:Nat}(h:RowsG K lo w vs (λ j=>if j=k then dF vs k i k+1 else dF vs k i j)):RowsG K lo w vs (dF vs k (i+1)) :=
 h.cong λ j _ _=>by
  by_cases e:j=k
  ·subst e;simp[dF]
  ·simp[dF,e]
theorem RowsG.setF{K:Kd}(hK:K.Ok){lo:Nat}{w:World}{vs:List Value}(hD:I7 vs){k i g n cap:Nat}{xs:List Value}(h:RowsG K lo w vs (dF vs k i))(hv:vs[k]? = some (.slice (some ⟨g,0,none⟩) n cap))(hi:i<n)(hx:K.cel w (mk k i) xs) :
  w.there g (i*K.sz) K.sz/\RowsG K lo (w.setCells g (i*K.sz) xs) vs (dF vs k (i+1))/\Tn K.em (InV vs) w (w.setCells g (i*K.sz) xs):=by
 have:=RowsG.set hK hD h hv (by rw[uG];exact hi) (by rw[uG];exact hx)
 rw[uG] at this
 obtain⟨h1,h2,h3⟩:=this
 refine⟨h1,RowsG.dNext ?_,h3⟩
 rw[uG]
 exact h2
theorem BU{vs:List Value}{k:Nat}{v:Value}(h:vs[k]? = some v):vs.getD k undef=v:=by rw[List.getD_eq_getElem?_getD,h];rfl
theorem RowsG.dEnd{K:Kd}{lo:Nat}{w:World}{vs:List Value}{k:Nat}{v:Value}(hv:vs[k]? = some v)(h:RowsG K lo w vs (dF vs k (vn v))):RowsG K lo w vs (dF vs (k+1) 0) :=
 h.cong λ j _ _=>by
  unfold dF
  by_cases e:j<k
  ·rw[if_pos e,if_pos (by omega)]
  ·rw[if_neg e]
   by_cases e2:j=k
   ·subst e2;rw[if_pos rfl,if_pos (by omega),BU hv]
   ·rw[if_neg e2,if_neg (by omega)];split<;>rfl
def Full(K:Kd)(lo:Nat)(w:World)(vs:List Value):Prop:=∀k v,vs[k]? = some v->RowI K lo w v (vn v) k
theorem RowsG.full{K:Kd}{lo:Nat}{w:World}{vs:List Value}{m:Nat}(hm:vs.length=m)(h:RowsG K lo w vs (dF vs m 0)):Full K lo w vs:=λ k v hv=>by
 have:=h k v hv
 have hk:k<m:=by rw[<-hm];exact (List.getElem?_eq_some_iff.1 hv).1
 unfold dF at this
 rwa [if_pos hk,BU hv] at this
theorem Full.on{K:Kd}(hK:K.Ok){X:Nat->Prop}{lo:Nat}{w w':World}{vs:List Value}(h:Full K lo w vs)(ht:Tn K.em X w w')(hx:∀(b:Nat) (cur:Array Value),w.heap[b]? = some (Obj.cells cur K.e (0,0))->InV vs b->¬X b):Full K lo w' vs:=λ k v hv =>
 (h k v hv).on hK ht λ b cur hc hb=>hx b cur hc ⟨v,List.mem_of_getElem? hv,hb⟩
theorem Full.below{K:Kd}(hK:K.Ok){lo:Nat}{w w':World}{vs:List Value}(h:Full K lo w vs)(hb:Below w.heap.size w w'):Full K lo w' vs:=h.on hK (Tn.of_below (X:=λ _=>False) hb) λ _ _ _ _=>id
theorem X5{K:Kd}{eS em lo L:Nat}{w:World}{vs:List Value}{d:Nat->Nat}(hR:RowsG K lo w vs d)(hne:eS≠K.e){arr:Array Value}(hL:w.heap[L]? = some (Obj.cells arr eS (0,0)))(ha:∀(k:Nat) (v:Value),vs[k]? = some v->arr[k]? = some v) :
  ¬InV vs L/\∀W,Tn em (InV vs) w W->∀(k:Nat) (v:Value),vs[k]? = some v->U W L k=some v:=by
 have h1:¬InV vs L:=λ h=>by
  obtain⟨-,cur,e⟩:=hR.typed h
  rw[hL] at e;cases e;exact hne rfl
 refine⟨h1,λ W ht k v hv=>?_⟩
 have h2:=ht.block L (aV hL) h1
 rw[hL] at h2
 exact kM (by simp[World.cell?,h2,ha k v hv]) (by simp[World.frozen?,h2])
theorem Full.one{K:Kd}(hK:K.Ok){lo:Nat}{w w':World}{vs:List Value}(hD:I7 vs)(h:Full K lo w vs){k:Nat}{v:Value}(hv:vs[k]? = some v)(ht:Tn K.em (λ b=>vb v=some b) w w')(hr:RowI K lo w' v (vn v) k):Full K lo w' vs:=λ j u hu=>by
 by_cases e:j=k
 ·subst e
  rw[hv] at hu;cases hu
  exact hr
 ·exact (h j u hu).on hK ht λ b _ _ hb hx=>e (hD j k u v b hu hv hb hx)
theorem Tn.inV{em:Nat}{w w':World}{vs:List Value}{k:Nat}{v:Value}(hv:vs[k]? = some v)(ht:Tn em (λ b=>vb v=some b) w w'):Tn em (InV vs) w w':=ht.mono λ _ _ h=>⟨v,List.mem_of_getElem? hv,h⟩
theorem Gsl.one{K:Kd}(hK:K.Ok){eS G s:Nat}{w w':World}{vs:List Value}{d x k:Nat}(hD:I7 vs)(h:Gsl K eS G s w vs d x k)(hs:∀b,InV vs b->b<s)(hG:s<=G){v:Value}(hv:vs[k]? = some v)(ht:Tn K.em (λ b=>vb v=some b) w w'):Gsl K eS G s w' vs d x k :=
 h.on hK ht (λ _ _ e=>by have:=hs G ⟨v,List.mem_of_getElem? hv,e⟩;omega) λ b _ _ hb e=>by
  rcases hb with ⟨j,u,hj,hu,e2⟩|hb
  ·have:=hD j k u v b hu hv e2 e;omega
  ·have:=hs b ⟨v,List.mem_of_getElem? hv,e⟩;omega
theorem Full.put{K:Kd}(hK:K.Ok){lo G s:Nat}{w w':World}{vs:List Value}(h:Full K lo w vs)(hs:∀b,InV vs b->b<s)(hG:s<=G)(ht:Tn K.em (λ b=>b=G) w w'):Full K lo w' vs:=h.on hK ht λ b _ _ hb e=>by have:=hs b hb;omega
theorem Gsl.start{K:Kd}{eS G s:Nat}{w:World}{vs:List Value}{d x d' x' j:Nat}(h:Gsl K eS G s w vs d x j):Gsl K eS G s w vs d' x' 0:=by
 obtain⟨arr,h1,h2,-⟩:=h
 exact⟨arr,h1,h2,λ k v hk=>by omega⟩
theorem Gsl.below{K:Kd}(hK:K.Ok){eS G s:Nat}{w w':World}{vs:List Value}{d x j:Nat}(h:Gsl K eS G s w vs d x j)(hb:Below w.heap.size w w'):Gsl K eS G s w' vs d x j :=
 h.on hK (Tn.of_below (X:=λ _=>False) hb) (λ _ _=>id) λ _ _ _ _=>id
theorem Gsl.new{K:Kd}{eS s:Nat}(w:World)(vs:List Value)(d x:Nat){arr:Array Value}(ha:arr.size=vs.length):Gsl K eS w.heap.size s (w.alloc (.cells arr eS)) vs d x 0 :=
 ⟨arr,heap_alloc_new w _,ha,λ k v hk=>by omega⟩
theorem Ent.getU{K:Kd}{s:Nat}{w:World}{v:Value}{h n cap d k i:Nat}(hE:Ent K s w v (.slice (some ⟨h,0,none⟩) n cap) n d k)(hi:i<d):∃xs,K.cel w (mk k i) xs/\∀j u,xs[j]? = some u->U w h (i*K.sz+j)=some u:=by
 obtain⟨h',cap',cur,h1,h2,h3,h4,h5,h6,h7⟩:=hE
 cases h1
 obtain⟨xs,e1,e2⟩:=h7 i hi
 exact⟨xs,e1,λ j u hj=>kM (mJ h2 e2 j u hj) (by simp[World.frozen?,h2])⟩
theorem RowI.getU{K:Kd}{lo:Nat}{w:World}{g n cap d k i:Nat}(h:RowI K lo w (.slice (some ⟨g,0,none⟩) n cap) d k)(hi:i<d):∃xs,K.cel w (mk k i) xs/\∀j u,xs[j]? = some u->U w g (i*K.sz+j)=some u:=by
 rcases h with ⟨p,-,rfl⟩|⟨g,n,cap,cur,e,h1,h2,h3,h4,h5,h6,h7,h8⟩
 ·omega
 ·cases e
  obtain⟨xs,e1,e2⟩:=h8 i hi
  exact⟨xs,e1,λ j u hj=>kM (mJ h2 e2 j u hj) (by simp[World.frozen?,h2])⟩
theorem RowI.all{K:Kd}(hK:K.Ok){lo:Nat}{w:World}{B n k:Nat}(h:RowI K lo w (.slice (some ⟨B,0,none⟩) n n) n k)(h0:0<n):∃news:List Value,news.length=n*K.sz/\(∀j u,news[j]? = some u->w.cell? ((⟨B,0,none⟩:Addr).add j)=some u)/\∀u∈news,u.oneCell'=true:=by
 rcases h with ⟨p,e,-⟩|⟨g,m,cap,cur,e,h1,h2,h3,h4,h5,h6,h7,h8⟩
 ·cases e;omega
 ·cases e
  refine⟨cur.toList,by rw[Array.length_toList,h6],λ j u hu=>?_,λ u hu=>?_⟩
  ·rw[Addr.add_mid]
   simpa[World.cell?,h2] using hu
  ·obtain⟨p,hp⟩:=List.getElem?_of_mem hu
   have hlt:p<n*K.sz:=by rw[<-h6,<-Array.length_toList];exact (List.getElem?_eq_some_iff.1 hp).1
   have hpos:=hK.pos
   obtain⟨xs,e1,e2⟩:=h8 (p / K.sz) ((Nat.div_lt_iff_lt_mul hpos).2 hlt)
   have hl:=hK.len _ _ _ e1
   have hm:=Nat.mod_lt p hpos
   have:=e2 (p % K.sz) (by omega)
   rw[show p / K.sz*K.sz+p % K.sz=p by rw[Nat.mul_comm];exact Nat.div_add_mod p K.sz] at this
   rw[Array.getElem?_toList,this] at hp
   exact hK.one _ _ _ e1 u (List.mem_of_getElem? hp)
theorem RowI.new{K:Kd}(w:World)(n k:Nat){arr:Array Value}(ha:arr.size=n*K.sz)(h0:0<n)(hm:n<=maxLen):RowI K w.heap.size (w.alloc (.cells arr K.e)) (.slice (some ⟨w.heap.size,0,none⟩) n n) 0 k :=
 .inr ⟨_,n,n,arr,rfl,Nat.le_refl _,heap_alloc_new w _,Nat.le_refl _,h0,hm,ha,Nat.zero_le _,λ i hi=>by omega⟩
theorem kV{em B:Nat}{w w1 w2 w3:World}(h1:Below w.heap.size w w1)(h2:Below w1.heap.size w1 w2)(h3:Tn em (λ b=>b=B) w2 w3)(hB:w.heap.size=B):Below w.heap.size w w3 :=
 have h:=aA h1 h2
 h.trans (h3.below h.size λ b hb=>by omega)
theorem Gsl.cell{K:Kd}{eS G s:Nat}{w:World}{vs:List Value}{d x j k:Nat}(h:Gsl K eS G s w vs d x j)(hk:k<vs.length):∃u,w.cell? ⟨G,k,none⟩=some u/\w.frozen? ⟨G,k,none⟩=false:=by
 obtain⟨arr,h1,h2,-⟩:=h
 exact⟨arr[k]'(by omega),by simp[World.cell?,h1,h2,hk],by simp[World.frozen?,h1]⟩
section
variable {P:Program}
theorem Sty.load{K:Kd}{t:Nat}(hS:Sty P K t){d:TypeDesc}(hu:P.underlying K.e=some d)(hd:d.isRow=true){w:World}{b o:Nat}{xs:List Value}(h:w.rangeAt b o xs)(hl:xs.length=K.sz):(Instr.loadAt K.e (.pointer (some ⟨b,o,none⟩))).run P w=.ok (.agg xs.toArray) w:=by
 obtain⟨ht,i,z,hi,hz,hsz,hzs,hby⟩:=hS
 exact run_loadAt_mid w b o K.e xs d h hu hd (by rw[hi,Option.map_some,hsz,hl])
theorem Sty.size{K:Kd}{t:Nat}(hS:Sty P K t):(P.info? K.e).map (·.size)=some K.sz:=by
 obtain⟨ht,i,z,hi,hz,hsz,hzs,hby⟩:=hS
 rw[hi,Option.map_some,hsz]
theorem Sty.make{K:Kd}{t:Nat}(hS:Sty P K t)(n:Nat)(hn:n<=100000000000)(w:World):∃arr:Array Value,(Instr.makeSlice t (.int .i64 n) (.int .i64 n)).run P w=.ok (.slice (some ⟨w.heap.size,0,none⟩) n n) (w.alloc (.cells arr K.e))/\arr.size=n*K.sz:=by
 obtain⟨ht,i,z,hi,hz,hsz,hzs,hby⟩:=hS
 have hb:n*i.bytes<=100000000000*1000:=Nat.mul_le_mul hn hby
 have hb':(i.bytes:Int)*(n:Int)<=281474976710656:=by
  have h:((i.bytes*n:Nat):Int)<=281474976710656:=by rw[Nat.mul_comm];omega
  rwa [Int.natCast_mul] at h
 have:=run_make (P:=P) w t K.e i z ht hi hz .i64 .i64 n n (by omega) (by omega) hb' (by omega)
 simp only[Int.toNat_natCast,hsz] at this
 exact⟨_,this,by simp[madeCells]⟩
end
end
section
open Go.RowKit
def tyB(i:Nat):Nat:=[228,230,72,232,233,235,237,41,24,22,44,45,239,63,48,56,242].getD i 0
theorem FR:∀i,i<17->∀j,j<17->tyB i=tyB j->i=j:=by decide
theorem tyB_inj(i j:Nat)(hi:i<17)(hj:j<17)(h:tyB i=tyB j):i=j:=FR i hi j hj h
theorem S7:∀i,i<17->tyB i≠114:=by decide
def BagAt(w:World)(β B0:Nat)(f:Nat->List Value):Prop :=
 B0<=β/\∃cur:Array Value,w.heap[β]? = some (Obj.cells cur 114 (0,0))/\cur.size=17/\∀i,i<17->∃v,cur[i]? = some v/\(f i=[]->v=.slice none 0 0)/\w.ownsRow B0 (tyB i) 1 v (f i).length (f i)
theorem BagAt.below{w w':World}{β B0:Nat}{f:Nat->List Value}(h:BagAt w β B0 f)(hb:Below w.heap.size w w'):BagAt w' β B0 f:=by
 obtain⟨h0,cur,h1,h2,h3⟩:=h
 refine⟨h0,cur,by rw[hb.block β (aV h1)];exact h1,h2,λ i hi=>?_⟩
 obtain⟨v,h4,h5,h6⟩:=h3 i hi
 exact⟨v,h4,h5,iN h6 hb⟩
theorem BagAt.cell{w:World}{β B0:Nat}{f:Nat->List Value}(h:BagAt w β B0 f){i:Nat}(hi:i<17):∃v,w.cell? ⟨β,i,none⟩=some v/\w.frozen? ⟨β,i,none⟩=false/\(f i=[]->v=.slice none 0 0)/\w.ownsRow B0 (tyB i) 1 v (f i).length (f i):=by
 obtain⟨h0,cur,h1,h2,h3⟩:=h
 obtain⟨v,h4,h5,h6⟩:=h3 i hi
 exact⟨v,by simp[World.cell?,h1,h4],by simp[World.frozen?,h1],h5,h6⟩
theorem iM{w w':World}{base e size n:Nat}{v:Value}{xs:List Value}(h:w.ownsRow base e size v n xs)(hk:∀(b:Nat) (cur:Array Value),w.heap[b]? = some (Obj.cells cur e (0,0))->w'.heap[b]? = w.heap[b]?):w'.ownsRow base e size v n xs:=by
 refine⟨h.1,h.2.imp id ?_⟩
 rintro⟨g,cap,cur,rfl,h1,h2,h3⟩
 exact⟨g,cap,cur,rfl,h1,by rw[hk g cur h2];exact h2,h3⟩
structure PF (B0:Nat) (w w':World):Prop where
 below:Below B0 w w'
 keep:∀(b:Nat) (cur:Array Value) (e:Nat),e≠114->(∀i,i<17->e≠tyB i)->w.heap[b]? = some (Obj.cells cur e (0,0))->w'.heap[b]? = some (Obj.cells cur e (0,0))
theorem PF.trans{B0:Nat}{a b c:World}(h:PF B0 a b)(k:PF B0 b c):PF B0 a c:=⟨h.below.trans k.below,λ i cur e h1 h2 h3=>k.keep i cur e h1 h2 (h.keep i cur e h1 h2 h3)⟩
theorem PF.of_below{B0:Nat}{w w':World}(h:Below w.heap.size w w')(hB:B0<=w.heap.size):PF B0 w w':=⟨h.mono hB,λ b _ _ _ _ hb=>by rw[h.block b (aV hb)];exact hb⟩
theorem PF.refl(B0:Nat)(w:World):PF B0 w w:=⟨Below.refl _ _,λ _ _ _ _ _ h=>h⟩
theorem BagAt.put{P:Program}{K:Kd}{t i:Nat}(hS:Sty P K t)(he:K.e=tyB i)(hsz:K.sz=1)(ty:TypeId){w:World}{β B0:Nat}{f:Nat->List Value}(h:BagAt w β B0 f)(hi:i<17)(l:Value)(h1:l.oneCell'=true)(hn:(f i).length+1<=100000000000)(hB:B0<=w.heap.size) :
  ∃v v' w2,w.cell? ⟨β,i,none⟩=some v/\(w.alloc (.cells #[l] K.e)).cell? ⟨β,i,none⟩=some v/\(Builtin.append_ #[t,t] ty #[v,.slice (some ⟨w.heap.size,0,none⟩) 1 1]).run P (w.alloc (.cells #[l] K.e))=.ok v' w2/\(∃a n c,v'=.slice a n c) /\
   (∃u,w2.cell? ⟨β,i,none⟩=some u)/\w2.frozen? ⟨β,i,none⟩=false/\BagAt (w2.setCell ⟨β,i,none⟩ v') β B0 (λ j=>if j=i then f i++[l] else f j)/\PF B0 w (w2.setCell ⟨β,i,none⟩ v'):=by
 have hba:=aB w (.cells #[l] K.e)
 obtain⟨h0,cur,g1,g2,g3⟩:=h.below hba
 obtain⟨v,g4,g5,g6⟩:=g3 i hi
 obtain⟨v0,c1,-,-,-⟩:=h.cell hi
 have c2:(w.alloc (.cells #[l] K.e)).cell? ⟨β,i,none⟩=some v:=by simp[World.cell?,g1,g4]
 have hv0:v0=v:=by
  have:=aD hba β i v0 (by obtain⟨_,cur',q,-⟩:=h;exact aV q) (kM c1 (by obtain⟨_,cur',q,-⟩:=h;simp[World.frozen?,q]))
  rw[aC this] at c2;cases c2;rfl
 subst hv0
 obtain⟨ht,ti,z,hti,hz,hs,hzs,hby⟩:=hS
 rw[hsz] at hs hzs
 obtain⟨v',w2,hr,ho,hf⟩:=qL (P:=P) (w.alloc (.cells #[l] K.e)) B0 t ty K.e ti z 1 ht hti hz hs hzs (by decide) v0 (f i).length (f i) (by rw[<-he] at g6;exact g6) (.slice (some ⟨w.heap.size,0,none⟩) 1 1) 1 [l]
  (.inr ⟨_,_,rfl,dO w [l] K.e⟩) rfl (by simpa using h1) hn hby (Nat.le_trans hB hba.size)
 obtain⟨W,hW⟩:∃W,w.alloc (.cells #[l] K.e)=W:=⟨_,rfl⟩
 rw[hW] at hba g1 g6 hf g3 c2
 have hown:∀b,v0.ownBlock=some b->∃cur,W.heap[b]? = some (Obj.cells cur (tyB i) (0,0))/\B0<=b:=by
  intro b hb
  rcases g6.2 with ⟨rfl,-⟩|⟨g,cap,cur',rfl,q1,q2,-⟩
  ·cases hb
  ·cases hb;exact⟨cur',q2,q1⟩
 have hkeep:∀(b:Nat) (cur:Array Value) (e:Nat),e≠tyB i->W.heap[b]? = some (Obj.cells cur e (0,0))->w2.heap[b]? = W.heap[b]?:=by
  intro b cur' e hne hb
  rcases hf with ⟨-,hg⟩|⟨-,hg⟩
  ·refine hg.block b (aV hb) (λ e2=>?_)
   obtain⟨cur2,q,-⟩:=hown b e2.symm
   rw[hb] at q;cases q;exact hne rfl
  ·exact hg.block b (aV hb)
 have hB2:Below B0 W w2:=by
  rcases hf with ⟨-,hg⟩|⟨-,hg⟩
  ·exact⟨hg.os,hg.tape,hg.output,hg.size,λ b hb=>hg.block b (Nat.lt_of_lt_of_le hb (Nat.le_trans hB hba.size)) (λ e=>by
    obtain⟨-,-,q⟩:=hown b e.symm
    omega)⟩
  ·exact hg.mono (Nat.le_trans hB hba.size)
 have g1':=hkeep β cur 114 (λ e=>S7 i hi e.symm) g1
 rw[g1] at g1'
 have hset:(w2.setCell ⟨β,i,none⟩ v').heap[β]? = some (Obj.cells (cur.setIfInBounds i v') 114 (0,0)):=by
  rw[setCell_eq_setRow w2 β i cur 114 (0,0) v' g1'];exact setRow_heap w2 β cur _ 114 _ g1'
 have hoth:∀b,b≠β->(w2.setCell ⟨β,i,none⟩ v').heap[b]? = w2.heap[b]?:=λ b hb=>Below.heap_setCell _ _ _ _ (by simpa using hb)
 have hsl:∃a n c,v'=.slice a n c:=by
  rcases ho.2 with ⟨rfl,-⟩|⟨g,cap,cur',rfl,-⟩
  ·exact⟨_,_,_,rfl⟩
  ·exact⟨_,_,_,rfl⟩
 refine⟨v0,v',w2,c1,by rw[hW];exact c2,hr,hsl,⟨v0,by simp[World.cell?,g1',g4]⟩,by simp[World.frozen?,g1'],⟨h0,_,hset,by rw[Array.size_setIfInBounds,g2],λ j hj=>?_⟩,?_⟩
 ·by_cases e:j=i
  ·subst e
   refine⟨v',by rw[Array.getElem?_setIfInBounds,if_pos rfl,if_pos (by omega)],by simp,?_⟩
   simp only[if_true,List.length_append,List.length_singleton]
   rw[<-he]
   refine iM ho λ b cur' hb=>hoth b (λ e2=>?_)
   subst e2
   rw[g1'] at hb;injection hb with hb;injection hb with _ hb
   exact S7 j hi (he ▸ hb.symm)
  ·obtain⟨u,q1,q2,q3⟩:=g3 j hj
   refine⟨u,by rw[Array.getElem?_setIfInBounds,if_neg (Ne.symm e)];exact q1,by simpa[e] using q2,?_⟩
   simp only[if_neg e]
   refine iM (iM q3 λ b cur' hb=>hkeep b cur' (tyB j) (λ e2=>e (tyB_inj j i hj hi e2)) hb) λ b cur' hb=>hoth b (λ e2=>?_)
   subst e2
   rw[g1'] at hb;injection hb with hb;injection hb with _ hb
   exact S7 j hj hb.symm
 ·have h3:Below B0 w w2:=(hba.mono hB).trans hB2
  refine⟨⟨h3.os,h3.tape,h3.output,by simpa[World.setCell] using h3.size,λ b hb=>by rw[hoth b (by omega)];exact h3.block b hb⟩,λ b cur' e he1 he2 hb=>?_⟩
  have q1:W.heap[b]? = some (Obj.cells cur' e (0,0)):=by rw[hba.block b (aV hb)];exact hb
  have q2:=hkeep b cur' e (he2 i hi) q1
  rw[hoth b (λ e2=>by subst e2;rw[g1] at q1;injection q1 with q1;injection q1 with _ q1;exact he1 q1.symm),q2]
  exact q1
def FO(hi:Nat)(v:Value)(n:Nat)(C:Nat->Nat->Prop):Prop :=
 ∃(p:Option Addr) (c:Nat),v=.slice p n c/\n<=c/\c<=maxLen/\(0<n->∃b o,p=some ⟨b,o,none⟩/\b<hi/\C b o)
def GL(F:Mem)(hi:Nat)(v:Value)(us:List Value):Prop:=FO hi v us.length λ b o=>∀i u,us[i]? = some u->F b (o+i)=some u/\∃p n c,u=.slice p n c
inductive VT where
 | nil
 | cons (us:List Value) (vl vk:Value) (x r:VT)
namespace VT
def len:VT->Nat
 | nil=>0
 | cons _ _ _ _ r=>r.len+1
def app:VT->VT->VT
 | nil,y=>y
 | cons us vl vk x r,y=>cons us vl vk x (r.app y)
def size:VT->Nat
 | nil=>0
 | cons us _ _ x r=>us.length+x.size+r.size+2
def P:VT->List Value
 | nil=>[]
 | cons us _ _ x r=>us++(x.P++r.P)
def L:VT->List Value
 | nil=>[]
 | cons _ vl _ x r=>vl :: (x.L++r.L)
def T:VT->List Value
 | nil=>[]
 | cons _ _ vk x r=>vk :: (x.T++r.T)
theorem app_nil(x:VT):x.app nil=x:=by induction x with
 | nil=>rfl
 | cons us vl vk x r _ ih=>simp[app,ih]
theorem app_assoc(x y z:VT):(x.app y).app z=x.app (y.app z):=by induction x with
 | nil=>rfl
 | cons us vl vk x r _ ih=>simp[app,ih]
theorem app_len(x y:VT):(x.app y).len=x.len+y.len:=by induction x with
 | nil=>simp[app,len]
 | cons us vl vk x r _ ih=>simp[app,len,ih];omega
theorem app_size(x y:VT):(x.app y).size=x.size+y.size:=by induction x with
 | nil=>simp[app,size]
 | cons us vl vk x r _ ih=>simp[app,size,ih];omega
theorem app_P(x y:VT):(x.app y).P=x.P++y.P:=by induction x with
 | nil=>rfl
 | cons us vl vk x r _ ih=>simp[app,P,ih]
theorem app_L(x y:VT):(x.app y).L=x.L++y.L:=by induction x with
 | nil=>rfl
 | cons us vl vk x r _ ih=>simp[app,L,ih]
theorem app_T(x y:VT):(x.app y).T=x.T++y.T:=by induction x with
 | nil=>rfl
 | cons us vl vk x r _ ih=>simp[app,T,ih]
theorem len_le(x:VT):x.len<=x.size:=by induction x with
 | nil=>exact Nat.le_refl _
 | cons us vl vk x r _ ih=>simp only[len,size];omega
theorem lens(x:VT):x.P.length<=x.size/\x.L.length<=x.size/\x.T.length<=x.size:=by induction x with
 | nil=>exact⟨Nat.le_refl _,Nat.le_refl _,Nat.le_refl _⟩
 | cons us vl vk x r ihx ih=>simp only[P,L,T,size,List.length_append,List.length_cons];omega
end VT
def GTs(F:Mem)(hi:Nat):VT->Nat->Nat->Prop
 | .nil,_,_=>True
 | .cons us vl vk x r,b,o=>(∃n0 n1 n2,F b o=some (.int .i64 n0)/\F b (o+1)=some (.int .i64 n1)/\F b (o+2)=some (.int .i64 n2))/\F b (o+3)=some vl/\F b (o+4)=some vk/\GL F hi vl us /\
   FO hi vk x.len (λ b' o'=>GTs F hi x b' o')/\GTs F hi r b (o+5)
def GK(F:Mem)(hi:Nat)(v:Value)(x:VT):Prop:=FO hi v x.len λ b o=>GTs F hi x b o
theorem GTs.app{F:Mem}{hi:Nat}{x y:VT}:∀ {b o:Nat},GTs F hi (x.app y) b o↔GTs F hi x b o/\GTs F hi y b (o+x.len*5):=by
 induction x with
 | nil=>intro b o;simp[VT.app,GTs,VT.len]
 | cons us vl vk x r _ ih =>
  intro b o
  simp only[VT.app,GTs,ih,VT.len,and_assoc]
  rw[show o+5+r.len*5=o+(r.len+1)*5 by omega]
def dC(f:Nat->List Value)(p l t:List Value):Nat->List Value:=λ j=>if j=7 then f 7++p else if j=8 then f 8++l else if j=9 then f 9++t else f j
theorem KN(f:Nat->List Value):dC f [] [] []=f:=by
 funext j;unfold dC
 split
 ·subst_vars;simp
 ·split
  ·subst_vars;simp
  ·split
   ·subst_vars;simp
   ·rfl
theorem fadd7(f:Nat->List Value)(v:Value):(λ j=>if j=7 then f 7++[v] else f j)=dC f [v] [] []:=by
 funext j;unfold dC
 by_cases h7:j=7
 ·simp[h7]
 ·by_cases h8:j=8
  ·simp[h8]
  ·by_cases h9:j=9
   ·simp[h9]
   ·simp[h7,h8,h9]
theorem fadd8(f:Nat->List Value)(v:Value):(λ j=>if j=8 then f 8++[v] else f j)=dC f [] [v] []:=by
 funext j;unfold dC
 by_cases h7:j=7
 ·simp[h7]
 ·by_cases h8:j=8
  ·simp[h8]
  ·by_cases h9:j=9
   ·simp[h9]
   ·simp[h7,h8,h9]
theorem fadd9(f:Nat->List Value)(v:Value):(λ j=>if j=9 then f 9++[v] else f j)=dC f [] [] [v]:=by
 funext j;unfold dC
 by_cases h7:j=7
 ·simp[h7]
 ·by_cases h8:j=8
  ·simp[h8]
  ·by_cases h9:j=9
   ·simp[h9]
   ·simp[h7,h8,h9]
theorem lR(f:Nat->List Value)(p l t p' l' t':List Value):dC (dC f p l t) p' l' t'=dC f (p++p') (l++l') (t++t'):=by
 funext j;unfold dC
 simp only[if_true,List.append_assoc]
 split
 ·rfl
 ·split
  ·simp
  ·split
   ·simp
   ·rfl
end
section
open Go.RowKit
def KP:Kd:={ e:=77,sz:=2,em:=0,cel:=λ _ M xs=>xs=[.int .i64 0,.int .i64 M] }
theorem KP_ok:KP.Ok:=⟨by decide,by decide,λ _ _ _ h=>by rw[show _=_ from h];rfl,λ _ _ _ h u hu=>by rw[show _=_ from h] at hu;simp at hu;rcases hu with rfl|rfl<;>rfl,λ _ _ _ _ _ h=>h⟩
theorem KP_sty:Sty Tryz.prog KP 41:=by
 refine⟨Tryz.underlying41,?_⟩
 have h:=KE
 cases hi:Tryz.prog.info? 77 with
 | none=>rw[hi] at h;cases h
 | some i =>
  rw[hi] at h
  simp only[Option.map_some,Option.some.injEq,Prod.mk.injEq] at h
  exact⟨i,_,hi,h.1,h.2.1,rfl,by omega⟩
def KPS:Kd:={ e:=41,sz:=1,em:=0,cel:=λ _ _ _=>False }
theorem info41:(Tryz.prog.info? 41).map (λ i=>(i.zero,i.size,i.bytes))=some (some (.slice none 0 0),1,24):=by kernel_rfl
theorem KPS_sty:Sty Tryz.prog KPS 105:=by
 refine⟨Tryz.underlying105,?_⟩
 have h:=info41
 cases hi:Tryz.prog.info? 41 with
 | none=>rw[hi] at h;cases h
 | some i =>
  rw[hi] at h
  simp only[Option.map_some,Option.some.injEq,Prod.mk.injEq] at h
  exact⟨i,_,hi,h.1,h.2.1,rfl,by omega⟩
theorem KP_mark:I6 Tryz.prog KP 210:=λ k i w hk hi=>(mM k i w hk hi).mono λ _ _ h=>⟨_,h.1,rfl,h.2⟩
theorem O8(vs:List Value)(L:Nat)(ql:Option Addr)(cl:Nat)(w:World)(hvs:vs.length<=1000000000)(hcl:vs.length<=cl)(hcm:cl<=maxLen)(hL:∀(k:Nat) (v:Value),vs[k]? = some v->ql=some ⟨L,0,none⟩/\vn v<=1000000000)
  (hC:¬InV vs L/\∀W,Tn KP.em (InV vs) w W->∀(k:Nat) (v:Value),vs[k]? = some v->U W L k=some v) (hR:RowsG KP 0 w vs (λ _=>0)) (hD:I7 vs) :
  Calls Tryz.prog 138 #[.slice ql vs.length cl] w λ e w'=>e=.returned (.bool true)/\Tn KP.em (InV vs) w w':=by
 obtain⟨m,hm⟩:∃m,vs.length=m:=⟨_,rfl⟩
 have HM:=hid hm
 have HC:=hid hC
 have HL:=hid hL
 have HMK:=hid KP_mark
 have HIN:Hid (∀b,InV vs b->b<w.heap.size):=λ b hb=>by obtain⟨-,cur,e⟩:=hR.typed hb;exact aV e
 rw[hm] at hvs hcl ⊢
 clear hm hC hL
 unfold maxLen at hcm
 go_enter Tryz.func138,Tryz.ntmps138
 go_wp2_with fail
 go_loopw [3] (λ i wr=>∃k:Nat,k<=m/\i=.int .i64 k/\RowsG KP 0 wr vs (dF vs k 0)/\Tn KP.em (InV vs) w wr) (λ i _=>m-(intOf i).toNat)
 case atStart=>exact⟨0,Nat.zero_le _,rfl,hR.cong λ k v _=>by simp[dF],Tn.refl _ _ _⟩
 case round =>
  obtain⟨k,hk,rfl,hRk,hTk⟩:=hrel
  clear hR
  by_cases hlt:k<m
  ·have r1:decide ((k:Int)<(m:Int))=true:=decide_eq_true (by omega)
   obtain⟨v,hv⟩:∃v,vs[k]? = some v:=⟨_,List.getElem?_eq_getElem (by have:=HM.out;omega)⟩
   obtain⟨p,n,c,rfl,hnc,hcc⟩:=(hRk k v hv).isSlice
   unfold maxLen at hcc
   obtain⟨rfl,hn⟩:=HL.out k _ hv
   replace hn:n<=1000000000:=hn
   have HV:=hid hv
   have HRK:=hid hRk
   have HTK:=hid hTk
   clear hv hRk hTk
   go_wp2_with fail
   go_loopw [4] (λ i wr=>∃j:Nat,i=.int .i64 j/\j<=n/\RowsG KP 0 wr vs (dF vs k j)/\Tn KP.em (InV vs) w wr) (λ i _=>n-(intOf i).toNat)
   case atStart=>exact⟨0,rfl,Nat.zero_le _,HRK.out,HTK.out⟩
   case round =>
    clear HRK HTK
    obtain⟨j,rfl,hj,hRj,hTj⟩:=hrel
    have hu:=HC.out.2 _ hTj k _ HV.out
    have hc:=aC hu
    by_cases hjn:j<n
    ·have r2:decide ((j:Int)<(n:Int))=true:=decide_eq_true (by omega)
     obtain⟨g,rfl,hc0⟩:=(hRj k _ HV.out).lies (by omega)
     have e1:∀n':GrownX (InV vs) wr,n'.it.cell? ⟨L,k,none⟩=some (.slice (some ⟨g,0,none⟩) n c):=GrownX.cell hu HC.out.1
     have HRJ:=hid hRj
     have HTJ:=hid hTj
     clear hu hRj hTj
     go_wp2_with fail
     clear hc
     refine eG (InV vs) [0,1,2,3,4,5,6] (by decide) (by kernel_rfl) (by kernel_rfl) (by kernel_rfl) (by kernel_rfl) (λ _ _ d _ _ h=>by cases d<;>exact h) ?_
     simp only[List.map_cons,List.map_nil,List.getD_cons_zero,List.getD_cons_succ,bar,bD,List.size_toArray,List.length_cons,List.length_nil,Nat.zero_add,Nat.reduceAdd,if_true,if_false,Bool.false_eq_true]
     repeat (go_big_quiet_step (fail))
     refine wpQuiet_nil ?_
     clear e1
     refine aJ (i:=7) (fuel:=2) (by kernel_rfl) rfl (by rfl) (λ K' hK=>?_)
     go_simp
     refine (HMK.out k j _ (by omega) (by omega)).mono ?_
     rintro e wx ⟨xs,rfl,hcel,hbx⟩
     have hAx:Below wr.heap.size wr wx:=aA (aR wr) hbx
     refine hK.out _ _ ⟨⟨wx,λ b hb _=>hAx.block b hb⟩,rfl⟩ (λ _=>?_)
     clear hK K'
     have hRx:=HRJ.out.below KP_ok hAx
     obtain⟨hth,hR',hT'⟩:=RowsG.setF KP_ok hD hRx HV.out hjn hcel
     refine aJ (i:=8) (fuel:=1) (by kernel_rfl) rfl (by rfl) (λ K' hK=>?_)
     go_simp
     refine hK.out _ _ ⟨⟨wx,λ b hb _=>hAx.block b hb⟩,rfl⟩ (λ _=>?_)
     clear hK K'
     refine aJ (i:=9) (fuel:=0) (by kernel_rfl) rfl (by rfl) (λ K' hK=>?_)
     refine wp_store_mid 77 _ _ rfl g (j*2) xs.toArray rfl rfl (by rw[List.size_toArray,KP_ok.len _ _ _ hcel];exact hth) (by rw[List.size_toArray,KP_ok.len _ _ _ hcel];exact KP_sty.size) (all_oneCell_toArray (KP_ok.one _ _ _ hcel)) ?_
     refine hK.out _ _ ⟨⟨wx.setCells g (j*2) xs,λ b hb hx=>(hT'.block b (Nat.lt_of_lt_of_le hb hAx.size) hx).trans (hAx.block b hb)⟩,rfl⟩ (λ _=>?_)
     clear hK K'
     refine wpAnyH_done (by kernel_rfl) ?_ _
     have HR':=hid hR'
     have HT':=hid (HTJ.out.trans ((Tn.of_below hAx).trans hT'))
     clear hth hR' hT' hRx hcel hAx hbx HRJ HTJ
     go_wp2_with fail
     go_roundw
     case rel=>exact⟨j+1,by go_num,by omega,HR'.out,HT'.out⟩
     case measure=>simp[intOf];omega
    ·have r2:decide ((j:Int)<(n:Int))=false:=decide_eq_false (by omega)
     obtain rfl:j=n:=by omega
     have HR':=hid (RowsG.dEnd HV.out hRj)
     have HT':=hid hTj
     clear hRj hTj hu
     go_wp2_with fail
     go_roundw
     case rel=>exact⟨k+1,by omega,by go_num,HR'.out,HT'.out⟩
     case measure=>simp[intOf];omega
  ·have r1:decide ((k:Int)<(m:Int))=false:=decide_eq_false (by omega)
   obtain rfl:k=m:=by omega
   have HF:=hid (RowsG.full HM.out hRk)
   have HT:=hid hTk
   clear hRk hTk
   obtain⟨arr,hmk,harr⟩:=KPS_sty.make k (by omega) wr
   have hmk':(Instr.makeSlice 105 (.int .i64 k) (.int .i64 k)).run Tryz.prog wr=.ok (.slice (some ⟨wr.heap.size,0,none⟩) k k) (wr.alloc (.cells arr 41)):=hmk
   clear hmk
   go_wp2_with fail
   obtain⟨w1,hw1⟩:∃w1,wr.alloc (.cells arr 41)=w1:=⟨_,rfl⟩
   obtain⟨G,hG⟩:∃G,wr.heap.size=G:=⟨_,rfl⟩
   have HGW:Hid (w.heap.size<=G):=hid (by rw[<-hG];exact HT.out.size)
   have HB1:Below wr.heap.size wr w1:=by rw[<-hw1];exact aB _ _
   have HF1:=hid (HF.out.below KP_ok HB1)
   have HT1:=hid (HT.out.trans (Tn.of_below HB1))
   have HG1:Hid (Gsl KP 41 G w.heap.size w1 vs 64 64 0):=hid (by rw[<-hw1,<-hG];exact Gsl.new wr vs 64 64 (by rw[HM.out,harr];show k*1=k;omega))
   rw[hw1,hG]
   clear HF HT HB1 hw1 hmk' harr
   go_loopw [6] (λ i wr=>∃j:Nat,i=.int .i64 j/\j<=k/\Full KP 0 wr vs/\Gsl KP 41 G w.heap.size wr vs 64 64 j/\Tn KP.em (InV vs) w wr) (λ i _=>k-(intOf i).toNat)
   case atStart=>exact⟨0,rfl,Nat.zero_le _,HF1.out,HG1.out,HT1.out⟩
   case round =>
    clear HF1 HG1 HT1
    obtain⟨j,rfl,hj,hF,hGs,hT⟩:=hrel
    by_cases hlt:j<k
    ·have r1:decide ((j:Int)<(k:Int))=true:=decide_eq_true (by omega)
     obtain⟨v,hv⟩:∃v,vs[j]? = some v:=⟨_,List.getElem?_eq_getElem (by have:=HM.out;omega)⟩
     obtain⟨p,n,c,rfl,hnc,hcc⟩:=(hF j v hv).isSlice
     unfold maxLen at hcc
     obtain⟨rfl,hn⟩:=HL.out j _ hv
     replace hn:n<=1000000000:=hn
     have hc:=aC (HC.out.2 _ hT j _ hv)
     have HV:=hid hv
     have HF:=hid hF
     have HGS:=hid hGs
     have HT:=hid hT
     clear hv hF hGs hT
     go_wp2_with fail
     obtain⟨wk,hwk⟩:∃wk:World,wk=wr:=⟨_,rfl⟩
     subst hwk
     go_loopw [7,8] (λ g i wr=>∃t:Nat,i=.int .i64 t/\t<=64/\RowI KP 0 wr (.slice p n c) n j/\Cur KP wk.heap.size wr (.slice p n c) g t j/\Tn KP.em (λ b=>vb (.slice p n c)=some b) wk wr) (λ _ i _=>64-(intOf i).toNat)
     case atStart=>exact⟨0,rfl,by decide,HF.out j _ HV.out,.inl ⟨rfl,rfl⟩,Tn.refl _ _ _⟩
     case round =>
      obtain⟨t,rfl,ht,hRq,hCq,hTq⟩:=hrel
      have hTv:Tn KP.em (InV vs) w wr:=HT.out.trans (hTq.inV HV.out)
      have hcq:=aC (HC.out.2 _ hTv j _ HV.out)
      have HR:=hid hRq
      have HC1:=hid hCq
      have HTQ:=hid hTq
      have HTV:=hid hTv
      clear hRq hCq hTq hTv hc
      by_cases hlt64:t<64
      ·have r2:decide ((t:Int)<64)=true:=decide_eq_true (by omega)
       have HMJ:Hid (∀W,Calls Tryz.prog 210 #[.int .i64 j,.int .i64 ((n:Int)+(t:Int))] W λ e w'=>∃xs,e=.returned (.agg xs.toArray)/\KP.cel w' (mk j (n+t)) xs/\Below W.heap.size W w'):=λ W=>by
        have:=HMK.out j (n+t) W (by omega) (by omega)
        rwa [Int.natCast_add] at this
       go_wp2_with fail
       refine (HMJ.out _).mono ?_
       rintro e wx ⟨xs,rfl,hcel,hbx⟩
       have hxs:xs=[.int .i64 0,.int .i64 (mk j (n+t))]:=hcel
       obtain⟨wy,hwy⟩:∃wy,wx.alloc (.cells xs.toArray 77)=wy:=⟨_,rfl⟩
       have hby:Below wr.heap.size wr wy:=by rw[<-hwy];exact aA hbx (aB _ _)
       have hnc:∀(i:Nat) (u:Value),xs[i]? = some u->wy.cell? ((⟨wx.heap.size,0,none⟩:Addr).add i)=some u:=by rw[<-hwy];exact dO wx xs 77
       obtain⟨g',wz,hrun,hRz,hCz,hTz⟩:=Cur.grow KP_ok KP_sty 41 (HR.out.on KP_ok (Tn.of_below (X:=λ _=>False) hby) λ _ _ _ _=>id) (λ b hb=>Nat.lt_of_lt_of_le (HIN.out b ⟨_,List.mem_of_getElem? HV.out,hb⟩) HT.out.size) (Nat.le_trans HTQ.out.size hby.size)
        (HC1.out.on KP_ok (Tn.of_below (X:=λ _=>False) hby) λ _ _ _ _=>id) (c:=1) (by rw[<-hwy];exact KP_ok.below hcel (aB _ _)) hnc (by show n+t+1<=_;omega)
       have HRZ:=hid hRz
       have HCZ:=hid hCz
       have HTZ:=hid (HTQ.out.trans' ((Tn.of_below hby).trans hTz) λ b hb h=>by
        rcases h with h|h
        ·exact h
        ·omega)
       clear hRz hCz hTz hcel hbx hby hnc HR HC1 HTQ HMJ
       subst hwy hxs
       go_wp2_with (at_builtin;refine wpList_append_run rfl _ _ 41 rfl _ _ _ rfl rfl hrun ?_)
       go_roundw
       case rel=>exact⟨t+1,by go_num,by omega,HRZ.out,HCZ.out,HTZ.out⟩
       case measure=>simp[intOf];omega
      ·have r2:decide ((t:Int)<64)=false:=decide_eq_false (by omega)
       obtain rfl:t=64:=by omega
       have hFq:=Full.one KP_ok hD HF.out HV.out HTQ.out HR.out
       have hGq:=Gsl.one KP_ok hD HGS.out HIN.out HGW.out HV.out HTQ.out
       obtain⟨u,hgc,hgf⟩:=hGq.cell (k:=j) (by have:=HM.out;omega)
       obtain⟨-,hG',hT'⟩:=hGq.put KP_ok (by decide) (by decide) HV.out ((HC1.out.ent (by decide)).less (Nat.le_refl _) HT.out.size)
       obtain⟨h,cap,cur,e,-⟩:=HC1.out.ent (by decide)
       subst e
       have HG':=hid hG'
       have HF':=hid (hFq.put KP_ok HIN.out HGW.out hT')
       have HT':=hid (HTV.out.trans' hT' λ b hb e=>by have:=HGW.out;omega)
       clear hFq hGq hG' hT' HR HC1 HTQ HTV HF HGS HT hcq
       go_wp2_with fail
       go_roundw
       case rel=>exact⟨j+1,by go_num,by omega,HF'.out,HG'.out,HT'.out⟩
       case measure=>simp[intOf];omega
    ·have r1:decide ((j:Int)<(k:Int))=false:=decide_eq_false (by omega)
     obtain rfl:j=k:=by omega
     have HF:=hid hF
     have HGS:=hid hGs
     have HT:=hid hT
     clear hF hGs hT
     go_wp2_with fail
     obtain⟨w3,hw3⟩:∃w3:World,w3=wr:=⟨_,rfl⟩
     subst hw3
     obtain⟨m,hm⟩:∃m:Nat,m=j:=⟨_,rfl⟩
     subst hm
     clear hlt
     go_loopw [9] (λ i wr=>∃j:Nat,i=.int .i64 j/\j<=m/\Below w3.heap.size w3 wr) (λ i _=>m-(intOf i).toNat)
     case atStart=>exact⟨0,rfl,Nat.zero_le _,Below.refl _ _⟩
     case round =>
      obtain⟨j,rfl,hj,hB⟩:=hrel
      by_cases hlt:j<m
      ·have r1:decide ((j:Int)<(m:Int))=true:=decide_eq_true (by omega)
       obtain⟨v,hv⟩:∃v,vs[j]? = some v:=⟨_,List.getElem?_eq_getElem (by have:=HM.out;omega)⟩
       obtain⟨p,n,c,rfl,hnc,hcc⟩:=(HF.out j v hv).isSlice
       unfold maxLen at hcc
       obtain⟨rfl,hn⟩:=HL.out j _ hv
       replace hn:n<=1000000000:=hn
       have HV:=hid hv
       have HB:=hid hB
       clear hv hB
       obtain⟨u,hgc,hgf,hE⟩:=HGS.out.get hlt HV.out
       obtain⟨h,cap,cur,rfl,-,-,hq1,hq2,-⟩:=id hE
       unfold maxLen at hq2
       replace hq1:n+64<=cap:=hq1
       have HU:Hid (U w3 G j=some (.slice (some ⟨h,0,none⟩) (n+64) cap)):=hid (kM hgc hgf)
       have HE:=hid hE
       clear hgc hgf hE
       go_wp2_with fail
       go_loopw [10] (λ i wr=>∃t:Nat,i=.int .i64 t/\t<=n+64/\Below w3.heap.size w3 wr) (λ i _=>n+64-(intOf i).toNat)
       case atStart=>exact⟨0,rfl,Nat.zero_le _,HB.out⟩
       case round =>
        clear HB
        obtain⟨t,rfl,ht,hB⟩:=hrel
        have hug:=aD hB _ _ _ (aM HU.out) HU.out
        have hgc:=aC hug
        have hul:=HC.out.2 _ (HT.out.trans (Tn.of_below hB)) j _ HV.out
        have HB:=hid hB
        clear hB
        by_cases htn:t<n+64
        ·have r2:decide ((t:Int)<(n:Int)+64)=true:=decide_eq_true (by omega)
         have q1:(0:Int)<=(t:Int):=by omega
         have q2:(t:Int)<(n:Int)+64:=by omega
         obtain⟨xs,hcel,hrg⟩:=HE.out.getU (show t<vn (.slice p n c)+64 from htn)
         have HCEL:=hid hcel
         have HRG:=hid hrg
         clear hcel hrg
         obtain⟨M,hM⟩:∃M,mk j t=M:=⟨_,rfl⟩
         have hxs:xs=[.int .i64 0,.int .i64 M]:=by rw[<-hM];exact HCEL.out
         subst hxs
         have c0:∀n':GrownB wr.heap.size wr,n'.it.cell? ⟨h,t*2,none⟩=some (.int .i64 0):=GrownB.cell (aD HB.out _ _ _ (aM (HRG.out 0 _ rfl)) (HRG.out 0 _ rfl)) (Nat.lt_of_lt_of_le (aM (HRG.out 0 _ rfl)) HB.out.size)
         have c1:∀n':GrownB wr.heap.size wr,n'.it.cell? ⟨h,t*2+1,none⟩=some (.int .i64 M):=GrownB.cell (aD HB.out _ _ _ (aM (HRG.out 1 _ rfl)) (HRG.out 1 _ rfl)) (Nat.lt_of_lt_of_le (aM (HRG.out 1 _ rfl)) HB.out.size)
         have hgB:=GrownB.cell hug (aM hug)
         have hlB:=GrownB.cell hul (aM hul)
         clear hug hul
         go_wp2_with fail
         refine cG wr.heap.size [0,1,2,3,4,5,6,7,8] (by decide) (by kernel_rfl) (by kernel_rfl) (by kernel_rfl) (by kernel_rfl) (λ _ _ d _ _ h=>by cases d<;>exact h) ?_
         simp only[List.map_cons,List.map_nil,List.getD_cons_zero,List.getD_cons_succ,bar,bD,List.size_toArray,List.length_cons,List.length_nil,Nat.zero_add,Nat.reduceAdd,if_true,if_false,Bool.false_eq_true]
         repeat (go_big_quiet_step (fail))
         refine wpQuiet_nil ?_
         refine aJ (i:=9) (fuel:=25) (by kernel_rfl) rfl (by rfl) (λ K' hK=>?_)
         go_simp
         refine (HMK.out j t _ (by omega) (by omega)).mono ?_
         rintro e wx ⟨ys,rfl,hcy,hbx⟩
         have hAx:Below wr.heap.size wr wx:=aA (aR wr) hbx
         refine hK.out _ _ ⟨⟨wx,hAx⟩,rfl⟩ (λ _=>?_)
         have hys:ys=[.int .i64 0,.int .i64 M]:=by rw[<-hM];exact hcy
         subst hys
         clear hK K' hcy hbx hgB c0 c1
         by_cases htk:t<n
         ·have r3:decide ((t:Int)<(n:Int))=true:=decide_eq_true (by omega)
          have q3:(t:Int)<(n:Int):=by omega
          obtain⟨g,rfl,-⟩:=(HF.out j _ HV.out).lies (by omega)
          obtain⟨xs,hcel,hrg⟩:=(HF.out j _ HV.out).getU (show t<vn (.slice (some ⟨g,0,none⟩) n c) from htk)
          have HCEL2:=hid hcel
          have HRG2:=hid hrg
          clear hcel hrg HCEL HRG
          have hxs:xs=[.int .i64 0,.int .i64 M]:=by rw[<-hM];exact HCEL2.out
          subst hxs
          have d0:∀n':GrownB wr.heap.size wr,n'.it.cell? ⟨g,t*2,none⟩=some (.int .i64 0):=GrownB.cell (aD HB.out _ _ _ (aM (HRG2.out 0 _ rfl)) (HRG2.out 0 _ rfl)) (Nat.lt_of_lt_of_le (aM (HRG2.out 0 _ rfl)) HB.out.size)
          have d1:∀n':GrownB wr.heap.size wr,n'.it.cell? ⟨g,t*2+1,none⟩=some (.int .i64 M):=GrownB.cell (aD HB.out _ _ _ (aM (HRG2.out 1 _ rfl)) (HRG2.out 1 _ rfl)) (Nat.lt_of_lt_of_le (aM (HRG2.out 1 _ rfl)) HB.out.size)
          refine bJ (by kernel_rfl) (λ _ _ d _ _ h=>by cases d<;>exact h) ⟨⟨wx,hAx⟩,rfl⟩ 5 [10,11,12,13,14,15,16,17,18,19,20,21,22,23,24,25,26,27,28,29] _ _ (by kernel_rfl) (by kernel_rfl) ?_
          simp only[List.map_cons,List.map_nil,List.getD_cons_zero,List.getD_cons_succ,bar,bD,List.size_toArray,List.length_cons,List.length_nil,Nat.zero_add,Nat.reduceAdd,if_true,if_false,Bool.false_eq_true]
          repeat (go_big_quiet_step (fail))
          refine wpQuiet_nil ?_
          clear d0 d1
          refine aJ (i:=30) (fuel:=4) (by kernel_rfl) rfl (by rfl) (λ K' hK=>?_)
          go_simp
          refine (HMK.out j t _ (by omega) (by omega)).mono ?_
          rintro e wz ⟨ys,rfl,hcy,hbz⟩
          have hAz:Below wr.heap.size wr wz:=aA hAx hbz
          refine hK.out _ _ ⟨⟨wz,hAz⟩,rfl⟩ (λ _=>?_)
          have hys:ys=[.int .i64 0,.int .i64 M]:=by rw[<-hM];exact hcy
          subst hys
          clear hK K' hcy hbz
          refine bJ (by kernel_rfl) (λ _ _ d _ _ h=>by cases d<;>exact h) ⟨⟨wz,hAz⟩,rfl⟩ 0 [31,32,33,34] _ _ (by kernel_rfl) (by kernel_rfl) ?_
          simp only[List.map_cons,List.map_nil,List.getD_cons_zero,List.getD_cons_succ,bar,bD,List.size_toArray,List.length_cons,List.length_nil,Nat.zero_add,Nat.reduceAdd,if_true,if_false,Bool.false_eq_true]
          repeat (go_big_quiet_step (fail))
          refine wpQuiet_nil ?_
          refine wpAnyH_done (by kernel_rfl) ?_ _
          have HAV:=hid hAz
          clear hAz hAx
          go_wp2_with fail
          go_roundw
          case rel=>exact⟨t+1,by go_num,by omega,aA HB.out HAV.out⟩
          case measure=>simp[intOf];omega
         ·have r3:decide ((t:Int)<(n:Int))=false:=decide_eq_false (by omega)
          refine bJ (by kernel_rfl) (λ _ _ d _ _ h=>by cases d<;>exact h) ⟨⟨wx,hAx⟩,rfl⟩ 0 [10,11,12,13,14,15,16,17,18,19,20,21,22,23,24,25,26,27,28,29,30,31,32,33,34] _ _ (by kernel_rfl) (by kernel_rfl) ?_
          simp only[List.map_cons,List.map_nil,List.getD_cons_zero,List.getD_cons_succ,bar,bD,List.size_toArray,List.length_cons,List.length_nil,Nat.zero_add,Nat.reduceAdd,if_true,if_false,Bool.false_eq_true]
          repeat (go_big_quiet_step (fail))
          refine wpQuiet_nil ?_
          refine wpAnyH_done (by kernel_rfl) ?_ _
          have HAY:=hid hAx
          clear hAx
          go_wp2_with fail
          go_roundw
          case rel=>exact⟨t+1,by go_num,by omega,aA HB.out HAY.out⟩
          case measure=>simp[intOf];omega
        ·have r2:decide ((t:Int)<(n:Int)+64)=false:=decide_eq_false (by omega)
         clear hug hul
         go_wp2_with fail
         go_roundw
         case rel=>exact⟨j+1,by go_num,by omega,HB.out⟩
         case measure=>simp[intOf];omega
      ·have r1:decide ((j:Int)<(m:Int))=false:=decide_eq_false (by omega)
       obtain rfl:j=m:=by omega
       go_wp2_with fail
       obtain⟨w4,hw4⟩:∃w4:World,w4=wr:=⟨_,rfl⟩
       subst hw4
       obtain⟨m,hm⟩:∃m:Nat,m=j:=⟨_,rfl⟩
       subst hm
       have HF4:=hid (HF.out.below KP_ok hB)
       have HG4:=hid ((HGS.out.start (d':=0) (x':=64)).below KP_ok hB)
       have HT4:=hid (HT.out.trans (Tn.of_below hB))
       clear HF HGS HT hB hlt
       go_loopw [11] (λ i wr=>∃j:Nat,i=.int .i64 j/\j<=m/\Full KP 0 wr vs/\Gsl KP 41 G w.heap.size wr vs 0 64 j/\Tn KP.em (InV vs) w wr) (λ i _=>m-(intOf i).toNat)
       case atStart=>exact⟨0,rfl,Nat.zero_le _,HF4.out,HG4.out,HT4.out⟩
       case round =>
        clear HF4 HG4 HT4
        obtain⟨j,rfl,hj,hF,hGs,hT⟩:=hrel
        by_cases hlt:j<m
        ·have r1:decide ((j:Int)<(m:Int))=true:=decide_eq_true (by omega)
         obtain⟨v,hv⟩:∃v,vs[j]? = some v:=⟨_,List.getElem?_eq_getElem (by have:=HM.out;omega)⟩
         obtain⟨p,n,c,rfl,hnc,hcc⟩:=(hF j v hv).isSlice
         unfold maxLen at hcc
         obtain⟨rfl,hn⟩:=HL.out j _ hv
         replace hn:n<=1000000000:=hn
         have HV:=hid hv
         have HF:=hid hF
         have HGS:=hid hGs
         have HT:=hid hT
         clear hv hF hGs hT
         obtain⟨arr2,hmk2,harr2⟩:=KP_sty.make 64 (by decide) wr
         have hmk2':(Instr.makeSlice 41 (.int .i64 64) (.int .i64 64)).run Tryz.prog wr=.ok (.slice (some ⟨wr.heap.size,0,none⟩) 64 64) (wr.alloc (.cells arr2 77)):=hmk2
         clear hmk2
         go_wp2_with fail
         obtain⟨wk,hwk⟩:∃wk:World,wk=wr:=⟨_,rfl⟩
         subst hwk
         obtain⟨w5,hw5⟩:∃w5,wk.alloc (.cells arr2 77)=w5:=⟨_,rfl⟩
         obtain⟨B,hBq⟩:∃B,wk.heap.size=B:=⟨_,rfl⟩
         have HB5:Hid (Below wk.heap.size wk w5):=hid (by rw[<-hw5];exact aB _ _)
         have HR5:Hid (RowI KP B w5 (.slice (some ⟨B,0,none⟩) 64 64) 0 (j+m)):=hid (by rw[<-hw5,<-hBq];exact RowI.new wk 64 (j+m) harr2 (by decide) (by decide))
         have HBq:=hid hBq
         rw[hw5,hBq]
         clear hw5 hmk2' harr2 hBq
         go_loopw [13] (λ i wr=>∃t:Nat,i=.int .i64 t/\t<=64/\RowI KP B wr (.slice (some ⟨B,0,none⟩) 64 64) t (j+m)/\Below wk.heap.size wk wr) (λ i _=>64-(intOf i).toNat)
         case atStart=>exact⟨0,rfl,by decide,HR5.out,HB5.out⟩
         case round =>
          clear HR5 HB5
          obtain⟨t,rfl,ht,hR5,hB⟩:=hrel
          have HR5:=hid hR5
          have HB:=hid hB
          clear hR5 hB
          by_cases hlt64:t<64
          ·have r2:decide ((t:Int)<64)=true:=decide_eq_true (by omega)
           have HMJ:Hid (∀W,Calls Tryz.prog 210 #[.int .i64 ((j:Int)+(m:Int)),.int .i64 t] W λ e w'=>∃xs,e=.returned (.agg xs.toArray)/\KP.cel w' (mk (j+m) t) xs/\Below W.heap.size W w'):=λ W=>by
            have:=HMK.out (j+m) t W (by omega) (by omega)
            rwa [Int.natCast_add] at this
           go_wp2_with fail
           refine (HMJ.out _).mono ?_
           rintro e wx ⟨xs,rfl,hcel,hbx⟩
           have hRx:=HR5.out.on KP_ok (Tn.of_below (X:=λ _=>False) hbx) λ _ _ _ _=>id
           obtain⟨hth,hR',hT'⟩:=hRx.set KP_ok hlt64 hcel
           have hth':wx.there B (t*2) xs.toArray.size:=by rw[List.size_toArray,KP_ok.len _ _ _ hcel];exact hth
           have hsz':(Tryz.prog.info? 77).map (·.size)=some xs.toArray.size:=by rw[List.size_toArray,KP_ok.len _ _ _ hcel];exact KP_sty.size
           have hon':=all_oneCell_toArray (KP_ok.one _ _ _ hcel)
           have HR':=hid hR'
           have HB':Hid (Below wk.heap.size wk (wx.setCells B (t*2) xs)):=hid (kV HB.out hbx hT' HBq.out)
           clear hRx hth hR' hT' hcel hbx HR5 HB HMJ
           go_wp2_with (refine wpList_store_mid rfl 77 _ _ rfl B (t*2) xs.toArray rfl rfl hth' hsz' hon' ?_)
           go_roundw
           case rel=>exact⟨t+1,by go_num,by omega,HR'.out,HB'.out⟩
           case measure=>simp[intOf];omega
          ·have r2:decide ((t:Int)<64)=false:=decide_eq_false (by omega)
           obtain rfl:t=64:=by omega
           obtain⟨news,hl,hnews,hone⟩:=HR5.out.all KP_ok (by decide)
           have hc:=aC (HC.out.2 _ (HT.out.trans (Tn.of_below HB.out)) j _ HV.out)
           obtain⟨g',w6,hrun,hR6,hE6,hT6⟩:=((HF.out.below KP_ok HB.out) j _ HV.out).many KP_ok KP_sty 41 (c:=64) hl (by decide) hnews hone (by show n+64<=_;omega)
           have hF6:=Full.one KP_ok hD (HF.out.below KP_ok HB.out) HV.out hT6 hR6
           have hG6:=Gsl.one KP_ok hD (HGS.out.below KP_ok HB.out) HIN.out HGW.out HV.out hT6
           obtain⟨u,hgc,hgf⟩:=hG6.cell (k:=j) (by have:=HM.out;omega)
           obtain⟨-,hG',hT'⟩:=hG6.put KP_ok (by decide) (by decide) HV.out (hE6.less (Nat.le_refl _) (Nat.le_trans HT.out.size HB.out.size))
           obtain⟨h,cap,cur,e,-⟩:=hE6
           subst e
           have HG':=hid hG'
           have HF':=hid (hF6.put KP_ok HIN.out HGW.out hT')
           have HT':=hid ((((HT.out.trans (Tn.of_below HB.out)).trans (hT6.inV HV.out))).trans' hT' λ b hb e=>by have:=HGW.out;omega)
           clear hF6 hG6 hG' hT' hT6 hR6 HR5 HB HF HGS HT hl hnews hone
           go_wp2_with (at_builtin;refine wpList_append_run rfl _ _ 41 rfl _ _ _ rfl rfl hrun ?_)
           go_roundw
           case rel=>exact⟨j+1,by go_num,by omega,HF'.out,HG'.out,HT'.out⟩
           case measure=>simp[intOf];omega
        ·have r1:decide ((j:Int)<(m:Int))=false:=decide_eq_false (by omega)
         obtain rfl:j=m:=by omega
         have HF:=hid hF
         have HGS:=hid hGs
         have HT:=hid hT
         clear hF hGs hT
         go_wp2_with fail
         obtain⟨w7,hw7⟩:∃w7:World,w7=wr:=⟨_,rfl⟩
         subst hw7
         obtain⟨m,hm⟩:∃m:Nat,m=j:=⟨_,rfl⟩
         subst hm
         clear hlt
         go_loopw [14] (λ i wr=>∃j:Nat,i=.int .i64 j/\j<=m/\Below w7.heap.size w7 wr) (λ i _=>m-(intOf i).toNat)
         case atStart=>exact⟨0,rfl,Nat.zero_le _,Below.refl _ _⟩
         case round =>
          obtain⟨j,rfl,hj,hB⟩:=hrel
          by_cases hlt:j<m
          ·have r1:decide ((j:Int)<(m:Int))=true:=decide_eq_true (by omega)
           obtain⟨v,hv⟩:∃v,vs[j]? = some v:=⟨_,List.getElem?_eq_getElem (by have:=HM.out;omega)⟩
           obtain⟨p,n,c,rfl,hnc,hcc⟩:=(HF.out j v hv).isSlice
           unfold maxLen at hcc
           obtain⟨rfl,hn⟩:=HL.out j _ hv
           replace hn:n<=1000000000:=hn
           have HV:=hid hv
           have HB:=hid hB
           clear hv hB
           obtain⟨u,hgc,hgf,hE⟩:=HGS.out.get hlt HV.out
           obtain⟨h,cap,cur,rfl,-,-,hq1,hq2,-⟩:=id hE
           unfold maxLen at hq2
           replace hq1:n+64<=cap:=hq1
           have HU:Hid (U w7 G j=some (.slice (some ⟨h,0,none⟩) (n+64) cap)):=hid (kM hgc hgf)
           have HE:=hid hE
           clear hgc hgf hE
           go_wp2_with fail
           go_loopw [15] (λ i wr=>∃t:Nat,i=.int .i64 t/\t<=n/\Below w7.heap.size w7 wr) (λ i _=>n-(intOf i).toNat)
           case atStart=>exact⟨0,rfl,Nat.zero_le _,HB.out⟩
           case round =>
            clear HB
            obtain⟨t,rfl,ht,hB⟩:=hrel
            have hug:=aD hB _ _ _ (aM HU.out) HU.out
            have hul:=HC.out.2 _ (HT.out.trans (Tn.of_below hB)) j _ HV.out
            have hlc:=aC hul
            have HB:=hid hB
            clear hB
            by_cases htn:t<n
            ·have r2:decide ((t:Int)<(n:Int))=true:=decide_eq_true (by omega)
             have q1:(0:Int)<=(t:Int):=by omega
             have q2:(t:Int)<(n:Int)+64:=by omega
             have q3:(t:Int)<(n:Int):=by omega
             obtain⟨g,rfl,-⟩:=(HF.out j _ HV.out).lies (by omega)
             obtain⟨xs,hcel,hrg⟩:=(HF.out j _ HV.out).getU (show t<vn (.slice (some ⟨g,0,none⟩) n c) from htn)
             have HCEL:=hid hcel
             have HRG:=hid hrg
             clear hcel hrg
             obtain⟨M,hM⟩:∃M,mk j t=M:=⟨_,rfl⟩
             have hxs:xs=[.int .i64 0,.int .i64 M]:=by rw[<-hM];exact HCEL.out
             subst hxs
             have c0:∀n':GrownB wr.heap.size wr,n'.it.cell? ⟨g,t*2,none⟩=some (.int .i64 0):=GrownB.cell (aD HB.out _ _ _ (aM (HRG.out 0 _ rfl)) (HRG.out 0 _ rfl)) (Nat.lt_of_lt_of_le (aM (HRG.out 0 _ rfl)) HB.out.size)
             have c1:∀n':GrownB wr.heap.size wr,n'.it.cell? ⟨g,t*2+1,none⟩=some (.int .i64 M):=GrownB.cell (aD HB.out _ _ _ (aM (HRG.out 1 _ rfl)) (HRG.out 1 _ rfl)) (Nat.lt_of_lt_of_le (aM (HRG.out 1 _ rfl)) HB.out.size)
             obtain⟨xs,hcel,hrg⟩:=HE.out.getU (show t<vn (.slice (some ⟨g,0,none⟩) n c)+0 from htn)
             have HCEL2:=hid hcel
             have HRG2:=hid hrg
             clear hcel hrg
             have hxs:xs=[.int .i64 0,.int .i64 M]:=by rw[<-hM];exact HCEL2.out
             subst hxs
             have d0:∀n':GrownB wr.heap.size wr,n'.it.cell? ⟨h,t*2,none⟩=some (.int .i64 0):=GrownB.cell (aD HB.out _ _ _ (aM (HRG2.out 0 _ rfl)) (HRG2.out 0 _ rfl)) (Nat.lt_of_lt_of_le (aM (HRG2.out 0 _ rfl)) HB.out.size)
             have d1:∀n':GrownB wr.heap.size wr,n'.it.cell? ⟨h,t*2+1,none⟩=some (.int .i64 M):=GrownB.cell (aD HB.out _ _ _ (aM (HRG2.out 1 _ rfl)) (HRG2.out 1 _ rfl)) (Nat.lt_of_lt_of_le (aM (HRG2.out 1 _ rfl)) HB.out.size)
             have hgB:=GrownB.cell hug (aM hug)
             have hlB:=GrownB.cell hul (aM hul)
             clear hug hul
             go_wp2_with fail
             refine cG wr.heap.size [0,1,2,3,4,5,6,7,8] (by decide) (by kernel_rfl) (by kernel_rfl) (by kernel_rfl) (by kernel_rfl) (λ _ _ d _ _ h=>by cases d<;>exact h) ?_
             simp only[List.map_cons,List.map_nil,List.getD_cons_zero,List.getD_cons_succ,bar,bD,List.size_toArray,List.length_cons,List.length_nil,Nat.zero_add,Nat.reduceAdd,if_true,if_false,Bool.false_eq_true]
             repeat (go_big_quiet_step (fail))
             refine wpQuiet_nil ?_
             clear c0 c1
             refine aJ (i:=9) (fuel:=16) (by kernel_rfl) rfl (by rfl) (λ K' hK=>?_)
             go_simp
             refine (HMK.out j t _ (by omega) (by omega)).mono ?_
             rintro e wx ⟨ys,rfl,hcy,hbx⟩
             have hAx:Below wr.heap.size wr wx:=aA (aR wr) hbx
             refine hK.out _ _ ⟨⟨wx,hAx⟩,rfl⟩ (λ _=>?_)
             have hys:ys=[.int .i64 0,.int .i64 M]:=by rw[<-hM];exact hcy
             subst hys
             clear hK K' hcy hbx
             refine bJ (by kernel_rfl) (λ _ _ d _ _ h=>by cases d<;>exact h) ⟨⟨wx,hAx⟩,rfl⟩ 4 [10,11,12,13,14,15,16,17,18,19,20,21] _ _ (by kernel_rfl) (by kernel_rfl) ?_
             simp only[List.map_cons,List.map_nil,List.getD_cons_zero,List.getD_cons_succ,bar,bD,List.size_toArray,List.length_cons,List.length_nil,Nat.zero_add,Nat.reduceAdd,if_true,if_false,Bool.false_eq_true]
             repeat (go_big_quiet_step (fail))
             refine wpQuiet_nil ?_
             clear d0 d1 hgB
             refine aJ (i:=22) (fuel:=3) (by kernel_rfl) rfl (by rfl) (λ K' hK=>?_)
             go_simp
             refine (HMK.out j t _ (by omega) (by omega)).mono ?_
             rintro e wz ⟨ys,rfl,hcy,hbz⟩
             have hAz:Below wr.heap.size wr wz:=aA hAx hbz
             refine hK.out _ _ ⟨⟨wz,hAz⟩,rfl⟩ (λ _=>?_)
             have hys:ys=[.int .i64 0,.int .i64 M]:=by rw[<-hM];exact hcy
             subst hys
             clear hK K' hcy hbz
             refine bJ (by kernel_rfl) (λ _ _ d _ _ h=>by cases d<;>exact h) ⟨⟨wz,hAz⟩,rfl⟩ 0 [23,24,25] _ _ (by kernel_rfl) (by kernel_rfl) ?_
             simp only[List.map_cons,List.map_nil,List.getD_cons_zero,List.getD_cons_succ,bar,bD,List.size_toArray,List.length_cons,List.length_nil,Nat.zero_add,Nat.reduceAdd,if_true,if_false,Bool.false_eq_true]
             repeat (go_big_quiet_step (fail))
             refine wpQuiet_nil ?_
             refine wpAnyH_done (by kernel_rfl) ?_ _
             have HAV:=hid hAz
             clear hAz hAx
             go_wp2_with fail
             go_roundw
             case rel=>exact⟨t+1,by go_num,by omega,aA HB.out HAV.out⟩
             case measure=>simp[intOf];omega
            ·have r2:decide ((t:Int)<(n:Int))=false:=decide_eq_false (by omega)
             clear hug hul
             go_wp2_with fail
             go_roundw
             case rel=>exact⟨j+1,by go_num,by omega,HB.out⟩
             case measure=>simp[intOf];omega
          ·have r1:decide ((j:Int)<(m:Int))=false:=decide_eq_false (by omega)
           have HB:=hid hB
           clear hB
           go_wp2_with fail
           go_ret
           exact⟨rfl,HT.out.trans (Tn.of_below HB.out)⟩
end
section
open Go.RowKit
def KL:Kd:={ e:=43,sz:=1,em:=77,cel:=λ w M xs=>∃pb c,xs=[.slice (some ⟨pb,0,none⟩) 1 c]/\1<=c/\c<=maxLen/\∃cur,w.heap[pb]? = some (Obj.cells cur 77 (0,0))/\cur[0]? = some (.int .i64 0)/\cur[1]? = some (.int .i64 M)/\cur.size=c*2 }
theorem KL_ok:KL.Ok:=⟨by decide,by decide,λ _ _ _ h=>by obtain⟨pb,c,rfl,-⟩:=h;rfl,λ _ _ _ h u hu=>by obtain⟨pb,c,rfl,-⟩:=h;simp at hu;subst hu;rfl,λ _ _ _ _ hk h=>by
 obtain⟨pb,c,e,h1,h2,cur,h3,h4⟩:=h
 exact⟨pb,c,e,h1,h2,cur,hk _ _ _ h3,h4⟩⟩
theorem KL_sty:Sty Tryz.prog KL 24:=by
 refine⟨Tryz.underlying24,?_⟩
 have h:=Y4
 cases hi:Tryz.prog.info? 43 with
 | none=>rw[hi] at h;cases h
 | some i =>
  rw[hi] at h
  simp only[Option.map_some,Option.some.injEq,Prod.mk.injEq] at h
  exact⟨i,_,hi,h.1,h.2.1,rfl,by omega⟩
def KLS:Kd:={ e:=24,sz:=1,em:=0,cel:=λ _ _ _=>False }
theorem info24:(Tryz.prog.info? 24).map (λ i=>(i.zero,i.size,i.bytes))=some (some (.slice none 0 0),1,24):=by kernel_rfl
theorem KLS_sty:Sty Tryz.prog KLS 106:=by
 refine⟨Tryz.underlying106,?_⟩
 have h:=info24
 cases hi:Tryz.prog.info? 24 with
 | none=>rw[hi] at h;cases h
 | some i =>
  rw[hi] at h
  simp only[Option.map_some,Option.some.injEq,Prod.mk.injEq] at h
  exact⟨i,_,hi,h.1,h.2.1,rfl,by omega⟩
theorem KL_mark:I6 Tryz.prog KL 121:=λ k i w hk hi=>(lB k i w hk hi).mono λ _ _ h=>by
 obtain⟨xs,S,rfl,hb,ho,-⟩:=h
 obtain⟨v,ys,zs,us,B,S1,S2,S3,rfl,h1,h2,h3,⟨rfl,-⟩,-⟩:=ho
 obtain⟨rfl,-⟩:=h3
 obtain⟨_,rfl,_,rfl,rfl,-⟩:=h2
 rcases h1 with ⟨p,-,h4,-⟩|⟨g,n,cap,cur,-,rfl,-,h5,h6,h7,h8,h9,h10,h11,h12⟩
 ·cases h4
 ·have h9:2=n*2:=h9
  obtain rfl:n=1:=by omega
  have h11:2<=cap*2:=h11
  have h12:cur.toList.take 2=[.int .i64 0,.int .i64 (fV k i)]:=h12
  refine⟨_,rfl,⟨g,cap,rfl,h6,h7,cur,h5,?_,?_,h8⟩,hb⟩
  ·have:=congrArg (λ l:List Value=>l[0]?) h12
   simpa using this
  ·have:=congrArg (λ l:List Value=>l[1]?) h12
   simp at this
   exact this
theorem KL_same:AI Tryz.prog KL 127:=λ M w xs ys hx hy=>by
 have rd:∀pb c cur,1<=c->c<=maxLen->w.heap[pb]? = some (Obj.cells cur 77 (0,0))->cur[0]? = some (.int .i64 0)->cur[1]? = some (.int .i64 M)->cur.size=c*2->RP w (.slice (some ⟨pb,0,none⟩) 1 c) [(0,M)]:=λ pb c cur h1 h2 h3 h4 h5 h6 =>
  ⟨_,1,c,rfl,rfl,h1,h2,by show 2+0<=c*2;omega,.inr (.inr ⟨pb,0,rfl,aV h3,⟨kM (by simp[World.cell?,h3,h4]) (by simp[World.frozen?,h3]),kM (by simp[World.cell?,h3,h5]) (by simp[World.frozen?,h3]),trivial⟩,trivial⟩)⟩
 obtain⟨pb,c,rfl,h1,h2,cur,h3,h4,h5,h6⟩:=hx
 obtain⟨qb,d,rfl,g1,g2,cur2,g3,g4,g5,g6⟩:=hy
 exact fZ [(0,M)] _ _ _ _ _ _ w (rd pb c cur h1 h2 h3 h4 h5 h6) (rd qb d cur2 g1 g2 g3 g4 g5 g6)
theorem O7(vs:List Value)(L:Nat)(ql:Option Addr)(cl:Nat)(w:World)(hvs:vs.length<=1000000000)(hcl:vs.length<=cl)(hcm:cl<=maxLen)(hL:∀(k:Nat) (v:Value),vs[k]? = some v->ql=some ⟨L,0,none⟩/\vn v<=1000000000)
  (hC:¬InV vs L/\∀W,Tn KL.em (InV vs) w W->∀(k:Nat) (v:Value),vs[k]? = some v->U W L k=some v) (hR:RowsG KL 0 w vs (λ _=>0)) (hD:I7 vs) :
  Calls Tryz.prog 139 #[.slice ql vs.length cl] w λ e w'=>e=.returned (.bool true)/\Tn KL.em (InV vs) w w':=by
 obtain⟨m,hm⟩:∃m,vs.length=m:=⟨_,rfl⟩
 have HM:=hid hm
 have HC:=hid hC
 have HL:=hid hL
 have HMK:=hid KL_mark
 have HSM:=hid KL_same
 have HIN:Hid (∀b,InV vs b->b<w.heap.size):=λ b hb=>by obtain⟨-,cur,e⟩:=hR.typed hb;exact aV e
 rw[hm] at hvs hcl ⊢
 clear hm hC hL
 unfold maxLen at hcm
 go_enter Tryz.func139,Tryz.ntmps139
 go_wp2_with fail
 go_loopw [3] (λ i wr=>∃k:Nat,k<=m/\i=.int .i64 k/\RowsG KL 0 wr vs (dF vs k 0)/\Tn KL.em (InV vs) w wr) (λ i _=>m-(intOf i).toNat)
 case atStart=>exact⟨0,Nat.zero_le _,rfl,hR.cong λ k v _=>by simp[dF],Tn.refl _ _ _⟩
 case round =>
  obtain⟨k,hk,rfl,hRk,hTk⟩:=hrel
  clear hR
  by_cases hlt:k<m
  ·have r1:decide ((k:Int)<(m:Int))=true:=decide_eq_true (by omega)
   obtain⟨v,hv⟩:∃v,vs[k]? = some v:=⟨_,List.getElem?_eq_getElem (by have:=HM.out;omega)⟩
   obtain⟨p,n,c,rfl,hnc,hcc⟩:=(hRk k v hv).isSlice
   unfold maxLen at hcc
   obtain⟨rfl,hn⟩:=HL.out k _ hv
   replace hn:n<=1000000000:=hn
   have HV:=hid hv
   have HRK:=hid hRk
   have HTK:=hid hTk
   clear hv hRk hTk
   go_wp2_with fail
   go_loopw [4] (λ i wr=>∃j:Nat,i=.int .i64 j/\j<=n/\RowsG KL 0 wr vs (dF vs k j)/\Tn KL.em (InV vs) w wr) (λ i _=>n-(intOf i).toNat)
   case atStart=>exact⟨0,rfl,Nat.zero_le _,HRK.out,HTK.out⟩
   case round =>
    clear HRK HTK
    obtain⟨j,rfl,hj,hRj,hTj⟩:=hrel
    have hu:=HC.out.2 _ hTj k _ HV.out
    have hc:=aC hu
    by_cases hjn:j<n
    ·have r2:decide ((j:Int)<(n:Int))=true:=decide_eq_true (by omega)
     obtain⟨g,rfl,hc0⟩:=(hRj k _ HV.out).lies (by omega)
     have e1:∀n':GrownX (InV vs) wr,n'.it.cell? ⟨L,k,none⟩=some (.slice (some ⟨g,0,none⟩) n c):=GrownX.cell hu HC.out.1
     have HRJ:=hid hRj
     have HTJ:=hid hTj
     clear hu hRj hTj
     go_wp2_with fail
     clear hc
     refine eG (InV vs) [0,1,2,3,4,5,6] (by decide) (by kernel_rfl) (by kernel_rfl) (by kernel_rfl) (by kernel_rfl) (λ _ _ d _ _ h=>by cases d<;>exact h) ?_
     simp only[List.map_cons,List.map_nil,List.getD_cons_zero,List.getD_cons_succ,bar,bD,List.size_toArray,List.length_cons,List.length_nil,Nat.zero_add,Nat.reduceAdd,if_true,if_false,Bool.false_eq_true]
     repeat (go_big_quiet_step (fail))
     refine wpQuiet_nil ?_
     clear e1
     refine aJ (i:=7) (fuel:=2) (by kernel_rfl) rfl (by rfl) (λ K' hK=>?_)
     go_simp
     refine (HMK.out k j _ (by omega) (by omega)).mono ?_
     rintro e wx ⟨xs,rfl,hcel,hbx⟩
     have hAx:Below wr.heap.size wr wx:=aA (aR wr) hbx
     refine hK.out _ _ ⟨⟨wx,λ b hb _=>hAx.block b hb⟩,rfl⟩ (λ _=>?_)
     clear hK K'
     have hRx:=HRJ.out.below KL_ok hAx
     obtain⟨hth,hR',hT'⟩:=RowsG.setF KL_ok hD hRx HV.out hjn hcel
     rw[show j*KL.sz=j from Nat.mul_one j] at hth hR' hT'
     refine aJ (i:=8) (fuel:=1) (by kernel_rfl) rfl (by rfl) (λ K' hK=>?_)
     go_simp
     refine hK.out _ _ ⟨⟨wx,λ b hb _=>hAx.block b hb⟩,rfl⟩ (λ _=>?_)
     clear hK K'
     refine aJ (i:=9) (fuel:=0) (by kernel_rfl) rfl (by rfl) (λ K' hK=>?_)
     refine wp_store_mid 43 _ _ rfl g (j) xs.toArray rfl rfl (by rw[List.size_toArray,KL_ok.len _ _ _ hcel];exact hth) (by rw[List.size_toArray,KL_ok.len _ _ _ hcel];exact KL_sty.size) (all_oneCell_toArray (KL_ok.one _ _ _ hcel)) ?_
     refine hK.out _ _ ⟨⟨wx.setCells g (j) xs,λ b hb hx=>(hT'.block b (Nat.lt_of_lt_of_le hb hAx.size) hx).trans (hAx.block b hb)⟩,rfl⟩ (λ _=>?_)
     clear hK K'
     refine wpAnyH_done (by kernel_rfl) ?_ _
     have HR':=hid hR'
     have HT':=hid (HTJ.out.trans ((Tn.of_below hAx).trans hT'))
     clear hth hR' hT' hRx hcel hAx hbx HRJ HTJ
     go_wp2_with fail
     go_roundw
     case rel=>exact⟨j+1,by go_num,by omega,HR'.out,HT'.out⟩
     case measure=>simp[intOf];omega
    ·have r2:decide ((j:Int)<(n:Int))=false:=decide_eq_false (by omega)
     obtain rfl:j=n:=by omega
     have HR':=hid (RowsG.dEnd HV.out hRj)
     have HT':=hid hTj
     clear hRj hTj hu
     go_wp2_with fail
     go_roundw
     case rel=>exact⟨k+1,by omega,by go_num,HR'.out,HT'.out⟩
     case measure=>simp[intOf];omega
  ·have r1:decide ((k:Int)<(m:Int))=false:=decide_eq_false (by omega)
   obtain rfl:k=m:=by omega
   have HF:=hid (RowsG.full HM.out hRk)
   have HT:=hid hTk
   clear hRk hTk
   obtain⟨arr,hmk,harr⟩:=KLS_sty.make k (by omega) wr
   have hmk':(Instr.makeSlice 106 (.int .i64 k) (.int .i64 k)).run Tryz.prog wr=.ok (.slice (some ⟨wr.heap.size,0,none⟩) k k) (wr.alloc (.cells arr 24)):=hmk
   clear hmk
   go_wp2_with fail
   obtain⟨w1,hw1⟩:∃w1,wr.alloc (.cells arr 24)=w1:=⟨_,rfl⟩
   obtain⟨G,hG⟩:∃G,wr.heap.size=G:=⟨_,rfl⟩
   have HGW:Hid (w.heap.size<=G):=hid (by rw[<-hG];exact HT.out.size)
   have HB1:Below wr.heap.size wr w1:=by rw[<-hw1];exact aB _ _
   have HF1:=hid (HF.out.below KL_ok HB1)
   have HT1:=hid (HT.out.trans (Tn.of_below HB1))
   have HG1:Hid (Gsl KL 24 G w.heap.size w1 vs 64 64 0):=hid (by rw[<-hw1,<-hG];exact Gsl.new wr vs 64 64 (by rw[HM.out,harr];show k*1=k;omega))
   rw[hw1,hG]
   clear HF HT HB1 hw1 hmk' harr
   go_loopw [6] (λ i wr=>∃j:Nat,i=.int .i64 j/\j<=k/\Full KL 0 wr vs/\Gsl KL 24 G w.heap.size wr vs 64 64 j/\Tn KL.em (InV vs) w wr) (λ i _=>k-(intOf i).toNat)
   case atStart=>exact⟨0,rfl,Nat.zero_le _,HF1.out,HG1.out,HT1.out⟩
   case round =>
    clear HF1 HG1 HT1
    obtain⟨j,rfl,hj,hF,hGs,hT⟩:=hrel
    by_cases hlt:j<k
    ·have r1:decide ((j:Int)<(k:Int))=true:=decide_eq_true (by omega)
     obtain⟨v,hv⟩:∃v,vs[j]? = some v:=⟨_,List.getElem?_eq_getElem (by have:=HM.out;omega)⟩
     obtain⟨p,n,c,rfl,hnc,hcc⟩:=(hF j v hv).isSlice
     unfold maxLen at hcc
     obtain⟨rfl,hn⟩:=HL.out j _ hv
     replace hn:n<=1000000000:=hn
     have hc:=aC (HC.out.2 _ hT j _ hv)
     have HV:=hid hv
     have HF:=hid hF
     have HGS:=hid hGs
     have HT:=hid hT
     clear hv hF hGs hT
     go_wp2_with fail
     obtain⟨wk,hwk⟩:∃wk:World,wk=wr:=⟨_,rfl⟩
     subst hwk
     go_loopw [7,8] (λ g i wr=>∃t:Nat,i=.int .i64 t/\t<=64/\RowI KL 0 wr (.slice p n c) n j/\Cur KL wk.heap.size wr (.slice p n c) g t j/\Tn KL.em (λ b=>vb (.slice p n c)=some b) wk wr) (λ _ i _=>64-(intOf i).toNat)
     case atStart=>exact⟨0,rfl,by decide,HF.out j _ HV.out,.inl ⟨rfl,rfl⟩,Tn.refl _ _ _⟩
     case round =>
      obtain⟨t,rfl,ht,hRq,hCq,hTq⟩:=hrel
      have hTv:Tn KL.em (InV vs) w wr:=HT.out.trans (hTq.inV HV.out)
      have hcq:=aC (HC.out.2 _ hTv j _ HV.out)
      have HR:=hid hRq
      have HC1:=hid hCq
      have HTQ:=hid hTq
      have HTV:=hid hTv
      clear hRq hCq hTq hTv hc
      by_cases hlt64:t<64
      ·have r2:decide ((t:Int)<64)=true:=decide_eq_true (by omega)
       have HMJ:Hid (∀W,Calls Tryz.prog 121 #[.int .i64 j,.int .i64 ((n:Int)+(t:Int))] W λ e w'=>∃xs,e=.returned (.agg xs.toArray)/\KL.cel w' (mk j (n+t)) xs/\Below W.heap.size W w'):=λ W=>by
        have:=HMK.out j (n+t) W (by omega) (by omega)
        rwa [Int.natCast_add] at this
       go_wp2_with fail
       refine (HMJ.out _).mono ?_
       rintro e wx ⟨xs,rfl,hcel,hbx⟩
       obtain⟨pb,pbc,hxs,-⟩:=id hcel
       obtain⟨wy,hwy⟩:∃wy,wx.alloc (.cells xs.toArray 43)=wy:=⟨_,rfl⟩
       have hby:Below wr.heap.size wr wy:=by rw[<-hwy];exact aA hbx (aB _ _)
       have hnc:∀(i:Nat) (u:Value),xs[i]? = some u->wy.cell? ((⟨wx.heap.size,0,none⟩:Addr).add i)=some u:=by rw[<-hwy];exact dO wx xs 43
       obtain⟨g',wz,hrun,hRz,hCz,hTz⟩:=Cur.grow KL_ok KL_sty 24 (HR.out.on KL_ok (Tn.of_below (X:=λ _=>False) hby) λ _ _ _ _=>id) (λ b hb=>Nat.lt_of_lt_of_le (HIN.out b ⟨_,List.mem_of_getElem? HV.out,hb⟩) HT.out.size) (Nat.le_trans HTQ.out.size hby.size)
        (HC1.out.on KL_ok (Tn.of_below (X:=λ _=>False) hby) λ _ _ _ _=>id) (c:=1) (by rw[<-hwy];exact KL_ok.below hcel (aB _ _)) hnc (by show n+t+1<=_;omega)
       have HRZ:=hid hRz
       have HCZ:=hid hCz
       have HTZ:=hid (HTQ.out.trans' ((Tn.of_below hby).trans hTz) λ b hb h=>by
        rcases h with h|h
        ·exact h
        ·omega)
       clear hRz hCz hTz hcel hbx hby hnc HR HC1 HTQ HMJ
       subst hwy hxs
       go_wp2_with (at_builtin;refine wpList_append_run rfl _ _ 24 rfl _ _ _ rfl rfl hrun ?_)
       go_roundw
       case rel=>exact⟨t+1,by go_num,by omega,HRZ.out,HCZ.out,HTZ.out⟩
       case measure=>simp[intOf];omega
      ·have r2:decide ((t:Int)<64)=false:=decide_eq_false (by omega)
       obtain rfl:t=64:=by omega
       have hFq:=Full.one KL_ok hD HF.out HV.out HTQ.out HR.out
       have hGq:=Gsl.one KL_ok hD HGS.out HIN.out HGW.out HV.out HTQ.out
       obtain⟨u,hgc,hgf⟩:=hGq.cell (k:=j) (by have:=HM.out;omega)
       obtain⟨-,hG',hT'⟩:=hGq.put KL_ok (by decide) (by decide) HV.out ((HC1.out.ent (by decide)).less (Nat.le_refl _) HT.out.size)
       obtain⟨h,cap,cur,e,-⟩:=HC1.out.ent (by decide)
       subst e
       have HG':=hid hG'
       have HF':=hid (hFq.put KL_ok HIN.out HGW.out hT')
       have HT':=hid (HTV.out.trans' hT' λ b hb e=>by have:=HGW.out;omega)
       clear hFq hGq hG' hT' HR HC1 HTQ HTV HF HGS HT hcq
       go_wp2_with fail
       go_roundw
       case rel=>exact⟨j+1,by go_num,by omega,HF'.out,HG'.out,HT'.out⟩
       case measure=>simp[intOf];omega
    ·have r1:decide ((j:Int)<(k:Int))=false:=decide_eq_false (by omega)
     obtain rfl:j=k:=by omega
     have HF:=hid hF
     have HGS:=hid hGs
     have HT:=hid hT
     clear hF hGs hT
     go_wp2_with fail
     obtain⟨w3,hw3⟩:∃w3:World,w3=wr:=⟨_,rfl⟩
     subst hw3
     obtain⟨m,hm⟩:∃m:Nat,m=j:=⟨_,rfl⟩
     subst hm
     clear hlt
     go_loopw [9] (λ i wr=>∃j:Nat,i=.int .i64 j/\j<=m/\Below w3.heap.size w3 wr) (λ i _=>m-(intOf i).toNat)
     case atStart=>exact⟨0,rfl,Nat.zero_le _,Below.refl _ _⟩
     case round =>
      obtain⟨j,rfl,hj,hB⟩:=hrel
      by_cases hlt:j<m
      ·have r1:decide ((j:Int)<(m:Int))=true:=decide_eq_true (by omega)
       obtain⟨v,hv⟩:∃v,vs[j]? = some v:=⟨_,List.getElem?_eq_getElem (by have:=HM.out;omega)⟩
       obtain⟨p,n,c,rfl,hnc,hcc⟩:=(HF.out j v hv).isSlice
       unfold maxLen at hcc
       obtain⟨rfl,hn⟩:=HL.out j _ hv
       replace hn:n<=1000000000:=hn
       have HV:=hid hv
       have HB:=hid hB
       clear hv hB
       obtain⟨u,hgc,hgf,hE⟩:=HGS.out.get hlt HV.out
       obtain⟨h,cap,cur,rfl,-,-,hq1,hq2,-⟩:=id hE
       unfold maxLen at hq2
       replace hq1:n+64<=cap:=hq1
       have HU:Hid (U w3 G j=some (.slice (some ⟨h,0,none⟩) (n+64) cap)):=hid (kM hgc hgf)
       have HE:=hid hE
       clear hgc hgf hE
       go_wp2_with fail
       go_loopw [10] (λ i wr=>∃t:Nat,i=.int .i64 t/\t<=n+64/\Below w3.heap.size w3 wr) (λ i _=>n+64-(intOf i).toNat)
       case atStart=>exact⟨0,rfl,Nat.zero_le _,HB.out⟩
       case round =>
        clear HB
        obtain⟨t,rfl,ht,hB⟩:=hrel
        have hug:=aD hB _ _ _ (aM HU.out) HU.out
        have hgc:=aC hug
        have hul:=HC.out.2 _ (HT.out.trans (Tn.of_below hB)) j _ HV.out
        have HB:=hid hB
        clear hB
        by_cases htn:t<n+64
        ·have r2:decide ((t:Int)<(n:Int)+64)=true:=decide_eq_true (by omega)
         have q1:(0:Int)<=(t:Int):=by omega
         have q2:(t:Int)<(n:Int)+64:=by omega
         obtain⟨xs,hcel,hrg⟩:=HE.out.getU (show t<vn (.slice p n c)+64 from htn)
         have HCEL:=hid hcel
         simp only[show KL.sz=1 from rfl,Nat.mul_one] at hrg
         have HRG:=hid hrg
         clear hcel hrg
         obtain⟨pb,pbc,hxs,-⟩:=id HCEL.out
         subst hxs
         have c0:∀n':GrownB wr.heap.size wr,n'.it.cell? ⟨h,t,none⟩=some (.slice (some ⟨pb,0,none⟩) 1 pbc):=GrownB.cell (aD HB.out _ _ _ (aM (HRG.out 0 _ rfl)) (HRG.out 0 _ rfl)) (Nat.lt_of_lt_of_le (aM (HRG.out 0 _ rfl)) HB.out.size)
         have hgB:=GrownB.cell hug (aM hug)
         have hlB:=GrownB.cell hul (aM hul)
         clear hug hul
         go_wp2_with fail
         refine cG wr.heap.size [0,1,2,3,4,5,6,7,8] (by decide) (by kernel_rfl) (by kernel_rfl) (by kernel_rfl) (by kernel_rfl) (λ _ _ d _ _ h=>by cases d<;>exact h) ?_
         simp only[List.map_cons,List.map_nil,List.getD_cons_zero,List.getD_cons_succ,bar,bD,List.size_toArray,List.length_cons,List.length_nil,Nat.zero_add,Nat.reduceAdd,if_true,if_false,Bool.false_eq_true]
         repeat (go_big_quiet_step (fail))
         refine wpQuiet_nil ?_
         refine aJ (i:=9) (fuel:=25) (by kernel_rfl) rfl (by rfl) (λ K' hK=>?_)
         go_simp
         refine (HMK.out j t _ (by omega) (by omega)).mono ?_
         rintro e wx ⟨ys,rfl,hcy,hbx⟩
         have hAx:Below wr.heap.size wr wx:=aA (aR wr) hbx
         refine hK.out _ _ ⟨⟨wx,hAx⟩,rfl⟩ (λ _=>?_)
         clear hK K'
         refine aJ (i:=10) (fuel:=24) (by kernel_rfl) rfl (by rfl) (λ K' hK=>?_)
         go_simp
         refine (HSM.out _ wx _ _ (KL_ok.below HCEL.out (aA HB.out hAx)) hcy).mono ?_
         rintro e wy ⟨rfl,hby⟩
         have hAy:Below wr.heap.size wr wy:=aA hAx hby
         refine hK.out _ _ ⟨⟨wy,hAy⟩,rfl⟩ (λ _=>?_)
         clear hK K' hcy hbx hby hAx hgB c0
         by_cases htk:t<n
         ·have r3:decide ((t:Int)<(n:Int))=true:=decide_eq_true (by omega)
          have q3:(t:Int)<(n:Int):=by omega
          obtain⟨g,rfl,-⟩:=(HF.out j _ HV.out).lies (by omega)
          obtain⟨xs,hcel,hrg⟩:=(HF.out j _ HV.out).getU (show t<vn (.slice (some ⟨g,0,none⟩) n c) from htk)
          have HCEL2:=hid hcel
          simp only[show KL.sz=1 from rfl,Nat.mul_one] at hrg
          have HRG2:=hid hrg
          clear hcel hrg HCEL HRG
          obtain⟨pd,pdc,hxs,-⟩:=id HCEL2.out
          subst hxs
          have d0:∀n':GrownB wr.heap.size wr,n'.it.cell? ⟨g,t,none⟩=some (.slice (some ⟨pd,0,none⟩) 1 pdc):=GrownB.cell (aD HB.out _ _ _ (aM (HRG2.out 0 _ rfl)) (HRG2.out 0 _ rfl)) (Nat.lt_of_lt_of_le (aM (HRG2.out 0 _ rfl)) HB.out.size)
          refine bJ (by kernel_rfl) (λ _ _ d _ _ h=>by cases d<;>exact h) ⟨⟨wy,hAy⟩,rfl⟩ 5 [11,12,13,14,15,16,17,18,19,20,21,22,23,24,25,26,27,28,29] _ _ (by kernel_rfl) (by kernel_rfl) ?_
          simp only[List.map_cons,List.map_nil,List.getD_cons_zero,List.getD_cons_succ,bar,bD,List.size_toArray,List.length_cons,List.length_nil,Nat.zero_add,Nat.reduceAdd,if_true,if_false,Bool.false_eq_true]
          repeat (go_big_quiet_step (fail))
          refine wpQuiet_nil ?_
          clear d0
          refine aJ (i:=30) (fuel:=4) (by kernel_rfl) rfl (by rfl) (λ K' hK=>?_)
          go_simp
          refine (HMK.out j t _ (by omega) (by omega)).mono ?_
          rintro e wz ⟨ys,rfl,hcy,hbz⟩
          have hAz:Below wr.heap.size wr wz:=aA hAy hbz
          refine hK.out _ _ ⟨⟨wz,hAz⟩,rfl⟩ (λ _=>?_)
          clear hK K'
          refine aJ (i:=31) (fuel:=3) (by kernel_rfl) rfl (by rfl) (λ K' hK=>?_)
          go_simp
          refine (HSM.out _ wz _ _ (KL_ok.below HCEL2.out (aA HB.out hAz)) hcy).mono ?_
          rintro e wv ⟨rfl,hbv⟩
          have hAv:Below wr.heap.size wr wv:=aA hAz hbv
          refine hK.out _ _ ⟨⟨wv,hAv⟩,rfl⟩ (λ _=>?_)
          clear hK K' hcy hbz hbv hAz
          refine bJ (by kernel_rfl) (λ _ _ d _ _ h=>by cases d<;>exact h) ⟨⟨wv,hAv⟩,rfl⟩ 0 [32,33,34] _ _ (by kernel_rfl) (by kernel_rfl) ?_
          simp only[List.map_cons,List.map_nil,List.getD_cons_zero,List.getD_cons_succ,bar,bD,List.size_toArray,List.length_cons,List.length_nil,Nat.zero_add,Nat.reduceAdd,if_true,if_false,Bool.false_eq_true]
          repeat (go_big_quiet_step (fail))
          refine wpQuiet_nil ?_
          refine wpAnyH_done (by kernel_rfl) ?_ _
          have HAV:=hid hAv
          clear hAv hAy
          go_wp2_with fail
          go_roundw
          case rel=>exact⟨t+1,by go_num,by omega,aA HB.out HAV.out⟩
          case measure=>simp[intOf];omega
         ·have r3:decide ((t:Int)<(n:Int))=false:=decide_eq_false (by omega)
          refine bJ (by kernel_rfl) (λ _ _ d _ _ h=>by cases d<;>exact h) ⟨⟨wy,hAy⟩,rfl⟩ 0 [11,12,13,14,15,16,17,18,19,20,21,22,23,24,25,26,27,28,29,30,31,32,33,34] _ _ (by kernel_rfl) (by kernel_rfl) ?_
          simp only[List.map_cons,List.map_nil,List.getD_cons_zero,List.getD_cons_succ,bar,bD,List.size_toArray,List.length_cons,List.length_nil,Nat.zero_add,Nat.reduceAdd,if_true,if_false,Bool.false_eq_true]
          repeat (go_big_quiet_step (fail))
          refine wpQuiet_nil ?_
          refine wpAnyH_done (by kernel_rfl) ?_ _
          have HAY:=hid hAy
          clear hAy
          go_wp2_with fail
          go_roundw
          case rel=>exact⟨t+1,by go_num,by omega,aA HB.out HAY.out⟩
          case measure=>simp[intOf];omega
        ·have r2:decide ((t:Int)<(n:Int)+64)=false:=decide_eq_false (by omega)
         clear hug hul
         go_wp2_with fail
         go_roundw
         case rel=>exact⟨j+1,by go_num,by omega,HB.out⟩
         case measure=>simp[intOf];omega
      ·have r1:decide ((j:Int)<(m:Int))=false:=decide_eq_false (by omega)
       obtain rfl:j=m:=by omega
       go_wp2_with fail
       obtain⟨w4,hw4⟩:∃w4:World,w4=wr:=⟨_,rfl⟩
       subst hw4
       obtain⟨m,hm⟩:∃m:Nat,m=j:=⟨_,rfl⟩
       subst hm
       have HF4:=hid (HF.out.below KL_ok hB)
       have HG4:=hid ((HGS.out.start (d':=0) (x':=64)).below KL_ok hB)
       have HT4:=hid (HT.out.trans (Tn.of_below hB))
       clear HF HGS HT hB hlt
       go_loopw [11] (λ i wr=>∃j:Nat,i=.int .i64 j/\j<=m/\Full KL 0 wr vs/\Gsl KL 24 G w.heap.size wr vs 0 64 j/\Tn KL.em (InV vs) w wr) (λ i _=>m-(intOf i).toNat)
       case atStart=>exact⟨0,rfl,Nat.zero_le _,HF4.out,HG4.out,HT4.out⟩
       case round =>
        clear HF4 HG4 HT4
        obtain⟨j,rfl,hj,hF,hGs,hT⟩:=hrel
        by_cases hlt:j<m
        ·have r1:decide ((j:Int)<(m:Int))=true:=decide_eq_true (by omega)
         obtain⟨v,hv⟩:∃v,vs[j]? = some v:=⟨_,List.getElem?_eq_getElem (by have:=HM.out;omega)⟩
         obtain⟨p,n,c,rfl,hnc,hcc⟩:=(hF j v hv).isSlice
         unfold maxLen at hcc
         obtain⟨rfl,hn⟩:=HL.out j _ hv
         replace hn:n<=1000000000:=hn
         have HV:=hid hv
         have HF:=hid hF
         have HGS:=hid hGs
         have HT:=hid hT
         clear hv hF hGs hT
         obtain⟨arr2,hmk2,harr2⟩:=KL_sty.make 64 (by decide) wr
         have hmk2':(Instr.makeSlice 24 (.int .i64 64) (.int .i64 64)).run Tryz.prog wr=.ok (.slice (some ⟨wr.heap.size,0,none⟩) 64 64) (wr.alloc (.cells arr2 43)):=hmk2
         clear hmk2
         go_wp2_with fail
         obtain⟨wk,hwk⟩:∃wk:World,wk=wr:=⟨_,rfl⟩
         subst hwk
         obtain⟨w5,hw5⟩:∃w5,wk.alloc (.cells arr2 43)=w5:=⟨_,rfl⟩
         obtain⟨B,hBq⟩:∃B,wk.heap.size=B:=⟨_,rfl⟩
         have HB5:Hid (Below wk.heap.size wk w5):=hid (by rw[<-hw5];exact aB _ _)
         have HR5:Hid (RowI KL B w5 (.slice (some ⟨B,0,none⟩) 64 64) 0 (j+m)):=hid (by rw[<-hw5,<-hBq];exact RowI.new wk 64 (j+m) harr2 (by decide) (by decide))
         have HBq:=hid hBq
         rw[hw5,hBq]
         clear hw5 hmk2' harr2 hBq
         go_loopw [13] (λ i wr=>∃t:Nat,i=.int .i64 t/\t<=64/\RowI KL B wr (.slice (some ⟨B,0,none⟩) 64 64) t (j+m)/\Below wk.heap.size wk wr) (λ i _=>64-(intOf i).toNat)
         case atStart=>exact⟨0,rfl,by decide,HR5.out,HB5.out⟩
         case round =>
          clear HR5 HB5
          obtain⟨t,rfl,ht,hR5,hB⟩:=hrel
          have HR5:=hid hR5
          have HB:=hid hB
          clear hR5 hB
          by_cases hlt64:t<64
          ·have r2:decide ((t:Int)<64)=true:=decide_eq_true (by omega)
           have HMJ:Hid (∀W,Calls Tryz.prog 121 #[.int .i64 ((j:Int)+(m:Int)),.int .i64 t] W λ e w'=>∃xs,e=.returned (.agg xs.toArray)/\KL.cel w' (mk (j+m) t) xs/\Below W.heap.size W w'):=λ W=>by
            have:=HMK.out (j+m) t W (by omega) (by omega)
            rwa [Int.natCast_add] at this
           go_wp2_with fail
           refine (HMJ.out _).mono ?_
           rintro e wx ⟨xs,rfl,hcel,hbx⟩
           have hRx:=HR5.out.on KL_ok (Tn.of_below (X:=λ _=>False) hbx) λ _ _ _ _=>id
           obtain⟨hth,hR',hT'⟩:=hRx.set KL_ok hlt64 hcel
           rw[show t*KL.sz=t from Nat.mul_one t] at hth hR' hT'
           have hth':wx.there B (t) xs.toArray.size:=by rw[List.size_toArray,KL_ok.len _ _ _ hcel];exact hth
           have hsz':(Tryz.prog.info? 43).map (·.size)=some xs.toArray.size:=by rw[List.size_toArray,KL_ok.len _ _ _ hcel];exact KL_sty.size
           have hon':=all_oneCell_toArray (KL_ok.one _ _ _ hcel)
           have HR':=hid hR'
           have HB':Hid (Below wk.heap.size wk (wx.setCells B (t) xs)):=hid (kV HB.out hbx hT' HBq.out)
           clear hRx hth hR' hT' hcel hbx HR5 HB HMJ
           go_wp2_with (refine wpList_store_mid rfl 43 _ _ rfl B (t) xs.toArray rfl rfl hth' hsz' hon' ?_)
           go_roundw
           case rel=>exact⟨t+1,by go_num,by omega,HR'.out,HB'.out⟩
           case measure=>simp[intOf];omega
          ·have r2:decide ((t:Int)<64)=false:=decide_eq_false (by omega)
           obtain rfl:t=64:=by omega
           obtain⟨news,hl,hnews,hone⟩:=HR5.out.all KL_ok (by decide)
           have hc:=aC (HC.out.2 _ (HT.out.trans (Tn.of_below HB.out)) j _ HV.out)
           obtain⟨g',w6,hrun,hR6,hE6,hT6⟩:=((HF.out.below KL_ok HB.out) j _ HV.out).many KL_ok KL_sty 24 (c:=64) hl (by decide) hnews hone (by show n+64<=_;omega)
           have hF6:=Full.one KL_ok hD (HF.out.below KL_ok HB.out) HV.out hT6 hR6
           have hG6:=Gsl.one KL_ok hD (HGS.out.below KL_ok HB.out) HIN.out HGW.out HV.out hT6
           obtain⟨u,hgc,hgf⟩:=hG6.cell (k:=j) (by have:=HM.out;omega)
           obtain⟨-,hG',hT'⟩:=hG6.put KL_ok (by decide) (by decide) HV.out (hE6.less (Nat.le_refl _) (Nat.le_trans HT.out.size HB.out.size))
           obtain⟨h,cap,cur,e,-⟩:=hE6
           subst e
           have HG':=hid hG'
           have HF':=hid (hF6.put KL_ok HIN.out HGW.out hT')
           have HT':=hid ((((HT.out.trans (Tn.of_below HB.out)).trans (hT6.inV HV.out))).trans' hT' λ b hb e=>by have:=HGW.out;omega)
           clear hF6 hG6 hG' hT' hT6 hR6 HR5 HB HF HGS HT hl hnews hone
           go_wp2_with (at_builtin;refine wpList_append_run rfl _ _ 24 rfl _ _ _ rfl rfl hrun ?_)
           go_roundw
           case rel=>exact⟨j+1,by go_num,by omega,HF'.out,HG'.out,HT'.out⟩
           case measure=>simp[intOf];omega
        ·have r1:decide ((j:Int)<(m:Int))=false:=decide_eq_false (by omega)
         obtain rfl:j=m:=by omega
         have HF:=hid hF
         have HGS:=hid hGs
         have HT:=hid hT
         clear hF hGs hT
         go_wp2_with fail
         obtain⟨w7,hw7⟩:∃w7:World,w7=wr:=⟨_,rfl⟩
         subst hw7
         obtain⟨m,hm⟩:∃m:Nat,m=j:=⟨_,rfl⟩
         subst hm
         clear hlt
         go_loopw [14] (λ i wr=>∃j:Nat,i=.int .i64 j/\j<=m/\Below w7.heap.size w7 wr) (λ i _=>m-(intOf i).toNat)
         case atStart=>exact⟨0,rfl,Nat.zero_le _,Below.refl _ _⟩
         case round =>
          obtain⟨j,rfl,hj,hB⟩:=hrel
          by_cases hlt:j<m
          ·have r1:decide ((j:Int)<(m:Int))=true:=decide_eq_true (by omega)
           obtain⟨v,hv⟩:∃v,vs[j]? = some v:=⟨_,List.getElem?_eq_getElem (by have:=HM.out;omega)⟩
           obtain⟨p,n,c,rfl,hnc,hcc⟩:=(HF.out j v hv).isSlice
           unfold maxLen at hcc
           obtain⟨rfl,hn⟩:=HL.out j _ hv
           replace hn:n<=1000000000:=hn
           have HV:=hid hv
           have HB:=hid hB
           clear hv hB
           obtain⟨u,hgc,hgf,hE⟩:=HGS.out.get hlt HV.out
           obtain⟨h,cap,cur,rfl,-,-,hq1,hq2,-⟩:=id hE
           unfold maxLen at hq2
           replace hq1:n+64<=cap:=hq1
           have HU:Hid (U w7 G j=some (.slice (some ⟨h,0,none⟩) (n+64) cap)):=hid (kM hgc hgf)
           have HE:=hid hE
           clear hgc hgf hE
           go_wp2_with fail
           go_loopw [15] (λ i wr=>∃t:Nat,i=.int .i64 t/\t<=n/\Below w7.heap.size w7 wr) (λ i _=>n-(intOf i).toNat)
           case atStart=>exact⟨0,rfl,Nat.zero_le _,HB.out⟩
           case round =>
            clear HB
            obtain⟨t,rfl,ht,hB⟩:=hrel
            have hug:=aD hB _ _ _ (aM HU.out) HU.out
            have hul:=HC.out.2 _ (HT.out.trans (Tn.of_below hB)) j _ HV.out
            have hlc:=aC hul
            have HB:=hid hB
            clear hB
            by_cases htn:t<n
            ·have r2:decide ((t:Int)<(n:Int))=true:=decide_eq_true (by omega)
             have q1:(0:Int)<=(t:Int):=by omega
             have q2:(t:Int)<(n:Int)+64:=by omega
             have q3:(t:Int)<(n:Int):=by omega
             obtain⟨g,rfl,-⟩:=(HF.out j _ HV.out).lies (by omega)
             obtain⟨xs,hcel,hrg⟩:=(HF.out j _ HV.out).getU (show t<vn (.slice (some ⟨g,0,none⟩) n c) from htn)
             have HCEL:=hid hcel
             simp only[show KL.sz=1 from rfl,Nat.mul_one] at hrg
             have HRG:=hid hrg
             clear hcel hrg
             obtain⟨pb,pbc,hxs,-⟩:=id HCEL.out
             subst hxs
             have c0:∀n':GrownB wr.heap.size wr,n'.it.cell? ⟨g,t,none⟩=some (.slice (some ⟨pb,0,none⟩) 1 pbc):=GrownB.cell (aD HB.out _ _ _ (aM (HRG.out 0 _ rfl)) (HRG.out 0 _ rfl)) (Nat.lt_of_lt_of_le (aM (HRG.out 0 _ rfl)) HB.out.size)
             obtain⟨xs,hcel,hrg⟩:=HE.out.getU (show t<vn (.slice (some ⟨g,0,none⟩) n c)+0 from htn)
             have HCEL2:=hid hcel
             simp only[show KL.sz=1 from rfl,Nat.mul_one] at hrg
             have HRG2:=hid hrg
             clear hcel hrg
             obtain⟨pd,pdc,hxs,-⟩:=id HCEL2.out
             subst hxs
             have d0:∀n':GrownB wr.heap.size wr,n'.it.cell? ⟨h,t,none⟩=some (.slice (some ⟨pd,0,none⟩) 1 pdc):=GrownB.cell (aD HB.out _ _ _ (aM (HRG2.out 0 _ rfl)) (HRG2.out 0 _ rfl)) (Nat.lt_of_lt_of_le (aM (HRG2.out 0 _ rfl)) HB.out.size)
             have hgB:=GrownB.cell hug (aM hug)
             have hlB:=GrownB.cell hul (aM hul)
             clear hug hul
             go_wp2_with fail
             refine cG wr.heap.size [0,1,2,3,4,5,6,7,8] (by decide) (by kernel_rfl) (by kernel_rfl) (by kernel_rfl) (by kernel_rfl) (λ _ _ d _ _ h=>by cases d<;>exact h) ?_
             simp only[List.map_cons,List.map_nil,List.getD_cons_zero,List.getD_cons_succ,bar,bD,List.size_toArray,List.length_cons,List.length_nil,Nat.zero_add,Nat.reduceAdd,if_true,if_false,Bool.false_eq_true]
             repeat (go_big_quiet_step (fail))
             refine wpQuiet_nil ?_
             clear c0
             refine aJ (i:=9) (fuel:=16) (by kernel_rfl) rfl (by rfl) (λ K' hK=>?_)
             go_simp
             refine (HMK.out j t _ (by omega) (by omega)).mono ?_
             rintro e wx ⟨ys,rfl,hcy,hbx⟩
             have hAx:Below wr.heap.size wr wx:=aA (aR wr) hbx
             refine hK.out _ _ ⟨⟨wx,hAx⟩,rfl⟩ (λ _=>?_)
             clear hK K'
             refine aJ (i:=10) (fuel:=15) (by kernel_rfl) rfl (by rfl) (λ K' hK=>?_)
             go_simp
             refine (HSM.out _ wx _ _ (KL_ok.below HCEL.out (aA HB.out hAx)) hcy).mono ?_
             rintro e wy ⟨rfl,hby⟩
             have hAy:Below wr.heap.size wr wy:=aA hAx hby
             refine hK.out _ _ ⟨⟨wy,hAy⟩,rfl⟩ (λ _=>?_)
             clear hK K' hcy hbx hby hAx
             refine bJ (by kernel_rfl) (λ _ _ d _ _ h=>by cases d<;>exact h) ⟨⟨wy,hAy⟩,rfl⟩ 4 [11,12,13,14,15,16,17,18,19,20,21] _ _ (by kernel_rfl) (by kernel_rfl) ?_
             simp only[List.map_cons,List.map_nil,List.getD_cons_zero,List.getD_cons_succ,bar,bD,List.size_toArray,List.length_cons,List.length_nil,Nat.zero_add,Nat.reduceAdd,if_true,if_false,Bool.false_eq_true]
             repeat (go_big_quiet_step (fail))
             refine wpQuiet_nil ?_
             clear d0 hgB
             refine aJ (i:=22) (fuel:=3) (by kernel_rfl) rfl (by rfl) (λ K' hK=>?_)
             go_simp
             refine (HMK.out j t _ (by omega) (by omega)).mono ?_
             rintro e wz ⟨ys,rfl,hcy,hbz⟩
             have hAz:Below wr.heap.size wr wz:=aA hAy hbz
             refine hK.out _ _ ⟨⟨wz,hAz⟩,rfl⟩ (λ _=>?_)
             clear hK K'
             refine aJ (i:=23) (fuel:=2) (by kernel_rfl) rfl (by rfl) (λ K' hK=>?_)
             go_simp
             refine (HSM.out _ wz _ _ (KL_ok.below HCEL2.out (aA HB.out hAz)) hcy).mono ?_
             rintro e wv ⟨rfl,hbv⟩
             have hAv:Below wr.heap.size wr wv:=aA hAz hbv
             refine hK.out _ _ ⟨⟨wv,hAv⟩,rfl⟩ (λ _=>?_)
             clear hK K' hcy hbz hbv hAz
             refine bJ (by kernel_rfl) (λ _ _ d _ _ h=>by cases d<;>exact h) ⟨⟨wv,hAv⟩,rfl⟩ 0 [24,25] _ _ (by kernel_rfl) (by kernel_rfl) ?_
             simp only[List.map_cons,List.map_nil,List.getD_cons_zero,List.getD_cons_succ,bar,bD,List.size_toArray,List.length_cons,List.length_nil,Nat.zero_add,Nat.reduceAdd,if_true,if_false,Bool.false_eq_true]
             repeat (go_big_quiet_step (fail))
             refine wpQuiet_nil ?_
             refine wpAnyH_done (by kernel_rfl) ?_ _
             have HAV:=hid hAv
             clear hAv hAy
             go_wp2_with fail
             go_roundw
             case rel=>exact⟨t+1,by go_num,by omega,aA HB.out HAV.out⟩
             case measure=>simp[intOf];omega
            ·have r2:decide ((t:Int)<(n:Int))=false:=decide_eq_false (by omega)
             clear hug hul
             go_wp2_with fail
             go_roundw
             case rel=>exact⟨j+1,by go_num,by omega,HB.out⟩
             case measure=>simp[intOf];omega
          ·have r1:decide ((j:Int)<(m:Int))=false:=decide_eq_false (by omega)
           have HB:=hid hB
           clear hB
           go_wp2_with fail
           go_ret
           exact⟨rfl,HT.out.trans (Tn.of_below HB.out)⟩
end
section
open Go.RowKit
def KT:Kd:={ e:=26,sz:=5,em:=0,cel:=λ _ M xs=>xs=[.int .i64 0,.int .i64 M,.int .i64 0,.slice none 0 0,.slice none 0 0] }
theorem KT_ok:KT.Ok:=⟨by decide,by decide,λ _ _ _ h=>by rw[show _=_ from h];rfl,λ _ _ _ h u hu=>by rw[show _=_ from h] at hu;simp at hu;rcases hu with rfl|rfl|rfl|rfl<;>rfl,λ _ _ _ _ _ h=>h⟩
theorem KT_sty:Sty Tryz.prog KT 22:=by
 refine⟨Tryz.underlying22,?_⟩
 have h:=KF
 cases hi:Tryz.prog.info? 26 with
 | none=>rw[hi] at h;cases h
 | some i =>
  rw[hi] at h
  simp only[Option.map_some,Option.some.injEq,Prod.mk.injEq] at h
  exact⟨i,_,hi,h.1,h.2.1,rfl,by omega⟩
def KTS:Kd:={ e:=22,sz:=1,em:=0,cel:=λ _ _ _=>False }
theorem info22:(Tryz.prog.info? 22).map (λ i=>(i.zero,i.size,i.bytes))=some (some (.slice none 0 0),1,24):=by kernel_rfl
theorem KTS_sty:Sty Tryz.prog KTS 38:=by
 refine⟨Tryz.underlying38,?_⟩
 have h:=info22
 cases hi:Tryz.prog.info? 22 with
 | none=>rw[hi] at h;cases h
 | some i =>
  rw[hi] at h
  simp only[Option.map_some,Option.some.injEq,Prod.mk.injEq] at h
  exact⟨i,_,hi,h.1,h.2.1,rfl,by omega⟩
theorem KT_same:AI Tryz.prog KT 16:=λ M w xs ys hx hy=>by
 have hx:xs=[.int .i64 0,.int .i64 M,.int .i64 0,.slice none 0 0,.slice none 0 0]:=hx
 have hy:ys=[.int .i64 0,.int .i64 M,.int .i64 0,.slice none 0 0,.slice none 0 0]:=hy
 subst hx hy
 have rm:RM ty w (.agg #[.int .i64 0,.int .i64 M,.int .i64 0,.slice none 0 0,.slice none 0 0]) ⟨0,M,0,[]⟩ .nil:=⟨none,0,0,none,0,0,rfl,Rd.none_ _ _ _,Rd.none_ _ _ _⟩
 exact gV ⟨0,M,0,[]⟩ .nil _ _ w rm rm
theorem KT_mark:I6 Tryz.prog KT 54:=λ k i w hk hi=>(mL k i w hk hi).mono λ _ _ h=>⟨_,h.1,rfl,h.2⟩
theorem O6(vs:List Value)(L:Nat)(ql:Option Addr)(cl:Nat)(w:World)(hvs:vs.length<=1000000000)(hcl:vs.length<=cl)(hcm:cl<=maxLen)(hL:∀(k:Nat) (v:Value),vs[k]? = some v->ql=some ⟨L,0,none⟩/\vn v<=1000000000)
  (hC:¬InV vs L/\∀W,Tn KT.em (InV vs) w W->∀(k:Nat) (v:Value),vs[k]? = some v->U W L k=some v) (hR:RowsG KT 0 w vs (λ _=>0)) (hD:I7 vs) :
  Calls Tryz.prog 140 #[.slice ql vs.length cl] w λ e w'=>e=.returned (.bool true)/\Tn KT.em (InV vs) w w':=by
 obtain⟨m,hm⟩:∃m,vs.length=m:=⟨_,rfl⟩
 have HM:=hid hm
 have HC:=hid hC
 have HL:=hid hL
 have HMK:=hid KT_mark
 have HSM:=hid KT_same
 have HIN:Hid (∀b,InV vs b->b<w.heap.size):=λ b hb=>by obtain⟨-,cur,e⟩:=hR.typed hb;exact aV e
 rw[hm] at hvs hcl ⊢
 clear hm hC hL
 unfold maxLen at hcm
 go_enter Tryz.func140,Tryz.ntmps140
 go_wp2_with fail
 go_loopw [3] (λ i wr=>∃k:Nat,k<=m/\i=.int .i64 k/\RowsG KT 0 wr vs (dF vs k 0)/\Tn KT.em (InV vs) w wr) (λ i _=>m-(intOf i).toNat)
 case atStart=>exact⟨0,Nat.zero_le _,rfl,hR.cong λ k v _=>by simp[dF],Tn.refl _ _ _⟩
 case round =>
  obtain⟨k,hk,rfl,hRk,hTk⟩:=hrel
  clear hR
  by_cases hlt:k<m
  ·have r1:decide ((k:Int)<(m:Int))=true:=decide_eq_true (by omega)
   obtain⟨v,hv⟩:∃v,vs[k]? = some v:=⟨_,List.getElem?_eq_getElem (by have:=HM.out;omega)⟩
   obtain⟨p,n,c,rfl,hnc,hcc⟩:=(hRk k v hv).isSlice
   unfold maxLen at hcc
   obtain⟨rfl,hn⟩:=HL.out k _ hv
   replace hn:n<=1000000000:=hn
   have HV:=hid hv
   have HRK:=hid hRk
   have HTK:=hid hTk
   clear hv hRk hTk
   go_wp2_with fail
   go_loopw [4] (λ i wr=>∃j:Nat,i=.int .i64 j/\j<=n/\RowsG KT 0 wr vs (dF vs k j)/\Tn KT.em (InV vs) w wr) (λ i _=>n-(intOf i).toNat)
   case atStart=>exact⟨0,rfl,Nat.zero_le _,HRK.out,HTK.out⟩
   case round =>
    clear HRK HTK
    obtain⟨j,rfl,hj,hRj,hTj⟩:=hrel
    have hu:=HC.out.2 _ hTj k _ HV.out
    have hc:=aC hu
    by_cases hjn:j<n
    ·have r2:decide ((j:Int)<(n:Int))=true:=decide_eq_true (by omega)
     obtain⟨g,rfl,hc0⟩:=(hRj k _ HV.out).lies (by omega)
     have e1:∀n':GrownX (InV vs) wr,n'.it.cell? ⟨L,k,none⟩=some (.slice (some ⟨g,0,none⟩) n c):=GrownX.cell hu HC.out.1
     have HRJ:=hid hRj
     have HTJ:=hid hTj
     clear hu hRj hTj
     go_wp2_with fail
     clear hc
     refine eG (InV vs) [0,1,2,3,4,5,6] (by decide) (by kernel_rfl) (by kernel_rfl) (by kernel_rfl) (by kernel_rfl) (λ _ _ d _ _ h=>by cases d<;>exact h) ?_
     simp only[List.map_cons,List.map_nil,List.getD_cons_zero,List.getD_cons_succ,bar,bD,List.size_toArray,List.length_cons,List.length_nil,Nat.zero_add,Nat.reduceAdd,if_true,if_false,Bool.false_eq_true]
     repeat (go_big_quiet_step (fail))
     refine wpQuiet_nil ?_
     clear e1
     refine aJ (i:=7) (fuel:=2) (by kernel_rfl) rfl (by rfl) (λ K' hK=>?_)
     go_simp
     refine (HMK.out k j _ (by omega) (by omega)).mono ?_
     rintro e wx ⟨xs,rfl,hcel,hbx⟩
     have hAx:Below wr.heap.size wr wx:=aA (aR wr) hbx
     refine hK.out _ _ ⟨⟨wx,λ b hb _=>hAx.block b hb⟩,rfl⟩ (λ _=>?_)
     clear hK K'
     have hRx:=HRJ.out.below KT_ok hAx
     obtain⟨hth,hR',hT'⟩:=RowsG.setF KT_ok hD hRx HV.out hjn hcel
     refine aJ (i:=8) (fuel:=1) (by kernel_rfl) rfl (by rfl) (λ K' hK=>?_)
     go_simp
     refine hK.out _ _ ⟨⟨wx,λ b hb _=>hAx.block b hb⟩,rfl⟩ (λ _=>?_)
     clear hK K'
     refine aJ (i:=9) (fuel:=0) (by kernel_rfl) rfl (by rfl) (λ K' hK=>?_)
     refine wp_store_mid 26 _ _ rfl g (j*5) xs.toArray rfl rfl (by rw[List.size_toArray,KT_ok.len _ _ _ hcel];exact hth) (by rw[List.size_toArray,KT_ok.len _ _ _ hcel];exact KT_sty.size) (all_oneCell_toArray (KT_ok.one _ _ _ hcel)) ?_
     refine hK.out _ _ ⟨⟨wx.setCells g (j*5) xs,λ b hb hx=>(hT'.block b (Nat.lt_of_lt_of_le hb hAx.size) hx).trans (hAx.block b hb)⟩,rfl⟩ (λ _=>?_)
     clear hK K'
     refine wpAnyH_done (by kernel_rfl) ?_ _
     have HR':=hid hR'
     have HT':=hid (HTJ.out.trans ((Tn.of_below hAx).trans hT'))
     clear hth hR' hT' hRx hcel hAx hbx HRJ HTJ
     go_wp2_with fail
     go_roundw
     case rel=>exact⟨j+1,by go_num,by omega,HR'.out,HT'.out⟩
     case measure=>simp[intOf];omega
    ·have r2:decide ((j:Int)<(n:Int))=false:=decide_eq_false (by omega)
     obtain rfl:j=n:=by omega
     have HR':=hid (RowsG.dEnd HV.out hRj)
     have HT':=hid hTj
     clear hRj hTj hu
     go_wp2_with fail
     go_roundw
     case rel=>exact⟨k+1,by omega,by go_num,HR'.out,HT'.out⟩
     case measure=>simp[intOf];omega
  ·have r1:decide ((k:Int)<(m:Int))=false:=decide_eq_false (by omega)
   obtain rfl:k=m:=by omega
   have HF:=hid (RowsG.full HM.out hRk)
   have HT:=hid hTk
   clear hRk hTk
   obtain⟨arr,hmk,harr⟩:=KTS_sty.make k (by omega) wr
   have hmk':(Instr.makeSlice 38 (.int .i64 k) (.int .i64 k)).run Tryz.prog wr=.ok (.slice (some ⟨wr.heap.size,0,none⟩) k k) (wr.alloc (.cells arr 22)):=hmk
   clear hmk
   go_wp2_with fail
   obtain⟨w1,hw1⟩:∃w1,wr.alloc (.cells arr 22)=w1:=⟨_,rfl⟩
   obtain⟨G,hG⟩:∃G,wr.heap.size=G:=⟨_,rfl⟩
   have HGW:Hid (w.heap.size<=G):=hid (by rw[<-hG];exact HT.out.size)
   have HB1:Below wr.heap.size wr w1:=by rw[<-hw1];exact aB _ _
   have HF1:=hid (HF.out.below KT_ok HB1)
   have HT1:=hid (HT.out.trans (Tn.of_below HB1))
   have HG1:Hid (Gsl KT 22 G w.heap.size w1 vs 64 64 0):=hid (by rw[<-hw1,<-hG];exact Gsl.new wr vs 64 64 (by rw[HM.out,harr];show k*1=k;omega))
   rw[hw1,hG]
   clear HF HT HB1 hw1 hmk' harr
   go_loopw [6] (λ i wr=>∃j:Nat,i=.int .i64 j/\j<=k/\Full KT 0 wr vs/\Gsl KT 22 G w.heap.size wr vs 64 64 j/\Tn KT.em (InV vs) w wr) (λ i _=>k-(intOf i).toNat)
   case atStart=>exact⟨0,rfl,Nat.zero_le _,HF1.out,HG1.out,HT1.out⟩
   case round =>
    clear HF1 HG1 HT1
    obtain⟨j,rfl,hj,hF,hGs,hT⟩:=hrel
    by_cases hlt:j<k
    ·have r1:decide ((j:Int)<(k:Int))=true:=decide_eq_true (by omega)
     obtain⟨v,hv⟩:∃v,vs[j]? = some v:=⟨_,List.getElem?_eq_getElem (by have:=HM.out;omega)⟩
     obtain⟨p,n,c,rfl,hnc,hcc⟩:=(hF j v hv).isSlice
     unfold maxLen at hcc
     obtain⟨rfl,hn⟩:=HL.out j _ hv
     replace hn:n<=1000000000:=hn
     have hc:=aC (HC.out.2 _ hT j _ hv)
     have HV:=hid hv
     have HF:=hid hF
     have HGS:=hid hGs
     have HT:=hid hT
     clear hv hF hGs hT
     go_wp2_with fail
     obtain⟨wk,hwk⟩:∃wk:World,wk=wr:=⟨_,rfl⟩
     subst hwk
     go_loopw [7,8] (λ g i wr=>∃t:Nat,i=.int .i64 t/\t<=64/\RowI KT 0 wr (.slice p n c) n j/\Cur KT wk.heap.size wr (.slice p n c) g t j/\Tn KT.em (λ b=>vb (.slice p n c)=some b) wk wr) (λ _ i _=>64-(intOf i).toNat)
     case atStart=>exact⟨0,rfl,by decide,HF.out j _ HV.out,.inl ⟨rfl,rfl⟩,Tn.refl _ _ _⟩
     case round =>
      obtain⟨t,rfl,ht,hRq,hCq,hTq⟩:=hrel
      have hTv:Tn KT.em (InV vs) w wr:=HT.out.trans (hTq.inV HV.out)
      have hcq:=aC (HC.out.2 _ hTv j _ HV.out)
      have HR:=hid hRq
      have HC1:=hid hCq
      have HTQ:=hid hTq
      have HTV:=hid hTv
      clear hRq hCq hTq hTv hc
      by_cases hlt64:t<64
      ·have r2:decide ((t:Int)<64)=true:=decide_eq_true (by omega)
       have HMJ:Hid (∀W,Calls Tryz.prog 54 #[.int .i64 j,.int .i64 ((n:Int)+(t:Int))] W λ e w'=>∃xs,e=.returned (.agg xs.toArray)/\KT.cel w' (mk j (n+t)) xs/\Below W.heap.size W w'):=λ W=>by
        have:=HMK.out j (n+t) W (by omega) (by omega)
        rwa [Int.natCast_add] at this
       go_wp2_with fail
       refine (HMJ.out _).mono ?_
       rintro e wx ⟨xs,rfl,hcel,hbx⟩
       have hxs:xs=[.int .i64 0,.int .i64 (mk j (n+t)),.int .i64 0,.slice none 0 0,.slice none 0 0]:=hcel
       obtain⟨wy,hwy⟩:∃wy,wx.alloc (.cells xs.toArray 26)=wy:=⟨_,rfl⟩
       have hby:Below wr.heap.size wr wy:=by rw[<-hwy];exact aA hbx (aB _ _)
       have hnc:∀(i:Nat) (u:Value),xs[i]? = some u->wy.cell? ((⟨wx.heap.size,0,none⟩:Addr).add i)=some u:=by rw[<-hwy];exact dO wx xs 26
       obtain⟨g',wz,hrun,hRz,hCz,hTz⟩:=Cur.grow KT_ok KT_sty 22 (HR.out.on KT_ok (Tn.of_below (X:=λ _=>False) hby) λ _ _ _ _=>id) (λ b hb=>Nat.lt_of_lt_of_le (HIN.out b ⟨_,List.mem_of_getElem? HV.out,hb⟩) HT.out.size) (Nat.le_trans HTQ.out.size hby.size)
        (HC1.out.on KT_ok (Tn.of_below (X:=λ _=>False) hby) λ _ _ _ _=>id) (c:=1) (by rw[<-hwy];exact KT_ok.below hcel (aB _ _)) hnc (by show n+t+1<=_;omega)
       have HRZ:=hid hRz
       have HCZ:=hid hCz
       have HTZ:=hid (HTQ.out.trans' ((Tn.of_below hby).trans hTz) λ b hb h=>by
        rcases h with h|h
        ·exact h
        ·omega)
       clear hRz hCz hTz hcel hbx hby hnc HR HC1 HTQ HMJ
       subst hwy hxs
       go_wp2_with (at_builtin;refine wpList_append_run rfl _ _ 22 rfl _ _ _ rfl rfl hrun ?_)
       go_roundw
       case rel=>exact⟨t+1,by go_num,by omega,HRZ.out,HCZ.out,HTZ.out⟩
       case measure=>simp[intOf];omega
      ·have r2:decide ((t:Int)<64)=false:=decide_eq_false (by omega)
       obtain rfl:t=64:=by omega
       have hFq:=Full.one KT_ok hD HF.out HV.out HTQ.out HR.out
       have hGq:=Gsl.one KT_ok hD HGS.out HIN.out HGW.out HV.out HTQ.out
       obtain⟨u,hgc,hgf⟩:=hGq.cell (k:=j) (by have:=HM.out;omega)
       obtain⟨-,hG',hT'⟩:=hGq.put KT_ok (by decide) (by decide) HV.out ((HC1.out.ent (by decide)).less (Nat.le_refl _) HT.out.size)
       obtain⟨h,cap,cur,e,-⟩:=HC1.out.ent (by decide)
       subst e
       have HG':=hid hG'
       have HF':=hid (hFq.put KT_ok HIN.out HGW.out hT')
       have HT':=hid (HTV.out.trans' hT' λ b hb e=>by have:=HGW.out;omega)
       clear hFq hGq hG' hT' HR HC1 HTQ HTV HF HGS HT hcq
       go_wp2_with fail
       go_roundw
       case rel=>exact⟨j+1,by go_num,by omega,HF'.out,HG'.out,HT'.out⟩
       case measure=>simp[intOf];omega
    ·have r1:decide ((j:Int)<(k:Int))=false:=decide_eq_false (by omega)
     obtain rfl:j=k:=by omega
     have HF:=hid hF
     have HGS:=hid hGs
     have HT:=hid hT
     clear hF hGs hT
     go_wp2_with fail
     obtain⟨w3,hw3⟩:∃w3:World,w3=wr:=⟨_,rfl⟩
     subst hw3
     obtain⟨m,hm⟩:∃m:Nat,m=j:=⟨_,rfl⟩
     subst hm
     clear hlt
     go_loopw [9] (λ i wr=>∃j:Nat,i=.int .i64 j/\j<=m/\Below w3.heap.size w3 wr) (λ i _=>m-(intOf i).toNat)
     case atStart=>exact⟨0,rfl,Nat.zero_le _,Below.refl _ _⟩
     case round =>
      obtain⟨j,rfl,hj,hB⟩:=hrel
      by_cases hlt:j<m
      ·have r1:decide ((j:Int)<(m:Int))=true:=decide_eq_true (by omega)
       obtain⟨v,hv⟩:∃v,vs[j]? = some v:=⟨_,List.getElem?_eq_getElem (by have:=HM.out;omega)⟩
       obtain⟨p,n,c,rfl,hnc,hcc⟩:=(HF.out j v hv).isSlice
       unfold maxLen at hcc
       obtain⟨rfl,hn⟩:=HL.out j _ hv
       replace hn:n<=1000000000:=hn
       have HV:=hid hv
       have HB:=hid hB
       clear hv hB
       obtain⟨u,hgc,hgf,hE⟩:=HGS.out.get hlt HV.out
       obtain⟨h,cap,cur,rfl,-,-,hq1,hq2,-⟩:=id hE
       unfold maxLen at hq2
       replace hq1:n+64<=cap:=hq1
       have HU:Hid (U w3 G j=some (.slice (some ⟨h,0,none⟩) (n+64) cap)):=hid (kM hgc hgf)
       have HE:=hid hE
       clear hgc hgf hE
       go_wp2_with fail
       go_loopw [10] (λ i wr=>∃t:Nat,i=.int .i64 t/\t<=n+64/\Below w3.heap.size w3 wr) (λ i _=>n+64-(intOf i).toNat)
       case atStart=>exact⟨0,rfl,Nat.zero_le _,HB.out⟩
       case round =>
        clear HB
        obtain⟨t,rfl,ht,hB⟩:=hrel
        have hug:=aD hB _ _ _ (aM HU.out) HU.out
        have hgc:=aC hug
        have hul:=HC.out.2 _ (HT.out.trans (Tn.of_below hB)) j _ HV.out
        have HB:=hid hB
        clear hB
        by_cases htn:t<n+64
        ·have r2:decide ((t:Int)<(n:Int)+64)=true:=decide_eq_true (by omega)
         have q1:(0:Int)<=(t:Int):=by omega
         have q2:(t:Int)<(n:Int)+64:=by omega
         obtain⟨xs,hcel,hrg⟩:=HE.out.getU (show t<vn (.slice p n c)+64 from htn)
         have HCEL:=hid hcel
         have HRG:=hid hrg
         clear hcel hrg
         have hxs:xs=[.int .i64 0,.int .i64 (mk j t),.int .i64 0,.slice none 0 0,.slice none 0 0]:=HCEL.out
         subst hxs
         have c0:∀n':GrownB wr.heap.size wr,n'.it.cell? ⟨h,t*5,none⟩=some (.int .i64 0):=GrownB.cell (aD HB.out _ _ _ (aM (HRG.out 0 _ rfl)) (HRG.out 0 _ rfl)) (Nat.lt_of_lt_of_le (aM (HRG.out 0 _ rfl)) HB.out.size)
         have c1:∀n':GrownB wr.heap.size wr,n'.it.cell? ⟨h,t*5+1,none⟩=some (.int .i64 (mk j t)):=GrownB.cell (aD HB.out _ _ _ (aM (HRG.out 1 _ rfl)) (HRG.out 1 _ rfl)) (Nat.lt_of_lt_of_le (aM (HRG.out 1 _ rfl)) HB.out.size)
         have c2:∀n':GrownB wr.heap.size wr,n'.it.cell? ⟨h,t*5+2,none⟩=some (.int .i64 0):=GrownB.cell (aD HB.out _ _ _ (aM (HRG.out 2 _ rfl)) (HRG.out 2 _ rfl)) (Nat.lt_of_lt_of_le (aM (HRG.out 2 _ rfl)) HB.out.size)
         have c3:∀n':GrownB wr.heap.size wr,n'.it.cell? ⟨h,t*5+3,none⟩=some (.slice none 0 0):=GrownB.cell (aD HB.out _ _ _ (aM (HRG.out 3 _ rfl)) (HRG.out 3 _ rfl)) (Nat.lt_of_lt_of_le (aM (HRG.out 3 _ rfl)) HB.out.size)
         have c4:∀n':GrownB wr.heap.size wr,n'.it.cell? ⟨h,t*5+4,none⟩=some (.slice none 0 0):=GrownB.cell (aD HB.out _ _ _ (aM (HRG.out 4 _ rfl)) (HRG.out 4 _ rfl)) (Nat.lt_of_lt_of_le (aM (HRG.out 4 _ rfl)) HB.out.size)
         have hgB:=GrownB.cell hug (aM hug)
         have hlB:=GrownB.cell hul (aM hul)
         clear hug hul
         go_wp2_with fail
         refine cG wr.heap.size [0,1,2,3,4,5,6,7,8] (by decide) (by kernel_rfl) (by kernel_rfl) (by kernel_rfl) (by kernel_rfl) (λ _ _ d _ _ h=>by cases d<;>exact h) ?_
         simp only[List.map_cons,List.map_nil,List.getD_cons_zero,List.getD_cons_succ,bar,bD,List.size_toArray,List.length_cons,List.length_nil,Nat.zero_add,Nat.reduceAdd,if_true,if_false,Bool.false_eq_true]
         repeat (go_big_quiet_step (fail))
         refine wpQuiet_nil ?_
         refine aJ (i:=9) (fuel:=25) (by kernel_rfl) rfl (by rfl) (λ K' hK=>?_)
         go_simp
         refine (HMK.out j t _ (by omega) (by omega)).mono ?_
         rintro e wx ⟨ys,rfl,hcy,hbx⟩
         have hAx:Below wr.heap.size wr wx:=aA (aR wr) hbx
         refine hK.out _ _ ⟨⟨wx,hAx⟩,rfl⟩ (λ _=>?_)
         clear hK K'
         refine aJ (i:=10) (fuel:=24) (by kernel_rfl) rfl (by rfl) (λ K' hK=>?_)
         go_simp
         refine (HSM.out _ wx _ _ (KT_ok.below HCEL.out (aA HB.out hAx)) hcy).mono ?_
         rintro e wy ⟨rfl,hby⟩
         have hAy:Below wr.heap.size wr wy:=aA hAx hby
         refine hK.out _ _ ⟨⟨wy,hAy⟩,rfl⟩ (λ _=>?_)
         clear hK K' hcy hbx hby hAx hgB c0 c1 c2 c3 c4
         by_cases htk:t<n
         ·have r3:decide ((t:Int)<(n:Int))=true:=decide_eq_true (by omega)
          have q3:(t:Int)<(n:Int):=by omega
          obtain⟨g,rfl,-⟩:=(HF.out j _ HV.out).lies (by omega)
          obtain⟨xs,hcel,hrg⟩:=(HF.out j _ HV.out).getU (show t<vn (.slice (some ⟨g,0,none⟩) n c) from htk)
          have HCEL2:=hid hcel
          have HRG2:=hid hrg
          clear hcel hrg HCEL HRG
          have hxs:xs=[.int .i64 0,.int .i64 (mk j t),.int .i64 0,.slice none 0 0,.slice none 0 0]:=HCEL2.out
          subst hxs
          have d0:∀n':GrownB wr.heap.size wr,n'.it.cell? ⟨g,t*5,none⟩=some (.int .i64 0):=GrownB.cell (aD HB.out _ _ _ (aM (HRG2.out 0 _ rfl)) (HRG2.out 0 _ rfl)) (Nat.lt_of_lt_of_le (aM (HRG2.out 0 _ rfl)) HB.out.size)
          have d1:∀n':GrownB wr.heap.size wr,n'.it.cell? ⟨g,t*5+1,none⟩=some (.int .i64 (mk j t)):=GrownB.cell (aD HB.out _ _ _ (aM (HRG2.out 1 _ rfl)) (HRG2.out 1 _ rfl)) (Nat.lt_of_lt_of_le (aM (HRG2.out 1 _ rfl)) HB.out.size)
          have d2:∀n':GrownB wr.heap.size wr,n'.it.cell? ⟨g,t*5+2,none⟩=some (.int .i64 0):=GrownB.cell (aD HB.out _ _ _ (aM (HRG2.out 2 _ rfl)) (HRG2.out 2 _ rfl)) (Nat.lt_of_lt_of_le (aM (HRG2.out 2 _ rfl)) HB.out.size)
          have d3:∀n':GrownB wr.heap.size wr,n'.it.cell? ⟨g,t*5+3,none⟩=some (.slice none 0 0):=GrownB.cell (aD HB.out _ _ _ (aM (HRG2.out 3 _ rfl)) (HRG2.out 3 _ rfl)) (Nat.lt_of_lt_of_le (aM (HRG2.out 3 _ rfl)) HB.out.size)
          have d4:∀n':GrownB wr.heap.size wr,n'.it.cell? ⟨g,t*5+4,none⟩=some (.slice none 0 0):=GrownB.cell (aD HB.out _ _ _ (aM (HRG2.out 4 _ rfl)) (HRG2.out 4 _ rfl)) (Nat.lt_of_lt_of_le (aM (HRG2.out 4 _ rfl)) HB.out.size)
          refine bJ (by kernel_rfl) (λ _ _ d _ _ h=>by cases d<;>exact h) ⟨⟨wy,hAy⟩,rfl⟩ 5 [11,12,13,14,15,16,17,18,19,20,21,22,23,24,25,26,27,28,29] _ _ (by kernel_rfl) (by kernel_rfl) ?_
          simp only[List.map_cons,List.map_nil,List.getD_cons_zero,List.getD_cons_succ,bar,bD,List.size_toArray,List.length_cons,List.length_nil,Nat.zero_add,Nat.reduceAdd,if_true,if_false,Bool.false_eq_true]
          repeat (go_big_quiet_step (fail))
          refine wpQuiet_nil ?_
          clear d0 d1 d2 d3 d4
          refine aJ (i:=30) (fuel:=4) (by kernel_rfl) rfl (by rfl) (λ K' hK=>?_)
          go_simp
          refine (HMK.out j t _ (by omega) (by omega)).mono ?_
          rintro e wz ⟨ys,rfl,hcy,hbz⟩
          have hAz:Below wr.heap.size wr wz:=aA hAy hbz
          refine hK.out _ _ ⟨⟨wz,hAz⟩,rfl⟩ (λ _=>?_)
          clear hK K'
          refine aJ (i:=31) (fuel:=3) (by kernel_rfl) rfl (by rfl) (λ K' hK=>?_)
          go_simp
          refine (HSM.out _ wz _ _ (KT_ok.below HCEL2.out (aA HB.out hAz)) hcy).mono ?_
          rintro e wv ⟨rfl,hbv⟩
          have hAv:Below wr.heap.size wr wv:=aA hAz hbv
          refine hK.out _ _ ⟨⟨wv,hAv⟩,rfl⟩ (λ _=>?_)
          clear hK K' hcy hbz hbv hAz
          refine bJ (by kernel_rfl) (λ _ _ d _ _ h=>by cases d<;>exact h) ⟨⟨wv,hAv⟩,rfl⟩ 0 [32,33,34] _ _ (by kernel_rfl) (by kernel_rfl) ?_
          simp only[List.map_cons,List.map_nil,List.getD_cons_zero,List.getD_cons_succ,bar,bD,List.size_toArray,List.length_cons,List.length_nil,Nat.zero_add,Nat.reduceAdd,if_true,if_false,Bool.false_eq_true]
          repeat (go_big_quiet_step (fail))
          refine wpQuiet_nil ?_
          refine wpAnyH_done (by kernel_rfl) ?_ _
          have HAV:=hid hAv
          clear hAv hAy
          go_wp2_with fail
          go_roundw
          case rel=>exact⟨t+1,by go_num,by omega,aA HB.out HAV.out⟩
          case measure=>simp[intOf];omega
         ·have r3:decide ((t:Int)<(n:Int))=false:=decide_eq_false (by omega)
          refine bJ (by kernel_rfl) (λ _ _ d _ _ h=>by cases d<;>exact h) ⟨⟨wy,hAy⟩,rfl⟩ 0 [11,12,13,14,15,16,17,18,19,20,21,22,23,24,25,26,27,28,29,30,31,32,33,34] _ _ (by kernel_rfl) (by kernel_rfl) ?_
          simp only[List.map_cons,List.map_nil,List.getD_cons_zero,List.getD_cons_succ,bar,bD,List.size_toArray,List.length_cons,List.length_nil,Nat.zero_add,Nat.reduceAdd,if_true,if_false,Bool.false_eq_true]
          repeat (go_big_quiet_step (fail))
          refine wpQuiet_nil ?_
          refine wpAnyH_done (by kernel_rfl) ?_ _
          have HAY:=hid hAy
          clear hAy
          go_wp2_with fail
          go_roundw
          case rel=>exact⟨t+1,by go_num,by omega,aA HB.out HAY.out⟩
          case measure=>simp[intOf];omega
        ·have r2:decide ((t:Int)<(n:Int)+64)=false:=decide_eq_false (by omega)
         clear hug hul
         go_wp2_with fail
         go_roundw
         case rel=>exact⟨j+1,by go_num,by omega,HB.out⟩
         case measure=>simp[intOf];omega
      ·have r1:decide ((j:Int)<(m:Int))=false:=decide_eq_false (by omega)
       obtain rfl:j=m:=by omega
       go_wp2_with fail
       obtain⟨w4,hw4⟩:∃w4:World,w4=wr:=⟨_,rfl⟩
       subst hw4
       obtain⟨m,hm⟩:∃m:Nat,m=j:=⟨_,rfl⟩
       subst hm
       have HF4:=hid (HF.out.below KT_ok hB)
       have HG4:=hid ((HGS.out.start (d':=0) (x':=64)).below KT_ok hB)
       have HT4:=hid (HT.out.trans (Tn.of_below hB))
       clear HF HGS HT hB hlt
       go_loopw [11] (λ i wr=>∃j:Nat,i=.int .i64 j/\j<=m/\Full KT 0 wr vs/\Gsl KT 22 G w.heap.size wr vs 0 64 j/\Tn KT.em (InV vs) w wr) (λ i _=>m-(intOf i).toNat)
       case atStart=>exact⟨0,rfl,Nat.zero_le _,HF4.out,HG4.out,HT4.out⟩
       case round =>
        clear HF4 HG4 HT4
        obtain⟨j,rfl,hj,hF,hGs,hT⟩:=hrel
        by_cases hlt:j<m
        ·have r1:decide ((j:Int)<(m:Int))=true:=decide_eq_true (by omega)
         obtain⟨v,hv⟩:∃v,vs[j]? = some v:=⟨_,List.getElem?_eq_getElem (by have:=HM.out;omega)⟩
         obtain⟨p,n,c,rfl,hnc,hcc⟩:=(hF j v hv).isSlice
         unfold maxLen at hcc
         obtain⟨rfl,hn⟩:=HL.out j _ hv
         replace hn:n<=1000000000:=hn
         have HV:=hid hv
         have HF:=hid hF
         have HGS:=hid hGs
         have HT:=hid hT
         clear hv hF hGs hT
         obtain⟨arr2,hmk2,harr2⟩:=KT_sty.make 64 (by decide) wr
         have hmk2':(Instr.makeSlice 22 (.int .i64 64) (.int .i64 64)).run Tryz.prog wr=.ok (.slice (some ⟨wr.heap.size,0,none⟩) 64 64) (wr.alloc (.cells arr2 26)):=hmk2
         clear hmk2
         go_wp2_with fail
         obtain⟨wk,hwk⟩:∃wk:World,wk=wr:=⟨_,rfl⟩
         subst hwk
         obtain⟨w5,hw5⟩:∃w5,wk.alloc (.cells arr2 26)=w5:=⟨_,rfl⟩
         obtain⟨B,hBq⟩:∃B,wk.heap.size=B:=⟨_,rfl⟩
         have HB5:Hid (Below wk.heap.size wk w5):=hid (by rw[<-hw5];exact aB _ _)
         have HR5:Hid (RowI KT B w5 (.slice (some ⟨B,0,none⟩) 64 64) 0 (j+m)):=hid (by rw[<-hw5,<-hBq];exact RowI.new wk 64 (j+m) harr2 (by decide) (by decide))
         have HBq:=hid hBq
         rw[hw5,hBq]
         clear hw5 hmk2' harr2 hBq
         go_loopw [13] (λ i wr=>∃t:Nat,i=.int .i64 t/\t<=64/\RowI KT B wr (.slice (some ⟨B,0,none⟩) 64 64) t (j+m)/\Below wk.heap.size wk wr) (λ i _=>64-(intOf i).toNat)
         case atStart=>exact⟨0,rfl,by decide,HR5.out,HB5.out⟩
         case round =>
          clear HR5 HB5
          obtain⟨t,rfl,ht,hR5,hB⟩:=hrel
          have HR5:=hid hR5
          have HB:=hid hB
          clear hR5 hB
          by_cases hlt64:t<64
          ·have r2:decide ((t:Int)<64)=true:=decide_eq_true (by omega)
           have HMJ:Hid (∀W,Calls Tryz.prog 54 #[.int .i64 ((j:Int)+(m:Int)),.int .i64 t] W λ e w'=>∃xs,e=.returned (.agg xs.toArray)/\KT.cel w' (mk (j+m) t) xs/\Below W.heap.size W w'):=λ W=>by
            have:=HMK.out (j+m) t W (by omega) (by omega)
            rwa [Int.natCast_add] at this
           go_wp2_with fail
           refine (HMJ.out _).mono ?_
           rintro e wx ⟨xs,rfl,hcel,hbx⟩
           have hRx:=HR5.out.on KT_ok (Tn.of_below (X:=λ _=>False) hbx) λ _ _ _ _=>id
           obtain⟨hth,hR',hT'⟩:=hRx.set KT_ok hlt64 hcel
           have hth':wx.there B (t*5) xs.toArray.size:=by rw[List.size_toArray,KT_ok.len _ _ _ hcel];exact hth
           have hsz':(Tryz.prog.info? 26).map (·.size)=some xs.toArray.size:=by rw[List.size_toArray,KT_ok.len _ _ _ hcel];exact KT_sty.size
           have hon':=all_oneCell_toArray (KT_ok.one _ _ _ hcel)
           have HR':=hid hR'
           have HB':Hid (Below wk.heap.size wk (wx.setCells B (t*5) xs)):=hid (kV HB.out hbx hT' HBq.out)
           clear hRx hth hR' hT' hcel hbx HR5 HB HMJ
           go_wp2_with (refine wpList_store_mid rfl 26 _ _ rfl B (t*5) xs.toArray rfl rfl hth' hsz' hon' ?_)
           go_roundw
           case rel=>exact⟨t+1,by go_num,by omega,HR'.out,HB'.out⟩
           case measure=>simp[intOf];omega
          ·have r2:decide ((t:Int)<64)=false:=decide_eq_false (by omega)
           obtain rfl:t=64:=by omega
           obtain⟨news,hl,hnews,hone⟩:=HR5.out.all KT_ok (by decide)
           have hc:=aC (HC.out.2 _ (HT.out.trans (Tn.of_below HB.out)) j _ HV.out)
           obtain⟨g',w6,hrun,hR6,hE6,hT6⟩:=((HF.out.below KT_ok HB.out) j _ HV.out).many KT_ok KT_sty 22 (c:=64) hl (by decide) hnews hone (by show n+64<=_;omega)
           have hF6:=Full.one KT_ok hD (HF.out.below KT_ok HB.out) HV.out hT6 hR6
           have hG6:=Gsl.one KT_ok hD (HGS.out.below KT_ok HB.out) HIN.out HGW.out HV.out hT6
           obtain⟨u,hgc,hgf⟩:=hG6.cell (k:=j) (by have:=HM.out;omega)
           obtain⟨-,hG',hT'⟩:=hG6.put KT_ok (by decide) (by decide) HV.out (hE6.less (Nat.le_refl _) (Nat.le_trans HT.out.size HB.out.size))
           obtain⟨h,cap,cur,e,-⟩:=hE6
           subst e
           have HG':=hid hG'
           have HF':=hid (hF6.put KT_ok HIN.out HGW.out hT')
           have HT':=hid ((((HT.out.trans (Tn.of_below HB.out)).trans (hT6.inV HV.out))).trans' hT' λ b hb e=>by have:=HGW.out;omega)
           clear hF6 hG6 hG' hT' hT6 hR6 HR5 HB HF HGS HT hl hnews hone
           go_wp2_with (at_builtin;refine wpList_append_run rfl _ _ 22 rfl _ _ _ rfl rfl hrun ?_)
           go_roundw
           case rel=>exact⟨j+1,by go_num,by omega,HF'.out,HG'.out,HT'.out⟩
           case measure=>simp[intOf];omega
        ·have r1:decide ((j:Int)<(m:Int))=false:=decide_eq_false (by omega)
         obtain rfl:j=m:=by omega
         have HF:=hid hF
         have HGS:=hid hGs
         have HT:=hid hT
         clear hF hGs hT
         go_wp2_with fail
         obtain⟨w7,hw7⟩:∃w7:World,w7=wr:=⟨_,rfl⟩
         subst hw7
         obtain⟨m,hm⟩:∃m:Nat,m=j:=⟨_,rfl⟩
         subst hm
         clear hlt
         go_loopw [14] (λ i wr=>∃j:Nat,i=.int .i64 j/\j<=m/\Below w7.heap.size w7 wr) (λ i _=>m-(intOf i).toNat)
         case atStart=>exact⟨0,rfl,Nat.zero_le _,Below.refl _ _⟩
         case round =>
          obtain⟨j,rfl,hj,hB⟩:=hrel
          by_cases hlt:j<m
          ·have r1:decide ((j:Int)<(m:Int))=true:=decide_eq_true (by omega)
           obtain⟨v,hv⟩:∃v,vs[j]? = some v:=⟨_,List.getElem?_eq_getElem (by have:=HM.out;omega)⟩
           obtain⟨p,n,c,rfl,hnc,hcc⟩:=(HF.out j v hv).isSlice
           unfold maxLen at hcc
           obtain⟨rfl,hn⟩:=HL.out j _ hv
           replace hn:n<=1000000000:=hn
           have HV:=hid hv
           have HB:=hid hB
           clear hv hB
           obtain⟨u,hgc,hgf,hE⟩:=HGS.out.get hlt HV.out
           obtain⟨h,cap,cur,rfl,-,-,hq1,hq2,-⟩:=id hE
           unfold maxLen at hq2
           replace hq1:n+64<=cap:=hq1
           have HU:Hid (U w7 G j=some (.slice (some ⟨h,0,none⟩) (n+64) cap)):=hid (kM hgc hgf)
           have HE:=hid hE
           clear hgc hgf hE
           go_wp2_with fail
           go_loopw [15] (λ i wr=>∃t:Nat,i=.int .i64 t/\t<=n/\Below w7.heap.size w7 wr) (λ i _=>n-(intOf i).toNat)
           case atStart=>exact⟨0,rfl,Nat.zero_le _,HB.out⟩
           case round =>
            clear HB
            obtain⟨t,rfl,ht,hB⟩:=hrel
            have hug:=aD hB _ _ _ (aM HU.out) HU.out
            have hul:=HC.out.2 _ (HT.out.trans (Tn.of_below hB)) j _ HV.out
            have hlc:=aC hul
            have HB:=hid hB
            clear hB
            by_cases htn:t<n
            ·have r2:decide ((t:Int)<(n:Int))=true:=decide_eq_true (by omega)
             have q1:(0:Int)<=(t:Int):=by omega
             have q2:(t:Int)<(n:Int)+64:=by omega
             have q3:(t:Int)<(n:Int):=by omega
             obtain⟨g,rfl,-⟩:=(HF.out j _ HV.out).lies (by omega)
             obtain⟨xs,hcel,hrg⟩:=(HF.out j _ HV.out).getU (show t<vn (.slice (some ⟨g,0,none⟩) n c) from htn)
             have HCEL:=hid hcel
             have HRG:=hid hrg
             clear hcel hrg
             have hxs:xs=[.int .i64 0,.int .i64 (mk j t),.int .i64 0,.slice none 0 0,.slice none 0 0]:=HCEL.out
             subst hxs
             have c0:∀n':GrownB wr.heap.size wr,n'.it.cell? ⟨g,t*5,none⟩=some (.int .i64 0):=GrownB.cell (aD HB.out _ _ _ (aM (HRG.out 0 _ rfl)) (HRG.out 0 _ rfl)) (Nat.lt_of_lt_of_le (aM (HRG.out 0 _ rfl)) HB.out.size)
             have c1:∀n':GrownB wr.heap.size wr,n'.it.cell? ⟨g,t*5+1,none⟩=some (.int .i64 (mk j t)):=GrownB.cell (aD HB.out _ _ _ (aM (HRG.out 1 _ rfl)) (HRG.out 1 _ rfl)) (Nat.lt_of_lt_of_le (aM (HRG.out 1 _ rfl)) HB.out.size)
             have c2:∀n':GrownB wr.heap.size wr,n'.it.cell? ⟨g,t*5+2,none⟩=some (.int .i64 0):=GrownB.cell (aD HB.out _ _ _ (aM (HRG.out 2 _ rfl)) (HRG.out 2 _ rfl)) (Nat.lt_of_lt_of_le (aM (HRG.out 2 _ rfl)) HB.out.size)
             have c3:∀n':GrownB wr.heap.size wr,n'.it.cell? ⟨g,t*5+3,none⟩=some (.slice none 0 0):=GrownB.cell (aD HB.out _ _ _ (aM (HRG.out 3 _ rfl)) (HRG.out 3 _ rfl)) (Nat.lt_of_lt_of_le (aM (HRG.out 3 _ rfl)) HB.out.size)
             have c4:∀n':GrownB wr.heap.size wr,n'.it.cell? ⟨g,t*5+4,none⟩=some (.slice none 0 0):=GrownB.cell (aD HB.out _ _ _ (aM (HRG.out 4 _ rfl)) (HRG.out 4 _ rfl)) (Nat.lt_of_lt_of_le (aM (HRG.out 4 _ rfl)) HB.out.size)
             obtain⟨xs,hcel,hrg⟩:=HE.out.getU (show t<vn (.slice (some ⟨g,0,none⟩) n c)+0 from htn)
             have HCEL2:=hid hcel
             have HRG2:=hid hrg
             clear hcel hrg
             have hxs:xs=[.int .i64 0,.int .i64 (mk j t),.int .i64 0,.slice none 0 0,.slice none 0 0]:=HCEL2.out
             subst hxs
             have d0:∀n':GrownB wr.heap.size wr,n'.it.cell? ⟨h,t*5,none⟩=some (.int .i64 0):=GrownB.cell (aD HB.out _ _ _ (aM (HRG2.out 0 _ rfl)) (HRG2.out 0 _ rfl)) (Nat.lt_of_lt_of_le (aM (HRG2.out 0 _ rfl)) HB.out.size)
             have d1:∀n':GrownB wr.heap.size wr,n'.it.cell? ⟨h,t*5+1,none⟩=some (.int .i64 (mk j t)):=GrownB.cell (aD HB.out _ _ _ (aM (HRG2.out 1 _ rfl)) (HRG2.out 1 _ rfl)) (Nat.lt_of_lt_of_le (aM (HRG2.out 1 _ rfl)) HB.out.size)
             have d2:∀n':GrownB wr.heap.size wr,n'.it.cell? ⟨h,t*5+2,none⟩=some (.int .i64 0):=GrownB.cell (aD HB.out _ _ _ (aM (HRG2.out 2 _ rfl)) (HRG2.out 2 _ rfl)) (Nat.lt_of_lt_of_le (aM (HRG2.out 2 _ rfl)) HB.out.size)
             have d3:∀n':GrownB wr.heap.size wr,n'.it.cell? ⟨h,t*5+3,none⟩=some (.slice none 0 0):=GrownB.cell (aD HB.out _ _ _ (aM (HRG2.out 3 _ rfl)) (HRG2.out 3 _ rfl)) (Nat.lt_of_lt_of_le (aM (HRG2.out 3 _ rfl)) HB.out.size)
             have d4:∀n':GrownB wr.heap.size wr,n'.it.cell? ⟨h,t*5+4,none⟩=some (.slice none 0 0):=GrownB.cell (aD HB.out _ _ _ (aM (HRG2.out 4 _ rfl)) (HRG2.out 4 _ rfl)) (Nat.lt_of_lt_of_le (aM (HRG2.out 4 _ rfl)) HB.out.size)
             have hgB:=GrownB.cell hug (aM hug)
             have hlB:=GrownB.cell hul (aM hul)
             clear hug hul
             go_wp2_with fail
             refine cG wr.heap.size [0,1,2,3,4,5,6,7,8] (by decide) (by kernel_rfl) (by kernel_rfl) (by kernel_rfl) (by kernel_rfl) (λ _ _ d _ _ h=>by cases d<;>exact h) ?_
             simp only[List.map_cons,List.map_nil,List.getD_cons_zero,List.getD_cons_succ,bar,bD,List.size_toArray,List.length_cons,List.length_nil,Nat.zero_add,Nat.reduceAdd,if_true,if_false,Bool.false_eq_true]
             repeat (go_big_quiet_step (fail))
             refine wpQuiet_nil ?_
             clear c0 c1 c2 c3 c4
             refine aJ (i:=9) (fuel:=16) (by kernel_rfl) rfl (by rfl) (λ K' hK=>?_)
             go_simp
             refine (HMK.out j t _ (by omega) (by omega)).mono ?_
             rintro e wx ⟨ys,rfl,hcy,hbx⟩
             have hAx:Below wr.heap.size wr wx:=aA (aR wr) hbx
             refine hK.out _ _ ⟨⟨wx,hAx⟩,rfl⟩ (λ _=>?_)
             clear hK K'
             refine aJ (i:=10) (fuel:=15) (by kernel_rfl) rfl (by rfl) (λ K' hK=>?_)
             go_simp
             refine (HSM.out _ wx _ _ (KT_ok.below HCEL.out (aA HB.out hAx)) hcy).mono ?_
             rintro e wy ⟨rfl,hby⟩
             have hAy:Below wr.heap.size wr wy:=aA hAx hby
             refine hK.out _ _ ⟨⟨wy,hAy⟩,rfl⟩ (λ _=>?_)
             clear hK K' hcy hbx hby hAx
             refine bJ (by kernel_rfl) (λ _ _ d _ _ h=>by cases d<;>exact h) ⟨⟨wy,hAy⟩,rfl⟩ 4 [11,12,13,14,15,16,17,18,19,20,21] _ _ (by kernel_rfl) (by kernel_rfl) ?_
             simp only[List.map_cons,List.map_nil,List.getD_cons_zero,List.getD_cons_succ,bar,bD,List.size_toArray,List.length_cons,List.length_nil,Nat.zero_add,Nat.reduceAdd,if_true,if_false,Bool.false_eq_true]
             repeat (go_big_quiet_step (fail))
             refine wpQuiet_nil ?_
             clear d0 d1 d2 d3 d4 hgB
             refine aJ (i:=22) (fuel:=3) (by kernel_rfl) rfl (by rfl) (λ K' hK=>?_)
             go_simp
             refine (HMK.out j t _ (by omega) (by omega)).mono ?_
             rintro e wz ⟨ys,rfl,hcy,hbz⟩
             have hAz:Below wr.heap.size wr wz:=aA hAy hbz
             refine hK.out _ _ ⟨⟨wz,hAz⟩,rfl⟩ (λ _=>?_)
             clear hK K'
             refine aJ (i:=23) (fuel:=2) (by kernel_rfl) rfl (by rfl) (λ K' hK=>?_)
             go_simp
             refine (HSM.out _ wz _ _ (KT_ok.below HCEL2.out (aA HB.out hAz)) hcy).mono ?_
             rintro e wv ⟨rfl,hbv⟩
             have hAv:Below wr.heap.size wr wv:=aA hAz hbv
             refine hK.out _ _ ⟨⟨wv,hAv⟩,rfl⟩ (λ _=>?_)
             clear hK K' hcy hbz hbv hAz
             refine bJ (by kernel_rfl) (λ _ _ d _ _ h=>by cases d<;>exact h) ⟨⟨wv,hAv⟩,rfl⟩ 0 [24,25] _ _ (by kernel_rfl) (by kernel_rfl) ?_
             simp only[List.map_cons,List.map_nil,List.getD_cons_zero,List.getD_cons_succ,bar,bD,List.size_toArray,List.length_cons,List.length_nil,Nat.zero_add,Nat.reduceAdd,if_true,if_false,Bool.false_eq_true]
             repeat (go_big_quiet_step (fail))
             refine wpQuiet_nil ?_
             refine wpAnyH_done (by kernel_rfl) ?_ _
             have HAV:=hid hAv
             clear hAv hAy
             go_wp2_with fail
             go_roundw
             case rel=>exact⟨t+1,by go_num,by omega,aA HB.out HAV.out⟩
             case measure=>simp[intOf];omega
            ·have r2:decide ((t:Int)<(n:Int))=false:=decide_eq_false (by omega)
             clear hug hul
             go_wp2_with fail
             go_roundw
             case rel=>exact⟨j+1,by go_num,by omega,HB.out⟩
             case measure=>simp[intOf];omega
          ·have r1:decide ((j:Int)<(m:Int))=false:=decide_eq_false (by omega)
           have HB:=hid hB
           clear hB
           go_wp2_with fail
           go_ret
           exact⟨rfl,HT.out.trans (Tn.of_below HB.out)⟩
end
end Go.Proofs.YtkcmapimcgppmaaGreatDoor
