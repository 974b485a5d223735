/-
  Whole functions walked over states: what is left to show, and what follows. Conditions: as each lemma states them.
-/
import Derived.Test.YtkcmapimcgppmaaGreatDoorT02
import Derived.Test.YtkcmapimcgppmaaGreatDoorProg
import Derived.KernelRfl
import Derived.Test.YtkcmapimcgppmaaGreatDoorT01
import Derived.Deep.RegionHeld
set_option linter.all false
set_option linter.unusedVariables false
set_option linter.unusedSimpArgs false
set_option linter.unnecessarySimpa false
set_option maxHeartbeats 8000000
set_option maxRecDepth 100000
namespace Go.Proofs.YtkcmapimcgppmaaGreatDoor
section
open Go.RowKit
variable {P:Program} {G:World->Prop} {tb:TB} {N:Nat} {ops:Array Oper}
def sU(st:St)(r:Out):Prop:=(match r.bu with
 | some (k,_)=>st.bx k=none/\k<K0
 | none=>True)/\match r.tu with
 | some (k,_)=>st.τ k=none
 | none=>True
theorem KJ{st:St}{r:Out}(h:sU st r):oE st r:=by
 obtain⟨h1,h2⟩:=h
 refine⟨fun k x e=>?_,λ k x e=>?_⟩
 ·rw[e] at h1;exact h1
 ·rw[e] at h2;exact h2
def I8(tb:TB)(N:Nat)(o:Oper)(st:St):Option (Prop×Out) :=
 match o.op with
 | .store _ _ _=>lF tb (ev st N) (dD st N o.op) o.op
 | .call cl=>match cl.callee with
  | .builtin .append=>tD tb (ev st N) st.τ (fF o) cl
  | .value _=>none
  | _=>(gA tb (ev st N) (dD st N o.op) (fF o) o.op).map λ q=>(q.1/\sU st q.2,q.2)
 | _=>(gA tb (ev st N) (dD st N o.op) (fF o) o.op).map λ q=>(q.1/\sU st q.2,q.2)
theorem CS{o:Oper}{st:St}{c:Prop}{r:Out}(h:I8 tb N o st=some (c,r))(hc:c):qO P G tb N o st r:=by
 have calm:(gA tb (ev st N) (dD st N o.op) (fF o) o.op).map (λ q=>(q.1/\sU st q.2,q.2))=some (c,r)->∃c,gA tb (ev st N) (dD st N o.op) (fF o) o.op=some (c,r)/\c/\oE st r:=λ h=>by
  obtain⟨⟨c',r'⟩,h1,h2⟩:=Option.map_eq_some_iff.1 h
  cases h2
  exact⟨c',h1,hc.1,KJ hc.2⟩
 obtain⟨dst,op,ty,pos,after,guard⟩:=o
 unfold I8 at h
 unfold qO
 cases op<;>simp only at h calm ⊢<;>try (exact calm h)
 case store T ad x=>exact⟨c,h,hc⟩
 case call cl =>
  obtain⟨callee,xs,ts⟩:=cl
  cases callee with
  | value f=>cases h
  | invoke r m=>exact calm h
  | builtin b =>
   cases b<;>simp only at h ⊢<;>try (exact calm h)
   case append=>exact⟨c,h,hc⟩
def oN:Op->Option (Operand×List Operand)
 | .call { callee:=.value f,args:=xs,.. }=>some (f,xs.toList)
 | _=>none
def Ask(P:Program)(G:World->Prop)(o:Oper)(f:Nat)(args:AV)(R:St->Prop)(st:St):Prop:=∃avs r,HoldsR P G f avs (fF o) r/\args.arg st.bx avs/\st.τ (fF o)=none/\R (st.out o r)
def lH(P:Program)(G:World->Prop)(tb:TB)(N:Nat)(ops:Array Oper):List Oper->(Exit->St->Prop)->St->Prop
 | [],K,st=>K .normal st
 | o :: os,K,st =>
  let go:=match oN o.op with
   | some (fo,xs)=>match dY (ev st N fo) with
    | some (f,x,y)=>(x.isLL=true/\y.isLL=true)/\Ask P G o f (x.app ((AV.list (xs.map (ev st N))).app y)) (lH P G tb N ops os K) st
    | none=>False
   | none=>match I8 tb N o st with
    | some (c,r)=>c/\lH P G tb N ops os K (st.out o r)
    | none=>False
  match o.guard with
  | none=>go
  | some (j,want)=>match (ops[j]?).bind (·.dst) with
   | some d=>match ev st N (.tmp d) with
    | .v (.bool b)=>if b=want then go else lH P G tb N ops os K (st.out o { av:=.v undef })
    | _=>False
   | none=>False
theorem ask{P:Program}{G:World->Prop}{o:Oper}{f:Nat}{args:AV}{R:St->Prop}{st:St}{ps res:AV}(h:Holds P G f ps res)(ha:args.arg st.bx ps)(hn:st.τ (fF o)=none)(k:R (st.out o { av:=res.ren (fF o),tu:=some (fF o,0) })):Ask P G o f args R st:=⟨ps,_,.inl ⟨res,h,rfl⟩,ha,hn,k⟩
theorem FB{op:Op}{fo:Operand}{xs:List Operand}(h:oN op=some (fo,xs)):∃cl:Call,op=.call cl/\cl.callee=.value fo/\cl.args.toList=xs:=by
 unfold oN at h
 split at h
 ·cases h;exact⟨_,rfl,rfl,rfl⟩
 ·cases h
theorem qP{K:Exit->St->Prop}:∀ {os:List Oper} {n:Nat} {st:St},ops.toList.drop n=os->lH P G tb N ops os K st->∃st',Run P G tb N ops (List.range' n os.length) st st'/\K .normal st'
 | [],n,st,_,h=>⟨st,rfl,h⟩
 | o :: os,n,st,hd,h=>by
  have hn:ops[n]? = some o:=by
   have:(ops.toList.drop n)[0]? = some o:=by rw[hd];rfl
   rw[List.getElem?_drop] at this
   simpa using this
  have hd':ops.toList.drop (n+1)=os:=by
   have:=congrArg (List.drop 1) hd
   rw[List.drop_drop] at this
   simpa using this
  have go:∀Q:Prop,((match oN o.op with
   | some (fo,xs)=>match dY (ev st N fo) with
    | some (f,x,y)=>(x.isLL=true/\y.isLL=true)/\Ask P G o f (x.app ((AV.list (xs.map (ev st N))).app y)) (lH P G tb N ops os K) st
    | none=>False
   | none=>match I8 tb N o st with
    | some (c,r)=>c/\lH P G tb N ops os K (st.out o r)
    | none=>False))->(∀r,qO P G tb N o st r->lH P G tb N ops os K (st.out o r)->Q)->Q:=by
   intro Q h hq
   split at h
   ·rename_i fo xs hcl
    split at h
    ·rename_i f x y k1
     obtain⟨k2,avs,res,k3,k4,k5,k6⟩:=h
     obtain⟨cl,e1,e2,e3⟩:=FB hcl
     refine hq _ ?_ k6
     unfold qO
     rw[e1]
     simp only[e2]
     exact⟨f,x,y,avs,k1,k2,k3,by rw[e3];exact k4,k5⟩
    ·exact h.elim
   ·split at h
    ·rename_i hv
     exact hq _ (CS hv h.1) h.2
    ·exact h.elim
  simp only[lH] at h
  rw[List.length_cons,List.range'_succ]
  cases hg:o.guard with
  | none =>
   rw[hg] at h
   refine go _ h λ r h1 h2=>?_
   obtain⟨st',h3,h4⟩:=qP hd' h2
   exact⟨st',⟨o,r,hn,by unfold gZ;rw[hg];exact h1,h3⟩,h4⟩
  | some q =>
   obtain⟨j,want⟩:=q
   rw[hg] at h
   simp only at h
   split at h
   ·rename_i d hd1
    split at h
    ·rename_i b hb
     split at h
     ·rename_i hbw
      refine go _ h λ r h1 h2=>?_
      obtain⟨st',h3,h4⟩:=qP hd' h2
      exact⟨st',⟨o,r,hn,by unfold gZ;rw[hg];exact⟨d,b,hd1,hb,.inl ⟨hbw,h1⟩⟩,h3⟩,h4⟩
     ·rename_i hbw
      obtain⟨st',h3,h4⟩:=qP hd' h
      exact⟨st',⟨o,_,hn,by unfold gZ;rw[hg];exact⟨d,b,hd1,hb,.inr ⟨hbw,rfl⟩⟩,h3⟩,h4⟩
    ·exact h.elim
   ·exact h.elim
def FP(G:World->Prop)(N:Nat)(F0:Mem)(w0:World)(Q:Exit->St->Prop):Exit->Act->World->Prop:=λ e a w=>∃st,Q e st/\Sat G F0 w0 N st a w
def tE(f:St->Prop)(Q:Exit->St->Prop):Exit->St->Prop
 | .normal,s=>f s
 | e,s=>Q e s
def blkK(id:Nat)(Q:Exit->St->Prop):Exit->St->Prop
 | .exit id',s=>if id'=id then Q .normal s else Q (.exit id') s
 | e,s=>Q e s
def zL(P:Program)(G:World->Prop)(N:Nat)(c:Code)(Q:Exit->St->Prop)(st:St):Prop:=∀F0 w0 a w,Sat G F0 w0 N st a w->(Code.loop c).wp P (FP G N F0 w0 Q) a w
def dI(P:Program)(G:World->Prop)(tb:TB)(N:Nat):Code->(Exit->St->Prop)->St->Prop
 | .skip,Q,st=>Q .normal st
 | .label _,Q,st=>Q .normal st
 | .region _ ops draw,Q,st=>(draw=true->yN ops=true)/\lH P G tb N ops ops.toList Q st
 | .seq x y,Q,st=>dI P G tb N x (tE (dI P G tb N y Q) Q) st
 | .cond c x y,Q,st=>match ev st N c with
  | .v (.bool b)=>if b=true then dI P G tb N x Q st else dI P G tb N y Q st
  | _=>False
 | .block id c,Q,st=>dI P G tb N c (blkK id Q) st
 | .loop c,Q,st=>zL P G N c Q st
 | .exit id,Q,st=>Q (.exit id) st
 | .ret,Q,st=>Q .ret st
 | _,_,_=>False
theorem gP(hT:gI P tb)(hS:jG G)(hm:P.follows .mixedOrders=true){c:Code}:∀ {Q:Exit->St->Prop} {st:St},dI P G tb N c Q st->∀F0 w0 a w,Sat G F0 w0 N st a w->c.wp P (FP G N F0 w0 Q) a w:=by
 induction c with
 | skip=>intro Q st h F0 w0 a w hs;exact wp_skip ⟨st,h,hs⟩
 | label l=>intro Q st h F0 w0 a w hs;exact wp_label ⟨st,h,hs⟩
 | region id ops draw =>
  intro Q st h F0 w0 a w hs
  obtain⟨h1,h2⟩:=h
  obtain⟨st',h3,h4⟩:=qP (n:=0) rfl h2
  refine xI hT hS hm (λ a w hs'=>⟨st',h4,hs'⟩) h1 ?_ hs
  rw[List.range_eq_range']
  simpa using h3
 | seq x y ihx ihy =>
  intro Q st h F0 w0 a w hs
  refine wp_seq (wp_mono (ihx h F0 w0 a w hs) ?_)
  rintro e a' w' ⟨st',hq,hs'⟩
  cases e with
  | normal=>exact ihy hq F0 w0 a' w' hs'
  | _=>exact⟨st',hq,hs'⟩
 | cond c x y ihx ihy =>
  intro Q st h F0 w0 a w hs
  simp only[dI] at h
  split at h
  ·rename_i b hb
   obtain⟨g,rfl,-,-,-,-,-,hsl⟩:=hs.gh
   have hr:=wO (N:=N) hsl c
   rw[hb] at hr
   refine wp_cond (t:=b) (by simpa[RepV] using hr) ?_
   cases b
   ·exact ihy (by simpa using h) F0 w0 a _ hs
   ·exact ihx (by simpa using h) F0 w0 a _ hs
  ·exact h.elim
 | block id c ih =>
  intro Q st h F0 w0 a w hs
  refine wp_block (wp_mono (ih h F0 w0 a w hs) ?_)
  rintro e a' w' ⟨st',hq,hs'⟩
  cases e with
  | exit id' =>
   show if id'=id then _ else _
   change if id'=id then _ else _ at hq
   split
   ·rename_i e;rw[if_pos e] at hq;exact⟨st',hq,hs'⟩
   ·rename_i e;rw[if_neg e] at hq;exact⟨st',hq,hs'⟩
  | _=>exact⟨st',hq,hs'⟩
 | loop c _=>intro Q st h F0 w0 a w hs;exact h F0 w0 a w hs
 | exit id=>intro Q st h F0 w0 a w hs;exact wp_exit ⟨st,h,hs⟩
 | ret=>intro Q st h F0 w0 a w hs;exact wp_ret ⟨st,h,hs⟩
 | rangeFunc _ _ _ _=>intro Q st h;exact h.elim
 | scope _=>intro Q st h;exact h.elim
 | goto _=>intro Q st h;exact h.elim
 | refuse _=>intro Q st h;exact h.elim
def JP{α:Type}(G:World->Prop)(N:Nat)(I:α->St)(μ:α->Nat)(x:α)(Q:Exit->St->Prop):Exit->St->Prop
 | .normal,s=>∃y,μ y<μ x/\Le G N s (I y)
 | e,s=>Q e s
theorem aloop{α:Type}(hT:gI P tb)(hS:jG G)(hm:P.follows .mixedOrders=true)(I:α->St)(μ:α->Nat)(x0:α){c:Code}{Q:Exit->St->Prop}{st:St}(h0:Le G N st (I x0))(hr:∀x,dI P G tb N c (JP G N I μ x Q) (I x)):zL P G N c Q st:=by
 intro F0 w0 a w hs
 intro b k cs
 have key:∀n x a w,μ x=n->Sat G F0 w0 N (I x) a w->∃e a' w',FP G N F0 w0 Q e a' w'/\Arrives P (lone (b.at a (.code c :: .inLoop c :: k)) cs w) b k cs e a' w':=by
  intro n
  induction n using Nat.strongRecOn with
  | _ n ih =>
   intro x a w hx hs
   obtain⟨e,a1,w1,hq,harr⟩:=gP hT hS hm (hr x) F0 w0 a w hs b (.inLoop c :: k) cs
   obtain⟨s1,hq,hs1⟩:=hq
   cases e with
   | normal =>
    obtain⟨y,hy,hle⟩:=hq
    obtain⟨e2,a2,w2,hq2,harr2⟩:=ih (μ y) (by omega) y a1 w1 rfl (hle F0 w0 a1 w1 hs1)
    exact⟨e2,a2,w2,hq2,.of_steps (Steps.trans harr (.one step_inLoop)) harr2⟩
   | exit id=>exact⟨_,a1,w1,⟨s1,hq,hs1⟩,.pass (x:=.inLoop c) rfl (λ _ _=>.inl (by simp)) harr⟩
   | goto l=>exact⟨_,a1,w1,⟨s1,hq,hs1⟩,.pass (x:=.inLoop c) rfl (λ _ _=>.inl (by simp)) harr⟩
   | ret=>exact⟨_,a1,w1,⟨s1,hq,hs1⟩,.pass (x:=.inLoop c) rfl (λ _ _=>.inl (by simp)) harr⟩
   | panic ch=>exact⟨_,a1,w1,⟨s1,hq,hs1⟩,.pass (x:=.inLoop c) rfl (λ _ _=>.inl (by simp)) harr⟩
   | outgrown=>exact⟨_,a1,w1,⟨s1,hq,hs1⟩,.pass (x:=.inLoop c) rfl (λ _ _=>.inl (by simp)) harr⟩
 obtain⟨e,a',w',hq,harr⟩:=key _ x0 a w rfl (h0 F0 w0 a w hs)
 exact⟨e,a',w',hq,.of_steps (.one step_loop) harr⟩
def pP(tb:TB)(N:Nat)(st:St):ResultVar->Option AV
 | .tmp t=>some (ev st N (.tmp t))
 | .cell t T=>match ev st N (.tmp t),tb T with
  | .bx k 0,some y=>match st.bx k with
   | some (_,d)=>if d.ln=y.size then (match y.sh with
    | .st _=>some (.agg d)
    | .arr=>none
    | _=>if y.size=1 then some d.sing else none) else none
   | none=>none
  | _,_=>none
def C0:List AV->AV
 | [a]=>a
 | l=>.tup (.list l)
def DE(tb:TB)(N:Nat)(rs:List ResultVar)(r:AV):Exit->St->Prop
 | .normal,st | .ret,st=>∃l q,rs.mapM (pP tb N st)=some l/\AV.imp (λ _=>none) st.τ (φOf q) (λ k=>if k=0 then some 0 else none) r (C0 l)/\(q.flatMap (·.2)).Nodup
 | _,_=>False
def gU(l:List AV):St:=⟨fun t=>l.getD t .junk,λ _=>none,λ _=>none,λ _=>none⟩
theorem zZ(hT:gI P tb){g:Gh}(hI:Inv g){st:St}{a:Act}(hbx:g.st.bx=st.bx)(hsl:∀t,t<N->RepV g (st.env t) [a.tmps.getD t undef]):∀ {rs:List ResultVar} {l:List AV},rs.mapM (pP tb N st)=some l ->
  ∃vs:List Value,(rs.mapM λ (x:ResultVar)=>(match x with
   | .tmp t=>pure (a.tmps.getD t undef)
   | .cell t T=>do loadVar T (<-asAddr (a.tmps.getD t undef)):Sem Value)).run P g.w=.ok vs g.w/\RepV g (.list l) vs/\vs.length=l.length
 | [],l,h=>by
  simp at h
  subst h
  exact⟨[],rfl,rfl,rfl⟩
 | x :: rs,l,h=>by
  simp only[List.mapM_cons,Option.bind_eq_bind,Option.pure_def] at h
  cases h1:pP tb N st x with
  | none=>simp[h1] at h
  | some b =>
   cases h2:rs.mapM (pP tb N st) with
   | none=>simp[h1,h2] at h
   | some l' =>
    simp[h1,h2] at h
    subst h
    obtain⟨vs,h3,h4,h5⟩:=zZ hT hI hbx hsl h2
    have one:∃v,((match x with
      | .tmp t=>pure (a.tmps.getD t undef)
      | .cell t T=>do loadVar T (<-asAddr (a.tmps.getD t undef)):Sem Value)).run P g.w=.ok v g.w/\RepV g b [v]:=by
     cases x with
     | tmp t =>
      cases h1
      exact⟨_,rfl,wO hsl (.tmp t)⟩
     | cell t T =>
      simp only[pP] at h1
      have hr:=wO (N:=N) hsl (.tmp t)
      split at h1
      ·rename_i k y hk hy
       rw[hk] at hr
       have e:a.tmps.getD t undef=.pointer (some ⟨g.B k,0,none⟩):=by simpa[Act.eval] using hr.1
       split at h1
       ·rename_i T0 d hd
        obtain⟨-,-,xs,k3,k4⟩:=hI.box k T0 d (by rw[hbx];exact hd)
        split at h1
        ·rename_i hln
         have hl:=rC hT hy (b:=g.B k) (q:=0) (cs:=xs) (λ j u hu=>by rw[cell_of_row _ _ _ _ _ _ k3];simpa using hu) k4 hln
         have conv:∀v,(Instr.loadAt T (.pointer (some ⟨g.B k,0,none⟩))).run P g.w=.ok v g.w->(do loadVar T (<-asAddr (a.tmps.getD t undef)):Sem Value).run P g.w=.ok v g.w:=λ v hv=>by
          rw[e]
          simpa[Instr.loadAt,Instr.sureAddr,asAddr] using hv
         split at h1
         ·rename_i fs hs
          cases h1
          obtain⟨v,e1,e2⟩:=hl.1 fs hs
          exact⟨v,conv v e1,e2⟩
         ·cases h1
         ·rename_i hs1 hs2
          split at h1
          ·rename_i hs3
           cases h1
           obtain⟨v,e1,e2⟩:=hl.2 (λ fs e=>hs1 fs e) hs2 hs3
           exact⟨v,conv v e1,e2⟩
          ·cases h1
        ·cases h1
       ·cases h1
      ·cases h1
    obtain⟨v,h6,h7⟩:=one
    refine⟨v :: vs,?_,⟨v,vs,rfl,h7,h4⟩,by simp[h5]⟩
    rw[List.mapM_cons]
    simp only[Sem.run_bind,h6,Result.andThen_ok,h3,Sem.run_pure]
theorem tJ{fn:Func}{tmps:Array Value}{w:World}{vs:List Value}(h:(fn.results.toList.mapM λ (x:ResultVar)=>(match x with
   | .tmp t=>pure (tmps.getD t undef)
   | .cell t T=>do loadVar T (<-asAddr (tmps.getD t undef)):Sem Value)).run P w=.ok vs w):(results fn tmps).run P w=.ok (if h:vs.toArray.size=1 then vs.toArray[0] else .tuple vs.toArray) w:=by
 have e:results fn tmps=(do
   let vs <-(List.toArray <$> fn.results.toList.mapM λ (x:ResultVar)=>(match x with
    | .tmp t=>pure (tmps.getD t undef)
    | .cell t T=>do loadVar T (<-asAddr (tmps.getD t undef)):Sem Value))
   pure (if h:vs.size=1 then vs[0] else .tuple vs)):=by
  unfold results
  rw[Array.mapM_eq_mapM_toList]
  rfl
 rw[e]
 simp only[Sem.run_bind,Sem.run_map,h,Result.andThen_ok,Sem.run_pure]
theorem wH (hT : gI P tb) (hS : jG G) (hm : P.follows .mixedOrders = true) {f : Nat} {fn : Func} {c : Code} {l : List AV} {r : AV} (hf : P.funcs[f]? = some fn) (hb : fn.body = some c) (hname : fn.name ≠ "runtime.NumGoroutine")
  (hN:l.length<=fn.ntmps) (hl:∀a∈l,a.ok (λ _=>none) (λ _=>none)) (hr:r.plain=true) (hr2:r.still=true) (hr3:r.flat=true) (h:dI P G tb fn.ntmps c (DE tb fn.ntmps fn.results.toList r) (gU l)):Holds P G f (.list l) r:=by
 refine⟨⟨fn,hf,hname,by rw[hb];simp⟩,hr,λ F w vs hF hG hv=>?_⟩
 have hlen:∀(l:List AV) (vs:List Value),RepV (bE F w) (.list l) vs->vs.length=l.length/\∀t,RepV (bE F w) (l.getD t .junk) [vs.getD t undef]:=by
  intro l
  induction l with
  | nil=>intro vs h;rw[show vs=[] from h];exact⟨rfl,λ t=>trivial⟩
  | cons a l ih =>
   rintro vs ⟨y,ys,rfl,h1,h2⟩
   obtain⟨h3,h4⟩:=ih ys h2
   refine⟨by simp[h3],λ t=>?_⟩
   cases t with
   | zero=>exact h1
   | succ t=>exact h4 t
 obtain⟨hvl,hvs⟩:=hlen l vs hv
 have hsat:Sat G F w fn.ntmps (gU l) { tmps:=vs.toArray++Array.replicate (fn.ntmps-vs.toArray.size) undef,defers:=[] } w:=by
  refine⟨⟨fun t=>?_,λ k T d e=>by cases e⟩,⟨bE F w,rfl,⟨hF,Nat.le_refl _,λ k T d e=>(by cases e),λ k k' h1=>(absurd rfl h1),λ k j b h1=>(absurd rfl h1),λ k k' b h1=>(absurd rfl h1)⟩,rfl,rfl,rfl,λ _ _ _=>rfl,λ t ht=>?_⟩,Below.refl _ _,hG,?_,rfl,λ t x e=>by cases e⟩
  ·show (l.getD t .junk).ok _ _
   rw[List.getD_eq_getElem?_getD]
   cases ht:l[t]? with
   | none=>trivial
   | some x=>exact hl x (List.mem_of_getElem? ht)
  ·have:=hvs t
   have e:(vs.toArray++Array.replicate (fn.ntmps-vs.toArray.size) undef).getD t undef=vs.getD t undef:=by
    rw[Array.getD_eq_getD_getElem?,Array.getElem?_append,List.getD_eq_getElem?_getD]
    by_cases h1:t<vs.length
    ·simp[h1]
    ·have h2:vs[t]? = none:=List.getElem?_eq_none (by omega)
     simp only[List.size_toArray,h1,if_false,h2,Option.getD_none]
     rw[Array.getElem?_replicate]
     split<;>rfl
   show RepV _ (l.getD t .junk) [(vs.toArray++Array.replicate (fn.ntmps-vs.toArray.size) undef).getD t undef]
   rw[e]
   exact this
  ·simp;omega
 refine calls_of_wp hf hb (wp_mono (gP hT hS hm h F w _ _ hsat) ?_)
 rintro e a' w' ⟨st,hq,hs⟩
 have fin:(∃l q,fn.results.toList.mapM (pP tb fn.ntmps st)=some l/\AV.imp (λ _=>none) st.τ (φOf q) (λ k=>if k=0 then some 0 else none) r (C0 l)/\(q.flatMap (·.2)).Nodup) ->
   a'.defers=[]/\∃v,(results fn a'.tmps).run P w'=.ok v w'/\∃v1 fp,Ending.returned v=.returned v1/\Below w.heap.size w w'/\RepV (fP F w w' fp) r [v1]/\(∀k b,b∈fp k->w.heap.size<=b/\b<w'.heap.size)/\∀k k' b,b∈fp k->b∈fp k'->k=k':=by
  rintro⟨l',q,h1,h2,h3⟩
  obtain⟨g,rfl,hI,hbx,hτ,hbase,hF0,hsl⟩:=hs.gh
  obtain⟨vs',h4,h5,h6⟩:=zZ hT hI hbx hsl h1
  have hres:∃v,(results fn a'.tmps).run P g.w=.ok v g.w/\RepV g (C0 l') [v]:=by
   have h7:=tJ h4
   match l',vs',h5,h6,h7 with
   | [x],[v],⟨_,_,e,h8,_⟩,_,h7 =>
    cases e
    exact⟨v,h7,h8⟩
   | [],[],h5,_,h7=>exact⟨.tuple #[],h7,[],rfl,h5⟩
   | x :: y :: l',u :: v :: vs',h5,_,h7=>exact⟨.tuple (u :: v :: vs').toArray,by rw[h7];simp,_,rfl,h5⟩
  obtain⟨v,h7,h8⟩:=hres
  have hw:Weak g (fP F w g.w (Y5 g (φOf q))) (φOf q):=⟨fun b o u hu=>by
    show (if b<w.heap.size then F b o else U g.w b o)=some u
    split
    ·rename_i hb
     rw[<-hF0 b o (by rw[hbase];exact hb)]
     exact hu
    ·exact hI.F _ _ _ hu,rfl,hbase.symm,λ k b h=>mem_fpOf.2 h⟩
  have h9:RepV (fP F w g.w (Y5 g (φOf q))) r [v]:=RepV.imp hI hw (.inl hr2) (.inl hr3) (by rw[hτ];exact h2) h8
  refine⟨hs.defers,v,h7,v,Y5 g (φOf q),rfl,hs.below,h9,λ k b hb=>?_,λ k k' b hb hb'=>?_⟩
  ·obtain⟨u,-,h10,h11⟩:=mem_fpOf.1 hb
   obtain⟨h12,h13,-⟩:=hI.fpb u.1 u.2 b h10 h11
   rw[hbase] at h12
   exact⟨h12,h13⟩
  ·obtain⟨u,hu,h10,h11⟩:=mem_fpOf.1 hb
   obtain⟨u',hu',h12,h13⟩:=mem_fpOf.1 hb'
   have:=hI.fpd u u' b h10 h12 h11 h13
   subst this
   exact φ_disj h3 hu hu'
 cases e with
 | normal=>exact fin hq
 | ret=>exact fin hq
 | _=>exact hq.elim
end
section
open Go.RowKit
def tb:TB
 | 2=>some ⟨.int .i64,1,8,.int .i64 0,.lit (.int .i64 0) .nil⟩
 | 3=>some ⟨.int .i64,1,8,.int .i64 0,.lit (.int .i64 0) .nil⟩
 | 4=>some ⟨.bo,1,1,.bool false,.lit (.bool false) .nil⟩
 | 5=>some ⟨.int .u8,1,1,.int .u8 0,.lit (.int .u8 0) .nil⟩
 | 9=>some ⟨.str,1,16,.string ⟨#[]⟩,.lit (.string ⟨#[]⟩) .nil⟩
 | 22=>some ⟨.sl 26,1,24,.slice none 0 0,.nilr 5 26 .nil⟩
 | 23=>some ⟨.int .i64,1,8,.int .i64 0,.lit (.int .i64 0) .nil⟩
 | 24=>some ⟨.sl 43,1,24,.slice none 0 0,.nilr 1 43 .nil⟩
 | 26=>some ⟨.st [(0,23),(1,3),(2,3),(3,24),(4,22)],5,72,.agg #[.int .i64 0,.int .i64 0,.int .i64 0,.slice none 0 0,.slice none 0 0],.lit (.int .i64 0) (.lit (.int .i64 0) (.lit (.int .i64 0) (.nilr 1 43 (.nilr 5 26 .nil))))⟩
 | 32=>some ⟨.oth,1,8,.nilFunc,.lit (.nilFunc) .nil⟩
 | 38=>some ⟨.sl 22,1,24,.slice none 0 0,.nilr 1 22 .nil⟩
 | 40=>some ⟨.int .i64,1,8,.int .i64 0,.lit (.int .i64 0) .nil⟩
 | 41=>some ⟨.sl 77,1,24,.slice none 0 0,.nilr 2 77 .nil⟩
 | 43=>some ⟨.st [(0,41)],1,24,.agg #[.slice none 0 0],.nilr 2 77 .nil⟩
 | 44=>some ⟨.sl 80,1,24,.slice none 0 0,.nilr 1 80 .nil⟩
 | 45=>some ⟨.sl 85,1,24,.slice none 0 0,.nilr 6 85 .nil⟩
 | 47=>some ⟨.st [(0,40),(1,3),(2,26),(7,26),(12,22),(13,43),(14,44),(15,45)],16,256,.agg #[.int .i64 0,.int .i64 0,.int .i64 0,.int .i64 0,.int .i64 0,.slice none 0 0,.slice none 0 0,.int .i64 0,.int .i64 0,.int .i64 0,.slice none 0 0,.slice none 0 0,.slice none 0 0,.slice none 0 0,.slice none 0 0,.slice none 0 0],.lit (.int .i64 0) (.lit (.int .i64 0) (.lit (.int .i64 0) (.lit (.int .i64 0) (.lit (.int .i64 0) (.nilr 1 43 (.nilr 5 26 (.lit (.int .i64 0) (.lit (.int .i64 0) (.lit (.int .i64 0) (.nilr 1 43 (.nilr 5 26 (.nilr 5 26 (.nilr 2 77 (.nilr 1 80 (.nilr 6 85 .nil)))))))))))))))⟩
 | 48=>some ⟨.sl 65,1,24,.slice none 0 0,.nilr 3 65 .nil⟩
 | 51=>some ⟨.int .i64,1,8,.int .i64 0,.lit (.int .i64 0) .nil⟩
 | 56=>some ⟨.sl 89,1,24,.slice none 0 0,.nilr 12 89 .nil⟩
 | 62=>some ⟨.sl 56,1,24,.slice none 0 0,.nilr 1 56 .nil⟩
 | 63=>some ⟨.sl 82,1,24,.slice none 0 0,.nilr 9 82 .nil⟩
 | 65=>some ⟨.st [(0,3),(1,63),(2,22)],3,56,.agg #[.int .i64 0,.slice none 0 0,.slice none 0 0],.lit (.int .i64 0) (.nilr 9 82 (.nilr 5 26 .nil))⟩
 | 72=>some ⟨.sl 3,1,24,.slice none 0 0,.nilr 1 3 .nil⟩
 | 77=>some ⟨.st [(0,3),(1,3)],2,16,.agg #[.int .i64 0,.int .i64 0],.lit (.int .i64 0) (.lit (.int .i64 0) .nil)⟩
 | 80=>some ⟨.st [(0,22)],1,24,.agg #[.slice none 0 0],.nilr 5 26 .nil⟩
 | 82=>some ⟨.st [(0,4),(1,26),(6,22),(7,3),(8,22)],9,136,.agg #[.bool false,.int .i64 0,.int .i64 0,.int .i64 0,.slice none 0 0,.slice none 0 0,.slice none 0 0,.int .i64 0,.slice none 0 0],.lit (.bool false) (.lit (.int .i64 0) (.lit (.int .i64 0) (.lit (.int .i64 0) (.nilr 1 43 (.nilr 5 26 (.nilr 5 26 (.lit (.int .i64 0) (.nilr 5 26 .nil))))))))⟩
 | 85=>some ⟨.st [(0,3),(1,26)],6,80,.agg #[.int .i64 0,.int .i64 0,.int .i64 0,.int .i64 0,.slice none 0 0,.slice none 0 0],.lit (.int .i64 0) (.lit (.int .i64 0) (.lit (.int .i64 0) (.lit (.int .i64 0) (.nilr 1 43 (.nilr 5 26 .nil)))))⟩
 | 89=>some ⟨.st [(0,3),(1,26),(6,4),(7,26)],12,160,.agg #[.int .i64 0,.int .i64 0,.int .i64 0,.int .i64 0,.slice none 0 0,.slice none 0 0,.bool false,.int .i64 0,.int .i64 0,.int .i64 0,.slice none 0 0,.slice none 0 0],.lit (.int .i64 0) (.lit (.int .i64 0) (.lit (.int .i64 0) (.lit (.int .i64 0) (.nilr 1 43 (.nilr 5 26 (.lit (.bool false) (.lit (.int .i64 0) (.lit (.int .i64 0) (.lit (.int .i64 0) (.nilr 1 43 (.nilr 5 26 .nil)))))))))))⟩
 | 98=>some ⟨.sl 228,1,24,.slice none 0 0,.nilr 1 228 .nil⟩
 | 99=>some ⟨.sl 230,1,24,.slice none 0 0,.nilr 1 230 .nil⟩
 | 100=>some ⟨.sl 72,1,24,.slice none 0 0,.nilr 1 72 .nil⟩
 | 101=>some ⟨.sl 232,1,24,.slice none 0 0,.nilr 1 232 .nil⟩
 | 102=>some ⟨.sl 233,1,24,.slice none 0 0,.nilr 1 233 .nil⟩
 | 103=>some ⟨.sl 235,1,24,.slice none 0 0,.nilr 1 235 .nil⟩
 | 104=>some ⟨.sl 237,1,24,.slice none 0 0,.nilr 1 237 .nil⟩
 | 105=>some ⟨.sl 41,1,24,.slice none 0 0,.nilr 1 41 .nil⟩
 | 106=>some ⟨.sl 24,1,24,.slice none 0 0,.nilr 1 24 .nil⟩
 | 107=>some ⟨.sl 44,1,24,.slice none 0 0,.nilr 1 44 .nil⟩
 | 108=>some ⟨.sl 45,1,24,.slice none 0 0,.nilr 1 45 .nil⟩
 | 109=>some ⟨.sl 239,1,24,.slice none 0 0,.nilr 1 239 .nil⟩
 | 110=>some ⟨.sl 63,1,24,.slice none 0 0,.nilr 1 63 .nil⟩
 | 111=>some ⟨.sl 48,1,24,.slice none 0 0,.nilr 1 48 .nil⟩
 | 112=>some ⟨.sl 242,1,24,.slice none 0 0,.nilr 1 242 .nil⟩
 | 114=>some ⟨.st [(0,98),(1,99),(2,100),(3,101),(4,102),(5,103),(6,104),(7,105),(8,106),(9,38),(10,107),(11,108),(12,109),(13,110),(14,111),(15,62),(16,112)],17,408,.agg #[.slice none 0 0,.slice none 0 0,.slice none 0 0,.slice none 0 0,.slice none 0 0,.slice none 0 0,.slice none 0 0,.slice none 0 0,.slice none 0 0,.slice none 0 0,.slice none 0 0,.slice none 0 0,.slice none 0 0,.slice none 0 0,.slice none 0 0,.slice none 0 0,.slice none 0 0],.nilr 1 228 (.nilr 1 230 (.nilr 1 72 (.nilr 1 232 (.nilr 1 233 (.nilr 1 235 (.nilr 1 237 (.nilr 1 41 (.nilr 1 24 (.nilr 1 22 (.nilr 1 44 (.nilr 1 45 (.nilr 1 239 (.nilr 1 63 (.nilr 1 48 (.nilr 1 56 (.nilr 1 242 .nil))))))))))))))))⟩
 | 128=>some ⟨.st [],0,0,.agg #[],.nil⟩
 | 130=>some ⟨.st [(0,47),(16,48),(17,3)],18,288,.agg #[.int .i64 0,.int .i64 0,.int .i64 0,.int .i64 0,.int .i64 0,.slice none 0 0,.slice none 0 0,.int .i64 0,.int .i64 0,.int .i64 0,.slice none 0 0,.slice none 0 0,.slice none 0 0,.slice none 0 0,.slice none 0 0,.slice none 0 0,.slice none 0 0,.int .i64 0],.lit (.int .i64 0) (.lit (.int .i64 0) (.lit (.int .i64 0) (.lit (.int .i64 0) (.lit (.int .i64 0) (.nilr 1 43 (.nilr 5 26 (.lit (.int .i64 0) (.lit (.int .i64 0) (.lit (.int .i64 0) (.nilr 1 43 (.nilr 5 26 (.nilr 5 26 (.nilr 2 77 (.nilr 1 80 (.nilr 6 85 (.nilr 3 65 (.lit (.int .i64 0) .nil)))))))))))))))))⟩
 | 150=>some ⟨.st [(0,65),(3,22),(4,3)],5,88,.agg #[.int .i64 0,.slice none 0 0,.slice none 0 0,.slice none 0 0,.int .i64 0],.lit (.int .i64 0) (.nilr 9 82 (.nilr 5 26 (.nilr 5 26 (.lit (.int .i64 0) .nil))))⟩
 | 163=>some ⟨.st [(0,3)],1,8,.agg #[.int .i64 0],.lit (.int .i64 0) .nil⟩
 | 164=>some ⟨.oth,1,8,.nilFunc,.lit (.nilFunc) .nil⟩
 | 166=>some ⟨.st [(0,163),(1,164)],2,16,.agg #[.int .i64 0,.nilFunc],.lit (.int .i64 0) (.lit (.nilFunc) .nil)⟩
 | 228=>some ⟨.sl 229,1,24,.slice none 0 0,.nilr 1 229 .nil⟩
 | 229=>some ⟨.int .u32,1,4,.int .u32 0,.lit (.int .u32 0) .nil⟩
 | 230=>some ⟨.sl 231,1,24,.slice none 0 0,.nilr 1 231 .nil⟩
 | 231=>some ⟨.int .u64,1,8,.int .u64 0,.lit (.int .u64 0) .nil⟩
 | 232=>some ⟨.sl 2,1,24,.slice none 0 0,.nilr 1 2 .nil⟩
 | 233=>some ⟨.sl 9,1,24,.slice none 0 0,.nilr 1 9 .nil⟩
 | 235=>some ⟨.sl 5,1,24,.slice none 0 0,.nilr 1 5 .nil⟩
 | 237=>some ⟨.sl 4,1,24,.slice none 0 0,.nilr 1 4 .nil⟩
 | 239=>some ⟨.sl 47,1,24,.slice none 0 0,.nilr 16 47 .nil⟩
 | 242=>some ⟨.sl 244,1,24,.slice none 0 0,.nilr 3 244 .nil⟩
 | 244=>some ⟨.st [(0,239),(1,56),(2,72)],3,72,.agg #[.slice none 0 0,.slice none 0 0,.slice none 0 0],.nilr 16 47 (.nilr 12 89 (.nilr 1 3 .nil))⟩
 | 250=>some ⟨.st [(0,22)],1,24,.agg #[.slice none 0 0],.nilr 5 26 .nil⟩
 | 252=>some ⟨.st [(0,250)],1,24,.agg #[.slice none 0 0],.nilr 5 26 .nil⟩
 | 265=>some ⟨.st [(0,4),(1,4),(2,3),(3,3),(4,3)],5,32,.agg #[.bool false,.bool false,.int .i64 0,.int .i64 0,.int .i64 0],.lit (.bool false) (.lit (.bool false) (.lit (.int .i64 0) (.lit (.int .i64 0) (.lit (.int .i64 0) .nil))))⟩
 | _=>none
theorem tyOk2:∀y,tb 2=some y->cN Tryz.prog 2 y:=λ y h=>by cases h;exact⟨by kernel_rfl,by kernel_rfl,by kernel_rfl,by kernel_rfl,by decide⟩
theorem tyOk3:∀y,tb 3=some y->cN Tryz.prog 3 y:=λ y h=>by cases h;exact⟨by kernel_rfl,by kernel_rfl,by kernel_rfl,by kernel_rfl,by decide⟩
theorem tyOk4:∀y,tb 4=some y->cN Tryz.prog 4 y:=λ y h=>by cases h;exact⟨by kernel_rfl,by kernel_rfl,by kernel_rfl,by kernel_rfl,by decide⟩
theorem tyOk5:∀y,tb 5=some y->cN Tryz.prog 5 y:=λ y h=>by cases h;exact⟨by kernel_rfl,by kernel_rfl,by kernel_rfl,by kernel_rfl,by decide⟩
theorem tyOk9:∀y,tb 9=some y->cN Tryz.prog 9 y:=λ y h=>by cases h;exact⟨by kernel_rfl,by kernel_rfl,by kernel_rfl,by kernel_rfl,by decide⟩
theorem tyOk22:∀y,tb 22=some y->cN Tryz.prog 22 y:=λ y h=>by cases h;exact⟨by kernel_rfl,by kernel_rfl,by kernel_rfl,by kernel_rfl,by decide⟩
theorem tyOk23:∀y,tb 23=some y->cN Tryz.prog 23 y:=λ y h=>by cases h;exact⟨by kernel_rfl,by kernel_rfl,by kernel_rfl,by kernel_rfl,by decide⟩
theorem tyOk24:∀y,tb 24=some y->cN Tryz.prog 24 y:=λ y h=>by cases h;exact⟨by kernel_rfl,by kernel_rfl,by kernel_rfl,by kernel_rfl,by decide⟩
theorem tyOk26:∀y,tb 26=some y->cN Tryz.prog 26 y:=λ y h=>by cases h;exact⟨by kernel_rfl,by kernel_rfl,by kernel_rfl,by kernel_rfl,by decide⟩
theorem tyOk32:∀y,tb 32=some y->cN Tryz.prog 32 y:=λ y h=>by cases h;exact⟨by kernel_rfl,by kernel_rfl,by kernel_rfl,by kernel_rfl,by decide⟩
theorem tyOk38:∀y,tb 38=some y->cN Tryz.prog 38 y:=λ y h=>by cases h;exact⟨by kernel_rfl,by kernel_rfl,by kernel_rfl,by kernel_rfl,by decide⟩
theorem tyOk40:∀y,tb 40=some y->cN Tryz.prog 40 y:=λ y h=>by cases h;exact⟨by kernel_rfl,by kernel_rfl,by kernel_rfl,by kernel_rfl,by decide⟩
theorem tyOk41:∀y,tb 41=some y->cN Tryz.prog 41 y:=λ y h=>by cases h;exact⟨by kernel_rfl,by kernel_rfl,by kernel_rfl,by kernel_rfl,by decide⟩
theorem tyOk43:∀y,tb 43=some y->cN Tryz.prog 43 y:=λ y h=>by cases h;exact⟨by kernel_rfl,by kernel_rfl,by kernel_rfl,by kernel_rfl,by decide⟩
theorem tyOk44:∀y,tb 44=some y->cN Tryz.prog 44 y:=λ y h=>by cases h;exact⟨by kernel_rfl,by kernel_rfl,by kernel_rfl,by kernel_rfl,by decide⟩
theorem tyOk45:∀y,tb 45=some y->cN Tryz.prog 45 y:=λ y h=>by cases h;exact⟨by kernel_rfl,by kernel_rfl,by kernel_rfl,by kernel_rfl,by decide⟩
theorem tyOk47:∀y,tb 47=some y->cN Tryz.prog 47 y:=λ y h=>by cases h;exact⟨by kernel_rfl,by kernel_rfl,by kernel_rfl,by kernel_rfl,by decide⟩
theorem tyOk48:∀y,tb 48=some y->cN Tryz.prog 48 y:=λ y h=>by cases h;exact⟨by kernel_rfl,by kernel_rfl,by kernel_rfl,by kernel_rfl,by decide⟩
theorem tyOk51:∀y,tb 51=some y->cN Tryz.prog 51 y:=λ y h=>by cases h;exact⟨by kernel_rfl,by kernel_rfl,by kernel_rfl,by kernel_rfl,by decide⟩
theorem tyOk56:∀y,tb 56=some y->cN Tryz.prog 56 y:=λ y h=>by cases h;exact⟨by kernel_rfl,by kernel_rfl,by kernel_rfl,by kernel_rfl,by decide⟩
theorem tyOk62:∀y,tb 62=some y->cN Tryz.prog 62 y:=λ y h=>by cases h;exact⟨by kernel_rfl,by kernel_rfl,by kernel_rfl,by kernel_rfl,by decide⟩
theorem tyOk63:∀y,tb 63=some y->cN Tryz.prog 63 y:=λ y h=>by cases h;exact⟨by kernel_rfl,by kernel_rfl,by kernel_rfl,by kernel_rfl,by decide⟩
theorem tyOk65:∀y,tb 65=some y->cN Tryz.prog 65 y:=λ y h=>by cases h;exact⟨by kernel_rfl,by kernel_rfl,by kernel_rfl,by kernel_rfl,by decide⟩
theorem tyOk72:∀y,tb 72=some y->cN Tryz.prog 72 y:=λ y h=>by cases h;exact⟨by kernel_rfl,by kernel_rfl,by kernel_rfl,by kernel_rfl,by decide⟩
theorem tyOk77:∀y,tb 77=some y->cN Tryz.prog 77 y:=λ y h=>by cases h;exact⟨by kernel_rfl,by kernel_rfl,by kernel_rfl,by kernel_rfl,by decide⟩
theorem tyOk80:∀y,tb 80=some y->cN Tryz.prog 80 y:=λ y h=>by cases h;exact⟨by kernel_rfl,by kernel_rfl,by kernel_rfl,by kernel_rfl,by decide⟩
theorem tyOk82:∀y,tb 82=some y->cN Tryz.prog 82 y:=λ y h=>by cases h;exact⟨by kernel_rfl,by kernel_rfl,by kernel_rfl,by kernel_rfl,by decide⟩
theorem tyOk85:∀y,tb 85=some y->cN Tryz.prog 85 y:=λ y h=>by cases h;exact⟨by kernel_rfl,by kernel_rfl,by kernel_rfl,by kernel_rfl,by decide⟩
theorem tyOk89:∀y,tb 89=some y->cN Tryz.prog 89 y:=λ y h=>by cases h;exact⟨by kernel_rfl,by kernel_rfl,by kernel_rfl,by kernel_rfl,by decide⟩
theorem tyOk98:∀y,tb 98=some y->cN Tryz.prog 98 y:=λ y h=>by cases h;exact⟨by kernel_rfl,by kernel_rfl,by kernel_rfl,by kernel_rfl,by decide⟩
theorem tyOk99:∀y,tb 99=some y->cN Tryz.prog 99 y:=λ y h=>by cases h;exact⟨by kernel_rfl,by kernel_rfl,by kernel_rfl,by kernel_rfl,by decide⟩
theorem tyOk100:∀y,tb 100=some y->cN Tryz.prog 100 y:=λ y h=>by cases h;exact⟨by kernel_rfl,by kernel_rfl,by kernel_rfl,by kernel_rfl,by decide⟩
theorem tyOk101:∀y,tb 101=some y->cN Tryz.prog 101 y:=λ y h=>by cases h;exact⟨by kernel_rfl,by kernel_rfl,by kernel_rfl,by kernel_rfl,by decide⟩
theorem tyOk102:∀y,tb 102=some y->cN Tryz.prog 102 y:=λ y h=>by cases h;exact⟨by kernel_rfl,by kernel_rfl,by kernel_rfl,by kernel_rfl,by decide⟩
theorem tyOk103:∀y,tb 103=some y->cN Tryz.prog 103 y:=λ y h=>by cases h;exact⟨by kernel_rfl,by kernel_rfl,by kernel_rfl,by kernel_rfl,by decide⟩
theorem tyOk104:∀y,tb 104=some y->cN Tryz.prog 104 y:=λ y h=>by cases h;exact⟨by kernel_rfl,by kernel_rfl,by kernel_rfl,by kernel_rfl,by decide⟩
theorem tyOk105:∀y,tb 105=some y->cN Tryz.prog 105 y:=λ y h=>by cases h;exact⟨by kernel_rfl,by kernel_rfl,by kernel_rfl,by kernel_rfl,by decide⟩
theorem tyOk106:∀y,tb 106=some y->cN Tryz.prog 106 y:=λ y h=>by cases h;exact⟨by kernel_rfl,by kernel_rfl,by kernel_rfl,by kernel_rfl,by decide⟩
theorem tyOk107:∀y,tb 107=some y->cN Tryz.prog 107 y:=λ y h=>by cases h;exact⟨by kernel_rfl,by kernel_rfl,by kernel_rfl,by kernel_rfl,by decide⟩
theorem tyOk108:∀y,tb 108=some y->cN Tryz.prog 108 y:=λ y h=>by cases h;exact⟨by kernel_rfl,by kernel_rfl,by kernel_rfl,by kernel_rfl,by decide⟩
theorem tyOk109:∀y,tb 109=some y->cN Tryz.prog 109 y:=λ y h=>by cases h;exact⟨by kernel_rfl,by kernel_rfl,by kernel_rfl,by kernel_rfl,by decide⟩
theorem tyOk110:∀y,tb 110=some y->cN Tryz.prog 110 y:=λ y h=>by cases h;exact⟨by kernel_rfl,by kernel_rfl,by kernel_rfl,by kernel_rfl,by decide⟩
theorem tyOk111:∀y,tb 111=some y->cN Tryz.prog 111 y:=λ y h=>by cases h;exact⟨by kernel_rfl,by kernel_rfl,by kernel_rfl,by kernel_rfl,by decide⟩
theorem tyOk112:∀y,tb 112=some y->cN Tryz.prog 112 y:=λ y h=>by cases h;exact⟨by kernel_rfl,by kernel_rfl,by kernel_rfl,by kernel_rfl,by decide⟩
theorem tyOk114:∀y,tb 114=some y->cN Tryz.prog 114 y:=λ y h=>by cases h;exact⟨by kernel_rfl,by kernel_rfl,by kernel_rfl,by kernel_rfl,by decide⟩
theorem tyOk128:∀y,tb 128=some y->cN Tryz.prog 128 y:=λ y h=>by cases h;exact⟨by kernel_rfl,by kernel_rfl,by kernel_rfl,by kernel_rfl,by decide⟩
theorem tyOk130:∀y,tb 130=some y->cN Tryz.prog 130 y:=λ y h=>by cases h;exact⟨by kernel_rfl,by kernel_rfl,by kernel_rfl,by kernel_rfl,by decide⟩
theorem tyOk150:∀y,tb 150=some y->cN Tryz.prog 150 y:=λ y h=>by cases h;exact⟨by kernel_rfl,by kernel_rfl,by kernel_rfl,by kernel_rfl,by decide⟩
theorem tyOk163:∀y,tb 163=some y->cN Tryz.prog 163 y:=λ y h=>by cases h;exact⟨by kernel_rfl,by kernel_rfl,by kernel_rfl,by kernel_rfl,by decide⟩
theorem tyOk164:∀y,tb 164=some y->cN Tryz.prog 164 y:=λ y h=>by cases h;exact⟨by kernel_rfl,by kernel_rfl,by kernel_rfl,by kernel_rfl,by decide⟩
theorem tyOk166:∀y,tb 166=some y->cN Tryz.prog 166 y:=λ y h=>by cases h;exact⟨by kernel_rfl,by kernel_rfl,by kernel_rfl,by kernel_rfl,by decide⟩
theorem tyOk228:∀y,tb 228=some y->cN Tryz.prog 228 y:=λ y h=>by cases h;exact⟨by kernel_rfl,by kernel_rfl,by kernel_rfl,by kernel_rfl,by decide⟩
theorem tyOk229:∀y,tb 229=some y->cN Tryz.prog 229 y:=λ y h=>by cases h;exact⟨by kernel_rfl,by kernel_rfl,by kernel_rfl,by kernel_rfl,by decide⟩
theorem tyOk230:∀y,tb 230=some y->cN Tryz.prog 230 y:=λ y h=>by cases h;exact⟨by kernel_rfl,by kernel_rfl,by kernel_rfl,by kernel_rfl,by decide⟩
theorem tyOk231:∀y,tb 231=some y->cN Tryz.prog 231 y:=λ y h=>by cases h;exact⟨by kernel_rfl,by kernel_rfl,by kernel_rfl,by kernel_rfl,by decide⟩
theorem tyOk232:∀y,tb 232=some y->cN Tryz.prog 232 y:=λ y h=>by cases h;exact⟨by kernel_rfl,by kernel_rfl,by kernel_rfl,by kernel_rfl,by decide⟩
theorem tyOk233:∀y,tb 233=some y->cN Tryz.prog 233 y:=λ y h=>by cases h;exact⟨by kernel_rfl,by kernel_rfl,by kernel_rfl,by kernel_rfl,by decide⟩
theorem tyOk235:∀y,tb 235=some y->cN Tryz.prog 235 y:=λ y h=>by cases h;exact⟨by kernel_rfl,by kernel_rfl,by kernel_rfl,by kernel_rfl,by decide⟩
theorem tyOk237:∀y,tb 237=some y->cN Tryz.prog 237 y:=λ y h=>by cases h;exact⟨by kernel_rfl,by kernel_rfl,by kernel_rfl,by kernel_rfl,by decide⟩
theorem tyOk239:∀y,tb 239=some y->cN Tryz.prog 239 y:=λ y h=>by cases h;exact⟨by kernel_rfl,by kernel_rfl,by kernel_rfl,by kernel_rfl,by decide⟩
theorem tyOk242:∀y,tb 242=some y->cN Tryz.prog 242 y:=λ y h=>by cases h;exact⟨by kernel_rfl,by kernel_rfl,by kernel_rfl,by kernel_rfl,by decide⟩
theorem tyOk244:∀y,tb 244=some y->cN Tryz.prog 244 y:=λ y h=>by cases h;exact⟨by kernel_rfl,by kernel_rfl,by kernel_rfl,by kernel_rfl,by decide⟩
theorem tyOk250:∀y,tb 250=some y->cN Tryz.prog 250 y:=λ y h=>by cases h;exact⟨by kernel_rfl,by kernel_rfl,by kernel_rfl,by kernel_rfl,by decide⟩
theorem tyOk252:∀y,tb 252=some y->cN Tryz.prog 252 y:=λ y h=>by cases h;exact⟨by kernel_rfl,by kernel_rfl,by kernel_rfl,by kernel_rfl,by decide⟩
theorem tyOk265:∀y,tb 265=some y->cN Tryz.prog 265 y:=λ y h=>by cases h;exact⟨by kernel_rfl,by kernel_rfl,by kernel_rfl,by kernel_rfl,by decide⟩
theorem qA:gI Tryz.prog tb:=by
 intro T y h
 unfold tb at h
 split at h
 ·exact tyOk2 y h
 ·exact tyOk3 y h
 ·exact tyOk4 y h
 ·exact tyOk5 y h
 ·exact tyOk9 y h
 ·exact tyOk22 y h
 ·exact tyOk23 y h
 ·exact tyOk24 y h
 ·exact tyOk26 y h
 ·exact tyOk32 y h
 ·exact tyOk38 y h
 ·exact tyOk40 y h
 ·exact tyOk41 y h
 ·exact tyOk43 y h
 ·exact tyOk44 y h
 ·exact tyOk45 y h
 ·exact tyOk47 y h
 ·exact tyOk48 y h
 ·exact tyOk51 y h
 ·exact tyOk56 y h
 ·exact tyOk62 y h
 ·exact tyOk63 y h
 ·exact tyOk65 y h
 ·exact tyOk72 y h
 ·exact tyOk77 y h
 ·exact tyOk80 y h
 ·exact tyOk82 y h
 ·exact tyOk85 y h
 ·exact tyOk89 y h
 ·exact tyOk98 y h
 ·exact tyOk99 y h
 ·exact tyOk100 y h
 ·exact tyOk101 y h
 ·exact tyOk102 y h
 ·exact tyOk103 y h
 ·exact tyOk104 y h
 ·exact tyOk105 y h
 ·exact tyOk106 y h
 ·exact tyOk107 y h
 ·exact tyOk108 y h
 ·exact tyOk109 y h
 ·exact tyOk110 y h
 ·exact tyOk111 y h
 ·exact tyOk112 y h
 ·exact tyOk114 y h
 ·exact tyOk128 y h
 ·exact tyOk130 y h
 ·exact tyOk150 y h
 ·exact tyOk163 y h
 ·exact tyOk164 y h
 ·exact tyOk166 y h
 ·exact tyOk228 y h
 ·exact tyOk229 y h
 ·exact tyOk230 y h
 ·exact tyOk231 y h
 ·exact tyOk232 y h
 ·exact tyOk233 y h
 ·exact tyOk235 y h
 ·exact tyOk237 y h
 ·exact tyOk239 y h
 ·exact tyOk242 y h
 ·exact tyOk244 y h
 ·exact tyOk250 y h
 ·exact tyOk252 y h
 ·exact tyOk265 y h
 ·cases h
theorem mixed:Tryz.prog.follows .mixedOrders=true:=by kernel_rfl
end
section
open Go.RowKit
theorem K4{w:World}{base e n g cap k:Nat}{xs:List Value}(h:w.ownsRow base e 1 (.slice (some ⟨g,0,none⟩) n cap) n xs)(u:Value):(w.setCell ⟨g,k,none⟩ u).ownsRow base e 1 (.slice (some ⟨g,0,none⟩) n cap) n (xs.set k u):=by
 refine⟨by rw[List.length_set];exact h.1,?_⟩
 rcases h.2 with ⟨h1,-⟩|⟨g',cap',cur,h1,h2,h3,h4,h5,h6,h7⟩
 ·cases h1
 ·cases h1
  refine .inr ⟨g,cap,cur.setIfInBounds k u,rfl,h2,Go.heap_setCell_same w g k cur e u h3,h4,h5,by rw[Array.size_setIfInBounds];exact h6,?_⟩
  rw[Array.toList_setIfInBounds,List.take_set,h7]
theorem oK(p:Lv)(va:Value)(w:World)(ha:RP w va p)(hn:p.length<=200000000):Calls Tryz.prog 202 #[va] w (xH (.row 2 77 (bR p) .nil .nil) w):=by
 obtain⟨q,c,rfl,hc1,hc2,hc3⟩:=ha.slice
 unfold maxLen at hc2
 cases q with
 | none =>
  obtain rfl:c=0:=hc3 rfl
  have hp:p=[]:=List.length_eq_zero_iff.1 (by omega)
  subst hp
  clear ha
  have he:∀W:World,(binOp .eql 41 (.slice none 0 0) (.slice none 0 0)).run Tryz.prog W=.ok (.bool true) W:=λ _=>rfl
  go_enter Tryz.func202,Tryz.ntmps202
  go_wp2_with fail
  go_ret
  exact⟨_,[],rfl,Below.refl _ _,(RowG.nil w w.heap.size 2 77).own,by simp⟩
 | some ad =>
  obtain⟨v1,w2,hrun1,hR2,hB2⟩:=yT (w:=w) (RowG.empty w 2 77) (ha.on (aB _ _)) hn (by simp) (aB _ _)
  obtain⟨n,hpn⟩:∃n,p.length=n:=⟨_,rfl⟩
  have HR:=hid hR2
  have HB:=hid hB2
  rw[hpn] at hrun1 hc1 ⊢
  clear ha hR2 hB2 hpn hn hc3
  have he:∀W:World,(binOp .eql 41 (.slice (some ad) n c) (.slice none 0 0)).run Tryz.prog W=.ok (.bool false) W:=λ _=>rfl
  go_enter Tryz.func202,Tryz.ntmps202
  go_wp2_with (at_builtin;refine wpList_append_run rfl _ _ 41 rfl _ _ _ rfl rfl hrun1 ?_)
  go_ret
  exact⟨_,_,rfl,HB.out,HR.out.own,HR.out.nodup⟩
def RawL(l:List Lv)(w0 w:World)(e:Ending)(w':World):Prop :=
 ∃v xs,e=.returned v/\Below w.heap.size w w'/\w'.ownsRow w.heap.size 43 1 v l.length xs/\Vs (U w0) w0.heap.size (bN ty l) xs
theorem At.vs{F:Nat->Nat->Option Value}{hi:Nat}{x:Ds}:∀ {b o:Nat},At F hi x b o->∃xs,Vs F hi x xs/\∀j u,xs[j]? = some u->F b (o+j)=some u:=by
 induction x with
 | nil=>intro b o _;exact⟨[],rfl,λ j u hu=>by simp at hu⟩
 | lit v r ih =>
  rintro b o ⟨h1,h2⟩
  obtain⟨xs,h3,h4⟩:=ih h2
  refine⟨v :: xs,⟨xs,rfl,h3⟩,λ j u hu=>?_⟩
  cases j with
  | zero=>simp at hu;subst hu;exact h1
  | succ j =>
   have:=h4 j u (by simpa using hu)
   rw[show o+(j+1)=o+1+j by omega];exact this
 | row sz e x s r _ _ ih =>
  intro b o h
  obtain⟨⟨v,h1,h2⟩,h3⟩:=At_row.1 h
  obtain⟨xs,h4,h5⟩:=ih h3
  refine⟨v :: xs,⟨v,xs,rfl,h2,h4⟩,λ j u hu=>?_⟩
  cases j with
  | zero=>simp at hu;subst hu;exact h1
  | succ j =>
   have:=h5 j u (by simpa using hu)
   rw[show o+(j+1)=o+1+j by omega];exact this
theorem Vs.one{F:Nat->Nat->Option Value}{hi:Nat}{x:Ds}:∀ {xs:List Value},x.ones->Vs F hi x xs->∀u∈xs,u.oneCell'=true:=by
 induction x with
 | nil=>intro xs _ h u hu;simp[Vs] at h;subst h;cases hu
 | lit v r ih =>
  rintro xs ⟨h1,h2⟩ ⟨ys,rfl,h⟩ u hu
  rcases List.mem_cons.1 hu with rfl|hu
  ·exact h1
  ·exact ih h2 h u hu
 | row sz e x s r _ _ ih =>
  rintro xs h1 ⟨v,ys,rfl,h2,h3⟩ u hu
  rcases List.mem_cons.1 hu with rfl|hu
  ·obtain⟨p,n,c,rfl,-⟩:=h2;rfl
  ·exact ih h1 h3 u hu
theorem tZ(l:List Lv)(va:Value)(w0 w:World)(ha:RL ty w0 va l)(hb0:Below w0.heap.size w0 w)(hn:l.length<=200000000):Calls Tryz.prog 201 #[va] w (RawL l w0 w):=by
 obtain⟨q,c,rfl,hc1,hc2,hc3⟩:=ha.slice
 unfold maxLen at hc2
 cases q with
 | none =>
  obtain rfl:c=0:=hc3 rfl
  have hp:l=[]:=List.length_eq_zero_iff.1 (by omega)
  subst hp
  clear ha hb0
  have he:∀W:World,(binOp .eql 24 (.slice none 0 0) (.slice none 0 0)).run Tryz.prog W=.ok (.bool true) W:=λ _=>rfl
  go_enter Tryz.func201,Tryz.ntmps201
  go_wp2_with fail
  go_ret
  exact⟨_,[],rfl,Below.refl _ _,World.ownsRow_nil _ _ _ _,rfl⟩
 | some ad =>
  obtain⟨i0,hi0,hz0,hz1,hz2⟩:=info_parts Y4
  have hown0:(w.alloc (.cells #[] 43)).ownsRow w.heap.size 43 1 (.slice (some ⟨w.heap.size,0,none⟩) 0 0) 0 []:=by
   obtain⟨xs,h1,h2,-⟩:=RowG.empty w 1 43
   obtain⟨rfl,-⟩:=h2
   exact h1
  have cells:∃xs,Vs (U w0) w0.heap.size (bN ty l) xs/\∀j u,xs[j]? = some u->(w.alloc (.cells #[] 43)).cell? (ad.add j)=some u:=by
   obtain⟨q',n',c',e1,h2,h3,h4,h5,h6⟩:=ha
   cases e1
   rcases h6 with ⟨h6,-⟩|⟨h6,-,-⟩|⟨b',o',e2,hl,hA,-⟩
   ·cases h6
   ·have hp:l=[]:=List.length_eq_zero_iff.1 h6
    subst hp
    exact⟨[],rfl,λ j u hu=>by simp at hu⟩
   ·cases e2
    obtain⟨xs,h8,h9⟩:=hA.vs
    refine⟨xs,h8,λ j u hu=>?_⟩
    have e1:((⟨b',o',none⟩:Addr).add j)=⟨b',o'+j,none⟩:=by
     unfold Addr.add;split
     ·rename_i hj;subst hj;rfl
     ·rfl
    rw[e1]
    exact aC (aD (aA hb0 (aB w (.cells #[] 43))) _ _ _ hl (h9 j u hu))
  obtain⟨xs,hvs,hcs⟩:=cells
  obtain⟨v',w2,hrun,h2,h3,-,h5⟩:=run_append_own_at (P:=Tryz.prog) (w.alloc (.cells #[] 43)) w.heap.size 24 24 43 i0 _ 1 24 Tryz.underlying24 hi0 hz0 hz1 hz2 rfl (by decide) _ 0 [] hown0 ad l.length c xs (by rw[hvs.len,eI,Nat.mul_one]) hcs (hvs.one (yQ _ _)) (by unfold maxLen;omega) (by omega) (by simp)
  have HB:Hid (Below w.heap.size w w2):=hid ((aB w (.cells #[] 43)).grown h3 (by simp) (λ g hg=>by cases hg;exact Nat.le_refl _))
  have HO:Hid (w2.ownsRow w.heap.size 43 1 v' l.length xs):=hid (by simpa using h2)
  have HV:=hid hvs
  obtain⟨n,hpn⟩:∃n,l.length=n:=⟨_,rfl⟩
  have HPN:=hid hpn
  rw[hpn] at hrun hc1 ⊢
  clear ha h2 h3 h5 hvs hcs hown0 hpn hn hc3 hb0
  have he:∀W:World,(binOp .eql 24 (.slice (some ad) n c) (.slice none 0 0)).run Tryz.prog W=.ok (.bool false) W:=λ _=>rfl
  go_enter Tryz.func201,Tryz.ntmps201
  go_wp2_with (at_builtin;refine wpList_append_run rfl _ _ 24 rfl _ _ _ rfl rfl hrun ?_)
  go_ret
  exact⟨_,xs,rfl,HB.out,HO.out,HV.out⟩
end
section
open Go.RowKit
theorem Own.setCell{w:World}{base:Nat}{x:Ds}{xs:List Value}{S:List Nat}(h:Own w base x xs S){p:Addr}(hp:p.block ∉ S)(v:Value):Own (w.setCell p v) base x xs S :=
 h.kept λ b hb=>Below.heap_setCell _ p v b λ e=>hp (by rw[<-e];exact hb)
theorem Own.slice{w:World}{base sz e:Nat}{x s:Ds}{v:Value}{S:List Nat}(h:Own w base (.row sz e x s .nil) [v] S):∃p n c,v=.slice p n c/\n*sz=x.len/\n<=c/\c<=maxLen:=by
 obtain⟨v',ys,e1,h1,-⟩:=h.vs
 cases e1
 obtain⟨p,n,c,rfl,h2,h3,h4,-⟩:=h1.slice
 exact⟨p,n,c,rfl,h2,h3,h4⟩
theorem Own.notMem{w:World}{base:Nat}{x:Ds}{xs:List Value}{S:List Nat}(h:Own w base x xs S){b:Nat}(hb:b<base):b ∉ S:=λ hm=>by have:=(h.mem b hm).1;omega
theorem xQ(p:Lv)(q:Option Addr)(c:Nat)(w:World)(ha:RP w (.slice q p.length c) p)(hn:p.length<=200000000) :
  Calls Tryz.prog 75 #[.agg #[.slice q p.length c]] w (Makes (cC ty [p]) w):=by
 obtain⟨w2,hw2⟩:∃w2,(w.alloc (.cells #[.slice q p.length c] 43)).alloc (.cells #[.slice none 0 0] 43)=w2:=⟨_,rfl⟩
 have hb2:Below w.heap.size w w2:=by rw[<-hw2];exact aA (aB _ _) (aB _ _)
 have hs2:w2.heap.size=w.heap.size+2:=by rw[<-hw2];simp
 have c1:U w2 w.heap.size 0=some (.slice q p.length c):=by
  rw[<-hw2];exact aD (aB _ _) _ _ _ (by simp) (aL rfl)
 have c2:U w2 (w.heap.size+1) 0=some (.slice none 0 0):=by
  have:=aL (w:=w.alloc (.cells #[.slice q p.length c] 43)) (cs:=#[.slice none 0 0]) (ty:=43) (o:=0) rfl
  rw[World.size_alloc,hw2] at this
  exact this
 have HL:=hid (pR p _ w2 (ha.on hb2) hn)
 have d1:=aC c1
 go_enter Tryz.func75,Tryz.ntmps75
 go_wp2_with fail
 refine HL.out.mono ?_
 rintro e w3 ⟨v,S,rfl,hb3,hown,hnd⟩
 obtain⟨r,n,d,rfl,-,-,-⟩:=hown.slice
 have g1:=aC (aD hb3 _ _ _ (by omega) c1)
 have g2:=aC (aD hb3 _ _ _ (by omega) c2)
 have f1:=aG (aD hb3 _ _ _ (by omega) c1)
 have f2:=aG (aD hb3 _ _ _ (by omega) c2)
 have HO:=hid hown
 have HB3:=hid hb3
 have HND:=hid hnd
 have HB2:=hid hb2
 have hne:(⟨w.heap.size,0,none⟩:Addr)≠⟨w.heap.size+1,0,none⟩:=by intro e;injection e with e1 _;omega
 clear hown hb3 hnd hb2 c1 c2 d1 hw2 ha HL
 go_wp2_with fail
 have x2:((w3.setCell ⟨w.heap.size,0,none⟩ (.slice r n d)).setCell ⟨w.heap.size+1,0,none⟩ (.slice r n d)).cell? ⟨w.heap.size+1,0,none⟩=some (.slice r n d) :=
  World.cell?_setCell_same' _ _ _ (by rw[World.cell?_setCell_other _ _ _ _ hne,g2];rfl)
 refine bodyPost_ret (v:=.agg #[.slice r n d]) (by simp[results,Tryz.results75,go_sem,x2]) rfl ⟨[.slice r n d],S,rfl,?_,?_,HND.out⟩
 ·exact ((aA HB2.out HB3.out).setCell (p:=⟨w.heap.size,0,none⟩) (Nat.le_refl _) _).setCell (p:=⟨w.heap.size+1,0,none⟩) (Nat.le_succ _) _
 ·exact ((HO.out.setCell (p:=⟨w.heap.size,0,none⟩) (HO.out.notMem (by simp;omega)) _).setCell (p:=⟨w.heap.size+1,0,none⟩) (HO.out.notMem (by simp;omega)) _).lower (by omega)
theorem Makes.one{sz e:Nat}{x s:Ds}{w w':World}{en:Ending}(h:Makes (.row sz e x s .nil) w en w'):∃r n d S,en=.returned (.agg #[.slice r n d])/\Below w.heap.size w w'/\Own w' w.heap.size (.row sz e x s .nil) [.slice r n d] S/\S.Nodup:=by
 obtain⟨xs,S,rfl,hb,ho,hn⟩:=h
 have ho':=ho
 obtain⟨v,ys,zs,us,B,S1,S2,S3,rfl,-,-,-,⟨rfl,-⟩,-⟩:=ho'
 obtain⟨r,n,d,rfl,-⟩:=ho.slice
 exact⟨r,n,d,S,rfl,hb,ho,hn⟩
theorem M8{l:List Lv}{k:Nat}(y:Tys)(h:k<l.length):cC y (l.take (k+1))=(cC y (l.take k)).app (cC y [l[k]]):=by
 rw[<-Y0,List.take_succ_eq_append_getElem h]
theorem M9(y:Tys)(l:List Lv):(cC y l).ones:=by
 induction l with
 | nil=>trivial
 | cons a r ih=>exact ih
theorem wA(l:List Lv)(va:Value)(w:World)(ha:RL ty w va l)(hs:aH l<=200000000):Calls Tryz.prog 55 #[va] w (xH (.row 1 43 (cC ty l) (bN ty (cW 1 12)) .nil) w):=by
 obtain⟨q,c,rfl,hc1,hc2,-⟩:=ha.slice
 unfold maxLen at hc2
 have hl:l.length<=200000000:=by
  have:l.length<=aH l:=by
   clear hs hc1 ha
   induction l with
   | nil=>simp
   | cons a r ih=>simp only[List.length_cons,aH];omega
  omega
 obtain⟨w1,hrun,hR,hB⟩:=RowG.make elL w w.heap.size (l.length+12) .i64 .i64 (by omega) (Nat.le_refl _)
 rw[show ((l.length+12:Nat):Int)=(l.length:Int)+12 by omega] at hrun
 have HR:=hid hR
 have HB:=hid hB
 have HA:=hid ha
 have HSZ:=hid hs
 clear hR hB ha hs
 go_enter Tryz.func55,Tryz.ntmps55
 go_wp2_with fail
 clear hrun
 go_loopw [3,4] (λ v i wr=>∃(k:Nat) (S:List Nat),k<=l.length/\i=.int .i64 k/\Below w.heap.size w wr/\RowG wr w.heap.size 1 43 v k (cC ty (l.take k)) S) (λ _ i _=>l.length-(intOf i).toNat)
 case atStart=>exact⟨0,[],Nat.zero_le _,rfl,HB.out,HR.out⟩
 case round =>
  obtain⟨k,S,hk,rfl,hB1,hR1⟩:=hrel
  have HB1:=hid hB1
  have HR1:=hid hR1
  clear hB1 hR1
  by_cases hlt:k<l.length
  ·have r1:decide ((k:Int)<(l.length:Int))=true:=decide_eq_true (by omega)
   obtain⟨b,o,rfl,hb,r,d,hu,hd1,hd2,hRP⟩:=(HA.out.on HB1.out).at_ hlt
   have e1:=aC hu
   have hsz:=oX hlt
   have HL:=hid ((xQ l[k] r d wr hRP (by have:=HSZ.out;omega)).mono λ _ _ h=>Makes.one h)
   have HT:=hid (M8 ty hlt)
   have hbase:w.heap.size<=wr.heap.size:=HB1.out.size
   clear hu hd1 hd2 hRP hsz
   obtain⟨z,hz⟩:∃z:Nat,l[k].length=z:=⟨_,rfl⟩
   rw[hz] at e1 HL
   clear hz
   go_wp2_with fail
   refine HL.out.mono ?_
   rintro e w3 ⟨r',n',d',S2,rfl,hb3,hown,hnd⟩
   have hB4:=aA hb3 (aA (aB w3 (.cells #[.slice r' n' d'] 43)) (aB _ (.cells #[.slice r' n' d'] 43)))
   have hR4:=HR1.out.below hB4
   have hO4:=(hown.below (aA (aB w3 (.cells #[.slice r' n' d'] 43)) (aB _ (.cells #[.slice r' n' d'] 43)))).lower hbase
   obtain⟨v',w4,hrun4,hR5,hg,-⟩:=RowG.append (ty:=24) (k:=1) (y:=cC ty [l[k]]) elL hR4 HR1.out.lt_of hO4 hnd (λ b hb=>(hown.mem b hb).1) (M9 ty [l[k]]) ⟨(w3.alloc (.cells #[.slice r' n' d'] 43)).heap.size,0,none⟩ 1 rfl (dO _ _ 43) (by omega) (Nat.le_trans hbase hB4.size)
   have HB4:Hid (Below w.heap.size w w4):=hid ((aA HB1.out hB4).grown hg (aA HB1.out hB4).size hR4.ge)
   have HR4:Hid (RowG w4 w.heap.size 1 43 v' (k+1) (cC ty (l.take (k+1))) (S++S2)):=hid (by rw[HT.out];exact hR5)
   simp only[World.size_alloc] at hrun4
   clear hb3 hown hnd hB4 hR4 hO4 hR5 hg HT HL HR1
   go_wp2_with (at_builtin;refine wpList_append_run rfl _ _ 24 rfl _ _ _ rfl rfl hrun4 ?_)
   clear hrun4
   go_roundw
   case rel=>exact⟨k+1,_,by omega,by go_num,HB4.out,HR4.out⟩
   case measure=>simp[intOf];omega
  ·obtain rfl:k=l.length:=by omega
   have r1:decide ((l.length:Int)<(l.length:Int))=false:=decide_eq_false (by omega)
   have HR2:Hid (RowG wr w.heap.size 1 43 _ l.length (cC ty l) S):=hid (by have:=HR1.out;rw[List.take_length] at this;exact this)
   obtain⟨n,hn⟩:∃n,l.length=n:=⟨_,rfl⟩
   rw[hn] at hl r1 HR2 hc1 ⊢
   have HN:=hid hn
   clear HR1 HR HB hk hlt HA HSZ hn
   go_wp2_with fail
   clear r1
   go_loopw [3,6] (λ v i wx=>∃(j:Nat) (S:List Nat),j<=12/\i=.int .i64 j/\Below w.heap.size w wx/\RowG wx w.heap.size 1 43 v (n+j) ((cC ty l).app (bN ty (cW 1 j))) S) (λ _ i _=>12-(intOf i).toNat)
   case atStart=>exact⟨0,S,Nat.zero_le _,rfl,HB1.out,by rw[show bN ty (cW 1 0)=.nil from rfl,Ds.app_nil];exact HR2.out⟩
   case round =>
    obtain⟨j,S',hj,rfl,hBj,hRj⟩:=hrel
    have HBj:=hid hBj
    have HRj:=hid hRj
    clear hBj hRj HR2 HB1
    by_cases hlt:j<12
    ·have r1:decide ((j:Int)<12)=true:=decide_eq_true (by omega)
     have HM:=hid ((lB 1 j wr (by decide) (by omega)).mono λ _ _ h=>Makes.one h)
     have hbase:w.heap.size<=wr.heap.size:=HBj.out.size
     go_wp2_with fail
     refine HM.out.mono ?_
     rintro e w3 ⟨r',n',d',S2,rfl,hb3,hown,hnd⟩
     have hB4:=aA hb3 (aB w3 (.cells #[.slice r' n' d'] 43))
     have hR4:=HRj.out.below hB4
     have hO4:=(hown.below (aB w3 (.cells #[.slice r' n' d'] 43))).lower hbase
     obtain⟨v',w4,hrun4,hR5,hg,-⟩:=RowG.append (ty:=24) (k:=1) (y:=bN ty [nX 1 j]) elL hR4 HRj.out.lt_of hO4 hnd (λ b hb=>(hown.mem b hb).1) (yQ ty [nX 1 j]) ⟨w3.heap.size,0,none⟩ 1 rfl (dO _ _ 43) (by omega) (Nat.le_trans hbase hB4.size)
     have HB4:Hid (Below w.heap.size w w4):=hid ((aA HBj.out hB4).grown hg (aA HBj.out hB4).size hR4.ge)
     have HR4:Hid (RowG w4 w.heap.size 1 43 v' (n+(j+1)) ((cC ty l).app (bN ty (cW 1 (j+1)))) (S'++S2)):=hid (by rw[cW,lL,<-Ds.app_assoc];exact hR5)
     clear hb3 hown hnd hB4 hR4 hO4 hR5 hg HM HRj
     go_wp2_with (at_builtin;refine wpList_append_run rfl _ _ 24 rfl _ _ _ rfl rfl hrun4 ?_)
     clear hrun4
     go_roundw
     case rel=>exact⟨j+1,_,by omega,by go_num,HB4.out,HR4.out⟩
     case measure=>simp[intOf];omega
    ·obtain rfl:j=12:=by omega
     obtain⟨p',c',rfl,hc3,hc4⟩:=HRj.out.cap
     unfold maxLen at hc4
     have HX:=hid (RowG.cut (m:=n) (s:=bN ty (cW 1 12)) HRj.out (by omega) (by rw[vZ,HN.out,Nat.mul_one]))
     have HND:Hid (((Value.slice p' (n+12) c').ownBlock.toList++S').Nodup):=hid (by obtain⟨_,_,_,h⟩:=HRj.out;exact h)
     clear hj hlt HRj
     go_wp2_with fail
     all_goals go_ret
     exact⟨_,_,rfl,HBj.out,HX.out,HND.out⟩
end
section
open Go.RowKit
theorem aX{w:World}{b o b' o':Nat}{u v:Value}(h:U w b o=some u)(hne:(⟨b',o',none⟩:Addr)≠⟨b,o,none⟩):U (w.setCell ⟨b',o',none⟩ v) b o=some u :=
 kM (by rw[World.cell?_setCell_other _ _ _ _ hne];exact aC h) (by rw[World.frozen?_setCell];exact aG h)
theorem cS{w:World}{b o:Nat}{u v:Value}(h:U w b o=some u):U (w.setCell ⟨b,o,none⟩ v) b o=some v :=
 kM (World.cell?_setCell_same' _ _ _ (by rw[aC h];rfl)) (by rw[World.frozen?_setCell];exact aG h)
theorem sN{b o b' o':Nat}(h:o'≠o):(⟨b',o',none⟩:Addr)≠⟨b,o,none⟩:=by intro e;injection e with _ e2;exact h e2
theorem W7{b o b' o':Nat}(h:b'≠b):(⟨b',o',none⟩:Addr)≠⟨b,o,none⟩:=by intro e;injection e with e1 _;exact h e1
theorem oF{w:World}{b:Nat}{u0 u1 u2 u3 u4 v0 v1 v2 v3 v4:Value}(h0:U w b 0=some u0)(h1:U w b 1=some u1)(h2:U w b 2=some u2)(h3:U w b 3=some u3)(h4:U w b 4=some u4){W:World}
  (hW:((((w.setCell ⟨b,0,none⟩ v0).setCell ⟨b,1,none⟩ v1).setCell ⟨b,2,none⟩ v2).setCell ⟨b,3,none⟩ v3).setCell ⟨b,4,none⟩ v4=W) :
  U W b 0=some v0/\U W b 1=some v1/\U W b 2=some v2/\U W b 3=some v3/\U W b 4=some v4/\(∀k,k≠b->W.heap[k]? = w.heap[k]?):=by
 have n:∀i j:Nat,i≠j->(⟨b,i,none⟩:Addr)≠⟨b,j,none⟩:=λ i j h=>sN h
 subst hW
 refine⟨?_,?_,?_,?_,?_,?_⟩
 ·exact aX (aX (aX (aX (cS h0) (n _ _ (by decide))) (n _ _ (by decide))) (n _ _ (by decide))) (n _ _ (by decide))
 ·exact aX (aX (aX (cS (aX h1 (n _ _ (by decide)))) (n _ _ (by decide))) (n _ _ (by decide))) (n _ _ (by decide))
 ·exact aX (aX (cS (aX (aX h2 (n _ _ (by decide))) (n _ _ (by decide)))) (n _ _ (by decide))) (n _ _ (by decide))
 ·exact aX (cS (aX (aX (aX h3 (n _ _ (by decide))) (n _ _ (by decide))) (n _ _ (by decide)))) (n _ _ (by decide))
 ·exact cS (aX (aX (aX (aX h4 (n _ _ (by decide))) (n _ _ (by decide))) (n _ _ (by decide))) (n _ _ (by decide)))
 ·intro k hk
  exact (Below.heap_setCell _ _ _ k hk).trans ((Below.heap_setCell _ _ _ k hk).trans ((Below.heap_setCell _ _ _ k hk).trans ((Below.heap_setCell _ _ _ k hk).trans (Below.heap_setCell _ _ _ k hk))))
theorem tO(h:Hd)(x:Ts)(va:Value)(w:World)(ha:RM ty w va h x)(hs:aH h.l<=200000000)
  (hk:∀W v,RT ty W v x->Calls Tryz.prog 10 #[v] W (xH (.row 5 26 (bV ty x) (tDs ty (bU 1 12)) .nil) W)):Calls Tryz.prog 11 #[va] w (Makes (bV ty (.cons h x .nil)) w):=by
 obtain⟨q,c,r,d,rfl,-,-,-,-,hl,hx⟩:=ha.agg
 obtain⟨w2,hw2⟩:∃w2,(w.alloc (.cells #[.int .i64 h.k,.int .i64 h.n,.int .i64 h.a,.slice q h.l.length c,.slice r x.len d] 26)).alloc (.cells #[.int .i64 0,.int .i64 0,.int .i64 0,.slice none 0 0,.slice none 0 0] 26)=w2:=⟨_,rfl⟩
 have hb2:Below w.heap.size w w2:=by rw[<-hw2];exact aA (aB _ _) (aB _ _)
 have hs2:w2.heap.size=w.heap.size+2:=by rw[<-hw2];simp
 have p1:∀o v,(#[.int .i64 h.k,.int .i64 h.n,.int .i64 h.a,.slice q h.l.length c,.slice r x.len d]:Array Value)[o]? = some v->U w2 w.heap.size o=some v:=λ o v hv=>by
  rw[<-hw2];exact aD (aB _ _) _ _ _ (by simp) (aL hv)
 have p2:∀o v,(#[.int .i64 0,.int .i64 0,.int .i64 0,.slice none 0 0,.slice none 0 0]:Array Value)[o]? = some v->U w2 (w.heap.size+1) o=some v:=λ o v hv=>by
  have:=aL (w:=w.alloc (.cells #[.int .i64 h.k,.int .i64 h.n,.int .i64 h.a,.slice q h.l.length c,.slice r x.len d] 26)) (ty:=26) hv
  rw[World.size_alloc,hw2] at this
  exact this
 have HL:=hid (wA h.l _ w2 (hl.on hb2) hs)
 have d3:=aC (p1 3 _ rfl)
 go_enter Tryz.func11,Tryz.ntmps11
 go_wp2_with fail
 refine HL.out.mono ?_
 rintro e w3 ⟨v1,S1,rfl,hb3,ho1,hn1⟩
 obtain⟨r1,n1,d1,rfl,-,-,-⟩:=ho1.slice
 have q1:∀o v,(#[.int .i64 h.k,.int .i64 h.n,.int .i64 h.a,.slice q h.l.length c,.slice r x.len d]:Array Value)[o]? = some v->U w3 w.heap.size o=some v:=λ o v hv=>aD hb3 _ _ _ (by omega) (p1 o v hv)
 have q2:∀o v,(#[.int .i64 0,.int .i64 0,.int .i64 0,.slice none 0 0,.slice none 0 0]:Array Value)[o]? = some v->U w3 (w.heap.size+1) o=some v:=λ o v hv=>aD hb3 _ _ _ (by omega) (p2 o v hv)
 have g3:=aC (q1 3 _ rfl)
 have g4:=aC (q1 4 _ rfl)
 have f3:=aG (q1 3 _ rfl)
 have HB3:=hid (aA hb2 hb3)
 have HO1:=hid ho1
 have HN1:=hid hn1
 have HX:=hid hx
 have HK:=hid hk
 have Q1:=hid q1
 have Q2:=hid q2
 have HS2:=hid hs2
 clear hw2 hb2 hs2 p1 p2 HL d3 hb3 ho1 hn1 hl hx hk q1 q2 hs ha
 go_wp2_with fail
 obtain⟨w4,hw4⟩:∃w4,w3.setCell ⟨w.heap.size,3,none⟩ (.slice r1 n1 d1)=w4:=⟨_,rfl⟩
 have HB4:Hid (Below w.heap.size w w4):=hid (by rw[<-hw4];exact HB3.out.setCell (p:=⟨w.heap.size,3,none⟩) (Nat.le_refl _) _)
 have hsz4:w4.heap.size=w3.heap.size:=by rw[<-hw4];simp
 have Q3:Hid (∀o v,(#[.int .i64 h.k,.int .i64 h.n,.int .i64 h.a,.slice r1 n1 d1,.slice r x.len d]:Array Value)[o]? = some v->U w4 w.heap.size o=some v):=λ o v hv=>by
  rw[<-hw4]
  by_cases h3:o=3
  ·subst h3
   cases hv
   exact cS (Q1.out 3 _ rfl)
  ·refine aX (Q1.out o v ?_) (sN (Ne.symm h3))
   match o,h3,hv with
   | 0,_,hv=>exact hv
   | 1,_,hv=>exact hv
   | 2,_,hv=>exact hv
   | 4,_,hv=>exact hv
   | 3,h3,_=>exact absurd rfl h3
 have Q4:Hid (∀o v,(#[.int .i64 0,.int .i64 0,.int .i64 0,.slice none 0 0,.slice none 0 0]:Array Value)[o]? = some v->U w4 (w.heap.size+1) o=some v):=λ o v hv=>by
  rw[<-hw4];exact aX (Q2.out o v hv) (W7 (by omega))
 have HO4:Hid (Own w4 w2.heap.size _ [.slice r1 n1 d1] S1):=hid (by rw[<-hw4];exact HO1.out.setCell (p:=⟨w.heap.size,3,none⟩) (HO1.out.notMem (by have:=HS2.out;simp;omega)) _)
 rw[hw4]
 refine (HK.out w4 _ (HX.out.on HB4.out)).mono ?_
 rintro e w5 ⟨v2,S2,rfl,hb5,ho2,hn2⟩
 obtain⟨r2,n2,d2,rfl,-,-,-⟩:=ho2.slice
 have hlt4:w.heap.size+1<w4.heap.size:=by
  have h2:=HS2.out
  have h3:=(HO1.out.mem)
  have h4:=aM (Q4.out 0 _ rfl)
  exact h4
 have q5:∀o v,(#[.int .i64 h.k,.int .i64 h.n,.int .i64 h.a,.slice r1 n1 d1,.slice r x.len d]:Array Value)[o]? = some v->U w5 w.heap.size o=some v:=λ o v hv=>aD hb5 _ _ _ (by omega) (Q3.out o v hv)
 have q6:∀o v,(#[.int .i64 0,.int .i64 0,.int .i64 0,.slice none 0 0,.slice none 0 0]:Array Value)[o]? = some v->U w5 (w.heap.size+1) o=some v:=λ o v hv=>aD hb5 _ _ _ (by omega) (Q4.out o v hv)
 have k0:=aC (q5 0 _ rfl)
 have k1:=aC (q5 1 _ rfl)
 have k2:=aC (q5 2 _ rfl)
 have k3:=aC (q5 3 _ rfl)
 have k4:=aC (q5 4 _ rfl)
 have l4:=aG (q5 4 _ rfl)
 have m0:=aC (q6 0 _ rfl)
 have m1:=aC (q6 1 _ rfl)
 have m2:=aC (q6 2 _ rfl)
 have m3:=aC (q6 3 _ rfl)
 have m4:=aC (q6 4 _ rfl)
 have o0:=aG (q6 0 _ rfl)
 have o1:=aG (q6 1 _ rfl)
 have o2:=aG (q6 2 _ rfl)
 have o3:=aG (q6 3 _ rfl)
 have o4:=aG (q6 4 _ rfl)
 have HB5:=hid (aA HB4.out hb5)
 have HO5:=hid ho2
 have HO6:=hid (HO4.out.below hb5)
 have HN2:=hid hn2
 have Q6:=hid q6
 have HM4:=hid (λ b hb=>(HO4.out.mem b hb).2)
 clear hw4 hsz4 Q3 Q4 HO4 Q1 Q2 HB3 HO1 g3 g4 f3 q5 q6 hb5 ho2 hn2 HX HK HB4
 go_wp2_with fail
 obtain⟨W0,hW0⟩:∃W0,w5.setCell ⟨w.heap.size,4,none⟩ (.slice r2 n2 d2)=W0:=⟨_,rfl⟩
 have p6:∀o v,(#[.int .i64 0,.int .i64 0,.int .i64 0,.slice none 0 0,.slice none 0 0]:Array Value)[o]? = some v->U W0 (w.heap.size+1) o=some v:=λ o v hv=>by
  rw[<-hW0];exact aX (Q6.out o v hv) (W7 (by omega))
 have hk0:∀k,k≠w.heap.size->W0.heap[k]? = w5.heap[k]?:=λ k hk=>by rw[<-hW0];exact Below.heap_setCell _ _ _ k hk
 have hBW:Below w.heap.size w W0:=by rw[<-hW0];exact HB5.out.setCell (p:=⟨w.heap.size,4,none⟩) (Nat.le_refl _) _
 rw[hW0]
 obtain⟨W,hW⟩:∃W,((((W0.setCell ⟨w.heap.size+1,0,none⟩ (.int .i64 h.k)).setCell ⟨w.heap.size+1,1,none⟩ (.int .i64 h.n)).setCell ⟨w.heap.size+1,2,none⟩ (.int .i64 h.a)).setCell ⟨w.heap.size+1,3,none⟩ (.slice r1 n1 d1)).setCell ⟨w.heap.size+1,4,none⟩ (.slice r2 n2 d2)=W:=⟨_,rfl⟩
 obtain⟨x0,x1,x2,x3,x4,hkW⟩:=oF (p6 0 _ rfl) (p6 1 _ rfl) (p6 2 _ rfl) (p6 3 _ rfl) (p6 4 _ rfl) hW
 have hBF:Below w.heap.size w W:=by
  rw[<-hW]
  exact ((((hBW.setCell (p:=⟨w.heap.size+1,0,none⟩) (Nat.le_succ _) _).setCell (p:=⟨w.heap.size+1,1,none⟩) (Nat.le_succ _) _).setCell (p:=⟨w.heap.size+1,2,none⟩) (Nat.le_succ _) _).setCell (p:=⟨w.heap.size+1,3,none⟩) (Nat.le_succ _) _).setCell (p:=⟨w.heap.size+1,4,none⟩) (Nat.le_succ _) _
 rw[hW]
 have hs2:=HS2.out
 have hlt:∀b∈S1++S2,w.heap.size+2<=b:=by
  intro b hb
  rcases List.mem_append.1 hb with hb|hb
  ·have:=(HO6.out.mem b hb).1;omega
  ·have:=(HO5.out.mem b hb).1
   omega
 have hO:Own w5 w.heap.size (bV ty (.cons h x .nil)) [.int .i64 h.k,.int .i64 h.n,.int .i64 h.a,.slice r1 n1 d1,.slice r2 n2 d2] (S1++S2) :=
  ⟨_,rfl,_,rfl,_,rfl,Own.app (HO5.out.lower (by omega)) (HO6.out.lower (by omega))⟩
 refine bodyPost_ret (v:=.agg #[.int .i64 h.k,.int .i64 h.n,.int .i64 h.a,.slice r1 n1 d1,.slice r2 n2 d2]) (by simp[results,Tryz.results11,go_sem,aC x0,aC x1,aC x2,aC x3,aC x4]) rfl ⟨[.int .i64 h.k,.int .i64 h.n,.int .i64 h.a,.slice r1 n1 d1,.slice r2 n2 d2],S1++S2,rfl,hBF,hO.kept (λ b hb=>?_),?_⟩
 ·have:=hlt b hb
  exact (hkW b (by omega)).trans (hk0 b (by omega))
 ·exact sM w4.heap.size HN1.out HN2.out HM4.out (λ b hb=>(HO5.out.mem b hb).1)
theorem Makes.tm{k n a:Int}{e1 e2:Nat}{x s x' s':Ds}{w w':World}{en:Ending}(h:Makes (.lit (.int .i64 k) (.lit (.int .i64 n) (.lit (.int .i64 a) (.row 1 e1 x s (.row 5 e2 x' s' .nil))))) w en w') :
  ∃r m d r' m' d' S,en=.returned (.agg #[.int .i64 k,.int .i64 n,.int .i64 a,.slice r m d,.slice r' m' d'])/\Below w.heap.size w w' /\
   Own w' w.heap.size (.lit (.int .i64 k) (.lit (.int .i64 n) (.lit (.int .i64 a) (.row 1 e1 x s (.row 5 e2 x' s' .nil))))) [.int .i64 k,.int .i64 n,.int .i64 a,.slice r m d,.slice r' m' d'] S/\S.Nodup:=by
 obtain⟨xs,S,rfl,hb,ho,hn⟩:=h
 have ho':=ho
 obtain⟨_,rfl,_,rfl,_,rfl,v,ys,_,_,_,_,_,_,rfl,h1,-,-,⟨v',ys',_,_,_,_,_,_,rfl,h2,-,-,⟨rfl,-⟩,-⟩,-⟩:=ho'
 have g1:∃r m d,v=.slice r m d:=by
  rcases h1 with ⟨p,rfl,-⟩|⟨g,m,cap,cur,-,rfl,-⟩
  ·exact⟨_,_,_,rfl⟩
  ·exact⟨_,_,_,rfl⟩
 have g2:∃r m d,v'=.slice r m d:=by
  rcases h2 with ⟨p,rfl,-⟩|⟨g,m,cap,cur,-,rfl,-⟩
  ·exact⟨_,_,_,rfl⟩
  ·exact⟨_,_,_,rfl⟩
 obtain⟨r,m,d,rfl⟩:=g1
 obtain⟨r',m',d',rfl⟩:=g2
 exact⟨r,m,d,r',m',d',S,rfl,hb,ho,hn⟩
theorem X7{t:Ts}{k:Nat}(y:Tys)(h:k<t.len):bV y (t.take (k+1))=(bV y (t.take k)).app (bV y (.cons (t.hd k) (t.kd k) .nil)):=by
 rw[Ts.take_succ h,Ts.snoc,DU]
theorem X8(y:Tys)(t:Ts):(bV y t).ones:=by
 induction t with
 | nil=>trivial
 | cons h x r _ ih=>exact⟨rfl,rfl,rfl,ih⟩
theorem Ts.len_le_size(t:Ts):t.len<=t.size:=Nat.le_trans t.len_le_count t.count_le_size
theorem pQ(M:Nat):∀(t:Ts) (va:Value) (w:World),t.count<M->RT ty w va t->t.size<=200000000->Calls Tryz.prog 10 #[va] w (xH (.row 5 26 (bV ty t) (tDs ty (bU 1 12)) .nil) w):=by
 induction M with
 | zero=>intro t va w hm;omega
 | succ M ih =>
  intro t va w hm ha hs
  obtain⟨q,c,rfl,hc1,hc2,-⟩:=ha.slice
  unfold maxLen at hc2
  have hl:t.len<=200000000:=by have:=Ts.len_le_size t;omega
  obtain⟨w1,hrun,hR,hB⟩:=RowG.make elT w w.heap.size (t.len+12) .i64 .i64 (by omega) (Nat.le_refl _)
  rw[show ((t.len+12:Nat):Int)=(t.len:Int)+12 by omega] at hrun
  have HR:=hid hR
  have HB:=hid hB
  have HA:=hid ha
  have HSZ:=hid hs
  have IH:=hid ih
  have HM:=hid hm
  clear hR hB ha hs ih hm
  go_enter Tryz.func10,Tryz.ntmps10
  go_wp2_with fail
  clear hrun
  go_loopw [3,4] (λ v i wr=>∃(k:Nat) (S:List Nat),k<=t.len/\i=.int .i64 k/\Below w.heap.size w wr/\RowG wr w.heap.size 5 26 v k (bV ty (t.take k)) S) (λ _ i _=>t.len-(intOf i).toNat)
  case atStart=>exact⟨0,[],Nat.zero_le _,rfl,HB.out,HR.out⟩
  case round =>
   obtain⟨k,S,hk,rfl,hB1,hR1⟩:=hrel
   have HB1:=hid hB1
   have HR1:=hid hR1
   clear hB1 hR1
   by_cases hlt:k<t.len
   ·have r1:decide ((k:Int)<(t.len:Int))=true:=decide_eq_true (by omega)
    obtain⟨b,o,rfl,hb,hu1,hu2,hu3,⟨r,d,hu4,hd1,hd2,hRL⟩,⟨r',d',hu5,hd3,hd4,hRT⟩⟩:=(HA.out.on HB1.out).at_ hlt
    have e1:=aC hu1
    have e2:=aC hu2
    have e3:=aC hu3
    have e4:=aC hu4
    have e5:=aC hu5
    have hsz:=Ts.size_kd hlt
    have hcnt:=Ts.count_kd hlt
    have hRM:RM ty wr (.agg #[.int .i64 (t.hd k).k,.int .i64 (t.hd k).n,.int .i64 (t.hd k).a,.slice r (t.hd k).l.length d,.slice r' (t.kd k).len d']) (t.hd k) (t.kd k):=⟨r,_,d,r',_,d',rfl,hRL,hRT⟩
    have HL:=hid ((tO (t.hd k) (t.kd k) _ wr hRM (by have:=HSZ.out;omega) (λ W v hv=>IH.out (t.kd k) v W (by have:=HM.out;omega) hv (by have:=HSZ.out;omega))).mono λ _ _ h=>Makes.tm h)
    have HT:=hid (X7 ty hlt)
    have HO:Hid (∀x:Ds,x=bV ty (.cons (t.hd k) (t.kd k) .nil)->x.ones):=λ x hx=>by rw[hx];exact X8 _ _
    have hbase:w.heap.size<=wr.heap.size:=HB1.out.size
    clear hu1 hu2 hu3 hu4 hu5 hd1 hd2 hd3 hd4 hRL hRT hsz hcnt hRM
    go_wp2_with fail
    refine HL.out.mono ?_
    rintro e w3 ⟨s1,n1,d1,s2,n2,d2,S2,rfl,hb3,hown,hnd⟩
    obtain⟨cs,hcs⟩:∃cs:List Value,[.int .i64 (t.hd k).k,.int .i64 (t.hd k).n,.int .i64 (t.hd k).a,.slice s1 n1 d1,.slice s2 n2 d2]=cs:=⟨_,rfl⟩
    have hB4:=aA hb3 (aA (aB w3 (.cells cs.toArray 26)) (aB _ (.cells cs.toArray 26)))
    have hR4:=HR1.out.below hB4
    rw[hcs] at hown
    have hO4:=(hown.below (aA (aB w3 (.cells cs.toArray 26)) (aB _ (.cells cs.toArray 26)))).lower hbase
    obtain⟨v',w4,hrun4,hR5,hg,-⟩:=RowG.append (ty:=22) (k:=1) elT hR4 HR1.out.lt_of hO4 hnd (λ b hb=>(hown.mem b hb).1) (HO.out _ rfl) ⟨(w3.alloc (.cells cs.toArray 26)).heap.size,0,none⟩ 1 (by rw[<-hcs];rfl) (dO _ _ 26) (by omega) (Nat.le_trans hbase hB4.size)
    have HB4:Hid (Below w.heap.size w w4):=hid ((aA HB1.out hB4).grown hg (aA HB1.out hB4).size hR4.ge)
    have HR4:Hid (RowG w4 w.heap.size 5 26 v' (k+1) (bV ty (t.take (k+1))) (S++S2)):=hid (by rw[HT.out];exact hR5)
    simp only[World.size_alloc,<-hcs] at hrun4
    clear hb3 hown hnd hB4 hR4 hO4 hR5 hg HT HL HR1 HO hcs
    go_wp2_with (at_builtin;refine wpList_append_run rfl _ _ 22 rfl _ _ _ rfl rfl hrun4 ?_)
    clear hrun4
    go_roundw
    case rel=>exact⟨k+1,_,by omega,by go_num,HB4.out,HR4.out⟩
    case measure=>simp[intOf];omega
   ·obtain rfl:k=t.len:=by omega
    have r1:decide ((t.len:Int)<(t.len:Int))=false:=decide_eq_false (by omega)
    have HR2:Hid (RowG wr w.heap.size 5 26 _ t.len (bV ty t) S):=hid (by have:=HR1.out;rw[Ts.take_len] at this;exact this)
    obtain⟨n,hn⟩:∃n,t.len=n:=⟨_,rfl⟩
    rw[hn] at hl r1 HR2 hc1 ⊢
    have HN:=hid hn
    clear HR1 HR HB hk hlt HA HSZ hn IH HM
    go_wp2_with fail
    clear r1
    go_loopw [3,6] (λ v i wx=>∃(j:Nat) (S:List Nat),j<=12/\i=.int .i64 j/\Below w.heap.size w wx/\RowG wx w.heap.size 5 26 v (n+j) ((bV ty t).app (tDs ty (bU 1 j))) S) (λ _ i _=>12-(intOf i).toNat)
    case atStart=>exact⟨0,S,Nat.zero_le _,rfl,HB1.out,by rw[show tDs ty (bU 1 0)=.nil from rfl,Ds.app_nil];exact HR2.out⟩
    case round =>
     obtain⟨j,S',hj,rfl,hBj,hRj⟩:=hrel
     have HBj:=hid hBj
     have HRj:=hid hRj
     clear hBj hRj HR2 HB1
     by_cases hlt:j<12
     ·have r1:decide ((j:Int)<12)=true:=decide_eq_true (by omega)
      have HM:=hid (mL 1 j wr (by decide) (by omega))
      have hbase:w.heap.size<=wr.heap.size:=HBj.out.size
      obtain⟨m,hm⟩:∃m,fV 1 j=m:=⟨_,rfl⟩
      have HMM:Hid (yG 1 j=⟨0,m,0,[]⟩):=hid (by unfold yG;rw[hm])
      rw[hm] at HM
      clear hm
      go_wp2_with fail
      refine HM.out.mono ?_
      rintro e w3 ⟨rfl,hb3⟩
      have hB4:=aA hb3 (aB w3 (.cells #[.int .i64 0,.int .i64 m,.int .i64 0,.slice none 0 0,.slice none 0 0] 26))
      have hR4:=HRj.out.below hB4
      have hO4:Own (w3.alloc (.cells #[.int .i64 0,.int .i64 m,.int .i64 0,.slice none 0 0,.slice none 0 0] 26)) w.heap.size (tDs ty (.cons ⟨0,m,0,[]⟩ .nil .nil)) [.int .i64 0,.int .i64 m,.int .i64 0,.slice none 0 0,.slice none 0 0] [] :=
       ⟨_,rfl,_,rfl,_,rfl,_,_,[],[],[],[],[],[],rfl,.inl ⟨none,rfl,rfl,rfl,rfl⟩,⟨rfl,rfl⟩,⟨rfl,rfl⟩,⟨_,_,[],[],[],[],[],[],rfl,.inl ⟨none,rfl,rfl,rfl,rfl⟩,⟨rfl,rfl⟩,⟨rfl,rfl⟩,⟨rfl,rfl⟩,rfl⟩,rfl⟩
      obtain⟨v',w4,hrun4,hR5,hg,-⟩:=RowG.append (ty:=22) (k:=1) elT hR4 hR4.lt_of hO4 (by simp) (by simp) (J2 ty _) ⟨w3.heap.size,0,none⟩ 1 rfl (dO _ _ 26) (by omega) (Nat.le_trans hbase hB4.size)
      have HB4:Hid (Below w.heap.size w w4):=hid ((aA HBj.out hB4).grown hg (aA HBj.out hB4).size hR4.ge)
      have HR4:Hid (RowG w4 w.heap.size 5 26 v' (n+(j+1)) ((bV ty t).app (tDs ty (bU 1 (j+1)))) (S'++[])):=hid (by rw[bU,HMM.out,qS,<-Ds.app_assoc];exact hR5)
      clear hb3 hB4 hR4 hO4 hR5 hg HM HRj HMM
      go_wp2_with (at_builtin;refine wpList_append_run rfl _ _ 22 rfl _ _ _ rfl rfl hrun4 ?_)
      clear hrun4
      go_roundw
      case rel=>exact⟨j+1,_,by omega,by go_num,HB4.out,HR4.out⟩
      case measure=>simp[intOf];omega
     ·obtain rfl:j=12:=by omega
      obtain⟨p',c',rfl,hc3,hc4⟩:=HRj.out.cap
      unfold maxLen at hc4
      have HX:=hid (RowG.cut (m:=n) (s:=tDs ty (bU 1 12)) HRj.out (by omega) (by rw[yU,HN.out]))
      have HND:Hid (((Value.slice p' (n+12) c').ownBlock.toList++S').Nodup):=hid (by obtain⟨_,_,_,h⟩:=HRj.out;exact h)
      clear hj hlt HRj
      go_wp2_with fail
      all_goals go_ret
      exact⟨_,_,rfl,HBj.out,HX.out,HND.out⟩
theorem D6(h:Hd)(x:Ts)(va:Value)(w:World)(ha:RM ty w va h x)(hs:aH h.l+x.size<=200000000):Calls Tryz.prog 11 #[va] w (Makes (bV ty (.cons h x .nil)) w) :=
 tO h x va w ha (by omega) λ W v hv=>pQ _ x v W (Nat.lt_succ_self _) hv (by omega)
end
section
open Go.RowKit
end
section
open Go.RowKit
structure Grown (w:World) where
 it:World
 below:Below w.heap.size w it
instance (w:World):Nonempty (Grown w):=⟨⟨w,Below.refl _ _⟩⟩
theorem fN{P:Program}{id:Nat}{Q:Exit->Act->World->Prop}{a:Act}{w:World}{l:List Oper}(hm:P.follows .mixedOrders=true)(hB:Region.lexB .any l.toArray=true)
  (h:wpQuiet P l.toArray (λ w'=>∃n:Grown w,w'=n.it) (λ a'=>∀w',(∃n:Grown w,w'=n.it)->Q .normal a' w') l a):(Code.region id l.toArray true).wp P Q a w :=
 wp_region_quiet (C:=λ w'=>∃n:Grown w,w'=n.it) hm hB ⟨⟨_,aR w⟩,rfl⟩ (by simpa using h)
theorem rO{P:Program}{f:FuncId}{args:Array Value}{w:World}{n:Grown w}{v:Value}(h:Calls P f args n.it λ e w'=>e=.returned v/\Below n.it.heap.size n.it w') :
  Calls P f args n.it λ e w''=>e=.returned v/\∃m:Grown w,w''=m.it:=h.mono λ _ w' ⟨he,hb⟩=>⟨he,⟨w',aA n.below hb⟩,rfl⟩
theorem Grown.cell{w:World}{b o:Nat}{v:Value}(h:U w b o=some v):∀n:Grown w,n.it.cell? ⟨b,o,none⟩=some v:=λ n=>aC (aD n.below b o v (aM h) h)
end
section
open Go.RowKit
def bD(o:Oper):Bool:=match o.op with
 | .move _=>true
 | .assign _=>true
 | .pick _ _ _=>true
 | .load _ _=>true
 | .binOp _ _ _ _ _=>true
 | .unOp _ _ _=>true
 | .indexAddr _ _ _=>true
 | .fieldAddr _ _ _=>true
 | .extract _ _=>true
 | .slice _ _ _ _ _=>true
 | .call c=>match c.callee,c.args.size with
  | .builtin .len,1=>true
  | _,_=>false
 | _=>false
theorem pY{α:Type}{s:Result α}{g:α->World->Result Next}{n:Next}{w':World}(hg:∀a w n w',g a w=.ok n w'->∃v,n=.value v)(h:s.andThen g=.ok n w'):∃v,n=.value v:=by
 cases s with
 | ok a w=>exact hg a w n w' (by simpa using h)
 | halt x w=>simp[Result.andThen] at h
theorem Z9{P:Program}{α:Type}{s:Sem α}{f:α->Value}{w w':World}{n:Next}(h:(do let a <-s;pure (Next.value (f a)):Sem Next).run P w=.ok n w'):∃v,n=.value v:=by
 rw[Sem.run_bind] at h
 exact pY (λ a w n w' h=>by simp at h;exact⟨_,h.1.symm⟩) h
theorem vE{P:Program}{ρ:Operand->Value}{o:Oper}{w w':World}{n:Next}(hr:bD o=true)(h:(execOp ρ o).run P w=.ok n w'):∃v,n=.value v:=by
 obtain⟨dst,op,typ,pos,after,guard⟩:=o
 unfold bD at hr
 cases op
 case call c =>
  obtain⟨callee,args,argTypes⟩:=c
  cases callee
  case builtin b =>
   cases b
   case len =>
    have hz:args.size=1:=by
     simp only at hr
     split at hr
     ·assumption
     ·cases hr
    obtain⟨x,rfl⟩:∃x,args=#[x]:=by
     cases args with
     | mk l=>match l,hz with
      | [x],_=>exact⟨x,rfl⟩
    simp only[execOp,resolve,invoke,Go.builtin,Sem.run_bind,Sem.run_pure,Result.andThen_ok] at h
    exact pY (λ a w n w' h=>by simp at h;exact⟨_,h.1.symm⟩) h
   all_goals simp at hr
  all_goals simp at hr
 all_goals first
  | (simp at hr;done)
  | exact Z9 h
  | (simp[execOp] at h;exact⟨_,h.1.symm⟩)
def bar(o:Oper):Oper:=if bD o=true then o else { o with op:=.send (.const undef) (.const undef) }
theorem wZ(o:Oper)(ops:Array Oper)(ts:Array Value):Region.wanted (bar o) (yielded ops ts)=Region.wanted o (yielded ops ts):=by
 unfold bar;split<;>rfl
theorem uI(o:Oper):(bar o).dst=o.dst:=by
 unfold bar;split<;>rfl
def vP(listed:Array Bool)(k:Nat):Nat->Array Bool
 | 0=>listed
 | n+1=>vP (listed.setIfInBounds k true) (k+1) n
def uW(md:Region.Mode)(ops:Array Oper)(listed:Array Bool)(k:Nat):Nat->Bool
 | 0=>true
 | n+1=>Region.free md ops listed k && ((Region.ready md ops listed).contains k && uW md ops (listed.setIfInBounds k true) (k+1) n)
theorem yF{P:Program}{md:Region.Mode}{ops:Array Oper}{Q:Exit->Act->World->Prop}{S:World->Prop}(hs:Region.noSelect ops=true)(hQ:∀c a d v w,Q (.panic c) (Act.put a d v) w->Q (.panic c) a w){w:World}(hS:S w)(fuel:Nat) :
  ∀(l:List Oper) (k:Nat) (listed:Array Bool) (a:Act),(∀j,j<l.length->ops[k+j]? = l[j]?)->uW md ops listed k l.length=true ->
   wpQuiet P ops S (λ a'=>wpAnyH P md ops Q S fuel (vP listed k l.length) a' w) (l.map bar) a->wpAnyH P md ops Q S (fuel+l.length) listed a w
 | [],_,_,_,_,_,h=>h
 | o :: l,k,listed,a,hj,ht,h=>by
  have h0:ops[k]? = some o:=by have:=hj 0 (by simp);simpa using this
  simp only[List.length_cons,uW,Bool.and_eq_true] at ht
  have next:∀a',wpQuiet P ops S (λ a'=>wpAnyH P md ops Q S fuel (vP listed k (l.length+1)) a' w) (l.map bar) a'->wpAnyH P md ops Q S (fuel+l.length) (listed.setIfInBounds k true) a' w:=λ a' h' =>
   yF hs hQ hS fuel l (k+1) _ a' (λ j hjl=>by
    have:=hj (j+1) (by simp;omega)
    rw[show k+1+j=k+(j+1) by omega]
    simpa using this) ht.2.2 h'
  rw[List.map_cons] at h
  unfold wpQuiet at h
  rw[wZ,uI] at h
  split at h
  ·rename_i hw
   obtain⟨v,h1,h2⟩:=h
   rw[uI] at h2
   have hrd:bD o=true:=by
    by_cases hb:bD o=true
    ·exact hb
    ·have h3:=h1 w hS
     unfold Oper.quietAt Oper.quietUpon bar at h3
     rw[if_neg hb] at h3
     simp[execOp] at h3
   have hbo:bar o=o:=by unfold bar;rw[if_pos hrd]
   rw[hbo] at h1
   refine wpAnyH_take (i:=k) (v:=v) h0 hs ht.1 ht.2.1 (λ c a w h=>hQ c a _ _ w h) (Or.inl ⟨hw,λ w' hw'=>?_⟩) hS (next _ h2)
   have h3:=h1 w' hw'
   unfold Oper.quietAt Oper.quietUpon at h3
   generalize hres:(execOp a.eval o).run P w'=res at h3
   cases res with
   | ok n w1 =>
    obtain⟨u,rfl⟩:=vE hrd hres
    obtain⟨rfl,rfl⟩:=h3
    rfl
   | halt x w1=>exact absurd h3 id
  ·rename_i hw
   exact wpAnyH_take (i:=k) (v:=undef) h0 hs ht.1 ht.2.1 (λ c a w h=>hQ c a _ _ w h) (Or.inr ⟨by simpa using hw,rfl⟩) hS (next _ h)
theorem uK{P:Program}{id:Nat}{Q:Exit->Act->World->Prop}{a:Act}{w:World}(l r:List Oper)(hm:P.follows .mixedOrders=true)(hs:Region.noSelect (l++r).toArray=true)
  (ht:uW .any (l++r).toArray (Array.replicate (l++r).length false) 0 l.length=true) (hQ:∀c a d v w,Q (.panic c) (Act.put a d v) w->Q (.panic c) a w)
  (h:wpQuiet P (l++r).toArray (λ w'=>∃n:Grown w,w'=n.it) (λ a'=>wpAnyH P .any (l++r).toArray Q (λ w'=>∃n:Grown w,w'=n.it) r.length (vP (Array.replicate (l++r).length false) 0 l.length) a' w.drew) (l.map bar) a) :
  (Code.region id (l++r).toArray true).wp P Q a w:=by
 refine wp_region_held (S:=λ w'=>∃n:Grown w,w'=n.it) hm ?_
 have:=yF (md:=.any) (ops:=(l++r).toArray) (Q:=Q) (S:=λ w'=>∃n:Grown w,w'=n.it) hs hQ (w:=w.drew) ⟨⟨w.drew,aR w⟩,rfl⟩ r.length l 0 (Array.replicate (l++r).length false) a
  (λ j hj=>by simp[List.getElem?_append_left hj]) ht h
 have e1:(l++r).toArray.size=r.length+l.length:=by simp;omega
 have e2:Array.replicate (l++r).length false=Array.replicate (l++r).toArray.size false:=by simp
 rw[e2] at this
 rw[e1] at this ⊢
 exact this
theorem pZ{P:Program}{id:Nat}{Q:Exit->Act->World->Prop}{a:Act}{w:World}{L:List Oper}(n:Nat)(hn:n<=L.length)(hm:P.follows .mixedOrders=true)(hs:Region.noSelect L.toArray=true)
  (ht:uW .any L.toArray (Array.replicate L.length false) 0 n=true) (hQ:∀c a d v w,Q (.panic c) (Act.put a d v) w->Q (.panic c) a w)
  (h:wpQuiet P L.toArray (λ w'=>∃n:Grown w,w'=n.it) (λ a'=>wpAnyH P .any L.toArray Q (λ w'=>∃n:Grown w,w'=n.it) (L.length-n) (vP (Array.replicate L.length false) 0 n) a' w.drew) ((L.take n).map bar) a) :
  (Code.region id L.toArray true).wp P Q a w:=by
 have e1:(L.take n).length=n:=by simp[Nat.min_eq_left hn]
 have e2:L.take n++L.drop n=L:=List.take_append_drop n L
 have e3:(L.drop n).length=L.length-n:=by simp
 have:=uK (id:=id) (Q:=Q) (a:=a) (w:=w) (P:=P) (L.take n) (L.drop n) hm (by rw[e2];exact hs) (by rw[e2,e1];exact ht) hQ (by rw[e2,e1,e3];exact h)
 rw[e2] at this
 exact this
theorem aJ{P:Program}{md:Region.Mode}{ops:Array Oper}{Q:Exit->Act->World->Prop}{S:World->Prop}{fuel:Nat}{listed:Array Bool}{a:Act}{w:World}{i:Nat}{o:Oper}(hr:Region.ready md ops listed=[i])(ho:ops[i]? = some o)(hw:Region.wanted o (yielded ops a.tmps)=true)
  (h:∀K':Act->World->Prop,Shut (∀a w,S w->(S w->wpAnyH P md ops Q S fuel (listed.setIfInBounds i true) a w)->K' a w)->Oper.wp P o a w K' Q):wpAnyH P md ops Q S (fuel+1) listed a w :=
 wpAnyH_ready hr (by simp) (AllReadyH.cons ho (λ K' hK=>by rw[if_pos hw];exact h K' hK) AllReadyH.nil)
structure GrownB (B:Nat) (w:World) where
 it:World
 below:Below B w it
instance (B:Nat) (w:World):Nonempty (GrownB B w):=⟨⟨w,Below.refl _ _⟩⟩
theorem GrownB.cell{B:Nat}{w:World}{b o:Nat}{v:Value}(h:U w b o=some v)(hb:b<B):∀n:GrownB B w,n.it.cell? ⟨b,o,none⟩=some v:=λ n=>aC (aD n.below b o v hb h)
theorem iJ{P:Program}{o:Oper}{a:Act}{w w':World}{K:Act->World->Prop}{Q:Exit->Act->World->Prop}(s x:Operand)(t:TypeId)
  (ho:o.op=.call { callee:=.builtin .append,args:=#[s,x],argTypes:=#[t,t] }) (v xv v':Value) (hs:a.eval s=v) (hx:a.eval x=xv) (hr:(Builtin.append_ #[t,t] o.type #[v,xv]).run P w=.ok v' w')
  (h:K (a.put o.dst v') w'):Oper.wp P o a w K Q:=by
 unfold Oper.wp execOp
 simp only[ho,resolve,invoke,builtin,Sem.run_bind,Sem.run_pure,Result.andThen_ok,List.map_toArray,List.map_cons,List.map_nil,hs,hx,hr]
 first|exact h|exact Or.inl h
def JH : Oper := { dst := none, op := .send (.const undef) (.const undef), type := 0, pos := "", after := #[], guard := none }
def rA(listed:Array Bool):List Nat->Array Bool
 | []=>listed
 | k :: r=>rA (listed.setIfInBounds k true) r
def uV(md:Region.Mode)(ops:Array Oper)(listed:Array Bool):List Nat->Bool
 | []=>true
 | k :: r=>Region.free md ops listed k && ((Region.ready md ops listed).contains k && uV md ops (listed.setIfInBounds k true) r)
theorem bJ{P:Program}{md:Region.Mode}{L:List Oper}{Q:Exit->Act->World->Prop}{S:World->Prop}(hs:Region.noSelect L.toArray=true)(hQ:∀c a d v w,Q (.panic c) (Act.put a d v) w->Q (.panic c) a w){w:World}(hS:S w)(fuel:Nat) :
  ∀(is:List Nat) (listed:Array Bool) (a:Act),is.all (λ i=>decide (i<L.length))=true->uV md L.toArray listed is=true ->
   wpQuiet P L.toArray S (λ a'=>wpAnyH P md L.toArray Q S fuel (rA listed is) a' w) ((is.map λ i=>L.getD i JH).map bar) a->wpAnyH P md L.toArray Q S (fuel+is.length) listed a w
 | [],_,_,_,_,h=>h
 | k :: is,listed,a,hj,ht,h=>by
  simp only[List.all_cons,Bool.and_eq_true,decide_eq_true_eq] at hj
  obtain⟨o,ho⟩:∃o,L.getD k JH=o:=⟨_,rfl⟩
  have h0:L.toArray[k]? = some o:=by
   rw[<-ho,List.getElem?_toArray,List.getElem?_eq_getElem hj.1,List.getD_eq_getElem?_getD,List.getElem?_eq_getElem hj.1];rfl
  simp only[uV,Bool.and_eq_true] at ht
  have next:∀a',wpQuiet P L.toArray S (λ a'=>wpAnyH P md L.toArray Q S fuel (rA listed (k :: is)) a' w) ((is.map λ i=>L.getD i JH).map bar) a'->wpAnyH P md L.toArray Q S (fuel+is.length) (listed.setIfInBounds k true) a' w:=λ a' h' =>
   bJ hs hQ hS fuel is _ a' hj.2 ht.2.2 h'
  rw[List.map_cons,ho,List.map_cons] at h
  unfold wpQuiet at h
  rw[wZ,uI] at h
  split at h
  ·rename_i hw
   obtain⟨v,h1,h2⟩:=h
   rw[uI] at h2
   have hrd:bD o=true:=by
    by_cases hb:bD o=true
    ·exact hb
    ·have h3:=h1 w hS
     unfold Oper.quietAt Oper.quietUpon bar at h3
     rw[if_neg hb] at h3
     simp[execOp] at h3
   have hbo:bar o=o:=by unfold bar;rw[if_pos hrd]
   rw[hbo] at h1
   refine wpAnyH_take (i:=k) (v:=v) h0 hs ht.1 ht.2.1 (λ c a w h=>hQ c a _ _ w h) (Or.inl ⟨hw,λ w' hw'=>?_⟩) hS (next _ h2)
   have h3:=h1 w' hw'
   unfold Oper.quietAt Oper.quietUpon at h3
   generalize hres:(execOp a.eval o).run P w'=res at h3
   cases res with
   | ok n w1 =>
    obtain⟨u,rfl⟩:=vE hrd hres
    obtain⟨rfl,rfl⟩:=h3
    rfl
   | halt x w1=>exact absurd h3 id
  ·rename_i hw
   exact wpAnyH_take (i:=k) (v:=undef) h0 hs ht.1 ht.2.1 (λ c a w h=>hQ c a _ _ w h) (Or.inr ⟨by simpa using hw,rfl⟩) hS (next _ h)
theorem cG{P:Program}{id:Nat}{Q:Exit->Act->World->Prop}{a:Act}{w:World}{L:List Oper}(B:Nat)(is:List Nat)(hn:is.length<=L.length)(hm:P.follows .mixedOrders=true)(hs:Region.noSelect L.toArray=true)
  (hi:is.all (λ i=>decide (i<L.length))=true) (ht:uV .any L.toArray (Array.replicate L.length false) is=true) (hQ:∀c a d v w,Q (.panic c) (Act.put a d v) w->Q (.panic c) a w)
  (h:wpQuiet P L.toArray (λ w'=>∃n:GrownB B w,w'=n.it) (λ a'=>wpAnyH P .any L.toArray Q (λ w'=>∃n:GrownB B w,w'=n.it) (L.length-is.length) (rA (Array.replicate L.length false) is) a' w.drew) ((is.map λ i=>L.getD i JH).map bar) a) :
  (Code.region id L.toArray true).wp P Q a w:=by
 refine wp_region_held (S:=λ w'=>∃n:GrownB B w,w'=n.it) hm ?_
 have:=bJ (md:=.any) (Q:=Q) (S:=λ w'=>∃n:GrownB B w,w'=n.it) hs hQ (w:=w.drew) ⟨⟨w.drew,rfl,rfl,rfl,Nat.le_refl _,λ _ _=>rfl⟩,rfl⟩ (L.length-is.length) is (Array.replicate L.length false) a hi ht h
 have e4:L.toArray.size=L.length-is.length+is.length:=by simp;omega
 have e5:Array.replicate L.length false=Array.replicate L.toArray.size false:=by simp
 rw[e5] at this
 rw[e4] at this ⊢
 exact this
end
section
open Go.RowKit
theorem X6(h:Hd)(n f:Int)(d:Nat):((h.k=1/\(d:Int)<=h.n/\f<=h.n-d)/\(h.lift n f d) = { h with n:=IntKind.i64.wrap (h.n+n) })∨(¬(h.k=1/\(d:Int)<=h.n/\f<=h.n-d)/\h.lift n f d=h):=by
 unfold Hd.lift
 split
 ·exact .inl ⟨by assumption,rfl⟩
 ·exact .inr ⟨by assumption,rfl⟩
end
section
open Go.RowKit
def MakesT(h:Hd)(x:Ts)(w:World)(e:Ending)(w':World):Prop :=
 ∃r m d r' m' d' S,e=.returned (.agg #[.int .i64 h.k,.int .i64 h.n,.int .i64 h.a,.slice r m d,.slice r' m' d'])/\Below w.heap.size w w' /\
  Own w' w.heap.size (tDs ty (.cons h x .nil)) [.int .i64 h.k,.int .i64 h.n,.int .i64 h.a,.slice r m d,.slice r' m' d'] S/\S.Nodup
theorem MakesT.of{h:Hd}{x:Ts}{w w':World}{e:Ending}(hm:Makes (tDs ty (.cons h x .nil)) w e w'):MakesT h x w e w':=Makes.tm hm
theorem MakesT.rm{h:Hd}{x:Ts}{w':World}{B:Nat}{r:Option Addr}{m d:Nat}{r':Option Addr}{m' d':Nat}{S:List Nat}(ho:Own w' B (tDs ty (.cons h x .nil)) [.int .i64 h.k,.int .i64 h.n,.int .i64 h.a,.slice r m d,.slice r' m' d'] S) :
  RM ty w' (.agg #[.int .i64 h.k,.int .i64 h.n,.int .i64 h.a,.slice r m d,.slice r' m' d']) h x:=by
 obtain⟨_,e1,_,e2,_,e3,v,ys,e4,h1,v',ys',e5,h2,-⟩:=ho.vs
 cases e1
 cases e2
 cases e3
 cases e4
 cases e5
 exact⟨_,_,_,_,_,_,rfl,h1,h2⟩
end
section
open Go.RowKit
def bI:Array Value:=#[.int .i64 0,.int .i64 0,.int .i64 0,.slice none 0 0,.slice none 0 0]
theorem pM{w wy:World}{b:Nat}{v0 v1 v2 v3 v4:Value}(hz:∀o v,bI[o]? = some v->U wy b o=some v)(hB:Below w.heap.size w wy)(hb:w.heap.size<=b){W:World}
  (hW:((((wy.setCell ⟨b,0,none⟩ v0).setCell ⟨b,1,none⟩ v1).setCell ⟨b,2,none⟩ v2).setCell ⟨b,3,none⟩ v3).setCell ⟨b,4,none⟩ v4=W) :
  (W.cell? ⟨b,0,none⟩=some v0/\W.cell? ⟨b,1,none⟩=some v1/\W.cell? ⟨b,2,none⟩=some v2/\W.cell? ⟨b,3,none⟩=some v3/\W.cell? ⟨b,4,none⟩=some v4)/\Below w.heap.size w W/\(∀k,k≠b->W.heap[k]? = wy.heap[k]?):=by
 obtain⟨x0,x1,x2,x3,x4,hk⟩:=oF (hz 0 _ rfl) (hz 1 _ rfl) (hz 2 _ rfl) (hz 3 _ rfl) (hz 4 _ rfl) hW
 refine⟨⟨aC x0,aC x1,aC x2,aC x3,aC x4⟩,?_,hk⟩
 rw[<-hW]
 exact ((((hB.setCell (p:=⟨b,0,none⟩) hb _).setCell (p:=⟨b,1,none⟩) hb _).setCell (p:=⟨b,2,none⟩) hb _).setCell (p:=⟨b,3,none⟩) hb _).setCell (p:=⟨b,4,none⟩) hb _
theorem Own.block{w:World}{base g sz e n:Nat}{x:Ds}{zs:List Value}{S:List Nat}(h:Own w base x zs S)(hnd:S.Nodup)(hg:w.heap[g]? = some (.cells zs.toArray e (0,0)))(hb:base<=g)(hgS:g ∉ S)(hl:zs.length=n*sz)(hn:n<=100000000) :
  Own w base (.row sz e x .nil .nil) [.slice (some ⟨g,0,none⟩) n n] ([g]++S)/\([g]++S).Nodup:=by
 have hnd':([g]++S).Nodup:=List.nodup_append.2 ⟨by simp,hnd,λ a ha b hb' e1=>by
  simp at ha
  subst ha
  subst e1
  exact hgS hb'⟩
 refine⟨⟨_,[],zs,[],[g],S,[],[],rfl,.inr ⟨g,n,n,zs.toArray,rfl,rfl,hb,hg,Nat.le_refl _,by unfold maxLen;omega,by simpa using hl,by rw[<-h.len,hl],by rw[List.append_nil,hl,<-h.len,hl];exact Nat.le_refl _,by rw[List.append_nil,hl];exact Nat.le_refl _,by simp⟩,h,⟨rfl,rfl⟩,⟨rfl,rfl⟩,by simp⟩,hnd'⟩
end
section
open Go.RowKit
def MixL(l:List Lv)(w:World)(B:Nat)(v:Value)(k:Nat)(wr:World):Prop :=
 ∃ys zs S,wr.ownsRow B 43 1 v l.length (ys++zs)/\ys.length=k/\Own wr B (bN ty (l.take k)) ys S/\Vs (U w) w.heap.size (bN ty (l.drop k)) zs/\(v.ownBlock.toList++S).Nodup
theorem MixL.below{l:List Lv}{w wr wr':World}{B k:Nat}{v:Value}(h:MixL l w B v k wr)(hb:Below wr.heap.size wr wr'):MixL l w B v k wr':=by
 obtain⟨ys,zs,S,h1,h2,h3,h4,h5⟩:=h
 exact⟨ys,zs,S,iN h1 hb,h2,h3.below hb,h4,h5⟩
theorem MixL.start{l:List Lv}{w w':World}{B:Nat}{v:Value}{xs:List Value}(h1:w'.ownsRow B 43 1 v l.length xs)(h2:Vs (U w) w.heap.size (bN ty l) xs):MixL l w B v 0 w' :=
 ⟨[],xs,[],h1,rfl,⟨rfl,rfl⟩,h2,by cases v.ownBlock<;>simp⟩
theorem MixL.slice{l:List Lv}{w wr:World}{B k:Nat}{v:Value}(h:MixL l w B v k wr):∃p c,v=.slice p l.length c/\l.length<=c/\c<=maxLen:=by
 obtain⟨ys,zs,S,h1,h2,h3,h4,h5⟩:=h
 rcases h1.2 with ⟨rfl,h6⟩|⟨g,cap,cur,rfl,h6,h7,h8,h9,h10,h11⟩
 ·rw[h6];exact⟨none,0,rfl,Nat.le_refl _,Nat.zero_le _⟩
 ·exact⟨_,cap,rfl,h8,h9⟩
theorem MixL.read{l:List Lv}{w wr:World}{B k:Nat}{p:Option Addr}{c:Nat}(h:MixL l w B (.slice p l.length c) k wr)(hk:k<l.length) :
  ∃g q n d,p=some ⟨g,0,none⟩/\B<=g/\U wr g k=some (.slice q n d)/\RP w (.slice q n d) l[k]:=by
 obtain⟨ys,zs,S,h1,h2,h3,h4,h5⟩:=h
 rw[List.drop_eq_getElem_cons hk] at h4
 obtain⟨u,zs',rfl,h6,h7⟩:=h4
 obtain⟨q,n,d,rfl,-,-,-,-⟩:=h6.slice
 rcases h1.2 with ⟨h8,h9⟩|⟨g,cap,cur,h8,h9,h10,h11,h12,h13,h14⟩
 ·omega
 ·cases h8
  refine⟨g,q,n,d,rfl,h9,?_,h6⟩
  have hl:=h1.1
  have:=eH (xs:=ys++Value.slice q n d :: zs') h10 (by rw[hl];exact h14) k (.slice q n d) (by rw[List.getElem?_append_right (by omega)];simp[h2])
  rw[Nat.zero_add] at this
  exact this
theorem xO{l:List Lv}{k:Nat}(h:k<l.length):bN ty (l.take (k+1))=(bN ty (l.take k)).app (.row 2 77 (bR l[k]) .nil .nil):=by
 rw[List.take_succ_eq_append_getElem h,lL];rfl
theorem MixL.step{l:List Lv}{w wr wr':World}{B k g c:Nat}{v2:Value}{S2:List Nat}(h:MixL l w B (.slice (some ⟨g,0,none⟩) l.length c) k wr)(hk:k<l.length)(hBw:B<=wr.heap.size)(hb:Below wr.heap.size wr wr')
  (ho:Own wr' wr.heap.size (.row 2 77 (bR l[k]) .nil .nil) [v2] S2) (hn:S2.Nodup):MixL l w B (.slice (some ⟨g,0,none⟩) l.length c) (k+1) (wr'.setCell ⟨g,k,none⟩ v2):=by
 obtain⟨ys,zs,S,h1,h2,h3,h4,h5⟩:=h
 rw[List.drop_eq_getElem_cons hk] at h4
 obtain⟨u,zs',rfl,h6,h7⟩:=h4
 have hg:g<wr.heap.size:=(h1.lt g (by simp[Value.ownBlock])).2
 have hgS:g ∉ S:=by
  have:=(List.nodup_append.1 h5).2.2 g (by simp[Value.ownBlock])
  exact λ hm=>this g hm rfl
 have hge:∀b∈S2,wr.heap.size<=b:=λ b hm=>(ho.mem b hm).1
 have hlt:∀b∈S,b<wr.heap.size:=λ b hm=>(h3.mem b hm).2
 have hgS2:g ∉ S++S2:=λ hm=>by
  rcases List.mem_append.1 hm with hm|hm
  ·exact hgS hm
  ·have:=hge g hm;omega
 refine⟨ys++[v2],zs',S++S2,?_,by simp[h2],?_,h7,?_⟩
 ·have:=K4 (iN h1 hb) (k:=k) v2
  rw[List.set_append_right _ _ (by omega),h2,Nat.sub_self,List.set_cons_zero] at this
  rw[List.append_assoc]
  exact this
 ·rw[xO hk]
  exact Own.setCell (Own.app (ho.lower hBw) (h3.below hb)) (p:=⟨g,k,none⟩) hgS2 v2
 ·refine List.nodup_append.2 ⟨by simp[Value.ownBlock],sM wr.heap.size (List.nodup_append.1 h5).2.1 hn hlt hge,λ a ha b hb' e1=>?_⟩
  simp[Value.ownBlock] at ha
  subst ha
  subst e1
  exact hgS2 hb'
theorem MixL.done{l:List Lv}{w wr:World}{B:Nat}{v:Value}(h:MixL l w B v l.length wr):∃S,Own wr B (.row 1 43 (bN ty l) .nil .nil) [v] S/\S.Nodup:=by
 obtain⟨ys,zs,S,h1,h2,h3,h4,h5⟩:=h
 rw[List.drop_length] at h4
 obtain rfl:zs=[]:=h4
 rw[List.take_length] at h3
 rw[List.append_nil] at h1
 exact⟨_,RowG.own ⟨ys,h1,h3,h5⟩,h5⟩
theorem qY(k n a:Int)(l:List Lv)(q r:Option Addr)(nl c m d:Nat)(w:World)(hl:RL ty w (.slice q nl c) l)(hs:aH l<=200000000) :
  Calls Tryz.prog 125 #[.agg #[.int .i64 k,.int .i64 n,.int .i64 a,.slice q nl c,.slice r m d]] w λ e w'=>∃q' n' c' S,e=.returned (.agg #[.int .i64 k,.int .i64 n,.int .i64 a,.slice q' n' c',.slice r m d])/\Below w.heap.size w w'/\Own w' w.heap.size (.row 1 43 (bN ty l) .nil .nil) [.slice q' n' c'] S/\S.Nodup:=by
 have hlen:l.length<=200000000:=by
  have:l.length<=aH l:=by
   clear hs hl
   induction l with
   | nil=>simp
   | cons a r ih=>simp only[List.length_cons,aH];omega
  omega
 obtain⟨w2,hw2⟩:∃w2,(w.alloc (.cells #[.int .i64 k,.int .i64 n,.int .i64 a,.slice q nl c,.slice r m d] 26)).alloc (.cells bI 26)=w2:=⟨_,rfl⟩
 have hb2:Below w.heap.size w w2:=by rw[<-hw2];exact aA (aB _ _) (aB _ _)
 have hs2:w2.heap.size=w.heap.size+2:=by rw[<-hw2];simp
 have p1:∀o v,(#[.int .i64 k,.int .i64 n,.int .i64 a,.slice q nl c,.slice r m d]:Array Value)[o]? = some v->U w2 w.heap.size o=some v:=λ o v hv=>by
  rw[<-hw2];exact aD (aB _ _) _ _ _ (by simp) (aL hv)
 have p2:∀o v,bI[o]? = some v->U w2 (w.heap.size+1) o=some v:=λ o v hv=>by
  have:=aL (w:=w.alloc (.cells #[.int .i64 k,.int .i64 n,.int .i64 a,.slice q nl c,.slice r m d] 26)) (ty:=26) hv
  rw[World.size_alloc,hw2] at this
  exact this
 have c3:=aC (p1 3 _ rfl)
 have HC:=hid (tZ l _ w w2 hl hb2 hlen)
 have HL:=hid hl
 have HB2:=hid hb2
 have HS2:=hid hs2
 have P1:=hid p1
 have P2:=hid p2
 have HSZ:=hid hs
 unfold bI at hw2
 clear hl hb2 hs2 p1 p2 hs
 go_enter Tryz.func125,Tryz.ntmps125
 go_wp2_with fail
 refine HC.out.mono ?_
 rintro e w3 ⟨v,xs,rfl,hb3,ho3,hv3⟩
 have hlt:w.heap.size+1<w2.heap.size:=by have:=HS2.out;omega
 have P13:Hid (∀o v,(#[.int .i64 k,.int .i64 n,.int .i64 a,.slice q nl c,.slice r m d]:Array Value)[o]? = some v->U w3 w.heap.size o=some v):=λ o v hv=>aD hb3 _ _ _ (by omega) (P1.out o v hv)
 have P23:Hid (∀o v,bI[o]? = some v->U w3 (w.heap.size+1) o=some v):=λ o v hv=>aD hb3 _ _ _ hlt (P2.out o v hv)
 have hX:=MixL.start ho3 hv3
 obtain⟨p',c',rfl,hc1,hc2⟩:=hX.slice
 unfold maxLen at hc2
 have HX:=hid hX
 have HB3:=hid hb3
 have f3:=aG (P13.out 3 _ rfl)
 have g3:=aC (P13.out 3 _ rfl)
 obtain⟨w4,hw4⟩:∃w4,w3.setCell ⟨w.heap.size,3,none⟩ (.slice p' l.length c')=w4:=⟨_,rfl⟩
 have P14:Hid (∀o v,(#[.int .i64 k,.int .i64 n,.int .i64 a,.slice p' l.length c',.slice r m d]:Array Value)[o]? = some v->U w4 w.heap.size o=some v):=λ o v hv=>by
  rw[<-hw4]
  by_cases h3:o=3
  ·subst h3
   have hv':Value.slice p' l.length c'=v:=by simpa using hv
   subst hv'
   exact cS (P13.out 3 _ rfl)
  ·refine aX (P13.out o v ?_) (λ e=>by injection e with _ e _;omega)
   have:o<5:=by have:=(Array.getElem?_eq_some_iff.1 hv).1;simpa using this
   have hall:o=0∨o=1∨o=2∨o=4:=by omega
   rcases hall with rfl|rfl|rfl|rfl<;>exact hv
 have P24:Hid (∀o v,bI[o]? = some v->U w4 (w.heap.size+1) o=some v):=λ o v hv=>by
  rw[<-hw4]
  exact aX (P23.out o v hv) (λ e=>by injection e with e _;omega)
 have hX4:MixL l w w2.heap.size (.slice p' l.length c') 0 w4:=by
  obtain⟨ys,zs,S,h1,h2,h3,h4,h5⟩:=hX
  rw[<-hw4]
  refine⟨ys,zs,S,?_,h2,h3.setCell (p:=⟨w.heap.size,3,none⟩) (h3.notMem (by show w.heap.size<w2.heap.size;omega)) _,h4,h5⟩
  rcases h1.2 with h6|⟨g,cap,cur,e1,h6,h7,h8⟩
  ·exact⟨h1.1,.inl h6⟩
  ·have hne:g≠w.heap.size:=by omega
   exact⟨h1.1,.inr ⟨g,cap,cur,e1,h6,(Below.heap_setCell _ _ _ _ hne).trans h7,h8⟩⟩
 have HX4:=hid hX4
 have HS4:Hid (w.heap.size+2<=w4.heap.size):=hid (by rw[<-hw4,World.size_setCell];have:=hb3.size;omega)
 have HB4:Hid (Below w.heap.size w w4):=hid (by rw[<-hw4];exact (aA HB2.out hb3).setCell (p:=⟨w.heap.size,3,none⟩) (Nat.le_refl _) _)
 clear hb3 ho3 hv3 hX HC P13 P23 HX hX4 hlt HB3 P1 P2 c3
 have d3:=aC (P14.out 3 _ rfl)
 go_wp2_with fail
 clear d3 hw4 f3 g3
 go_loopw [11] (λ i wr=>∃k:Nat,k<=l.length/\i=.int .i64 k/\Below (w.heap.size+2) w4 wr/\MixL l w w2.heap.size (.slice p' l.length c') k wr) (λ i _=>l.length-(intOf i).toNat)
 case atStart=>exact⟨0,Nat.zero_le _,rfl,Below.refl _ _,HX4.out⟩
 case round =>
  obtain⟨j,hj,rfl,hB1,hX1⟩:=hrel
  have HB1:=hid hB1
  have HX1:=hid hX1
  have HSW:=hid (hB1.size)
  clear hB1 hX1
  by_cases hjl:j<l.length
  ·have r1:decide ((j:Int)<(l.length:Int))=true:=decide_eq_true (by omega)
   have i1:(j:Int)<(l.length:Int):=by omega
   obtain⟨g,q1,n1,d1,rfl,hg,hu,hRP⟩:=HX1.out.read hjl
   have hS4:w.heap.size+2<=w4.heap.size:=HS4.out
   have gr:∀ {o:Nat} {v:Value},U w4 w.heap.size o=some v->∀n:GrownB (w.heap.size+2) wr,n.it.cell? ⟨w.heap.size,o,none⟩=some v:=λ h=>GrownB.cell (aD HB1.out _ _ _ (by omega) h) (by omega)
   have e3:=gr (P14.out 3 _ rfl)
   have hg2:w.heap.size+2<=g:=by have:=HS2.out;omega
   have HLL:=hid (Nat.le_trans hS4 HSW.out)
   have HU:=hid hu
   have HRP:=hid hRP
   have hsz:=oX hjl
   have HLS:Hid (l[j].length<=200000000):=hid (by have:=HSZ.out;omega)
   obtain⟨L,hL⟩:∃L,l.length=L:=⟨_,rfl⟩
   have HEQ:=hid hL
   rw[hL] at e3 r1 i1 hc1 ⊢
   have q4:=aC (aD HB1.out _ _ _ (by omega) (P14.out 3 _ rfl))
   rw[hL] at q4
   clear gr hu hRP hL hsz
   go_wp2_with fail
   refine cG (w.heap.size+2) [0,1,2,3,4,5,6,7] (by decide) (by kernel_rfl) (by kernel_rfl) (by kernel_rfl) (by kernel_rfl) (λ _ _ d _ _ h=>by cases d<;>exact h) ?_
   simp only[List.map_cons,List.map_nil,List.getD_cons_zero,List.getD_cons_succ,bar,bD,List.size_toArray,List.length_cons,List.length_nil,Nat.zero_add,Nat.reduceAdd,if_true,if_false,Bool.false_eq_true]
   repeat (go_big_quiet_step (fail))
   refine wpQuiet_nil ?_
   clear e3
   have hu0:=aC HU.out
   refine aJ (i:=8) (fuel:=4) (by kernel_rfl) rfl (by rfl) (λ K' hK=>?_)
   go_simp
   refine hK.out _ _ ⟨⟨wr.drew,(aR wr).mono HLL.out⟩,rfl⟩ (λ _=>?_)
   clear hK K' hu0
   refine aJ (i:=9) (fuel:=3) (by kernel_rfl) rfl (by rfl) (λ K' hK=>?_)
   go_simp
   refine (oK l[j] _ wr.drew (HRP.out.on (aA (HB4.out.trans (HB1.out.mono (by omega))) (aR wr))) HLS.out).mono ?_
   rintro e w5 ⟨v2,S2,rfl,hb5,ho5,hn5⟩
   obtain⟨r5,n5,d5,rfl,-⟩:=ho5.slice
   refine hK.out _ _ ⟨⟨w5,(aA (aR wr) hb5).mono HLL.out⟩,rfl⟩ (λ _=>?_)
   clear hK K'
   have hB5:Below wr.heap.size wr w5:=aA (aR wr) hb5
   have hst:=HX1.out.step hjl (by have:=HLL.out;have:=HS2.out;omega) hB5 ho5 hn5
   have HST:=hid hst
   have u5:=aD hB5 _ _ _ (aM HU.out) HU.out
   have hu5:=aC u5
   have hf5:=aG u5
   have HB5:=hid hB5
   clear hb5 ho5 hn5 hst u5 hB5
   refine aJ (i:=10) (fuel:=2) (by kernel_rfl) rfl (by rfl) (λ K' hK=>?_)
   go_simp
   refine hK.out _ _ ⟨⟨w5,HB5.out.mono HLL.out⟩,rfl⟩ (λ _=>?_)
   clear hK K'
   refine aJ (i:=11) (fuel:=1) (by kernel_rfl) rfl (by rfl) (λ K' hK=>?_)
   go_simp
   refine hK.out _ _ ⟨⟨w5,HB5.out.mono HLL.out⟩,rfl⟩ (λ _=>?_)
   clear hK K'
   refine aJ (i:=12) (fuel:=0) (by kernel_rfl) rfl (by rfl) (λ K' hK=>?_)
   go_simp
   have hB6:Below (w.heap.size+2) wr (w5.setCell ⟨g,j,none⟩ (.slice r5 n5 d5)):=(HB5.out.mono HLL.out).setCell (p:=⟨g,j,none⟩) hg2 _
   refine hK.out _ _ ⟨⟨_,hB6⟩,rfl⟩ (λ _=>?_)
   clear hK K'
   refine wpAnyH_done (by kernel_rfl) ?_ _
   have HB6:=hid (HB1.out.trans hB6)
   rw[HEQ.out] at HST
   obtain⟨w6,hw6⟩:∃w6,w5.setCell ⟨g,j,none⟩ (.slice r5 n5 d5)=w6:=⟨_,rfl⟩
   rw[hw6] at HB6 HST ⊢
   clear hB6 hu5 hf5 hw6
   go_wp2_with fail
   go_roundw
   case rel=>exact⟨j+1,by omega,by go_num,HB6.out,HST.out⟩
   case measure=>simp[intOf];omega
  ·obtain rfl:j=l.length:=by omega
   have r1:decide ((l.length:Int)<(l.length:Int))=false:=decide_eq_false (by omega)
   have hS4:w.heap.size+2<=w4.heap.size:=HS4.out
   have P15:Hid (∀o v,(#[.int .i64 k,.int .i64 n,.int .i64 a,.slice p' l.length c',.slice r m d]:Array Value)[o]? = some v->U wr w.heap.size o=some v):=λ o v hv=>aD HB1.out _ _ _ (by omega) (P14.out o v hv)
   have P25:Hid (∀o v,bI[o]? = some v->U wr (w.heap.size+1) o=some v):=λ o v hv=>aD HB1.out _ _ _ (by omega) (P24.out o v hv)
   obtain⟨S,ho,hn⟩:=HX1.out.done
   have HO:=hid ho
   have HN:=hid hn
   have HBR:=hid (HB4.out.trans (HB1.out.mono (by omega)))
   obtain⟨L,hL⟩:∃L,l.length=L:=⟨_,rfl⟩
   have x0:=aC (P15.out 0 _ rfl)
   have x1:=aC (P15.out 1 _ rfl)
   have x2:=aC (P15.out 2 _ rfl)
   have x3:=aC (P15.out 3 _ rfl)
   have x4:=aC (P15.out 4 _ rfl)
   have m0:=aC (P25.out 0 _ rfl)
   have m1:=aC (P25.out 1 _ rfl)
   have m2:=aC (P25.out 2 _ rfl)
   have m3:=aC (P25.out 3 _ rfl)
   have m4:=aC (P25.out 4 _ rfl)
   have o0:=aG (P25.out 0 _ rfl)
   have o1:=aG (P25.out 1 _ rfl)
   have o2:=aG (P25.out 2 _ rfl)
   have o3:=aG (P25.out 3 _ rfl)
   have o4:=aG (P25.out 4 _ rfl)
   rw[hL] at x3 r1 HO hc1 ⊢
   clear ho hn hL P15 P14
   go_wp2_with fail
   obtain⟨W,hW⟩:∃W,((((wr.setCell ⟨w.heap.size+1,0,none⟩ (.int .i64 k)).setCell ⟨w.heap.size+1,1,none⟩ (.int .i64 n)).setCell ⟨w.heap.size+1,2,none⟩ (.int .i64 a)).setCell ⟨w.heap.size+1,3,none⟩ (.slice p' L c')).setCell ⟨w.heap.size+1,4,none⟩ (.slice r m d)=W:=⟨_,rfl⟩
   obtain⟨⟨y0,y1,y2,y3,y4⟩,hBF,hkW⟩:=pM P25.out HBR.out (by omega) hW
   rw[hW]
   refine bodyPost_ret (v:=.agg #[.int .i64 k,.int .i64 n,.int .i64 a,.slice p' L c',.slice r m d]) (by simp[results,Tryz.results125,go_sem,y0,y1,y2,y3,y4]) rfl ⟨_,_,_,S,rfl,hBF,?_,HN.out⟩
   exact (HO.out.lower (by have:=HS2.out;omega)).kept λ b hb=>hkW b (by have:=(HO.out.mem b hb).1;have:=HS2.out;omega)
end
section
open Go.RowKit
theorem yP(d num:Int)(w:World):Calls Tryz.prog 124 #[.agg #[.int .i64 d],.int .i64 num] w λ e w'=>e=.returned (.tuple #[.int .i64 (wrap64 (num-d)),.bool (decide (d<=num))])/\Below w.heap.size w w':=by
 obtain⟨w2,hw2⟩:∃w2,w.alloc (.cells #[.int .i64 d] 163)=w2:=⟨_,rfl⟩
 have hb2:Below w.heap.size w w2:=by rw[<-hw2];exact aB _ _
 have hc:U w2 w.heap.size 0=some (.int .i64 d):=by rw[<-hw2];exact aL rfl
 have HB:=hid hb2
 have gr:∀n:Grown w2,n.it.cell? ⟨w.heap.size,0,none⟩=some (.int .i64 d):=Grown.cell hc
 have hs2:w.heap.size<=w2.heap.size:=hb2.size
 have HS:=hid hs2
 clear hb2 hc hs2
 go_enter Tryz.func124,Tryz.ntmps124
 go_wp2_with fail
 refine fN (by kernel_rfl) (by kernel_rfl) ?_
 repeat (go_big_quiet_step (fail))
 refine wpQuiet_nil ?_
 rintro _ ⟨n,rfl⟩
 go_wp2_with fail
 exact bodyPost_ret (v:=.tuple #[.int .i64 (wrap64 (num-d)),.bool (decide (d<=num))]) (by simp[results,Tryz.results124,go_sem]) rfl ⟨rfl,aA HB.out n.below⟩
theorem tA(d:Nat)(fn:Fn)(fi cp:Array Value)(k:Int)(i:Nat)(w:World)(hw:KA w)(hd:d<=400000000000):Calls Tryz.prog 203 #[.agg #[.int .i64 d,.func fn fi cp],.int .i64 k,.int .i64 i] w λ e w'=>e=.returned (.agg #[.int .i64 (aU k i d),.func fn fi cp])/\Below w.heap.size w w':=by
 obtain⟨w2,hw2⟩:∃w2,(w.alloc (.cells #[.int .i64 d,.func fn fi cp] 166)).alloc (.cells #[.int .i64 0,.nilFunc] 166)=w2:=⟨_,rfl⟩
 have hb2:Below w.heap.size w w2:=by rw[<-hw2];exact aA (aB _ _) (aB _ _)
 have c0:U w2 w.heap.size 0=some (.int .i64 d):=by rw[<-hw2];exact aD (aB _ _) _ _ _ (by simp) (aL rfl)
 have c1:U w2 w.heap.size 1=some (.func fn fi cp):=by rw[<-hw2];exact aD (aB _ _) _ _ _ (by simp) (aL rfl)
 have z:∀o v,(#[.int .i64 0,.nilFunc]:Array Value)[o]? = some v->U w2 (w.heap.size+1) o=some v:=λ o v hv=>by
  have:=aL (w:=w.alloc (.cells #[.int .i64 d,.func fn fi cp] 166)) (ty:=166) hv
  rw[World.size_alloc,hw2] at this
  exact this
 have hk2:=FE k i w2 (hw.on hb2 hw.1)
 have HK:=hid hk2
 have HB:=hid hb2
 have Z:=hid z
 have m0:=aC c0
 have m1:=aC c1
 have m2:=aG c0
 have z0:=aC (z 0 _ rfl)
 have z1:=aC (z 1 _ rfl)
 have z2:=aG (z 0 _ rfl)
 have z3:=aG (z 1 _ rfl)
 obtain⟨b,hb⟩:∃b,binds k i=b:=⟨_,rfl⟩
 have HE:Hid (aU k i d=if b then d+1 else d):=hid (by unfold aU;rw[hb])
 rw[hb] at HK
 have hn:(⟨w.heap.size,0,none⟩:Addr)≠⟨w.heap.size+1,0,none⟩:=by intro e;injection e with e _;omega
 have hn1:(⟨w.heap.size,0,none⟩:Addr)≠⟨w.heap.size+1,1,none⟩:=by intro e;injection e with e _;omega
 have hn2:(⟨w.heap.size,0,none⟩:Addr)≠⟨w.heap.size,1,none⟩:=by intro e;injection e with _ e _;omega
 have HW:=hid hw2
 have hn3:(⟨w.heap.size+1,0,none⟩:Addr)≠⟨w.heap.size+1,1,none⟩:=by intro e;injection e with _ e _;omega
 have z4:w2.cell? ⟨w.heap.size+1,1,none⟩=some .nilFunc:=z1
 have hst:∀(W:World) (p:Addr) (m:Mode),(store p (.func fn fi cp) m).run Tryz.prog W=stored Tryz.prog W p (.func fn fi cp) m:=λ W p m=>run_store _ W p _ m rfl
 clear hw hk2 hb2 z hb z1
 rw[HE.out]
 cases b
 ·go_enter Tryz.func203,Tryz.ntmps203
  go_wp2_with fail
  refine HK.out.mono ?_
  rintro e w2 ⟨rfl,rfl⟩
  go_wp2_with fail
  have y0:((w2.setCell ⟨w.heap.size+1,0,none⟩ (.int .i64 d)).setCell ⟨w.heap.size+1,1,none⟩ (.func fn fi cp)).cell? ⟨w.heap.size+1,0,none⟩=some (.int .i64 d):=by
   rw[World.cell?_setCell_other _ _ _ _ hn3.symm];exact World.cell?_setCell_same' _ _ _ (by rw[z0];rfl)
  have y1:((w2.setCell ⟨w.heap.size+1,0,none⟩ (.int .i64 d)).setCell ⟨w.heap.size+1,1,none⟩ (.func fn fi cp)).cell? ⟨w.heap.size+1,1,none⟩=some (.func fn fi cp) :=
   World.cell?_setCell_same' _ _ _ (by rw[World.cell?_setCell_other _ _ _ _ hn3,z4];rfl)
  exact bodyPost_ret (v:=.agg #[.int .i64 d,.func fn fi cp]) (by simp[results,Tryz.results203,go_sem,y0,y1]) rfl ⟨rfl,(HB.out.setCell (p:=⟨w.heap.size+1,0,none⟩) (Nat.le_succ _) _).setCell (p:=⟨w.heap.size+1,1,none⟩) (Nat.le_succ _) _⟩
 ·go_enter Tryz.func203,Tryz.ntmps203
  go_wp2_with fail
  refine HK.out.mono ?_
  rintro e w2 ⟨rfl,rfl⟩
  go_wp2_with fail
  have y0:(((w2.setCell ⟨w.heap.size,0,none⟩ (.int .i64 ((d:Int)+1))).setCell ⟨w.heap.size+1,0,none⟩ (.int .i64 ((d:Int)+1))).setCell ⟨w.heap.size+1,1,none⟩ (.func fn fi cp)).cell? ⟨w.heap.size+1,0,none⟩=some (.int .i64 ((d:Int)+1)):=by
   rw[World.cell?_setCell_other _ _ _ _ hn3.symm];exact World.cell?_setCell_same' _ _ _ (by rw[World.cell?_setCell_other _ _ _ _ hn,z0];rfl)
  have y1:(((w2.setCell ⟨w.heap.size,0,none⟩ (.int .i64 ((d:Int)+1))).setCell ⟨w.heap.size+1,0,none⟩ (.int .i64 ((d:Int)+1))).setCell ⟨w.heap.size+1,1,none⟩ (.func fn fi cp)).cell? ⟨w.heap.size+1,1,none⟩=some (.func fn fi cp) :=
   World.cell?_setCell_same' _ _ _ (by rw[World.cell?_setCell_other _ _ _ _ hn3,World.cell?_setCell_other _ _ _ _ hn1,z4];rfl)
  exact bodyPost_ret (v:=.agg #[.int .i64 ((d:Int)+1),.func fn fi cp]) (by simp[results,Tryz.results203,go_sem,y0,y1]) rfl ⟨by simp,((HB.out.setCell (p:=⟨w.heap.size,0,none⟩) (Nat.le_refl _) _).setCell (p:=⟨w.heap.size+1,0,none⟩) (Nat.le_succ _) _).setCell (p:=⟨w.heap.size+1,1,none⟩) (Nat.le_succ _) _⟩
end
section
open Go.RowKit
theorem FS(h:Hd)(q r:Option Addr)(nl c m e:Nat)(n f:Int)(d:Nat)(fn:Fn)(fi cp:Array Value)(bf bn:Nat)(w:World)
  (hl:RL ty w (.slice q nl c) h.l) (hs:aH h.l<=200000000) (hf:h.fits) (hd:d<=400000000000) (cf:U w bf 0=some (.int .i64 f)) (cn:U w bn 0=some (.int .i64 n)) :
  Calls Tryz.prog 123 #[.agg #[.int .i64 d,.func fn fi cp],.agg #[.int .i64 h.k,.int .i64 h.n,.int .i64 h.a,.slice q nl c,.slice r m e],.pointer (some ⟨bf,0,none⟩),.pointer (some ⟨bn,0,none⟩)] w λ en w'=>∃q' n' c' S,en=.returned (.tuple #[.agg #[.int .i64 (h.lift n f d).k,.int .i64 (h.lift n f d).n,.int .i64 (h.lift n f d).a,.slice q' n' c',.slice r m e],.bool false])/\Below w.heap.size w w'/\Own w' w.heap.size (.row 1 43 (bN ty (h.lift n f d).l) .nil .nil) [.slice q' n' c'] S/\S.Nodup:=by
 obtain⟨w2,hw2⟩:∃w2,((w.alloc (.cells #[.int .i64 d,.func fn fi cp] 166)).alloc (.cells #[.int .i64 h.k,.int .i64 h.n,.int .i64 h.a,.slice q nl c,.slice r m e] 26)).alloc (.cells bI 26)=w2:=⟨_,rfl⟩
 have hb2:Below w.heap.size w w2:=by rw[<-hw2];exact aA (aA (aB _ _) (aB _ _)) (aB _ _)
 have hs2:w2.heap.size=w.heap.size+3:=by rw[<-hw2];simp
 have p0:U w2 w.heap.size 0=some (.int .i64 d):=by rw[<-hw2];exact aD (aB _ _) _ _ _ (by first|(simp;done)|(simp;omega)) (aD (aB _ _) _ _ _ (by simp) (aL rfl))
 have p1:∀o v,(#[.int .i64 h.k,.int .i64 h.n,.int .i64 h.a,.slice q nl c,.slice r m e]:Array Value)[o]? = some v->U w2 (w.heap.size+1) o=some v:=λ o v hv=>by
  have:=aL (w:=w.alloc (.cells #[.int .i64 d,.func fn fi cp] 166)) (ty:=26) hv
  rw[World.size_alloc] at this
  rw[<-hw2];exact aD (aB _ _) _ _ _ (by simp) this
 have p2:∀o v,bI[o]? = some v->U w2 (w.heap.size+1+1) o=some v:=λ o v hv=>by
  have:=aL (w:=(w.alloc (.cells #[.int .i64 d,.func fn fi cp] 166)).alloc (.cells #[.int .i64 h.k,.int .i64 h.n,.int .i64 h.a,.slice q nl c,.slice r m e] 26)) (ty:=26) hv
  rw[World.size_alloc,World.size_alloc,hw2] at this
  exact this
 have HB2:=hid hb2
 have HS2:=hid hs2
 have P1:=hid p1
 have P2:=hid p2
 have HL:=hid hl
 have HSZ:=hid hs
 have CF:=hid cf
 have CN:=hid cn
 have m0:=aC p0
 have m1:=aC (p1 1 _ rfl)
 unfold bI at hw2
 have hfn:=hf.2.1
 clear hb2 hs2 p0 p1 p2 hl hs cf cn hf
 go_enter Tryz.func123,Tryz.ntmps123
 go_wp2_with fail
 refine (yP d h.n w2).mono ?_
 rintro en w3 ⟨rfl,hb3⟩
 have HB3:=hid (aA HB2.out hb3)
 have P13:Hid (∀o v,(#[.int .i64 h.k,.int .i64 h.n,.int .i64 h.a,.slice q nl c,.slice r m e]:Array Value)[o]? = some v->U w3 (w.heap.size+1) o=some v):=λ o v hv=>aD hb3 _ _ _ (by have:=HS2.out;omega) (P1.out o v hv)
 have P23:Hid (∀o v,bI[o]? = some v->U w3 (w.heap.size+1+1) o=some v):=λ o v hv=>aD hb3 _ _ _ (by have:=HS2.out;omega) (P2.out o v hv)
 have HS3:Hid (w.heap.size+3<=w3.heap.size):=hid (by have:=hb3.size;have:=HS2.out;omega)
 have CF3:=aC (aD HB3.out _ _ _ (aM CF.out) CF.out)
 have CN3:=aC (aD HB3.out _ _ _ (aM CN.out) CN.out)
 clear hb3 m0 m1 hw2
 have k0:=aC (P13.out 0 _ rfl)
 have k1:=aC (P13.out 1 _ rfl)
 have k2:=aG (P13.out 1 _ rfl)
 have k3:=aC (P13.out 2 _ rfl)
 have k4:=aC (P13.out 3 _ rfl)
 have k5:=aC (P13.out 4 _ rfl)
 rcases X6 h n f d with ⟨⟨g1,g2,g3⟩,hlift⟩|⟨hno,hlift⟩
 ·have b1:(h.k == 1)=true:=by simpa using g1
  have b2:decide ((d:Int)<=h.n)=true:=decide_eq_true g2
  have b3:decide (f<=h.n-(d:Int))=true:=decide_eq_true g3
  have b4:wrap64 (h.n-(d:Int))=h.n-(d:Int):=by unfold wrap64;omega
  have HLF:=hid hlift
  clear hlift g1 g2 g3
  go_wp2_with fail
  clear b1 b2 b3 b4
  obtain⟨nn,hnn⟩:∃nn,wrap64 (h.n+n)=nn:=⟨_,rfl⟩
  have HE:Hid (h.lift n f d=⟨h.k,nn,h.a,h.l⟩):=hid (by rw[HLF.out,<-hnn];show (⟨h.k,IntKind.i64.wrap (h.n+n),h.a,h.l⟩:Hd)=_;rw[IntKind.wrap_i64];first|rfl|(unfold wrap64;rfl))
  rw[hnn]
  obtain⟨W1,hW1⟩:∃W1,w3.setCell ⟨w.heap.size+1,1,none⟩ (.int .i64 nn)=W1:=⟨_,rfl⟩
  have PB:Hid (Below w.heap.size w W1):=hid (by rw[<-hW1];exact HB3.out.setCell (p:=⟨w.heap.size+1,1,none⟩) (Nat.le_succ _) _)
  have PS:Hid (w.heap.size+3<=W1.heap.size):=hid (by rw[<-hW1,World.size_setCell];exact HS3.out)
  have P24:Hid (∀o v,bI[o]? = some v->U W1 (w.heap.size+1+1) o=some v):=λ o v hv=>by
   rw[<-hW1];exact aX (P23.out o v hv) (W7 (by omega))
  rw[hW1]
  clear hW1 hnn
  clear P13 P23 P1 P2 HB2 HS2 HB3 HS3 CF3 CN3 k0 k1 k2 k3 k4 k5 CF CN
  refine (qY h.k nn h.a h.l q r nl c m e W1 (HL.out.on PB.out) HSZ.out).mono ?_
  rintro en w5 ⟨q',n',c',S,rfl,hb5,ho5,hn5⟩
  have HO:=hid ho5
  have HN:=hid hn5
  have HB5:=hid (aA PB.out hb5)
  have P25:Hid (∀o v,bI[o]? = some v->U w5 (w.heap.size+1+1) o=some v):=λ o v hv=>aD hb5 _ _ _ (by have:=PS.out;omega) (P24.out o v hv)
  clear hb5 ho5 hn5 P24
  have m0:=aC (P25.out 0 _ rfl)
  have m1:=aC (P25.out 1 _ rfl)
  have m2:=aC (P25.out 2 _ rfl)
  have m3:=aC (P25.out 3 _ rfl)
  have m4:=aC (P25.out 4 _ rfl)
  have o0:=aG (P25.out 0 _ rfl)
  have o1:=aG (P25.out 1 _ rfl)
  have o2:=aG (P25.out 2 _ rfl)
  have o3:=aG (P25.out 3 _ rfl)
  have o4:=aG (P25.out 4 _ rfl)
  go_wp2_with fail
  obtain⟨W,hW⟩:∃W,((((w5.setCell ⟨w.heap.size+1+1,0,none⟩ (.int .i64 h.k)).setCell ⟨w.heap.size+1+1,1,none⟩ (.int .i64 nn)).setCell ⟨w.heap.size+1+1,2,none⟩ (.int .i64 h.a)).setCell ⟨w.heap.size+1+1,3,none⟩ (.slice q' n' c')).setCell ⟨w.heap.size+1+1,4,none⟩ (.slice r m e)=W:=⟨_,rfl⟩
  obtain⟨⟨y0,y1,y2,y3,y4⟩,hBF,hkW⟩:=pM P25.out HB5.out (by omega) hW
  rw[hW]
  refine bodyPost_ret (v:=.tuple #[.agg #[.int .i64 h.k,.int .i64 nn,.int .i64 h.a,.slice q' n' c',.slice r m e],.bool false]) (by simp[results,Tryz.results123,go_sem,y0,y1,y2,y3,y4]) rfl ⟨q',n',c',S,by rw[HE.out],hBF,?_,HN.out⟩
  rw[HE.out]
  exact (HO.out.lower (by have:=PS.out;omega)).kept λ b hb=>hkW b (by have:=(HO.out.mem b hb).1;have:=PS.out;omega)
 have HLF:=hid hlift
 clear hlift
 by_cases g1:h.k=1
 ·have b1:(h.k == 1)=true:=by simpa using g1
  by_cases g2:(d:Int)<=h.n
  ·have b2:decide ((d:Int)<=h.n)=true:=decide_eq_true g2
   have g3:¬f<=h.n-d:=λ g3=>hno ⟨g1,g2,g3⟩
   have b3:decide (f<=h.n-(d:Int))=false:=decide_eq_false g3
   have b4:wrap64 (h.n-(d:Int))=h.n-(d:Int):=by unfold wrap64;omega
   clear hno g1 g2 g3
   go_wp2_with fail
   clear b1 b2 b3 b4
   obtain⟨nn,hnn⟩:∃nn,h.n=nn:=⟨_,rfl⟩
   have HE:Hid (h.lift n f d=⟨h.k,nn,h.a,h.l⟩):=hid (by rw[HLF.out,<-hnn])
   obtain⟨W1,hW1⟩:∃W1,w3=W1:=⟨_,rfl⟩
   have PB:Hid (Below w.heap.size w W1):=hid (by rw[<-hW1];exact HB3.out)
   have PS:Hid (w.heap.size+3<=W1.heap.size):=hid (by rw[<-hW1];exact HS3.out)
   have P24:Hid (∀o v,bI[o]? = some v->U W1 (w.heap.size+1+1) o=some v):=hid (by rw[<-hW1];exact P23.out)
   rw[hnn,hW1]
   clear hW1 hnn
   clear P13 P23 P1 P2 HB2 HS2 HB3 HS3 CF3 CN3 k0 k1 k2 k3 k4 k5 CF CN
   refine (qY h.k nn h.a h.l q r nl c m e W1 (HL.out.on PB.out) HSZ.out).mono ?_
   rintro en w5 ⟨q',n',c',S,rfl,hb5,ho5,hn5⟩
   have HO:=hid ho5
   have HN:=hid hn5
   have HB5:=hid (aA PB.out hb5)
   have P25:Hid (∀o v,bI[o]? = some v->U w5 (w.heap.size+1+1) o=some v):=λ o v hv=>aD hb5 _ _ _ (by have:=PS.out;omega) (P24.out o v hv)
   clear hb5 ho5 hn5 P24
   have m0:=aC (P25.out 0 _ rfl)
   have m1:=aC (P25.out 1 _ rfl)
   have m2:=aC (P25.out 2 _ rfl)
   have m3:=aC (P25.out 3 _ rfl)
   have m4:=aC (P25.out 4 _ rfl)
   have o0:=aG (P25.out 0 _ rfl)
   have o1:=aG (P25.out 1 _ rfl)
   have o2:=aG (P25.out 2 _ rfl)
   have o3:=aG (P25.out 3 _ rfl)
   have o4:=aG (P25.out 4 _ rfl)
   go_wp2_with fail
   obtain⟨W,hW⟩:∃W,((((w5.setCell ⟨w.heap.size+1+1,0,none⟩ (.int .i64 h.k)).setCell ⟨w.heap.size+1+1,1,none⟩ (.int .i64 nn)).setCell ⟨w.heap.size+1+1,2,none⟩ (.int .i64 h.a)).setCell ⟨w.heap.size+1+1,3,none⟩ (.slice q' n' c')).setCell ⟨w.heap.size+1+1,4,none⟩ (.slice r m e)=W:=⟨_,rfl⟩
   obtain⟨⟨y0,y1,y2,y3,y4⟩,hBF,hkW⟩:=pM P25.out HB5.out (by omega) hW
   rw[hW]
   refine bodyPost_ret (v:=.tuple #[.agg #[.int .i64 h.k,.int .i64 nn,.int .i64 h.a,.slice q' n' c',.slice r m e],.bool false]) (by simp[results,Tryz.results123,go_sem,y0,y1,y2,y3,y4]) rfl ⟨q',n',c',S,by rw[HE.out],hBF,?_,HN.out⟩
   rw[HE.out]
   exact (HO.out.lower (by have:=PS.out;omega)).kept λ b hb=>hkW b (by have:=(HO.out.mem b hb).1;have:=PS.out;omega)
  ·have b2:decide ((d:Int)<=h.n)=false:=decide_eq_false g2
   clear hno g1 g2
   go_wp2_with fail
   clear b1 b2
   obtain⟨nn,hnn⟩:∃nn,h.n=nn:=⟨_,rfl⟩
   have HE:Hid (h.lift n f d=⟨h.k,nn,h.a,h.l⟩):=hid (by rw[HLF.out,<-hnn])
   obtain⟨W1,hW1⟩:∃W1,w3=W1:=⟨_,rfl⟩
   have PB:Hid (Below w.heap.size w W1):=hid (by rw[<-hW1];exact HB3.out)
   have PS:Hid (w.heap.size+3<=W1.heap.size):=hid (by rw[<-hW1];exact HS3.out)
   have P24:Hid (∀o v,bI[o]? = some v->U W1 (w.heap.size+1+1) o=some v):=hid (by rw[<-hW1];exact P23.out)
   rw[hnn,hW1]
   clear hW1 hnn
   clear P13 P23 P1 P2 HB2 HS2 HB3 HS3 CF3 CN3 k0 k1 k2 k3 k4 k5 CF CN
   refine (qY h.k nn h.a h.l q r nl c m e W1 (HL.out.on PB.out) HSZ.out).mono ?_
   rintro en w5 ⟨q',n',c',S,rfl,hb5,ho5,hn5⟩
   have HO:=hid ho5
   have HN:=hid hn5
   have HB5:=hid (aA PB.out hb5)
   have P25:Hid (∀o v,bI[o]? = some v->U w5 (w.heap.size+1+1) o=some v):=λ o v hv=>aD hb5 _ _ _ (by have:=PS.out;omega) (P24.out o v hv)
   clear hb5 ho5 hn5 P24
   have m0:=aC (P25.out 0 _ rfl)
   have m1:=aC (P25.out 1 _ rfl)
   have m2:=aC (P25.out 2 _ rfl)
   have m3:=aC (P25.out 3 _ rfl)
   have m4:=aC (P25.out 4 _ rfl)
   have o0:=aG (P25.out 0 _ rfl)
   have o1:=aG (P25.out 1 _ rfl)
   have o2:=aG (P25.out 2 _ rfl)
   have o3:=aG (P25.out 3 _ rfl)
   have o4:=aG (P25.out 4 _ rfl)
   go_wp2_with fail
   obtain⟨W,hW⟩:∃W,((((w5.setCell ⟨w.heap.size+1+1,0,none⟩ (.int .i64 h.k)).setCell ⟨w.heap.size+1+1,1,none⟩ (.int .i64 nn)).setCell ⟨w.heap.size+1+1,2,none⟩ (.int .i64 h.a)).setCell ⟨w.heap.size+1+1,3,none⟩ (.slice q' n' c')).setCell ⟨w.heap.size+1+1,4,none⟩ (.slice r m e)=W:=⟨_,rfl⟩
   obtain⟨⟨y0,y1,y2,y3,y4⟩,hBF,hkW⟩:=pM P25.out HB5.out (by omega) hW
   rw[hW]
   refine bodyPost_ret (v:=.tuple #[.agg #[.int .i64 h.k,.int .i64 nn,.int .i64 h.a,.slice q' n' c',.slice r m e],.bool false]) (by simp[results,Tryz.results123,go_sem,y0,y1,y2,y3,y4]) rfl ⟨q',n',c',S,by rw[HE.out],hBF,?_,HN.out⟩
   rw[HE.out]
   exact (HO.out.lower (by have:=PS.out;omega)).kept λ b hb=>hkW b (by have:=(HO.out.mem b hb).1;have:=PS.out;omega)
 ·have b1:(h.k == 1)=false:=by simpa using g1
  clear hno g1
  go_wp2_with fail
  clear b1
  obtain⟨nn,hnn⟩:∃nn,h.n=nn:=⟨_,rfl⟩
  have HE:Hid (h.lift n f d=⟨h.k,nn,h.a,h.l⟩):=hid (by rw[HLF.out,<-hnn])
  obtain⟨W1,hW1⟩:∃W1,w3=W1:=⟨_,rfl⟩
  have PB:Hid (Below w.heap.size w W1):=hid (by rw[<-hW1];exact HB3.out)
  have PS:Hid (w.heap.size+3<=W1.heap.size):=hid (by rw[<-hW1];exact HS3.out)
  have P24:Hid (∀o v,bI[o]? = some v->U W1 (w.heap.size+1+1) o=some v):=hid (by rw[<-hW1];exact P23.out)
  rw[hnn,hW1]
  clear hW1 hnn
  clear P13 P23 P1 P2 HB2 HS2 HB3 HS3 CF3 CN3 k0 k1 k2 k3 k4 k5 CF CN
  refine (qY h.k nn h.a h.l q r nl c m e W1 (HL.out.on PB.out) HSZ.out).mono ?_
  rintro en w5 ⟨q',n',c',S,rfl,hb5,ho5,hn5⟩
  have HO:=hid ho5
  have HN:=hid hn5
  have HB5:=hid (aA PB.out hb5)
  have P25:Hid (∀o v,bI[o]? = some v->U w5 (w.heap.size+1+1) o=some v):=λ o v hv=>aD hb5 _ _ _ (by have:=PS.out;omega) (P24.out o v hv)
  clear hb5 ho5 hn5 P24
  have m0:=aC (P25.out 0 _ rfl)
  have m1:=aC (P25.out 1 _ rfl)
  have m2:=aC (P25.out 2 _ rfl)
  have m3:=aC (P25.out 3 _ rfl)
  have m4:=aC (P25.out 4 _ rfl)
  have o0:=aG (P25.out 0 _ rfl)
  have o1:=aG (P25.out 1 _ rfl)
  have o2:=aG (P25.out 2 _ rfl)
  have o3:=aG (P25.out 3 _ rfl)
  have o4:=aG (P25.out 4 _ rfl)
  go_wp2_with fail
  obtain⟨W,hW⟩:∃W,((((w5.setCell ⟨w.heap.size+1+1,0,none⟩ (.int .i64 h.k)).setCell ⟨w.heap.size+1+1,1,none⟩ (.int .i64 nn)).setCell ⟨w.heap.size+1+1,2,none⟩ (.int .i64 h.a)).setCell ⟨w.heap.size+1+1,3,none⟩ (.slice q' n' c')).setCell ⟨w.heap.size+1+1,4,none⟩ (.slice r m e)=W:=⟨_,rfl⟩
  obtain⟨⟨y0,y1,y2,y3,y4⟩,hBF,hkW⟩:=pM P25.out HB5.out (by omega) hW
  rw[hW]
  refine bodyPost_ret (v:=.tuple #[.agg #[.int .i64 h.k,.int .i64 nn,.int .i64 h.a,.slice q' n' c',.slice r m e],.bool false]) (by simp[results,Tryz.results123,go_sem,y0,y1,y2,y3,y4]) rfl ⟨q',n',c',S,by rw[HE.out],hBF,?_,HN.out⟩
  rw[HE.out]
  exact (HO.out.lower (by have:=PS.out;omega)).kept λ b hb=>hkW b (by have:=(HO.out.mem b hb).1;have:=PS.out;omega)
end
section
open Go.RowKit
structure GrownX (ex:Nat->Prop) (w:World) where
 it:World
 keep:∀b,b<w.heap.size->¬ex b->it.heap[b]? = w.heap[b]?
instance (ex:Nat->Prop) (w:World):Nonempty (GrownX ex w):=⟨⟨w,λ _ _ _=>rfl⟩⟩
theorem GrownX.cell{ex:Nat->Prop}{w:World}{b o:Nat}{v:Value}(h:U w b o=some v)(hb:¬ex b):∀n:GrownX ex w,n.it.cell? ⟨b,o,none⟩=some v:=λ n=>aC ((dK (n.keep b (aM h) hb) o).trans h)
theorem eG{P:Program}{id:Nat}{Q:Exit->Act->World->Prop}{a:Act}{w:World}{L:List Oper}(ex:Nat->Prop)(is:List Nat)(hn:is.length<=L.length)(hm:P.follows .mixedOrders=true)(hs:Region.noSelect L.toArray=true)
  (hi:is.all (λ i=>decide (i<L.length))=true) (ht:uV .any L.toArray (Array.replicate L.length false) is=true) (hQ:∀c a d v w,Q (.panic c) (Act.put a d v) w->Q (.panic c) a w)
  (h:wpQuiet P L.toArray (λ w'=>∃n:GrownX ex w,w'=n.it) (λ a'=>wpAnyH P .any L.toArray Q (λ w'=>∃n:GrownX ex w,w'=n.it) (L.length-is.length) (rA (Array.replicate L.length false) is) a' w.drew) ((is.map λ i=>L.getD i JH).map bar) a) :
  (Code.region id L.toArray true).wp P Q a w:=by
 refine wp_region_held (S:=λ w'=>∃n:GrownX ex w,w'=n.it) hm ?_
 have:=bJ (md:=.any) (Q:=Q) (S:=λ w'=>∃n:GrownX ex w,w'=n.it) hs hQ (w:=w.drew) ⟨⟨w.drew,λ _ _ _=>rfl⟩,rfl⟩ (L.length-is.length) is (Array.replicate L.length false) a hi ht h
 have e4:L.toArray.size=L.length-is.length+is.length:=by simp;omega
 have e5:Array.replicate L.length false=Array.replicate L.toArray.size false:=by simp
 rw[e5] at this
 rw[e4] at this ⊢
 exact this
theorem uX{P:Program}{md:Region.Mode}{ops:Array Oper}{Q:Exit->Act->World->Prop}{S:World->Prop}{fuel:Nat}{listed:Array Bool}{a:Act}{w:World}{i j:Nat}{o o':Oper}(hr:Region.ready md ops listed=[i,j])(ho:ops[i]? = some o)(ho':ops[j]? = some o')(hw:Region.wanted o (yielded ops a.tmps)=true)(hw':Region.wanted o' (yielded ops a.tmps)=true)
  (h:∀K':Act->World->Prop,Shut (∀a w,S w->(S w->wpAnyH P md ops Q S fuel (listed.setIfInBounds i true) a w)->K' a w)->Oper.wp P o a w K' Q)
  (h':∀K':Act->World->Prop,Shut (∀a w,S w->(S w->wpAnyH P md ops Q S fuel (listed.setIfInBounds j true) a w)->K' a w)->Oper.wp P o' a w K' Q):wpAnyH P md ops Q S (fuel+1) listed a w :=
 wpAnyH_ready hr (by simp) (AllReadyH.cons ho (λ K' hK=>by rw[if_pos hw];exact h K' hK) (AllReadyH.cons ho' (λ K' hK=>by rw[if_pos hw'];exact h' K' hK) AllReadyH.nil))
end
end Go.Proofs.YtkcmapimcgppmaaGreatDoor
