/-
  Whole functions walked over states: what is left to show, and what follows. Conditions: as each lemma states them.
-/
import Derived.Test.YtlfnfiihfjggoaaGreatDoorT02
import Derived.Test.YtlfnfiihfjggoaaGreatDoorProg
import Derived.KernelRfl
import Derived.Test.YtlfnfiihfjggoaaGreatDoorT01
import Derived.Deep.RegionHeld
set_option linter.all false
set_option linter.unusedVariables false
set_option linter.unusedSimpArgs false
set_option linter.unnecessarySimpa false
set_option maxHeartbeats 8000000
set_option maxRecDepth 100000
namespace Go.Proofs.YtlfnfiihfjggoaaGreatDoor
open Go.RowKit Go.Proofs.Tryz
section
variable {P:Program} {G:World->Prop} {tb:TB} {N:Nat} {ops:Array Oper}
def wV(st:St)(r:Out):Prop:=(match r.bu with
 | some (k,_)=>st.bx k=none/\k<K0
 | none=>True)/\match r.tu with
 | some (k,_)=>st.τ k=none
 | none=>True
theorem TH{st:St}{r:Out}(h:wV st r):rK st r:=by
 obtain⟨h1,h2⟩:=h
 refine⟨fun k x e=>?_,λ k x e=>?_⟩
 ·rw[e] at h1;exact h1
 ·rw[e] at h2;exact h2
def BZ(tb:TB)(N:Nat)(o:Oper)(st:St):Option (Prop×Out) :=
 match o.op with
 | .store _ _ _=>oJ tb (ev st N) (eD st N o.op) o.op
 | .call cl=>match cl.callee with
  | .builtin .append=>xE tb (ev st N) st.τ (gF o) cl
  | .value _=>none
  | _=>(jO tb (ev st N) (eD st N o.op) (gF o) o.op).map λ q=>(q.1/\wV st q.2,q.2)
 | _=>(jO tb (ev st N) (eD st N o.op) (gF o) o.op).map λ q=>(q.1/\wV st q.2,q.2)
theorem MC{o:Oper}{st:St}{c:Prop}{r:Out}(h:BZ tb N o st=some (c,r))(hc:c):uN P G tb N o st r:=by
 have calm:(jO tb (ev st N) (eD st N o.op) (gF o) o.op).map (λ q=>(q.1/\wV st q.2,q.2))=some (c,r)->∃c,jO tb (ev st N) (eD st N o.op) (gF o) o.op=some (c,r)/\c/\rK st r:=λ h=>by
  obtain⟨⟨c',r'⟩,h1,h2⟩:=Option.map_eq_some_iff.1 h
  cases h2
  exact⟨c',h1,hc.1,TH hc.2⟩
 obtain⟨dst,op,ty,pos,after,guard⟩:=o
 unfold BZ at h
 unfold uN
 cases op<;>simp only at h calm ⊢<;>try (exact calm h)
 case store T ad x=>exact⟨c,h,hc⟩
 case call cl =>
  obtain⟨callee,xs,ts⟩:=cl
  cases callee with
  | value f=>cases h
  | invoke r m=>exact calm h
  | builtin b =>
   cases b<;>simp only at h ⊢<;>try (exact calm h)
   case append=>exact⟨c,h,hc⟩
def rU:Op->Option (Operand×List Operand)
 | .call { callee:=.value f,args:=xs,.. }=>some (f,xs.toList)
 | _=>none
def Ask(P:Program)(G:World->Prop)(o:Oper)(f:Nat)(args:AV)(R:St->Prop)(st:St):Prop:=∃avs r,HoldsR P G f avs (gF o) r/\args.arg st.bx avs/\st.τ (gF o)=none/\R (st.out o r)
def lZ(P:Program)(G:World->Prop)(tb:TB)(N:Nat)(ops:Array Oper):List Oper->(Exit->St->Prop)->St->Prop
 | [],K,st=>K .normal st
 | o :: os,K,st =>
  let go:=match rU o.op with
   | some (fo,xs)=>match eR (ev st N fo) with
    | some (f,x,y)=>(x.isLL=true/\y.isLL=true)/\Ask P G o f (x.app ((AV.list (xs.map (ev st N))).app y)) (lZ P G tb N ops os K) st
    | none=>False
   | none=>match BZ tb N o st with
    | some (c,r)=>c/\lZ P G tb N ops os K (st.out o r)
    | none=>False
  match o.guard with
  | none=>go
  | some (j,want)=>match (ops[j]?).bind (·.dst) with
   | some d=>match ev st N (.tmp d) with
    | .v (.bool b)=>if b=want then go else lZ P G tb N ops os K (st.out o { av:=.v undef })
    | _=>False
   | none=>False
theorem ask{P:Program}{G:World->Prop}{o:Oper}{f:Nat}{args:AV}{R:St->Prop}{st:St}{ps res:AV}(h:Holds P G f ps res)(ha:args.arg st.bx ps)(hn:st.τ (gF o)=none)(k:R (st.out o { av:=res.ren (gF o),tu:=some (gF o,0) })):Ask P G o f args R st:=⟨ps,_,.inl ⟨res,h,rfl⟩,ha,hn,k⟩
theorem askB{P:Program}{G:World->Prop}{o:Oper}{f:Nat}{args:AV}{R:St->Prop}{st:St}{ps:AV}{sz e:Nat}{d:Ds}(h:N0 P G f ps sz e d)(ha:args.arg st.bx ps)(hn:st.τ (gF o)=none)(k:R (st.out o { av:=.c (.blk (gF o) 1 sz e (.seg none d .nil) .nil),tu:=some (gF o,1) })):Ask P G o f args R st:=⟨ps,_,.inr ⟨sz,e,d,h,rfl⟩,ha,hn,k⟩
theorem OH{op:Op}{fo:Operand}{xs:List Operand}(h:rU op=some (fo,xs)):∃cl:Call,op=.call cl/\cl.callee=.value fo/\cl.args.toList=xs:=by
 unfold rU at h
 split at h
 ·cases h;exact⟨_,rfl,rfl,rfl⟩
 ·cases h
theorem oL{K:Exit->St->Prop}{rest:List Oper}:∀ {os:List Oper} {n:Nat} {st:St},ops.toList.drop n=os++rest->lZ P G tb N ops os K st->∃st',Run P G tb N ops (List.range' n os.length) st st'/\K .normal st'
 | [],n,st,_,h=>⟨st,rfl,h⟩
 | o :: os,n,st,hd,h=>by
  have hn:ops[n]? = some o:=by
   have:(ops.toList.drop n)[0]? = some o:=by rw[hd];rfl
   rw[List.getElem?_drop] at this
   simpa using this
  have hd':ops.toList.drop (n+1)=os++rest:=by
   have:=congrArg (List.drop 1) hd
   rw[List.drop_drop] at this
   simpa using this
  have go:∀Q:Prop,((match rU o.op with
   | some (fo,xs)=>match eR (ev st N fo) with
    | some (f,x,y)=>(x.isLL=true/\y.isLL=true)/\Ask P G o f (x.app ((AV.list (xs.map (ev st N))).app y)) (lZ P G tb N ops os K) st
    | none=>False
   | none=>match BZ tb N o st with
    | some (c,r)=>c/\lZ P G tb N ops os K (st.out o r)
    | none=>False))->(∀r,uN P G tb N o st r->lZ P G tb N ops os K (st.out o r)->Q)->Q:=by
   intro Q h hq
   split at h
   ·rename_i fo xs hcl
    split at h
    ·rename_i f x y k1
     obtain⟨k2,avs,res,k3,k4,k5,k6⟩:=h
     obtain⟨cl,e1,e2,e3⟩:=OH hcl
     refine hq _ ?_ k6
     unfold uN
     rw[e1]
     simp only[e2]
     exact⟨f,x,y,avs,k1,k2,k3,by rw[e3];exact k4,k5⟩
    ·exact h.elim
   ·split at h
    ·rename_i hv
     exact hq _ (MC hv h.1) h.2
    ·exact h.elim
  simp only[lZ] at h
  rw[List.length_cons,List.range'_succ]
  cases hg:o.guard with
  | none =>
   rw[hg] at h
   refine go _ h λ r h1 h2=>?_
   obtain⟨st',h3,h4⟩:=oL hd' h2
   exact⟨st',⟨o,r,hn,by unfold kO;rw[hg];exact h1,h3⟩,h4⟩
  | some q =>
   obtain⟨j,want⟩:=q
   rw[hg] at h
   simp only at h
   split at h
   ·rename_i d hd1
    split at h
    ·rename_i b hb
     split at h
     ·rename_i hbw
      refine go _ h λ r h1 h2=>?_
      obtain⟨st',h3,h4⟩:=oL hd' h2
      exact⟨st',⟨o,r,hn,by unfold kO;rw[hg];exact⟨d,b,hd1,hb,.inl ⟨hbw,h1⟩⟩,h3⟩,h4⟩
     ·rename_i hbw
      obtain⟨st',h3,h4⟩:=oL hd' h
      exact⟨st',⟨o,_,hn,by unfold kO;rw[hg];exact⟨d,b,hd1,hb,.inr ⟨hbw,rfl⟩⟩,h3⟩,h4⟩
    ·exact h.elim
   ·exact h.elim
def OY(G:World->Prop)(N:Nat)(F0:Mem)(w0:World)(Q:Exit->St->Prop):Exit->Act->World->Prop:=λ e a w=>∃st,Q e st/\Sat G F0 w0 N st a w
def nN(f:St->Prop)(Q:Exit->St->Prop):Exit->St->Prop
 | .normal,s=>f s
 | e,s=>Q e s
def blkK(id:Nat)(Q:Exit->St->Prop):Exit->St->Prop
 | .exit id',s=>if id'=id then Q .normal s else Q (.exit id') s
 | e,s=>Q e s
def N2(P:Program)(G:World->Prop)(N:Nat)(c:Code)(Q:Exit->St->Prop)(st:St):Prop:=∀F0 w0 a w,Sat G F0 w0 N st a w->(Code.loop c).wp P (OY G N F0 w0 Q) a w
def dL(P:Program)(G:World->Prop)(tb:TB)(N:Nat):Code->(Exit->St->Prop)->St->Prop
 | .skip,Q,st=>Q .normal st
 | .label _,Q,st=>Q .normal st
 | .region _ ops draw,Q,st=>(draw=true->tP ops=true)/\lZ P G tb N ops ops.toList Q st
 | .seq x y,Q,st=>dL P G tb N x (nN (dL P G tb N y Q) Q) st
 | .cond c x y,Q,st=>match ev st N c with
  | .v (.bool b)=>if b=true then dL P G tb N x Q st else dL P G tb N y Q st
  | _=>False
 | .block id c,Q,st=>dL P G tb N c (blkK id Q) st
 | .loop c,Q,st=>N2 P G N c Q st
 | .exit id,Q,st=>Q (.exit id) st
 | .ret,Q,st=>Q .ret st
 | _,_,_=>False
theorem kF(hT:jE P tb)(hS:iU G)(hm:P.follows .mixedOrders=true){c:Code}:∀ {Q:Exit->St->Prop} {st:St},dL P G tb N c Q st->∀F0 w0 a w,Sat G F0 w0 N st a w->c.wp P (OY G N F0 w0 Q) a w:=by
 induction c with
 | skip=>intro Q st h F0 w0 a w hs;exact wp_skip ⟨st,h,hs⟩
 | label l=>intro Q st h F0 w0 a w hs;exact wp_label ⟨st,h,hs⟩
 | region id ops draw =>
  intro Q st h F0 w0 a w hs
  obtain⟨h1,h2⟩:=h
  obtain⟨st',h3,h4⟩:=oL (rest:=[]) (n:=0) (by simp) h2
  refine N6 hT hS hm (λ a w hs'=>⟨st',h4,hs'⟩) h1 ?_ hs
  rw[List.range_eq_range']
  simpa using h3
 | seq x y ihx ihy =>
  intro Q st h F0 w0 a w hs
  refine wp_seq (wp_mono (ihx h F0 w0 a w hs) ?_)
  rintro e a' w' ⟨st',hq,hs'⟩
  cases e with
  | normal=>exact ihy hq F0 w0 a' w' hs'
  | _=>exact⟨st',hq,hs'⟩
 | cond c x y ihx ihy =>
  intro Q st h F0 w0 a w hs
  simp only[dL] at h
  split at h
  ·rename_i b hb
   obtain⟨g,rfl,-,-,-,-,-,hsl⟩:=hs.gh
   have hr:=K7 (N:=N) hsl c
   rw[hb] at hr
   refine wp_cond (t:=b) (by simpa[RepV] using hr) ?_
   cases b
   ·exact ihy (by simpa using h) F0 w0 a _ hs
   ·exact ihx (by simpa using h) F0 w0 a _ hs
  ·exact h.elim
 | block id c ih =>
  intro Q st h F0 w0 a w hs
  refine wp_block (wp_mono (ih h F0 w0 a w hs) ?_)
  rintro e a' w' ⟨st',hq,hs'⟩
  cases e with
  | exit id' =>
   show if id'=id then _ else _
   change if id'=id then _ else _ at hq
   split
   ·rename_i e;rw[if_pos e] at hq;exact⟨st',hq,hs'⟩
   ·rename_i e;rw[if_neg e] at hq;exact⟨st',hq,hs'⟩
  | _=>exact⟨st',hq,hs'⟩
 | loop c _=>intro Q st h F0 w0 a w hs;exact h F0 w0 a w hs
 | exit id=>intro Q st h F0 w0 a w hs;exact wp_exit ⟨st,h,hs⟩
 | ret=>intro Q st h F0 w0 a w hs;exact wp_ret ⟨st,h,hs⟩
 | rangeFunc _ _ _ _=>intro Q st h;exact h.elim
 | scope _=>intro Q st h;exact h.elim
 | goto _=>intro Q st h;exact h.elim
 | refuse _=>intro Q st h;exact h.elim
def LC{α:Type}(G:World->Prop)(N:Nat)(I:α->St)(μ:α->Nat)(x:α)(Q:Exit->St->Prop):Exit->St->Prop
 | .normal,s=>∃y,μ y<μ x/\Le G N s (I y)
 | e,s=>Q e s
theorem LZ{α:Type}(hT:jE P tb)(hS:iU G)(hm:P.follows .mixedOrders=true)(I:α->St)(μ:α->Nat)(x0:α){c:Code}{Q:Exit->St->Prop}{st:St}(h0:Le G N st (I x0))(hr:∀x,dL P G tb N c (LC G N I μ x Q) (I x)):N2 P G N c Q st:=by
 intro F0 w0 a w hs
 intro b k cs
 have key:∀n x a w,μ x=n->Sat G F0 w0 N (I x) a w->∃e a' w',OY G N F0 w0 Q e a' w'/\Arrives P (lone (b.at a (.code c :: .inLoop c :: k)) cs w) b k cs e a' w':=by
  intro n
  induction n using Nat.strongRecOn with
  | _ n ih =>
   intro x a w hx hs
   obtain⟨e,a1,w1,hq,harr⟩:=kF hT hS hm (hr x) F0 w0 a w hs b (.inLoop c :: k) cs
   obtain⟨s1,hq,hs1⟩:=hq
   cases e with
   | normal =>
    obtain⟨y,hy,hle⟩:=hq
    obtain⟨e2,a2,w2,hq2,harr2⟩:=ih (μ y) (by omega) y a1 w1 rfl (hle F0 w0 a1 w1 hs1)
    exact⟨e2,a2,w2,hq2,.of_steps (Steps.trans harr (.one step_inLoop)) harr2⟩
   | exit id=>exact⟨_,a1,w1,⟨s1,hq,hs1⟩,.pass (x:=.inLoop c) rfl (λ _ _=>.inl (by simp)) harr⟩
   | goto l=>exact⟨_,a1,w1,⟨s1,hq,hs1⟩,.pass (x:=.inLoop c) rfl (λ _ _=>.inl (by simp)) harr⟩
   | ret=>exact⟨_,a1,w1,⟨s1,hq,hs1⟩,.pass (x:=.inLoop c) rfl (λ _ _=>.inl (by simp)) harr⟩
   | panic ch=>exact⟨_,a1,w1,⟨s1,hq,hs1⟩,.pass (x:=.inLoop c) rfl (λ _ _=>.inl (by simp)) harr⟩
   | outgrown=>exact⟨_,a1,w1,⟨s1,hq,hs1⟩,.pass (x:=.inLoop c) rfl (λ _ _=>.inl (by simp)) harr⟩
 obtain⟨e,a',w',hq,harr⟩:=key _ x0 a w rfl (h0 F0 w0 a w hs)
 exact⟨e,a',w',hq,.of_steps (.one step_loop) harr⟩
def tO(tb:TB)(N:Nat)(st:St):ResultVar->Option AV
 | .tmp t=>some (ev st N (.tmp t))
 | .cell t T=>match ev st N (.tmp t),tb T with
  | .bx k 0,some y=>match st.bx k with
   | some (_,d)=>if d.ln=y.size then (match y.sh with
    | .st _=>some (.agg d)
    | .arr=>none
    | _=>if y.size=1 then some d.sing else none) else none
   | none=>none
  | _,_=>none
def AB:List AV->AV
 | [a]=>a
 | l=>.tup (.list l)
def GA(tb:TB)(N:Nat)(rs:List ResultVar)(r:AV):Exit->St->Prop
 | .normal,st | .ret,st=>∃l q,rs.mapM (tO tb N st)=some l/\AV.imp (λ _=>none) st.τ (φOf q) (λ k=>if k=0 then some 0 else none) r (AB l)/\(q.flatMap (·.2)).Nodup
 | _,_=>False
def jQ(l:List AV):St:=⟨fun t=>l.getD t .junk,λ _=>none,λ _=>none,λ _=>none⟩
theorem Y9(hT:jE P tb){g:Gh}(hI:Inv g){st:St}{a:Act}(hbx:g.st.bx=st.bx)(hsl:∀t,t<N->RepV g (st.env t) [a.tmps.getD t undef]):∀ {rs:List ResultVar} {l:List AV},rs.mapM (tO tb N st)=some l ->
  ∃vs:List Value,(rs.mapM λ (x:ResultVar)=>(match x with
   | .tmp t=>pure (a.tmps.getD t undef)
   | .cell t T=>do loadVar T (<-asAddr (a.tmps.getD t undef)):Sem Value)).run P g.w=.ok vs g.w/\RepV g (.list l) vs/\vs.length=l.length
 | [],l,h=>by
  simp at h
  subst h
  exact⟨[],rfl,rfl,rfl⟩
 | x :: rs,l,h=>by
  simp only[List.mapM_cons,Option.bind_eq_bind,Option.pure_def] at h
  cases h1:tO tb N st x with
  | none=>simp[h1] at h
  | some b =>
   cases h2:rs.mapM (tO tb N st) with
   | none=>simp[h1,h2] at h
   | some l' =>
    simp[h1,h2] at h
    subst h
    obtain⟨vs,h3,h4,h5⟩:=Y9 hT hI hbx hsl h2
    have one:∃v,((match x with
      | .tmp t=>pure (a.tmps.getD t undef)
      | .cell t T=>do loadVar T (<-asAddr (a.tmps.getD t undef)):Sem Value)).run P g.w=.ok v g.w/\RepV g b [v]:=by
     cases x with
     | tmp t =>
      cases h1
      exact⟨_,rfl,K7 hsl (.tmp t)⟩
     | cell t T =>
      simp only[tO] at h1
      have hr:=K7 (N:=N) hsl (.tmp t)
      split at h1
      ·rename_i k y hk hy
       rw[hk] at hr
       have e:a.tmps.getD t undef=.pointer (some ⟨g.B k,0,none⟩):=by simpa[Act.eval] using hr.1
       split at h1
       ·rename_i T0 d hd
        obtain⟨-,-,xs,k3,k4⟩:=hI.box k T0 d (by rw[hbx];exact hd)
        split at h1
        ·rename_i hln
         have hl:=uX hT hy (b:=g.B k) (q:=0) (cs:=xs) (λ j u hu=>by rw[cell_of_row _ _ _ _ _ _ k3];simpa using hu) k4 hln
         have conv:∀v,(Instr.loadAt T (.pointer (some ⟨g.B k,0,none⟩))).run P g.w=.ok v g.w->(do loadVar T (<-asAddr (a.tmps.getD t undef)):Sem Value).run P g.w=.ok v g.w:=λ v hv=>by
          rw[e]
          simpa[Instr.loadAt,Instr.sureAddr,asAddr] using hv
         split at h1
         ·rename_i fs hs
          cases h1
          obtain⟨v,e1,e2⟩:=hl.1 fs hs
          exact⟨v,conv v e1,e2⟩
         ·cases h1
         ·rename_i hs1 hs2
          split at h1
          ·rename_i hs3
           cases h1
           obtain⟨v,e1,e2⟩:=hl.2 (λ fs e=>hs1 fs e) hs2 hs3
           exact⟨v,conv v e1,e2⟩
          ·cases h1
        ·cases h1
       ·cases h1
      ·cases h1
    obtain⟨v,h6,h7⟩:=one
    refine⟨v :: vs,?_,⟨v,vs,rfl,h7,h4⟩,by simp[h5]⟩
    rw[List.mapM_cons]
    simp only[Sem.run_bind,h6,Result.andThen_ok,h3,Sem.run_pure]
theorem xM{fn:Func}{tmps:Array Value}{w:World}{vs:List Value}(h:(fn.results.toList.mapM λ (x:ResultVar)=>(match x with
   | .tmp t=>pure (tmps.getD t undef)
   | .cell t T=>do loadVar T (<-asAddr (tmps.getD t undef)):Sem Value)).run P w=.ok vs w):(results fn tmps).run P w=.ok (if h:vs.toArray.size=1 then vs.toArray[0] else .tuple vs.toArray) w:=by
 have e:results fn tmps=(do
   let vs <-(List.toArray <$> fn.results.toList.mapM λ (x:ResultVar)=>(match x with
    | .tmp t=>pure (tmps.getD t undef)
    | .cell t T=>do loadVar T (<-asAddr (tmps.getD t undef)):Sem Value))
   pure (if h:vs.size=1 then vs[0] else .tuple vs)):=by
  unfold results
  rw[Array.mapM_eq_mapM_toList]
  rfl
 rw[e]
 simp only[Sem.run_bind,Sem.run_map,h,Result.andThen_ok,Sem.run_pure]
theorem rD (hT : jE P tb) (hS : iU G) (hm : P.follows .mixedOrders = true) {f : Nat} {fn : Func} {c : Code} {l : List AV} {r : AV} (hf : P.funcs[f]? = some fn) (hb : fn.body = some c) (hname : fn.name ≠ "runtime.NumGoroutine")
  (hN:l.length<=fn.ntmps) (hl:∀a∈l,a.ok (λ _=>none) (λ _=>none)) (hr:r.plain=true) (hr2:r.still=true) (hr3:r.flat=true) (h:dL P G tb fn.ntmps c (GA tb fn.ntmps fn.results.toList r) (jQ l)):Holds P G f (.list l) r:=by
 refine⟨⟨fn,hf,hname,by rw[hb];simp⟩,hr,λ F w vs hF hG hv=>?_⟩
 have hlen:∀(l:List AV) (vs:List Value),RepV (bJ F w) (.list l) vs->vs.length=l.length/\∀t,RepV (bJ F w) (l.getD t .junk) [vs.getD t undef]:=by
  intro l
  induction l with
  | nil=>intro vs h;rw[show vs=[] from h];exact⟨rfl,λ t=>trivial⟩
  | cons a l ih =>
   rintro vs ⟨y,ys,rfl,h1,h2⟩
   obtain⟨h3,h4⟩:=ih ys h2
   refine⟨by simp[h3],λ t=>?_⟩
   cases t with
   | zero=>exact h1
   | succ t=>exact h4 t
 obtain⟨hvl,hvs⟩:=hlen l vs hv
 have hsat:Sat G F w fn.ntmps (jQ l) { tmps:=vs.toArray++Array.replicate (fn.ntmps-vs.toArray.size) undef,defers:=[] } w:=by
  refine⟨⟨fun t=>?_,λ k T d e=>by cases e⟩,⟨bJ F w,rfl,⟨hF,Nat.le_refl _,λ k T d e=>(by cases e),λ k k' h1=>(absurd rfl h1),λ k j b h1=>(absurd rfl h1),λ k k' b h1=>(absurd rfl h1)⟩,rfl,rfl,rfl,λ _ _ _=>rfl,λ t ht=>?_⟩,Below.refl _ _,hG,?_,rfl,λ t x e=>by cases e⟩
  ·show (l.getD t .junk).ok _ _
   rw[List.getD_eq_getElem?_getD]
   cases ht:l[t]? with
   | none=>trivial
   | some x=>exact hl x (List.mem_of_getElem? ht)
  ·have:=hvs t
   have e:(vs.toArray++Array.replicate (fn.ntmps-vs.toArray.size) undef).getD t undef=vs.getD t undef:=by
    rw[Array.getD_eq_getD_getElem?,Array.getElem?_append,List.getD_eq_getElem?_getD]
    by_cases h1:t<vs.length
    ·simp[h1]
    ·have h2:vs[t]? = none:=List.getElem?_eq_none (by omega)
     simp only[List.size_toArray,h1,if_false,h2,Option.getD_none]
     rw[Array.getElem?_replicate]
     split<;>rfl
   show RepV _ (l.getD t .junk) [(vs.toArray++Array.replicate (fn.ntmps-vs.toArray.size) undef).getD t undef]
   rw[e]
   exact this
  ·simp;omega
 refine calls_of_wp hf hb (wp_mono (kF hT hS hm h F w _ _ hsat) ?_)
 rintro e a' w' ⟨st,hq,hs⟩
 have fin:(∃l q,fn.results.toList.mapM (tO tb fn.ntmps st)=some l/\AV.imp (λ _=>none) st.τ (φOf q) (λ k=>if k=0 then some 0 else none) r (AB l)/\(q.flatMap (·.2)).Nodup) ->
   a'.defers=[]/\∃v,(results fn a'.tmps).run P w'=.ok v w'/\∃v1 fp,Ending.returned v=.returned v1/\Below w.heap.size w w'/\RepV (jF F w w' fp) r [v1]/\(∀k b,b∈fp k->w.heap.size<=b/\b<w'.heap.size)/\∀k k' b,b∈fp k->b∈fp k'->k=k':=by
  rintro⟨l',q,h1,h2,h3⟩
  obtain⟨g,rfl,hI,hbx,hτ,hbase,hF0,hsl⟩:=hs.gh
  obtain⟨vs',h4,h5,h6⟩:=Y9 hT hI hbx hsl h1
  have hres:∃v,(results fn a'.tmps).run P g.w=.ok v g.w/\RepV g (AB l') [v]:=by
   have h7:=xM h4
   match l',vs',h5,h6,h7 with
   | [x],[v],⟨_,_,e,h8,_⟩,_,h7 =>
    cases e
    exact⟨v,h7,h8⟩
   | [],[],h5,_,h7=>exact⟨.tuple #[],h7,[],rfl,h5⟩
   | x :: y :: l',u :: v :: vs',h5,_,h7=>exact⟨.tuple (u :: v :: vs').toArray,by rw[h7];simp,_,rfl,h5⟩
  obtain⟨v,h7,h8⟩:=hres
  have hw:Weak g (jF F w g.w (IW g (φOf q))) (φOf q):=⟨fun b o u hu=>by
    show (if b<w.heap.size then F b o else U g.w b o)=some u
    split
    ·rename_i hb
     rw[<-hF0 b o (by rw[hbase];exact hb)]
     exact hu
    ·exact hI.F _ _ _ hu,rfl,hbase.symm,λ k b h=>mem_fpOf.2 h⟩
  have h9:RepV (jF F w g.w (IW g (φOf q))) r [v]:=RepV.imp hI hw (.inl hr2) (.inl hr3) (by rw[hτ];exact h2) h8
  refine⟨hs.defers,v,h7,v,IW g (φOf q),rfl,hs.below,h9,λ k b hb=>?_,λ k k' b hb hb'=>?_⟩
  ·obtain⟨u,-,h10,h11⟩:=mem_fpOf.1 hb
   obtain⟨h12,h13,-⟩:=hI.fpb u.1 u.2 b h10 h11
   rw[hbase] at h12
   exact⟨h12,h13⟩
  ·obtain⟨u,hu,h10,h11⟩:=mem_fpOf.1 hb
   obtain⟨u',hu',h12,h13⟩:=mem_fpOf.1 hb'
   have:=hI.fpd u u' b h10 h12 h11 h13
   subst this
   exact φ_disj h3 hu hu'
 cases e with
 | normal=>exact fin hq
 | ret=>exact fin hq
 | _=>exact hq.elim
end
section
def tb:TB
 | 2=>some ⟨.int .i64,1,8,.int .i64 0,.lit (.int .i64 0) .nil⟩
 | 3=>some ⟨.int .i64,1,8,.int .i64 0,.lit (.int .i64 0) .nil⟩
 | 4=>some ⟨.bo,1,1,.bool false,.lit (.bool false) .nil⟩
 | 5=>some ⟨.int .u8,1,1,.int .u8 0,.lit (.int .u8 0) .nil⟩
 | 9=>some ⟨.str,1,16,.string ⟨#[]⟩,.lit (.string ⟨#[]⟩) .nil⟩
 | 22=>some ⟨.int .i64,1,8,.int .i64 0,.lit (.int .i64 0) .nil⟩
 | 23=>some ⟨.int .i64,1,8,.int .i64 0,.lit (.int .i64 0) .nil⟩
 | 24=>some ⟨.sl 30,1,24,.slice none 0 0,.nilr 1 30 .nil⟩
 | 25=>some ⟨.sl 27,1,24,.slice none 0 0,.nilr 5 27 .nil⟩
 | 27=>some ⟨.st [(0,23),(1,3),(2,3),(3,24),(4,25)],5,72,.agg #[.int .i64 0,.int .i64 0,.int .i64 0,.slice none 0 0,.slice none 0 0],.lit (.int .i64 0) (.lit (.int .i64 0) (.lit (.int .i64 0) (.nilr 1 30 (.nilr 5 27 .nil))))⟩
 | 28=>some ⟨.sl 68,1,24,.slice none 0 0,.nilr 2 68 .nil⟩
 | 30=>some ⟨.st [(0,28)],1,24,.agg #[.slice none 0 0],.nilr 2 68 .nil⟩
 | 31=>some ⟨.sl 71,1,24,.slice none 0 0,.nilr 1 71 .nil⟩
 | 32=>some ⟨.sl 76,1,24,.slice none 0 0,.nilr 6 76 .nil⟩
 | 34=>some ⟨.st [(0,22),(1,3),(2,27),(7,27),(12,25),(13,30),(14,31),(15,32)],16,256,.agg #[.int .i64 0,.int .i64 0,.int .i64 0,.int .i64 0,.int .i64 0,.slice none 0 0,.slice none 0 0,.int .i64 0,.int .i64 0,.int .i64 0,.slice none 0 0,.slice none 0 0,.slice none 0 0,.slice none 0 0,.slice none 0 0,.slice none 0 0],.lit (.int .i64 0) (.lit (.int .i64 0) (.lit (.int .i64 0) (.lit (.int .i64 0) (.lit (.int .i64 0) (.nilr 1 30 (.nilr 5 27 (.lit (.int .i64 0) (.lit (.int .i64 0) (.lit (.int .i64 0) (.nilr 1 30 (.nilr 5 27 (.nilr 5 27 (.nilr 2 68 (.nilr 1 71 (.nilr 6 76 .nil)))))))))))))))⟩
 | 35=>some ⟨.sl 54,1,24,.slice none 0 0,.nilr 3 54 .nil⟩
 | 44=>some ⟨.sl 84,1,24,.slice none 0 0,.nilr 12 84 .nil⟩
 | 50=>some ⟨.sl 44,1,24,.slice none 0 0,.nilr 1 44 .nil⟩
 | 52=>some ⟨.sl 73,1,24,.slice none 0 0,.nilr 9 73 .nil⟩
 | 54=>some ⟨.st [(0,3),(1,52),(2,25)],3,56,.agg #[.int .i64 0,.slice none 0 0,.slice none 0 0],.lit (.int .i64 0) (.nilr 9 73 (.nilr 5 27 .nil))⟩
 | 66=>some ⟨.sl 25,1,24,.slice none 0 0,.nilr 1 25 .nil⟩
 | 68=>some ⟨.st [(0,3),(1,3)],2,16,.agg #[.int .i64 0,.int .i64 0],.lit (.int .i64 0) (.lit (.int .i64 0) .nil)⟩
 | 69=>some ⟨.oth,1,8,.nilFunc,.lit (.nilFunc) .nil⟩
 | 71=>some ⟨.st [(0,25)],1,24,.agg #[.slice none 0 0],.nilr 5 27 .nil⟩
 | 73=>some ⟨.st [(0,4),(1,27),(6,25),(7,3),(8,25)],9,136,.agg #[.bool false,.int .i64 0,.int .i64 0,.int .i64 0,.slice none 0 0,.slice none 0 0,.slice none 0 0,.int .i64 0,.slice none 0 0],.lit (.bool false) (.lit (.int .i64 0) (.lit (.int .i64 0) (.lit (.int .i64 0) (.nilr 1 30 (.nilr 5 27 (.nilr 5 27 (.lit (.int .i64 0) (.nilr 5 27 .nil))))))))⟩
 | 76=>some ⟨.st [(0,3),(1,27)],6,80,.agg #[.int .i64 0,.int .i64 0,.int .i64 0,.int .i64 0,.slice none 0 0,.slice none 0 0],.lit (.int .i64 0) (.lit (.int .i64 0) (.lit (.int .i64 0) (.lit (.int .i64 0) (.nilr 1 30 (.nilr 5 27 .nil)))))⟩
 | 84=>some ⟨.st [(0,3),(1,27),(6,4),(7,27)],12,160,.agg #[.int .i64 0,.int .i64 0,.int .i64 0,.int .i64 0,.slice none 0 0,.slice none 0 0,.bool false,.int .i64 0,.int .i64 0,.int .i64 0,.slice none 0 0,.slice none 0 0],.lit (.int .i64 0) (.lit (.int .i64 0) (.lit (.int .i64 0) (.lit (.int .i64 0) (.nilr 1 30 (.nilr 5 27 (.lit (.bool false) (.lit (.int .i64 0) (.lit (.int .i64 0) (.lit (.int .i64 0) (.nilr 1 30 (.nilr 5 27 .nil)))))))))))⟩
 | 95=>some ⟨.st [],0,0,.agg #[],.nil⟩
 | 99=>some ⟨.oth,1,8,.nilFunc,.lit (.nilFunc) .nil⟩
 | 103=>some ⟨.sl 3,1,24,.slice none 0 0,.nilr 1 3 .nil⟩
 | 105=>some ⟨.st [(0,54),(3,34),(19,3),(20,3),(21,27),(26,3),(27,103)],28,432,.agg #[.int .i64 0,.slice none 0 0,.slice none 0 0,.int .i64 0,.int .i64 0,.int .i64 0,.int .i64 0,.int .i64 0,.slice none 0 0,.slice none 0 0,.int .i64 0,.int .i64 0,.int .i64 0,.slice none 0 0,.slice none 0 0,.slice none 0 0,.slice none 0 0,.slice none 0 0,.slice none 0 0,.int .i64 0,.int .i64 0,.int .i64 0,.int .i64 0,.int .i64 0,.slice none 0 0,.slice none 0 0,.int .i64 0,.slice none 0 0],.lit (.int .i64 0) (.nilr 9 73 (.nilr 5 27 (.lit (.int .i64 0) (.lit (.int .i64 0) (.lit (.int .i64 0) (.lit (.int .i64 0) (.lit (.int .i64 0) (.nilr 1 30 (.nilr 5 27 (.lit (.int .i64 0) (.lit (.int .i64 0) (.lit (.int .i64 0) (.nilr 1 30 (.nilr 5 27 (.nilr 5 27 (.nilr 2 68 (.nilr 1 71 (.nilr 6 76 (.lit (.int .i64 0) (.lit (.int .i64 0) (.lit (.int .i64 0) (.lit (.int .i64 0) (.lit (.int .i64 0) (.nilr 1 30 (.nilr 5 27 (.lit (.int .i64 0) (.nilr 1 3 .nil)))))))))))))))))))))))))))⟩
 | 124=>some ⟨.sl 230,1,24,.slice none 0 0,.nilr 1 230 .nil⟩
 | 125=>some ⟨.sl 232,1,24,.slice none 0 0,.nilr 1 232 .nil⟩
 | 126=>some ⟨.sl 103,1,24,.slice none 0 0,.nilr 1 103 .nil⟩
 | 127=>some ⟨.sl 234,1,24,.slice none 0 0,.nilr 1 234 .nil⟩
 | 128=>some ⟨.sl 235,1,24,.slice none 0 0,.nilr 1 235 .nil⟩
 | 129=>some ⟨.sl 237,1,24,.slice none 0 0,.nilr 1 237 .nil⟩
 | 130=>some ⟨.sl 239,1,24,.slice none 0 0,.nilr 1 239 .nil⟩
 | 131=>some ⟨.sl 28,1,24,.slice none 0 0,.nilr 1 28 .nil⟩
 | 132=>some ⟨.sl 24,1,24,.slice none 0 0,.nilr 1 24 .nil⟩
 | 133=>some ⟨.sl 31,1,24,.slice none 0 0,.nilr 1 31 .nil⟩
 | 134=>some ⟨.sl 32,1,24,.slice none 0 0,.nilr 1 32 .nil⟩
 | 135=>some ⟨.sl 240,1,24,.slice none 0 0,.nilr 1 240 .nil⟩
 | 136=>some ⟨.sl 52,1,24,.slice none 0 0,.nilr 1 52 .nil⟩
 | 137=>some ⟨.sl 35,1,24,.slice none 0 0,.nilr 1 35 .nil⟩
 | 138=>some ⟨.sl 243,1,24,.slice none 0 0,.nilr 1 243 .nil⟩
 | 140=>some ⟨.st [(0,124),(1,125),(2,126),(3,127),(4,128),(5,129),(6,130),(7,131),(8,132),(9,66),(10,133),(11,134),(12,135),(13,136),(14,137),(15,50),(16,138)],17,408,.agg #[.slice none 0 0,.slice none 0 0,.slice none 0 0,.slice none 0 0,.slice none 0 0,.slice none 0 0,.slice none 0 0,.slice none 0 0,.slice none 0 0,.slice none 0 0,.slice none 0 0,.slice none 0 0,.slice none 0 0,.slice none 0 0,.slice none 0 0,.slice none 0 0,.slice none 0 0],.nilr 1 230 (.nilr 1 232 (.nilr 1 103 (.nilr 1 234 (.nilr 1 235 (.nilr 1 237 (.nilr 1 239 (.nilr 1 28 (.nilr 1 24 (.nilr 1 25 (.nilr 1 31 (.nilr 1 32 (.nilr 1 240 (.nilr 1 52 (.nilr 1 35 (.nilr 1 44 (.nilr 1 243 .nil))))))))))))))))⟩
 | 172=>some ⟨.st [(0,25)],1,24,.agg #[.slice none 0 0],.nilr 5 27 .nil⟩
 | 174=>some ⟨.st [(0,172)],1,24,.agg #[.slice none 0 0],.nilr 5 27 .nil⟩
 | 202=>some ⟨.oth,1,8,.nilFunc,.lit (.nilFunc) .nil⟩
 | 219=>some ⟨.st [(0,3)],1,8,.agg #[.int .i64 0],.lit (.int .i64 0) .nil⟩
 | 220=>some ⟨.oth,1,8,.nilFunc,.lit (.nilFunc) .nil⟩
 | 222=>some ⟨.st [(0,219),(1,220)],2,16,.agg #[.int .i64 0,.nilFunc],.lit (.int .i64 0) (.lit (.nilFunc) .nil)⟩
 | 230=>some ⟨.sl 231,1,24,.slice none 0 0,.nilr 1 231 .nil⟩
 | 231=>some ⟨.int .u32,1,4,.int .u32 0,.lit (.int .u32 0) .nil⟩
 | 232=>some ⟨.sl 233,1,24,.slice none 0 0,.nilr 1 233 .nil⟩
 | 233=>some ⟨.int .u64,1,8,.int .u64 0,.lit (.int .u64 0) .nil⟩
 | 234=>some ⟨.sl 2,1,24,.slice none 0 0,.nilr 1 2 .nil⟩
 | 235=>some ⟨.sl 9,1,24,.slice none 0 0,.nilr 1 9 .nil⟩
 | 237=>some ⟨.sl 5,1,24,.slice none 0 0,.nilr 1 5 .nil⟩
 | 239=>some ⟨.sl 4,1,24,.slice none 0 0,.nilr 1 4 .nil⟩
 | 240=>some ⟨.sl 34,1,24,.slice none 0 0,.nilr 16 34 .nil⟩
 | 243=>some ⟨.sl 245,1,24,.slice none 0 0,.nilr 3 245 .nil⟩
 | 245=>some ⟨.st [(0,240),(1,44),(2,103)],3,72,.agg #[.slice none 0 0,.slice none 0 0,.slice none 0 0],.nilr 16 34 (.nilr 12 84 (.nilr 1 3 .nil))⟩
 | 254=>some ⟨.st [(0,54),(3,25),(4,3)],5,88,.agg #[.int .i64 0,.slice none 0 0,.slice none 0 0,.slice none 0 0,.int .i64 0],.lit (.int .i64 0) (.nilr 9 73 (.nilr 5 27 (.nilr 5 27 (.lit (.int .i64 0) .nil))))⟩
 | 268=>some ⟨.st [],0,0,.agg #[],.nil⟩
 | 281=>some ⟨.st [(0,4),(1,4),(2,3),(3,3),(4,3)],5,32,.agg #[.bool false,.bool false,.int .i64 0,.int .i64 0,.int .i64 0],.lit (.bool false) (.lit (.bool false) (.lit (.int .i64 0) (.lit (.int .i64 0) (.lit (.int .i64 0) .nil))))⟩
 | _=>none
theorem oE:jE prog tb:=by
 intro T y h
 unfold tb at h
 split at h<;>cases h
 all_goals exact⟨by kernel_rfl,by kernel_rfl,by kernel_rfl,by kernel_rfl,by decide⟩
theorem mixed:prog.follows .mixedOrders=true:=by kernel_rfl
end
section
theorem CQ{w:World}{base e n g cap k:Nat}{xs:List Value}(h:w.ownsRow base e 1 (.slice (some ⟨g,0,none⟩) n cap) n xs)(u:Value):(w.setCell ⟨g,k,none⟩ u).ownsRow base e 1 (.slice (some ⟨g,0,none⟩) n cap) n (xs.set k u):=by
 refine⟨by rw[List.length_set];exact h.1,?_⟩
 rcases h.2 with ⟨h1,-⟩|⟨g',cap',cur,h1,h2,h3,h4,h5,h6,h7⟩
 ·cases h1
 ·cases h1
  refine .inr ⟨g,cap,cur.setIfInBounds k u,rfl,h2,Go.heap_setCell_same w g k cur e u h3,h4,h5,by rw[Array.size_setIfInBounds];exact h6,?_⟩
  rw[Array.toList_setIfInBounds,List.take_set,h7]
theorem rR(p:Lv)(va:Value)(w:World)(ha:RP w va p)(hn:p.length<=200000000):Calls prog 140 #[va] w (M9 (.row 2 68 (bY p) .nil .nil) w):=by
 obtain⟨q,c,rfl,hc1,hc2,hc3⟩:=ha.slice
 unfold maxLen at hc2
 cases q with
 | none =>
  obtain rfl:c=0:=hc3 rfl
  have hp:p=[]:=List.length_eq_zero_iff.1 (by omega)
  subst hp
  clear ha
  have he:∀W:World,(binOp .eql 28 (.slice none 0 0) (.slice none 0 0)).run prog W=.ok (.bool true) W:=λ _=>rfl
  go_enter func140,ntmps140
  go_wp2_with fail
  go_ret
  exact⟨_,[],rfl,Below.refl _ _,(RowG.nil w w.heap.size 2 68).own,by simp⟩
 | some ad =>
  obtain⟨v1,w2,hrun1,hR2,hB2⟩:=V1 (w:=w) (RowG.empty w 2 68) (ha.on (aA _ _)) hn (by simp) (aA _ _)
  obtain⟨n,hpn⟩:∃n,p.length=n:=⟨_,rfl⟩
  have HR:=hid hR2
  have HB:=hid hB2
  rw[hpn] at hrun1 hc1 ⊢
  clear ha hR2 hB2 hpn hn hc3
  have he:∀W:World,(binOp .eql 28 (.slice (some ad) n c) (.slice none 0 0)).run prog W=.ok (.bool false) W:=λ _=>rfl
  go_enter func140,ntmps140
  go_wp2_with (at_builtin;refine aR rfl _ _ 28 rfl _ _ _ rfl rfl hrun1 ?_)
  go_ret
  exact⟨_,_,rfl,HB.out,HR.out.own,HR.out.nodup⟩
def RawL(l:List Lv)(w0 w:World)(e:Ending)(w':World):Prop :=
 ∃v xs,e=.returned v/\Below w.heap.size w w'/\w'.ownsRow w.heap.size 30 1 v l.length xs/\Vs (U w0) w0.heap.size (cB ty l) xs
theorem At.vs{F:Nat->Nat->Option Value}{hi:Nat}{x:Ds}:∀ {b o:Nat},At F hi x b o->∃xs,Vs F hi x xs/\∀j u,xs[j]? = some u->F b (o+j)=some u:=by
 induction x with
 | nil=>intro b o _;exact⟨[],rfl,λ j u hu=>by simp at hu⟩
 | lit v r ih =>
  rintro b o ⟨h1,h2⟩
  obtain⟨xs,h3,h4⟩:=ih h2
  refine⟨v :: xs,⟨xs,rfl,h3⟩,λ j u hu=>?_⟩
  cases j with
  | zero=>simp at hu;subst hu;exact h1
  | succ j =>
   have:=h4 j u (by simpa using hu)
   rw[show o+(j+1)=o+1+j by omega];exact this
 | row sz e x s r _ _ ih =>
  intro b o h
  obtain⟨⟨v,h1,h2⟩,h3⟩:=At_row.1 h
  obtain⟨xs,h4,h5⟩:=ih h3
  refine⟨v :: xs,⟨v,xs,rfl,h2,h4⟩,λ j u hu=>?_⟩
  cases j with
  | zero=>simp at hu;subst hu;exact h1
  | succ j =>
   have:=h5 j u (by simpa using hu)
   rw[show o+(j+1)=o+1+j by omega];exact this
theorem Vs.one{F:Nat->Nat->Option Value}{hi:Nat}{x:Ds}:∀ {xs:List Value},x.ones->Vs F hi x xs->∀u∈xs,u.oneCell'=true:=by
 induction x with
 | nil=>intro xs _ h u hu;simp[Vs] at h;subst h;cases hu
 | lit v r ih =>
  rintro xs ⟨h1,h2⟩ ⟨ys,rfl,h⟩ u hu
  rcases List.mem_cons.1 hu with rfl|hu
  ·exact h1
  ·exact ih h2 h u hu
 | row sz e x s r _ _ ih =>
  rintro xs h1 ⟨v,ys,rfl,h2,h3⟩ u hu
  rcases List.mem_cons.1 hu with rfl|hu
  ·obtain⟨p,n,c,rfl,-⟩:=h2;rfl
  ·exact ih h1 h3 u hu
theorem yI(l:List Lv)(va:Value)(w0 w:World)(ha:RL ty w0 va l)(hb0:Below w0.heap.size w0 w)(hn:l.length<=200000000):Calls prog 255 #[va] w (RawL l w0 w):=by
 obtain⟨q,c,rfl,hc1,hc2,hc3⟩:=ha.slice
 unfold maxLen at hc2
 cases q with
 | none =>
  obtain rfl:c=0:=hc3 rfl
  have hp:l=[]:=List.length_eq_zero_iff.1 (by omega)
  subst hp
  clear ha hb0
  have he:∀W:World,(binOp .eql 24 (.slice none 0 0) (.slice none 0 0)).run prog W=.ok (.bool true) W:=λ _=>rfl
  go_enter func255,ntmps255
  go_wp2_with fail
  go_ret
  exact⟨_,[],rfl,Below.refl _ _,World.ownsRow_nil _ _ _ _,rfl⟩
 | some ad =>
  obtain⟨i0,hi0,hz0,hz1,hz2⟩:=info_parts IS
  have hown0:(w.alloc (.cells #[] 30)).ownsRow w.heap.size 30 1 (.slice (some ⟨w.heap.size,0,none⟩) 0 0) 0 []:=by
   obtain⟨xs,h1,h2,-⟩:=RowG.empty w 1 30
   obtain⟨rfl,-⟩:=h2
   exact h1
  have cells:∃xs,Vs (U w0) w0.heap.size (cB ty l) xs/\∀j u,xs[j]? = some u->(w.alloc (.cells #[] 30)).cell? (ad.add j)=some u:=by
   obtain⟨q',n',c',e1,h2,h3,h4,h5,h6⟩:=ha
   cases e1
   rcases h6 with ⟨h6,-⟩|⟨h6,-,-⟩|⟨b',o',e2,hl,hA,-⟩
   ·cases h6
   ·have hp:l=[]:=List.length_eq_zero_iff.1 h6
    subst hp
    exact⟨[],rfl,λ j u hu=>by simp at hu⟩
   ·cases e2
    obtain⟨xs,h8,h9⟩:=hA.vs
    refine⟨xs,h8,λ j u hu=>?_⟩
    have e1:((⟨b',o',none⟩:Addr).add j)=⟨b',o'+j,none⟩:=by
     unfold Addr.add;split
     ·rename_i hj;subst hj;rfl
     ·rfl
    rw[e1]
    exact aD (aE (aB hb0 (aA w (.cells #[] 30))) _ _ _ hl (h9 j u hu))
  obtain⟨xs,hvs,hcs⟩:=cells
  obtain⟨v',w2,hrun,h2,h3,-,h5⟩:=run_append_own_at (P:=prog) (w.alloc (.cells #[] 30)) w.heap.size 24 24 30 i0 _ 1 24 underlying24 hi0 hz0 hz1 hz2 rfl (by decide) _ 0 [] hown0 ad l.length c xs (by rw[hvs.len,gL,Nat.mul_one]) hcs (hvs.one (U5 _ _)) (by unfold maxLen;omega) (by omega) (by simp)
  have HB:Hid (Below w.heap.size w w2):=hid ((aA w (.cells #[] 30)).grown h3 (by simp) (λ g hg=>by cases hg;exact Nat.le_refl _))
  have HO:Hid (w2.ownsRow w.heap.size 30 1 v' l.length xs):=hid (by simpa using h2)
  have HV:=hid hvs
  obtain⟨n,hpn⟩:∃n,l.length=n:=⟨_,rfl⟩
  have HPN:=hid hpn
  rw[hpn] at hrun hc1 ⊢
  clear ha h2 h3 h5 hvs hcs hown0 hpn hn hc3 hb0
  have he:∀W:World,(binOp .eql 24 (.slice (some ad) n c) (.slice none 0 0)).run prog W=.ok (.bool false) W:=λ _=>rfl
  go_enter func255,ntmps255
  go_wp2_with (at_builtin;refine aR rfl _ _ 24 rfl _ _ _ rfl rfl hrun ?_)
  go_ret
  exact⟨_,xs,rfl,HB.out,HO.out,HV.out⟩
end
section
theorem Own.setCell{w:World}{base:Nat}{x:Ds}{xs:List Value}{S:List Nat}(h:Own w base x xs S){p:Addr}(hp:p.block ∉ S)(v:Value):Own (w.setCell p v) base x xs S :=
 h.kept λ b hb=>Below.heap_setCell _ p v b λ e=>hp (by rw[<-e];exact hb)
theorem Own.slice{w:World}{base sz e:Nat}{x s:Ds}{v:Value}{S:List Nat}(h:Own w base (.row sz e x s .nil) [v] S):∃p n c,v=.slice p n c/\n*sz=x.len/\n<=c/\c<=maxLen:=by
 obtain⟨v',ys,e1,h1,-⟩:=h.vs
 cases e1
 obtain⟨p,n,c,rfl,h2,h3,h4,-⟩:=h1.slice
 exact⟨p,n,c,rfl,h2,h3,h4⟩
theorem Own.notMem{w:World}{base:Nat}{x:Ds}{xs:List Value}{S:List Nat}(h:Own w base x xs S){b:Nat}(hb:b<base):b ∉ S:=λ hm=>by have:=(h.mem b hm).1;omega
theorem O8(p:Lv)(q:Option Addr)(c:Nat)(w:World)(ha:RP w (.slice q p.length c) p)(hn:p.length<=200000000) :
  Calls prog 41 #[.agg #[.slice q p.length c]] w (Makes (cO ty [p]) w):=by
 obtain⟨w2,hw2⟩:∃w2,(w.alloc (.cells #[.slice q p.length c] 30)).alloc (.cells #[.slice none 0 0] 30)=w2:=⟨_,rfl⟩
 have hb2:Below w.heap.size w w2:=by rw[<-hw2];exact aB (aA _ _) (aA _ _)
 have hs2:w2.heap.size=w.heap.size+2:=by rw[<-hw2];simp
 have c1:U w2 w.heap.size 0=some (.slice q p.length c):=by
  rw[<-hw2];exact aE (aA _ _) _ _ _ (by simp) (aM rfl)
 have c2:U w2 (w.heap.size+1) 0=some (.slice none 0 0):=by
  have:=aM (w:=w.alloc (.cells #[.slice q p.length c] 30)) (cs:=#[.slice none 0 0]) (ty:=30) (o:=0) rfl
  rw[World.size_alloc,hw2] at this
  exact this
 have HL:=hid (tR p _ w2 (ha.on hb2) hn)
 have d1:=aD c1
 go_enter func41,ntmps41
 go_wp2_with fail
 refine HL.out.mono ?_
 rintro e w3 ⟨v,S,rfl,hb3,hown,hnd⟩
 obtain⟨r,n,d,rfl,-,-,-⟩:=hown.slice
 have g1:=aD (aE hb3 _ _ _ (by omega) c1)
 have g2:=aD (aE hb3 _ _ _ (by omega) c2)
 have f1:=aI (aE hb3 _ _ _ (by omega) c1)
 have f2:=aI (aE hb3 _ _ _ (by omega) c2)
 have HO:=hid hown
 have HB3:=hid hb3
 have HND:=hid hnd
 have HB2:=hid hb2
 have hne:(⟨w.heap.size,0,none⟩:Addr)≠⟨w.heap.size+1,0,none⟩:=by intro e;injection e with e1 _;omega
 clear hown hb3 hnd hb2 c1 c2 d1 hw2 ha HL
 go_wp2_with fail
 have x2:((w3.setCell ⟨w.heap.size,0,none⟩ (.slice r n d)).setCell ⟨w.heap.size+1,0,none⟩ (.slice r n d)).cell? ⟨w.heap.size+1,0,none⟩=some (.slice r n d) :=
  World.cell?_setCell_same' _ _ _ (by rw[World.cell?_setCell_other _ _ _ _ hne,g2];rfl)
 refine bodyPost_ret (v:=.agg #[.slice r n d]) (by simp[results,results41,go_sem,x2]) rfl ⟨[.slice r n d],S,rfl,?_,?_,HND.out⟩
 ·exact ((aB HB2.out HB3.out).setCell (p:=⟨w.heap.size,0,none⟩) (Nat.le_refl _) _).setCell (p:=⟨w.heap.size+1,0,none⟩) (Nat.le_succ _) _
 ·exact ((HO.out.setCell (p:=⟨w.heap.size,0,none⟩) (HO.out.notMem (by simp;omega)) _).setCell (p:=⟨w.heap.size+1,0,none⟩) (HO.out.notMem (by simp;omega)) _).lower (by omega)
theorem Makes.one{sz e:Nat}{x s:Ds}{w w':World}{en:Ending}(h:Makes (.row sz e x s .nil) w en w'):∃r n d S,en=.returned (.agg #[.slice r n d])/\Below w.heap.size w w'/\Own w' w.heap.size (.row sz e x s .nil) [.slice r n d] S/\S.Nodup:=by
 obtain⟨xs,S,rfl,hb,ho,hn⟩:=h
 have ho':=ho
 obtain⟨v,ys,zs,us,B,S1,S2,S3,rfl,-,-,-,⟨rfl,-⟩,-⟩:=ho'
 obtain⟨r,n,d,rfl,-⟩:=ho.slice
 exact⟨r,n,d,S,rfl,hb,ho,hn⟩
theorem DI{l:List Lv}{k:Nat}(y:Tys)(h:k<l.length):cO y (l.take (k+1))=(cO y (l.take k)).app (cO y [l[k]]):=by
 rw[<-IL,List.take_succ_eq_append_getElem h]
theorem DJ(y:Tys)(l:List Lv):(cO y l).ones:=by
 induction l with
 | nil=>trivial
 | cons a r ih=>exact ih
theorem G7(l:List Lv)(va:Value)(w:World)(ha:RL ty w va l)(hs:aH l<=200000000):Calls prog 106 #[va] w (M9 (.row 1 30 (cO ty l) (cB ty (dJ 1 12)) .nil) w):=by
 obtain⟨q,c,rfl,hc1,hc2,-⟩:=ha.slice
 unfold maxLen at hc2
 have hl:l.length<=200000000:=by
  have:l.length<=aH l:=by
   clear hs hc1 ha
   induction l with
   | nil=>simp
   | cons a r ih=>simp only[List.length_cons,aH];omega
  omega
 obtain⟨w1,hrun,hR,hB⟩:=RowG.make elL w w.heap.size (l.length+12) .i64 .i64 (by omega) (Nat.le_refl _)
 rw[show ((l.length+12:Nat):Int)=(l.length:Int)+12 by omega] at hrun
 have HR:=hid hR
 have HB:=hid hB
 have HA:=hid ha
 have HSZ:=hid hs
 clear hR hB ha hs
 go_enter func106,ntmps106
 go_wp2_with fail
 clear hrun
 go_loopw [3,4] (λ v i wr=>∃(k:Nat) (S:List Nat),k<=l.length/\i=.int .i64 k/\Below w.heap.size w wr/\RowG wr w.heap.size 1 30 v k (cO ty (l.take k)) S) (λ _ i _=>l.length-(intOf i).toNat)
 case atStart=>exact⟨0,[],Nat.zero_le _,rfl,HB.out,HR.out⟩
 case round =>
  obtain⟨k,S,hk,rfl,hB1,hR1⟩:=hrel
  have HB1:=hid hB1
  have HR1:=hid hR1
  clear hB1 hR1
  by_cases hlt:k<l.length
  ·have r1:decide ((k:Int)<(l.length:Int))=true:=decide_eq_true (by omega)
   obtain⟨b,o,rfl,hb,r,d,hu,hd1,hd2,hRP⟩:=(HA.out.on HB1.out).at_ hlt
   have e1:=aD hu
   have hsz:=sL hlt
   have HL:=hid ((O8 l[k] r d wr hRP (by have:=HSZ.out;omega)).mono λ _ _ h=>Makes.one h)
   have HT:=hid (DI ty hlt)
   have hbase:w.heap.size<=wr.heap.size:=HB1.out.size
   clear hu hd1 hd2 hRP hsz
   obtain⟨z,hz⟩:∃z:Nat,l[k].length=z:=⟨_,rfl⟩
   rw[hz] at e1 HL
   clear hz
   go_wp2_with fail
   refine HL.out.mono ?_
   rintro e w3 ⟨r',n',d',S2,rfl,hb3,hown,hnd⟩
   have hB4:=aB hb3 (aB (aA w3 (.cells #[.slice r' n' d'] 30)) (aA _ (.cells #[.slice r' n' d'] 30)))
   have hR4:=HR1.out.below hB4
   have hO4:=(hown.below (aB (aA w3 (.cells #[.slice r' n' d'] 30)) (aA _ (.cells #[.slice r' n' d'] 30)))).lower hbase
   obtain⟨v',w4,hrun4,hR5,hg,-⟩:=RowG.append (ty:=24) (k:=1) (y:=cO ty [l[k]]) elL hR4 HR1.out.lt_of hO4 hnd (λ b hb=>(hown.mem b hb).1) (DJ ty [l[k]]) ⟨(w3.alloc (.cells #[.slice r' n' d'] 30)).heap.size,0,none⟩ 1 rfl (gK _ _ 30) (by omega) (Nat.le_trans hbase hB4.size)
   have HB4:Hid (Below w.heap.size w w4):=hid ((aB HB1.out hB4).grown hg (aB HB1.out hB4).size hR4.ge)
   have HR4:Hid (RowG w4 w.heap.size 1 30 v' (k+1) (cO ty (l.take (k+1))) (S++S2)):=hid (by rw[HT.out];exact hR5)
   simp only[World.size_alloc] at hrun4
   clear hb3 hown hnd hB4 hR4 hO4 hR5 hg HT HL HR1
   go_wp2_with (at_builtin;refine aR rfl _ _ 24 rfl _ _ _ rfl rfl hrun4 ?_)
   clear hrun4
   go_roundw
   case rel=>exact⟨k+1,_,by omega,by go_num,HB4.out,HR4.out⟩
   case measure=>simp[intOf];omega
  ·obtain rfl:k=l.length:=by omega
   have r1:decide ((l.length:Int)<(l.length:Int))=false:=decide_eq_false (by omega)
   have HR2:Hid (RowG wr w.heap.size 1 30 _ l.length (cO ty l) S):=hid (by have:=HR1.out;rw[List.take_length] at this;exact this)
   obtain⟨n,hn⟩:∃n,l.length=n:=⟨_,rfl⟩
   rw[hn] at hl r1 HR2 hc1 ⊢
   have HN:=hid hn
   clear HR1 HR HB hk hlt HA HSZ hn
   go_wp2_with fail
   clear r1
   go_loopw [3,6] (λ v i wx=>∃(j:Nat) (S:List Nat),j<=12/\i=.int .i64 j/\Below w.heap.size w wx/\RowG wx w.heap.size 1 30 v (n+j) ((cO ty l).app (cB ty (dJ 1 j))) S) (λ _ i _=>12-(intOf i).toNat)
   case atStart=>exact⟨0,S,Nat.zero_le _,rfl,HB1.out,by rw[show cB ty (dJ 1 0)=.nil from rfl,Ds.app_nil];exact HR2.out⟩
   case round =>
    obtain⟨j,S',hj,rfl,hBj,hRj⟩:=hrel
    have HBj:=hid hBj
    have HRj:=hid hRj
    clear hBj hRj HR2 HB1
    by_cases hlt:j<12
    ·have r1:decide ((j:Int)<12)=true:=decide_eq_true (by omega)
     have HM:=hid ((oG 1 j wr (by decide) (by omega)).mono λ _ _ h=>Makes.one h)
     have hbase:w.heap.size<=wr.heap.size:=HBj.out.size
     go_wp2_with fail
     refine HM.out.mono ?_
     rintro e w3 ⟨r',n',d',S2,rfl,hb3,hown,hnd⟩
     have hB4:=aB hb3 (aA w3 (.cells #[.slice r' n' d'] 30))
     have hR4:=HRj.out.below hB4
     have hO4:=(hown.below (aA w3 (.cells #[.slice r' n' d'] 30))).lower hbase
     obtain⟨v',w4,hrun4,hR5,hg,-⟩:=RowG.append (ty:=24) (k:=1) (y:=cB ty [rB 1 j]) elL hR4 HRj.out.lt_of hO4 hnd (λ b hb=>(hown.mem b hb).1) (U5 ty [rB 1 j]) ⟨w3.heap.size,0,none⟩ 1 rfl (gK _ _ 30) (by omega) (Nat.le_trans hbase hB4.size)
     have HB4:Hid (Below w.heap.size w w4):=hid ((aB HBj.out hB4).grown hg (aB HBj.out hB4).size hR4.ge)
     have HR4:Hid (RowG w4 w.heap.size 1 30 v' (n+(j+1)) ((cO ty l).app (cB ty (dJ 1 (j+1)))) (S'++S2)):=hid (by rw[dJ,oW,<-Ds.app_assoc];exact hR5)
     clear hb3 hown hnd hB4 hR4 hO4 hR5 hg HM HRj
     go_wp2_with (at_builtin;refine aR rfl _ _ 24 rfl _ _ _ rfl rfl hrun4 ?_)
     clear hrun4
     go_roundw
     case rel=>exact⟨j+1,_,by omega,by go_num,HB4.out,HR4.out⟩
     case measure=>simp[intOf];omega
    ·obtain rfl:j=12:=by omega
     obtain⟨p',c',rfl,hc3,hc4⟩:=HRj.out.cap
     unfold maxLen at hc4
     have HX:=hid (RowG.cut (m:=n) (s:=cB ty (dJ 1 12)) HRj.out (by omega) (by rw[G6,HN.out,Nat.mul_one]))
     have HND:Hid (((Value.slice p' (n+12) c').ownBlock.toList++S').Nodup):=hid (by obtain⟨_,_,_,h⟩:=HRj.out;exact h)
     clear hj hlt HRj
     go_wp2_with fail
     all_goals go_ret
     exact⟨_,_,rfl,HBj.out,HX.out,HND.out⟩
end
section
theorem bK{w:World}{b o b' o':Nat}{u v:Value}(h:U w b o=some u)(hne:(⟨b',o',none⟩:Addr)≠⟨b,o,none⟩):U (w.setCell ⟨b',o',none⟩ v) b o=some u :=
 nJ (by rw[World.cell?_setCell_other _ _ _ _ hne];exact aD h) (by rw[World.frozen?_setCell];exact aI h)
theorem fQ{w:World}{b o:Nat}{u v:Value}(h:U w b o=some u):U (w.setCell ⟨b,o,none⟩ v) b o=some v :=
 nJ (World.cell?_setCell_same' _ _ _ (by rw[aD h];rfl)) (by rw[World.frozen?_setCell];exact aI h)
theorem SB{b o b' o':Nat}(h:o'≠o):(⟨b',o',none⟩:Addr)≠⟨b,o,none⟩:=by intro e;injection e with _ e2;exact h e2
theorem SD{b o b' o':Nat}(h:b'≠b):(⟨b',o',none⟩:Addr)≠⟨b,o,none⟩:=by intro e;injection e with e1 _;exact h e1
theorem rL{w:World}{b:Nat}{u0 u1 u2 u3 u4 v0 v1 v2 v3 v4:Value}(h0:U w b 0=some u0)(h1:U w b 1=some u1)(h2:U w b 2=some u2)(h3:U w b 3=some u3)(h4:U w b 4=some u4){W:World}
  (hW:((((w.setCell ⟨b,0,none⟩ v0).setCell ⟨b,1,none⟩ v1).setCell ⟨b,2,none⟩ v2).setCell ⟨b,3,none⟩ v3).setCell ⟨b,4,none⟩ v4=W) :
  U W b 0=some v0/\U W b 1=some v1/\U W b 2=some v2/\U W b 3=some v3/\U W b 4=some v4/\(∀k,k≠b->W.heap[k]? = w.heap[k]?):=by
 have n:∀i j:Nat,i≠j->(⟨b,i,none⟩:Addr)≠⟨b,j,none⟩:=λ i j h=>SB h
 subst hW
 refine⟨?_,?_,?_,?_,?_,?_⟩
 ·exact bK (bK (bK (bK (fQ h0) (n _ _ (by decide))) (n _ _ (by decide))) (n _ _ (by decide))) (n _ _ (by decide))
 ·exact bK (bK (bK (fQ (bK h1 (n _ _ (by decide)))) (n _ _ (by decide))) (n _ _ (by decide))) (n _ _ (by decide))
 ·exact bK (bK (fQ (bK (bK h2 (n _ _ (by decide))) (n _ _ (by decide)))) (n _ _ (by decide))) (n _ _ (by decide))
 ·exact bK (fQ (bK (bK (bK h3 (n _ _ (by decide))) (n _ _ (by decide))) (n _ _ (by decide)))) (n _ _ (by decide))
 ·exact fQ (bK (bK (bK (bK h4 (n _ _ (by decide))) (n _ _ (by decide))) (n _ _ (by decide))) (n _ _ (by decide)))
 ·intro k hk
  exact (Below.heap_setCell _ _ _ k hk).trans ((Below.heap_setCell _ _ _ k hk).trans ((Below.heap_setCell _ _ _ k hk).trans ((Below.heap_setCell _ _ _ k hk).trans (Below.heap_setCell _ _ _ k hk))))
theorem xQ(h:Hd)(x:Ts)(va:Value)(w:World)(ha:RM ty w va h x)(hs:aH h.l<=200000000)
  (hk:∀W v,RT ty W v x->Calls prog 40 #[v] W (M9 (.row 5 27 (cJ ty x) (tDs ty (cH 1 12)) .nil) W)):Calls prog 21 #[va] w (Makes (cJ ty (.cons h x .nil)) w):=by
 obtain⟨q,c,r,d,rfl,-,-,-,-,hl,hx⟩:=ha.agg
 obtain⟨w2,hw2⟩:∃w2,(w.alloc (.cells #[.int .i64 h.k,.int .i64 h.n,.int .i64 h.a,.slice q h.l.length c,.slice r x.len d] 27)).alloc (.cells #[.int .i64 0,.int .i64 0,.int .i64 0,.slice none 0 0,.slice none 0 0] 27)=w2:=⟨_,rfl⟩
 have hb2:Below w.heap.size w w2:=by rw[<-hw2];exact aB (aA _ _) (aA _ _)
 have hs2:w2.heap.size=w.heap.size+2:=by rw[<-hw2];simp
 have p1:∀o v,(#[.int .i64 h.k,.int .i64 h.n,.int .i64 h.a,.slice q h.l.length c,.slice r x.len d]:Array Value)[o]? = some v->U w2 w.heap.size o=some v:=λ o v hv=>by
  rw[<-hw2];exact aE (aA _ _) _ _ _ (by simp) (aM hv)
 have p2:∀o v,(#[.int .i64 0,.int .i64 0,.int .i64 0,.slice none 0 0,.slice none 0 0]:Array Value)[o]? = some v->U w2 (w.heap.size+1) o=some v:=λ o v hv=>by
  have:=aM (w:=w.alloc (.cells #[.int .i64 h.k,.int .i64 h.n,.int .i64 h.a,.slice q h.l.length c,.slice r x.len d] 27)) (ty:=27) hv
  rw[World.size_alloc,hw2] at this
  exact this
 have HL:=hid (G7 h.l _ w2 (hl.on hb2) hs)
 have d3:=aD (p1 3 _ rfl)
 go_enter func21,ntmps21
 go_wp2_with fail
 refine HL.out.mono ?_
 rintro e w3 ⟨v1,S1,rfl,hb3,ho1,hn1⟩
 obtain⟨r1,n1,d1,rfl,-,-,-⟩:=ho1.slice
 have q1:∀o v,(#[.int .i64 h.k,.int .i64 h.n,.int .i64 h.a,.slice q h.l.length c,.slice r x.len d]:Array Value)[o]? = some v->U w3 w.heap.size o=some v:=λ o v hv=>aE hb3 _ _ _ (by omega) (p1 o v hv)
 have q2:∀o v,(#[.int .i64 0,.int .i64 0,.int .i64 0,.slice none 0 0,.slice none 0 0]:Array Value)[o]? = some v->U w3 (w.heap.size+1) o=some v:=λ o v hv=>aE hb3 _ _ _ (by omega) (p2 o v hv)
 have g3:=aD (q1 3 _ rfl)
 have g4:=aD (q1 4 _ rfl)
 have f3:=aI (q1 3 _ rfl)
 have HB3:=hid (aB hb2 hb3)
 have HO1:=hid ho1
 have HN1:=hid hn1
 have HX:=hid hx
 have HK:=hid hk
 have Q1:=hid q1
 have Q2:=hid q2
 have HS2:=hid hs2
 clear hw2 hb2 hs2 p1 p2 HL d3 hb3 ho1 hn1 hl hx hk q1 q2 hs ha
 go_wp2_with fail
 obtain⟨w4,hw4⟩:∃w4,w3.setCell ⟨w.heap.size,3,none⟩ (.slice r1 n1 d1)=w4:=⟨_,rfl⟩
 have HB4:Hid (Below w.heap.size w w4):=hid (by rw[<-hw4];exact HB3.out.setCell (p:=⟨w.heap.size,3,none⟩) (Nat.le_refl _) _)
 have hsz4:w4.heap.size=w3.heap.size:=by rw[<-hw4];simp
 have Q3:Hid (∀o v,(#[.int .i64 h.k,.int .i64 h.n,.int .i64 h.a,.slice r1 n1 d1,.slice r x.len d]:Array Value)[o]? = some v->U w4 w.heap.size o=some v):=λ o v hv=>by
  rw[<-hw4]
  by_cases h3:o=3
  ·subst h3
   cases hv
   exact fQ (Q1.out 3 _ rfl)
  ·refine bK (Q1.out o v ?_) (SB (Ne.symm h3))
   match o,h3,hv with
   | 0,_,hv=>exact hv
   | 1,_,hv=>exact hv
   | 2,_,hv=>exact hv
   | 4,_,hv=>exact hv
   | 3,h3,_=>exact absurd rfl h3
 have Q4:Hid (∀o v,(#[.int .i64 0,.int .i64 0,.int .i64 0,.slice none 0 0,.slice none 0 0]:Array Value)[o]? = some v->U w4 (w.heap.size+1) o=some v):=λ o v hv=>by
  rw[<-hw4];exact bK (Q2.out o v hv) (SD (by omega))
 have HO4:Hid (Own w4 w2.heap.size _ [.slice r1 n1 d1] S1):=hid (by rw[<-hw4];exact HO1.out.setCell (p:=⟨w.heap.size,3,none⟩) (HO1.out.notMem (by have:=HS2.out;simp;omega)) _)
 rw[hw4]
 refine (HK.out w4 _ (HX.out.on HB4.out)).mono ?_
 rintro e w5 ⟨v2,S2,rfl,hb5,ho2,hn2⟩
 obtain⟨r2,n2,d2,rfl,-,-,-⟩:=ho2.slice
 have hlt4:w.heap.size+1<w4.heap.size:=by
  have h2:=HS2.out
  have h3:=(HO1.out.mem)
  have h4:=aL (Q4.out 0 _ rfl)
  exact h4
 have q5:∀o v,(#[.int .i64 h.k,.int .i64 h.n,.int .i64 h.a,.slice r1 n1 d1,.slice r x.len d]:Array Value)[o]? = some v->U w5 w.heap.size o=some v:=λ o v hv=>aE hb5 _ _ _ (by omega) (Q3.out o v hv)
 have q6:∀o v,(#[.int .i64 0,.int .i64 0,.int .i64 0,.slice none 0 0,.slice none 0 0]:Array Value)[o]? = some v->U w5 (w.heap.size+1) o=some v:=λ o v hv=>aE hb5 _ _ _ (by omega) (Q4.out o v hv)
 have k0:=aD (q5 0 _ rfl)
 have k1:=aD (q5 1 _ rfl)
 have k2:=aD (q5 2 _ rfl)
 have k3:=aD (q5 3 _ rfl)
 have k4:=aD (q5 4 _ rfl)
 have l4:=aI (q5 4 _ rfl)
 have m0:=aD (q6 0 _ rfl)
 have m1:=aD (q6 1 _ rfl)
 have m2:=aD (q6 2 _ rfl)
 have m3:=aD (q6 3 _ rfl)
 have m4:=aD (q6 4 _ rfl)
 have o0:=aI (q6 0 _ rfl)
 have o1:=aI (q6 1 _ rfl)
 have o2:=aI (q6 2 _ rfl)
 have o3:=aI (q6 3 _ rfl)
 have o4:=aI (q6 4 _ rfl)
 have HB5:=hid (aB HB4.out hb5)
 have HO5:=hid ho2
 have HO6:=hid (HO4.out.below hb5)
 have HN2:=hid hn2
 have Q6:=hid q6
 have HM4:=hid (λ b hb=>(HO4.out.mem b hb).2)
 clear hw4 hsz4 Q3 Q4 HO4 Q1 Q2 HB3 HO1 g3 g4 f3 q5 q6 hb5 ho2 hn2 HX HK HB4
 go_wp2_with fail
 obtain⟨W0,hW0⟩:∃W0,w5.setCell ⟨w.heap.size,4,none⟩ (.slice r2 n2 d2)=W0:=⟨_,rfl⟩
 have p6:∀o v,(#[.int .i64 0,.int .i64 0,.int .i64 0,.slice none 0 0,.slice none 0 0]:Array Value)[o]? = some v->U W0 (w.heap.size+1) o=some v:=λ o v hv=>by
  rw[<-hW0];exact bK (Q6.out o v hv) (SD (by omega))
 have hk0:∀k,k≠w.heap.size->W0.heap[k]? = w5.heap[k]?:=λ k hk=>by rw[<-hW0];exact Below.heap_setCell _ _ _ k hk
 have hBW:Below w.heap.size w W0:=by rw[<-hW0];exact HB5.out.setCell (p:=⟨w.heap.size,4,none⟩) (Nat.le_refl _) _
 rw[hW0]
 obtain⟨W,hW⟩:∃W,((((W0.setCell ⟨w.heap.size+1,0,none⟩ (.int .i64 h.k)).setCell ⟨w.heap.size+1,1,none⟩ (.int .i64 h.n)).setCell ⟨w.heap.size+1,2,none⟩ (.int .i64 h.a)).setCell ⟨w.heap.size+1,3,none⟩ (.slice r1 n1 d1)).setCell ⟨w.heap.size+1,4,none⟩ (.slice r2 n2 d2)=W:=⟨_,rfl⟩
 obtain⟨x0,x1,x2,x3,x4,hkW⟩:=rL (p6 0 _ rfl) (p6 1 _ rfl) (p6 2 _ rfl) (p6 3 _ rfl) (p6 4 _ rfl) hW
 have hBF:Below w.heap.size w W:=by
  rw[<-hW]
  exact ((((hBW.setCell (p:=⟨w.heap.size+1,0,none⟩) (Nat.le_succ _) _).setCell (p:=⟨w.heap.size+1,1,none⟩) (Nat.le_succ _) _).setCell (p:=⟨w.heap.size+1,2,none⟩) (Nat.le_succ _) _).setCell (p:=⟨w.heap.size+1,3,none⟩) (Nat.le_succ _) _).setCell (p:=⟨w.heap.size+1,4,none⟩) (Nat.le_succ _) _
 rw[hW]
 have hs2:=HS2.out
 have hlt:∀b∈S1++S2,w.heap.size+2<=b:=by
  intro b hb
  rcases List.mem_append.1 hb with hb|hb
  ·have:=(HO6.out.mem b hb).1;omega
  ·have:=(HO5.out.mem b hb).1
   omega
 have hO:Own w5 w.heap.size (cJ ty (.cons h x .nil)) [.int .i64 h.k,.int .i64 h.n,.int .i64 h.a,.slice r1 n1 d1,.slice r2 n2 d2] (S1++S2) :=
  ⟨_,rfl,_,rfl,_,rfl,Own.app (HO5.out.lower (by omega)) (HO6.out.lower (by omega))⟩
 refine bodyPost_ret (v:=.agg #[.int .i64 h.k,.int .i64 h.n,.int .i64 h.a,.slice r1 n1 d1,.slice r2 n2 d2]) (by simp[results,results21,go_sem,aD x0,aD x1,aD x2,aD x3,aD x4]) rfl ⟨[.int .i64 h.k,.int .i64 h.n,.int .i64 h.a,.slice r1 n1 d1,.slice r2 n2 d2],S1++S2,rfl,hBF,hO.kept (λ b hb=>?_),?_⟩
 ·have:=hlt b hb
  exact (hkW b (by omega)).trans (hk0 b (by omega))
 ·exact wM w4.heap.size HN1.out HN2.out HM4.out (λ b hb=>(HO5.out.mem b hb).1)
theorem Makes.tm{k n a:Int}{e1 e2:Nat}{x s x' s':Ds}{w w':World}{en:Ending}(h:Makes (.lit (.int .i64 k) (.lit (.int .i64 n) (.lit (.int .i64 a) (.row 1 e1 x s (.row 5 e2 x' s' .nil))))) w en w') :
  ∃r m d r' m' d' S,en=.returned (.agg #[.int .i64 k,.int .i64 n,.int .i64 a,.slice r m d,.slice r' m' d'])/\Below w.heap.size w w' /\
   Own w' w.heap.size (.lit (.int .i64 k) (.lit (.int .i64 n) (.lit (.int .i64 a) (.row 1 e1 x s (.row 5 e2 x' s' .nil))))) [.int .i64 k,.int .i64 n,.int .i64 a,.slice r m d,.slice r' m' d'] S/\S.Nodup:=by
 obtain⟨xs,S,rfl,hb,ho,hn⟩:=h
 have ho':=ho
 obtain⟨_,rfl,_,rfl,_,rfl,v,ys,_,_,_,_,_,_,rfl,h1,-,-,⟨v',ys',_,_,_,_,_,_,rfl,h2,-,-,⟨rfl,-⟩,-⟩,-⟩:=ho'
 have g1:∃r m d,v=.slice r m d:=by
  rcases h1 with ⟨p,rfl,-⟩|⟨g,m,cap,cur,-,rfl,-⟩
  ·exact⟨_,_,_,rfl⟩
  ·exact⟨_,_,_,rfl⟩
 have g2:∃r m d,v'=.slice r m d:=by
  rcases h2 with ⟨p,rfl,-⟩|⟨g,m,cap,cur,-,rfl,-⟩
  ·exact⟨_,_,_,rfl⟩
  ·exact⟨_,_,_,rfl⟩
 obtain⟨r,m,d,rfl⟩:=g1
 obtain⟨r',m',d',rfl⟩:=g2
 exact⟨r,m,d,r',m',d',S,rfl,hb,ho,hn⟩
theorem IJ{t:Ts}{k:Nat}(y:Tys)(h:k<t.len):cJ y (t.take (k+1))=(cJ y (t.take k)).app (cJ y (.cons (t.hd k) (t.kd k) .nil)):=by
 rw[Ts.take_succ h,Ts.snoc,NC]
theorem IK(y:Tys)(t:Ts):(cJ y t).ones:=by
 induction t with
 | nil=>trivial
 | cons h x r _ ih=>exact⟨rfl,rfl,rfl,ih⟩
theorem Ts.len_le_size(t:Ts):t.len<=t.size:=Nat.le_trans t.len_le_count t.count_le_size
theorem tQ(M:Nat):∀(t:Ts) (va:Value) (w:World),t.count<M->RT ty w va t->t.size<=200000000->Calls prog 40 #[va] w (M9 (.row 5 27 (cJ ty t) (tDs ty (cH 1 12)) .nil) w):=by
 induction M with
 | zero=>intro t va w hm;omega
 | succ M ih =>
  intro t va w hm ha hs
  obtain⟨q,c,rfl,hc1,hc2,-⟩:=ha.slice
  unfold maxLen at hc2
  have hl:t.len<=200000000:=by have:=Ts.len_le_size t;omega
  obtain⟨w1,hrun,hR,hB⟩:=RowG.make elT w w.heap.size (t.len+12) .i64 .i64 (by omega) (Nat.le_refl _)
  rw[show ((t.len+12:Nat):Int)=(t.len:Int)+12 by omega] at hrun
  have HR:=hid hR
  have HB:=hid hB
  have HA:=hid ha
  have HSZ:=hid hs
  have IH:=hid ih
  have HM:=hid hm
  clear hR hB ha hs ih hm
  go_enter func40,ntmps40
  go_wp2_with fail
  clear hrun
  go_loopw [3,4] (λ v i wr=>∃(k:Nat) (S:List Nat),k<=t.len/\i=.int .i64 k/\Below w.heap.size w wr/\RowG wr w.heap.size 5 27 v k (cJ ty (t.take k)) S) (λ _ i _=>t.len-(intOf i).toNat)
  case atStart=>exact⟨0,[],Nat.zero_le _,rfl,HB.out,HR.out⟩
  case round =>
   obtain⟨k,S,hk,rfl,hB1,hR1⟩:=hrel
   have HB1:=hid hB1
   have HR1:=hid hR1
   clear hB1 hR1
   by_cases hlt:k<t.len
   ·have r1:decide ((k:Int)<(t.len:Int))=true:=decide_eq_true (by omega)
    obtain⟨b,o,rfl,hb,hu1,hu2,hu3,⟨r,d,hu4,hd1,hd2,hRL⟩,⟨r',d',hu5,hd3,hd4,hRT⟩⟩:=(HA.out.on HB1.out).at_ hlt
    have e1:=aD hu1
    have e2:=aD hu2
    have e3:=aD hu3
    have e4:=aD hu4
    have e5:=aD hu5
    have hsz:=Ts.size_kd hlt
    have hcnt:=Ts.count_kd hlt
    have hRM:RM ty wr (.agg #[.int .i64 (t.hd k).k,.int .i64 (t.hd k).n,.int .i64 (t.hd k).a,.slice r (t.hd k).l.length d,.slice r' (t.kd k).len d']) (t.hd k) (t.kd k):=⟨r,_,d,r',_,d',rfl,hRL,hRT⟩
    have HL:=hid ((xQ (t.hd k) (t.kd k) _ wr hRM (by have:=HSZ.out;omega) (λ W v hv=>IH.out (t.kd k) v W (by have:=HM.out;omega) hv (by have:=HSZ.out;omega))).mono λ _ _ h=>Makes.tm h)
    have HT:=hid (IJ ty hlt)
    have HO:Hid (∀x:Ds,x=cJ ty (.cons (t.hd k) (t.kd k) .nil)->x.ones):=λ x hx=>by rw[hx];exact IK _ _
    have hbase:w.heap.size<=wr.heap.size:=HB1.out.size
    clear hu1 hu2 hu3 hu4 hu5 hd1 hd2 hd3 hd4 hRL hRT hsz hcnt hRM
    go_wp2_with fail
    refine HL.out.mono ?_
    rintro e w3 ⟨s1,n1,d1,s2,n2,d2,S2,rfl,hb3,hown,hnd⟩
    obtain⟨cs,hcs⟩:∃cs:List Value,[.int .i64 (t.hd k).k,.int .i64 (t.hd k).n,.int .i64 (t.hd k).a,.slice s1 n1 d1,.slice s2 n2 d2]=cs:=⟨_,rfl⟩
    have hB4:=aB hb3 (aB (aA w3 (.cells cs.toArray 27)) (aA _ (.cells cs.toArray 27)))
    have hR4:=HR1.out.below hB4
    rw[hcs] at hown
    have hO4:=(hown.below (aB (aA w3 (.cells cs.toArray 27)) (aA _ (.cells cs.toArray 27)))).lower hbase
    obtain⟨v',w4,hrun4,hR5,hg,-⟩:=RowG.append (ty:=25) (k:=1) elT hR4 HR1.out.lt_of hO4 hnd (λ b hb=>(hown.mem b hb).1) (HO.out _ rfl) ⟨(w3.alloc (.cells cs.toArray 27)).heap.size,0,none⟩ 1 (by rw[<-hcs];rfl) (gK _ _ 27) (by omega) (Nat.le_trans hbase hB4.size)
    have HB4:Hid (Below w.heap.size w w4):=hid ((aB HB1.out hB4).grown hg (aB HB1.out hB4).size hR4.ge)
    have HR4:Hid (RowG w4 w.heap.size 5 27 v' (k+1) (cJ ty (t.take (k+1))) (S++S2)):=hid (by rw[HT.out];exact hR5)
    simp only[World.size_alloc,<-hcs] at hrun4
    clear hb3 hown hnd hB4 hR4 hO4 hR5 hg HT HL HR1 HO hcs
    go_wp2_with (at_builtin;refine aR rfl _ _ 25 rfl _ _ _ rfl rfl hrun4 ?_)
    clear hrun4
    go_roundw
    case rel=>exact⟨k+1,_,by omega,by go_num,HB4.out,HR4.out⟩
    case measure=>simp[intOf];omega
   ·obtain rfl:k=t.len:=by omega
    have r1:decide ((t.len:Int)<(t.len:Int))=false:=decide_eq_false (by omega)
    have HR2:Hid (RowG wr w.heap.size 5 27 _ t.len (cJ ty t) S):=hid (by have:=HR1.out;rw[Ts.take_len] at this;exact this)
    obtain⟨n,hn⟩:∃n,t.len=n:=⟨_,rfl⟩
    rw[hn] at hl r1 HR2 hc1 ⊢
    have HN:=hid hn
    clear HR1 HR HB hk hlt HA HSZ hn IH HM
    go_wp2_with fail
    clear r1
    go_loopw [3,6] (λ v i wx=>∃(j:Nat) (S:List Nat),j<=12/\i=.int .i64 j/\Below w.heap.size w wx/\RowG wx w.heap.size 5 27 v (n+j) ((cJ ty t).app (tDs ty (cH 1 j))) S) (λ _ i _=>12-(intOf i).toNat)
    case atStart=>exact⟨0,S,Nat.zero_le _,rfl,HB1.out,by rw[show tDs ty (cH 1 0)=.nil from rfl,Ds.app_nil];exact HR2.out⟩
    case round =>
     obtain⟨j,S',hj,rfl,hBj,hRj⟩:=hrel
     have HBj:=hid hBj
     have HRj:=hid hRj
     clear hBj hRj HR2 HB1
     by_cases hlt:j<12
     ·have r1:decide ((j:Int)<12)=true:=decide_eq_true (by omega)
      have HM:=hid (pV 1 j wr (by decide) (by omega))
      have hbase:w.heap.size<=wr.heap.size:=HBj.out.size
      obtain⟨m,hm⟩:∃m,jG 1 j=m:=⟨_,rfl⟩
      have HMM:Hid (R5 1 j=⟨0,m,0,[]⟩):=hid (by unfold R5;rw[hm])
      rw[hm] at HM
      clear hm
      go_wp2_with fail
      refine HM.out.mono ?_
      rintro e w3 ⟨rfl,hb3⟩
      have hB4:=aB hb3 (aA w3 (.cells #[.int .i64 0,.int .i64 m,.int .i64 0,.slice none 0 0,.slice none 0 0] 27))
      have hR4:=HRj.out.below hB4
      have hO4:Own (w3.alloc (.cells #[.int .i64 0,.int .i64 m,.int .i64 0,.slice none 0 0,.slice none 0 0] 27)) w.heap.size (tDs ty (.cons ⟨0,m,0,[]⟩ .nil .nil)) [.int .i64 0,.int .i64 m,.int .i64 0,.slice none 0 0,.slice none 0 0] [] :=
       ⟨_,rfl,_,rfl,_,rfl,_,_,[],[],[],[],[],[],rfl,.inl ⟨none,rfl,rfl,rfl,rfl⟩,⟨rfl,rfl⟩,⟨rfl,rfl⟩,⟨_,_,[],[],[],[],[],[],rfl,.inl ⟨none,rfl,rfl,rfl,rfl⟩,⟨rfl,rfl⟩,⟨rfl,rfl⟩,⟨rfl,rfl⟩,rfl⟩,rfl⟩
      obtain⟨v',w4,hrun4,hR5,hg,-⟩:=RowG.append (ty:=25) (k:=1) elT hR4 hR4.lt_of hO4 (by simp) (by simp) (CE ty _) ⟨w3.heap.size,0,none⟩ 1 rfl (gK _ _ 27) (by omega) (Nat.le_trans hbase hB4.size)
      have HB4:Hid (Below w.heap.size w w4):=hid ((aB HBj.out hB4).grown hg (aB HBj.out hB4).size hR4.ge)
      have HR4:Hid (RowG w4 w.heap.size 5 27 v' (n+(j+1)) ((cJ ty t).app (tDs ty (cH 1 (j+1)))) (S'++[])):=hid (by rw[cH,HMM.out,PW,<-Ds.app_assoc];exact hR5)
      clear hb3 hB4 hR4 hO4 hR5 hg HM HRj HMM
      go_wp2_with (at_builtin;refine aR rfl _ _ 25 rfl _ _ _ rfl rfl hrun4 ?_)
      clear hrun4
      go_roundw
      case rel=>exact⟨j+1,_,by omega,by go_num,HB4.out,HR4.out⟩
      case measure=>simp[intOf];omega
     ·obtain rfl:j=12:=by omega
      obtain⟨p',c',rfl,hc3,hc4⟩:=HRj.out.cap
      unfold maxLen at hc4
      have HX:=hid (RowG.cut (m:=n) (s:=tDs ty (cH 1 12)) HRj.out (by omega) (by rw[V2,HN.out]))
      have HND:Hid (((Value.slice p' (n+12) c').ownBlock.toList++S').Nodup):=hid (by obtain⟨_,_,_,h⟩:=HRj.out;exact h)
      clear hj hlt HRj
      go_wp2_with fail
      all_goals go_ret
      exact⟨_,_,rfl,HBj.out,HX.out,HND.out⟩
theorem AK(h:Hd)(x:Ts)(va:Value)(w:World)(ha:RM ty w va h x)(hs:aH h.l+x.size<=200000000):Calls prog 21 #[va] w (Makes (cJ ty (.cons h x .nil)) w) :=
 xQ h x va w ha (by omega) λ W v hv=>tQ _ x v W (Nat.lt_succ_self _) hv (by omega)
end
section
end
section
structure Grown (w:World) where
 it:World
 below:Below w.heap.size w it
instance (w:World):Nonempty (Grown w):=⟨⟨w,Below.refl _ _⟩⟩
theorem iW{P:Program}{id:Nat}{Q:Exit->Act->World->Prop}{a:Act}{w:World}{l:List Oper}(hm:P.follows .mixedOrders=true)(hB:Region.lexB .any l.toArray=true)
  (h:wpQuiet P l.toArray (λ w'=>∃n:Grown w,w'=n.it) (λ a'=>∀w',(∃n:Grown w,w'=n.it)->Q .normal a' w') l a):(Code.region id l.toArray true).wp P Q a w :=
 wp_region_quiet (C:=λ w'=>∃n:Grown w,w'=n.it) hm hB ⟨⟨_,aZ w⟩,rfl⟩ (by simpa using h)
theorem vQ{P:Program}{f:FuncId}{args:Array Value}{w:World}{n:Grown w}{v:Value}(h:Calls P f args n.it λ e w'=>e=.returned v/\Below n.it.heap.size n.it w') :
  Calls P f args n.it λ e w''=>e=.returned v/\∃m:Grown w,w''=m.it:=h.mono λ _ w' ⟨he,hb⟩=>⟨he,⟨w',aB n.below hb⟩,rfl⟩
theorem Grown.cell{w:World}{b o:Nat}{v:Value}(h:U w b o=some v):∀n:Grown w,n.it.cell? ⟨b,o,none⟩=some v:=λ n=>aD (aE n.below b o v (aL h) h)
end
section
def bH(o:Oper):Bool:=match o.op with
 | .move _=>true
 | .assign _=>true
 | .pick _ _ _=>true
 | .load _ _=>true
 | .binOp _ _ _ _ _=>true
 | .unOp _ _ _=>true
 | .indexAddr _ _ _=>true
 | .fieldAddr _ _ _=>true
 | .extract _ _=>true
 | .slice _ _ _ _ _=>true
 | .call c=>match c.callee,c.args.size with
  | .builtin .len,1=>true
  | _,_=>false
 | _=>false
theorem tW{α:Type}{s:Result α}{g:α->World->Result Next}{n:Next}{w':World}(hg:∀a w n w',g a w=.ok n w'->∃v,n=.value v)(h:s.andThen g=.ok n w'):∃v,n=.value v:=by
 cases s with
 | ok a w=>exact hg a w n w' (by simpa using h)
 | halt x w=>simp[Result.andThen] at h
theorem JG{P:Program}{α:Type}{s:Sem α}{f:α->Value}{w w':World}{n:Next}(h:(do let a <-s;pure (Next.value (f a)):Sem Next).run P w=.ok n w'):∃v,n=.value v:=by
 rw[Sem.run_bind] at h
 exact tW (λ a w n w' h=>by simp at h;exact⟨_,h.1.symm⟩) h
theorem D4{P:Program}{ρ:Operand->Value}{o:Oper}{w w':World}{n:Next}(hr:bH o=true)(h:(execOp ρ o).run P w=.ok n w'):∃v,n=.value v:=by
 obtain⟨dst,op,typ,pos,after,guard⟩:=o
 unfold bH at hr
 cases op
 case call c =>
  obtain⟨callee,args,argTypes⟩:=c
  cases callee
  case builtin b =>
   cases b
   case len =>
    have hz:args.size=1:=by
     simp only at hr
     split at hr
     ·assumption
     ·cases hr
    obtain⟨x,rfl⟩:∃x,args=#[x]:=by
     cases args with
     | mk l=>match l,hz with
      | [x],_=>exact⟨x,rfl⟩
    simp only[execOp,resolve,invoke,Go.builtin,Sem.run_bind,Sem.run_pure,Result.andThen_ok] at h
    exact tW (λ a w n w' h=>by simp at h;exact⟨_,h.1.symm⟩) h
   all_goals simp at hr
  all_goals simp at hr
 all_goals first
  | (simp at hr;done)
  | exact JG h
  | (simp[execOp] at h;exact⟨_,h.1.symm⟩)
def bar(o:Oper):Oper:=if bH o=true then o else { o with op:=.send (.const undef) (.const undef) }
theorem M1(o:Oper)(ops:Array Oper)(ts:Array Value):Region.wanted (bar o) (yielded ops ts)=Region.wanted o (yielded ops ts):=by
 unfold bar;split<;>rfl
theorem yR(o:Oper):(bar o).dst=o.dst:=by
 unfold bar;split<;>rfl
def F3(listed:Array Bool)(k:Nat):Nat->Array Bool
 | 0=>listed
 | n+1=>F3 (listed.setIfInBounds k true) (k+1) n
def zZ(md:Region.Mode)(ops:Array Oper)(listed:Array Bool)(k:Nat):Nat->Bool
 | 0=>true
 | n+1=>Region.free md ops listed k && ((Region.ready md ops listed).contains k && zZ md ops (listed.setIfInBounds k true) (k+1) n)
theorem R4{P:Program}{md:Region.Mode}{ops:Array Oper}{Q:Exit->Act->World->Prop}{S:World->Prop}(hs:Region.noSelect ops=true)(hQ:∀c a d v w,Q (.panic c) (Act.put a d v) w->Q (.panic c) a w){w:World}(hS:S w)(fuel:Nat) :
  ∀(l:List Oper) (k:Nat) (listed:Array Bool) (a:Act),(∀j,j<l.length->ops[k+j]? = l[j]?)->zZ md ops listed k l.length=true ->
   wpQuiet P ops S (λ a'=>wpAnyH P md ops Q S fuel (F3 listed k l.length) a' w) (l.map bar) a->wpAnyH P md ops Q S (fuel+l.length) listed a w
 | [],_,_,_,_,_,h=>h
 | o :: l,k,listed,a,hj,ht,h=>by
  have h0:ops[k]? = some o:=by have:=hj 0 (by simp);simpa using this
  simp only[List.length_cons,zZ,Bool.and_eq_true] at ht
  have next:∀a',wpQuiet P ops S (λ a'=>wpAnyH P md ops Q S fuel (F3 listed k (l.length+1)) a' w) (l.map bar) a'->wpAnyH P md ops Q S (fuel+l.length) (listed.setIfInBounds k true) a' w:=λ a' h' =>
   R4 hs hQ hS fuel l (k+1) _ a' (λ j hjl=>by
    have:=hj (j+1) (by simp;omega)
    rw[show k+1+j=k+(j+1) by omega]
    simpa using this) ht.2.2 h'
  rw[List.map_cons] at h
  unfold wpQuiet at h
  rw[M1,yR] at h
  split at h
  ·rename_i hw
   obtain⟨v,h1,h2⟩:=h
   rw[yR] at h2
   have hrd:bH o=true:=by
    by_cases hb:bH o=true
    ·exact hb
    ·have h3:=h1 w hS
     unfold Oper.quietAt Oper.quietUpon bar at h3
     rw[if_neg hb] at h3
     simp[execOp] at h3
   have hbo:bar o=o:=by unfold bar;rw[if_pos hrd]
   rw[hbo] at h1
   refine wpAnyH_take (i:=k) (v:=v) h0 hs ht.1 ht.2.1 (λ c a w h=>hQ c a _ _ w h) (Or.inl ⟨hw,λ w' hw'=>?_⟩) hS (next _ h2)
   have h3:=h1 w' hw'
   unfold Oper.quietAt Oper.quietUpon at h3
   generalize hres:(execOp a.eval o).run P w'=res at h3
   cases res with
   | ok n w1 =>
    obtain⟨u,rfl⟩:=D4 hrd hres
    obtain⟨rfl,rfl⟩:=h3
    rfl
   | halt x w1=>exact absurd h3 id
  ·rename_i hw
   exact wpAnyH_take (i:=k) (v:=undef) h0 hs ht.1 ht.2.1 (λ c a w h=>hQ c a _ _ w h) (Or.inr ⟨by simpa using hw,rfl⟩) hS (next _ h)
theorem yU{P:Program}{id:Nat}{Q:Exit->Act->World->Prop}{a:Act}{w:World}(l r:List Oper)(hm:P.follows .mixedOrders=true)(hs:Region.noSelect (l++r).toArray=true)
  (ht:zZ .any (l++r).toArray (Array.replicate (l++r).length false) 0 l.length=true) (hQ:∀c a d v w,Q (.panic c) (Act.put a d v) w->Q (.panic c) a w)
  (h:wpQuiet P (l++r).toArray (λ w'=>∃n:Grown w,w'=n.it) (λ a'=>wpAnyH P .any (l++r).toArray Q (λ w'=>∃n:Grown w,w'=n.it) r.length (F3 (Array.replicate (l++r).length false) 0 l.length) a' w.drew) (l.map bar) a) :
  (Code.region id (l++r).toArray true).wp P Q a w:=by
 refine wp_region_held (S:=λ w'=>∃n:Grown w,w'=n.it) hm ?_
 have:=R4 (md:=.any) (ops:=(l++r).toArray) (Q:=Q) (S:=λ w'=>∃n:Grown w,w'=n.it) hs hQ (w:=w.drew) ⟨⟨w.drew,aZ w⟩,rfl⟩ r.length l 0 (Array.replicate (l++r).length false) a
  (λ j hj=>by simp[List.getElem?_append_left hj]) ht h
 have e1:(l++r).toArray.size=r.length+l.length:=by simp;omega
 have e2:Array.replicate (l++r).length false=Array.replicate (l++r).toArray.size false:=by simp
 rw[e2] at this
 rw[e1] at this ⊢
 exact this
theorem tX{P:Program}{id:Nat}{Q:Exit->Act->World->Prop}{a:Act}{w:World}{L:List Oper}(n:Nat)(hn:n<=L.length)(hm:P.follows .mixedOrders=true)(hs:Region.noSelect L.toArray=true)
  (ht:zZ .any L.toArray (Array.replicate L.length false) 0 n=true) (hQ:∀c a d v w,Q (.panic c) (Act.put a d v) w->Q (.panic c) a w)
  (h:wpQuiet P L.toArray (λ w'=>∃n:Grown w,w'=n.it) (λ a'=>wpAnyH P .any L.toArray Q (λ w'=>∃n:Grown w,w'=n.it) (L.length-n) (F3 (Array.replicate L.length false) 0 n) a' w.drew) ((L.take n).map bar) a) :
  (Code.region id L.toArray true).wp P Q a w:=by
 have e1:(L.take n).length=n:=by simp[Nat.min_eq_left hn]
 have e2:L.take n++L.drop n=L:=List.take_append_drop n L
 have e3:(L.drop n).length=L.length-n:=by simp
 have:=yU (id:=id) (Q:=Q) (a:=a) (w:=w) (P:=P) (L.take n) (L.drop n) hm (by rw[e2];exact hs) (by rw[e2,e1];exact ht) hQ (by rw[e2,e1,e3];exact h)
 rw[e2] at this
 exact this
theorem aP{P:Program}{md:Region.Mode}{ops:Array Oper}{Q:Exit->Act->World->Prop}{S:World->Prop}{fuel:Nat}{listed:Array Bool}{a:Act}{w:World}{i:Nat}{o:Oper}(hr:Region.ready md ops listed=[i])(ho:ops[i]? = some o)(hw:Region.wanted o (yielded ops a.tmps)=true)
  (h:∀K':Act->World->Prop,Shut (∀a w,S w->(S w->wpAnyH P md ops Q S fuel (listed.setIfInBounds i true) a w)->K' a w)->Oper.wp P o a w K' Q):wpAnyH P md ops Q S (fuel+1) listed a w :=
 wpAnyH_ready hr (by simp) (AllReadyH.cons ho (λ K' hK=>by rw[if_pos hw];exact h K' hK) AllReadyH.nil)
structure GrownB (B:Nat) (w:World) where
 it:World
 below:Below B w it
instance (B:Nat) (w:World):Nonempty (GrownB B w):=⟨⟨w,Below.refl _ _⟩⟩
theorem GrownB.cell{B:Nat}{w:World}{b o:Nat}{v:Value}(h:U w b o=some v)(hb:b<B):∀n:GrownB B w,n.it.cell? ⟨b,o,none⟩=some v:=λ n=>aD (aE n.below b o v hb h)
def SA : Oper := { dst := none, op := .send (.const undef) (.const undef), type := 0, pos := "", after := #[], guard := none }
def uV(listed:Array Bool):List Nat->Array Bool
 | []=>listed
 | k :: r=>uV (listed.setIfInBounds k true) r
def zY(md:Region.Mode)(ops:Array Oper)(listed:Array Bool):List Nat->Bool
 | []=>true
 | k :: r=>Region.free md ops listed k && ((Region.ready md ops listed).contains k && zY md ops (listed.setIfInBounds k true) r)
theorem bR{P:Program}{md:Region.Mode}{L:List Oper}{Q:Exit->Act->World->Prop}{S:World->Prop}(hs:Region.noSelect L.toArray=true)(hQ:∀c a d v w,Q (.panic c) (Act.put a d v) w->Q (.panic c) a w){w:World}(hS:S w)(fuel:Nat) :
  ∀(is:List Nat) (listed:Array Bool) (a:Act),is.all (λ i=>decide (i<L.length))=true->zY md L.toArray listed is=true ->
   wpQuiet P L.toArray S (λ a'=>wpAnyH P md L.toArray Q S fuel (uV listed is) a' w) ((is.map λ i=>L.getD i SA).map bar) a->wpAnyH P md L.toArray Q S (fuel+is.length) listed a w
 | [],_,_,_,_,h=>h
 | k :: is,listed,a,hj,ht,h=>by
  simp only[List.all_cons,Bool.and_eq_true,decide_eq_true_eq] at hj
  obtain⟨o,ho⟩:∃o,L.getD k SA=o:=⟨_,rfl⟩
  have h0:L.toArray[k]? = some o:=by
   rw[<-ho,List.getElem?_toArray,List.getElem?_eq_getElem hj.1,List.getD_eq_getElem?_getD,List.getElem?_eq_getElem hj.1];rfl
  simp only[zY,Bool.and_eq_true] at ht
  have next:∀a',wpQuiet P L.toArray S (λ a'=>wpAnyH P md L.toArray Q S fuel (uV listed (k :: is)) a' w) ((is.map λ i=>L.getD i SA).map bar) a'->wpAnyH P md L.toArray Q S (fuel+is.length) (listed.setIfInBounds k true) a' w:=λ a' h' =>
   bR hs hQ hS fuel is _ a' hj.2 ht.2.2 h'
  rw[List.map_cons,ho,List.map_cons] at h
  unfold wpQuiet at h
  rw[M1,yR] at h
  split at h
  ·rename_i hw
   obtain⟨v,h1,h2⟩:=h
   rw[yR] at h2
   have hrd:bH o=true:=by
    by_cases hb:bH o=true
    ·exact hb
    ·have h3:=h1 w hS
     unfold Oper.quietAt Oper.quietUpon bar at h3
     rw[if_neg hb] at h3
     simp[execOp] at h3
   have hbo:bar o=o:=by unfold bar;rw[if_pos hrd]
   rw[hbo] at h1
   refine wpAnyH_take (i:=k) (v:=v) h0 hs ht.1 ht.2.1 (λ c a w h=>hQ c a _ _ w h) (Or.inl ⟨hw,λ w' hw'=>?_⟩) hS (next _ h2)
   have h3:=h1 w' hw'
   unfold Oper.quietAt Oper.quietUpon at h3
   generalize hres:(execOp a.eval o).run P w'=res at h3
   cases res with
   | ok n w1 =>
    obtain⟨u,rfl⟩:=D4 hrd hres
    obtain⟨rfl,rfl⟩:=h3
    rfl
   | halt x w1=>exact absurd h3 id
  ·rename_i hw
   exact wpAnyH_take (i:=k) (v:=undef) h0 hs ht.1 ht.2.1 (λ c a w h=>hQ c a _ _ w h) (Or.inr ⟨by simpa using hw,rfl⟩) hS (next _ h)
theorem cV{P:Program}{id:Nat}{Q:Exit->Act->World->Prop}{a:Act}{w:World}{L:List Oper}(B:Nat)(is:List Nat)(hn:is.length<=L.length)(hm:P.follows .mixedOrders=true)(hs:Region.noSelect L.toArray=true)
  (hi:is.all (λ i=>decide (i<L.length))=true) (ht:zY .any L.toArray (Array.replicate L.length false) is=true) (hQ:∀c a d v w,Q (.panic c) (Act.put a d v) w->Q (.panic c) a w)
  (h:wpQuiet P L.toArray (λ w'=>∃n:GrownB B w,w'=n.it) (λ a'=>wpAnyH P .any L.toArray Q (λ w'=>∃n:GrownB B w,w'=n.it) (L.length-is.length) (uV (Array.replicate L.length false) is) a' w.drew) ((is.map λ i=>L.getD i SA).map bar) a) :
  (Code.region id L.toArray true).wp P Q a w:=by
 refine wp_region_held (S:=λ w'=>∃n:GrownB B w,w'=n.it) hm ?_
 have:=bR (md:=.any) (Q:=Q) (S:=λ w'=>∃n:GrownB B w,w'=n.it) hs hQ (w:=w.drew) ⟨⟨w.drew,rfl,rfl,rfl,Nat.le_refl _,λ _ _=>rfl⟩,rfl⟩ (L.length-is.length) is (Array.replicate L.length false) a hi ht h
 have e4:L.toArray.size=L.length-is.length+is.length:=by simp;omega
 have e5:Array.replicate L.length false=Array.replicate L.toArray.size false:=by simp
 rw[e5] at this
 rw[e4] at this ⊢
 exact this
end
section
end
section
def MakesT(h:Hd)(x:Ts)(w:World)(e:Ending)(w':World):Prop :=
 ∃r m d r' m' d' S,e=.returned (.agg #[.int .i64 h.k,.int .i64 h.n,.int .i64 h.a,.slice r m d,.slice r' m' d'])/\Below w.heap.size w w' /\
  Own w' w.heap.size (tDs ty (.cons h x .nil)) [.int .i64 h.k,.int .i64 h.n,.int .i64 h.a,.slice r m d,.slice r' m' d'] S/\S.Nodup
theorem MakesT.of{h:Hd}{x:Ts}{w w':World}{e:Ending}(hm:Makes (tDs ty (.cons h x .nil)) w e w'):MakesT h x w e w':=Makes.tm hm
theorem MakesT.rm{h:Hd}{x:Ts}{w':World}{B:Nat}{r:Option Addr}{m d:Nat}{r':Option Addr}{m' d':Nat}{S:List Nat}(ho:Own w' B (tDs ty (.cons h x .nil)) [.int .i64 h.k,.int .i64 h.n,.int .i64 h.a,.slice r m d,.slice r' m' d'] S) :
  RM ty w' (.agg #[.int .i64 h.k,.int .i64 h.n,.int .i64 h.a,.slice r m d,.slice r' m' d']) h x:=by
 obtain⟨_,e1,_,e2,_,e3,v,ys,e4,h1,v',ys',e5,h2,-⟩:=ho.vs
 cases e1
 cases e2
 cases e3
 cases e4
 cases e5
 exact⟨_,_,_,_,_,_,rfl,h1,h2⟩
end
section
def cE:Array Value:=#[.int .i64 0,.int .i64 0,.int .i64 0,.slice none 0 0,.slice none 0 0]
theorem C8{w wy:World}{b:Nat}{v0 v1 v2 v3 v4:Value}(hz:∀o v,cE[o]? = some v->U wy b o=some v)(hB:Below w.heap.size w wy)(hb:w.heap.size<=b){W:World}
  (hW:((((wy.setCell ⟨b,0,none⟩ v0).setCell ⟨b,1,none⟩ v1).setCell ⟨b,2,none⟩ v2).setCell ⟨b,3,none⟩ v3).setCell ⟨b,4,none⟩ v4=W) :
  (W.cell? ⟨b,0,none⟩=some v0/\W.cell? ⟨b,1,none⟩=some v1/\W.cell? ⟨b,2,none⟩=some v2/\W.cell? ⟨b,3,none⟩=some v3/\W.cell? ⟨b,4,none⟩=some v4)/\Below w.heap.size w W/\(∀k,k≠b->W.heap[k]? = wy.heap[k]?):=by
 obtain⟨x0,x1,x2,x3,x4,hk⟩:=rL (hz 0 _ rfl) (hz 1 _ rfl) (hz 2 _ rfl) (hz 3 _ rfl) (hz 4 _ rfl) hW
 refine⟨⟨aD x0,aD x1,aD x2,aD x3,aD x4⟩,?_,hk⟩
 rw[<-hW]
 exact ((((hB.setCell (p:=⟨b,0,none⟩) hb _).setCell (p:=⟨b,1,none⟩) hb _).setCell (p:=⟨b,2,none⟩) hb _).setCell (p:=⟨b,3,none⟩) hb _).setCell (p:=⟨b,4,none⟩) hb _
theorem Own.block{w:World}{base g sz e n:Nat}{x:Ds}{zs:List Value}{S:List Nat}(h:Own w base x zs S)(hnd:S.Nodup)(hg:w.heap[g]? = some (.cells zs.toArray e (0,0)))(hb:base<=g)(hgS:g ∉ S)(hl:zs.length=n*sz)(hn:n<=100000000) :
  Own w base (.row sz e x .nil .nil) [.slice (some ⟨g,0,none⟩) n n] ([g]++S)/\([g]++S).Nodup:=by
 have hnd':([g]++S).Nodup:=List.nodup_append.2 ⟨by simp,hnd,λ a ha b hb' e1=>by
  simp at ha
  subst ha
  subst e1
  exact hgS hb'⟩
 refine⟨⟨_,[],zs,[],[g],S,[],[],rfl,.inr ⟨g,n,n,zs.toArray,rfl,rfl,hb,hg,Nat.le_refl _,by unfold maxLen;omega,by simpa using hl,by rw[<-h.len,hl],by rw[List.append_nil,hl,<-h.len,hl];exact Nat.le_refl _,by rw[List.append_nil,hl];exact Nat.le_refl _,by simp⟩,h,⟨rfl,rfl⟩,⟨rfl,rfl⟩,by simp⟩,hnd'⟩
end
section
def MixL(l:List Lv)(w:World)(B:Nat)(v:Value)(k:Nat)(wr:World):Prop :=
 ∃ys zs S,wr.ownsRow B 30 1 v l.length (ys++zs)/\ys.length=k/\Own wr B (cB ty (l.take k)) ys S/\Vs (U w) w.heap.size (cB ty (l.drop k)) zs/\(v.ownBlock.toList++S).Nodup
theorem MixL.below{l:List Lv}{w wr wr':World}{B k:Nat}{v:Value}(h:MixL l w B v k wr)(hb:Below wr.heap.size wr wr'):MixL l w B v k wr':=by
 obtain⟨ys,zs,S,h1,h2,h3,h4,h5⟩:=h
 exact⟨ys,zs,S,lJ h1 hb,h2,h3.below hb,h4,h5⟩
theorem MixL.start{l:List Lv}{w w':World}{B:Nat}{v:Value}{xs:List Value}(h1:w'.ownsRow B 30 1 v l.length xs)(h2:Vs (U w) w.heap.size (cB ty l) xs):MixL l w B v 0 w' :=
 ⟨[],xs,[],h1,rfl,⟨rfl,rfl⟩,h2,by cases v.ownBlock<;>simp⟩
theorem MixL.slice{l:List Lv}{w wr:World}{B k:Nat}{v:Value}(h:MixL l w B v k wr):∃p c,v=.slice p l.length c/\l.length<=c/\c<=maxLen:=by
 obtain⟨ys,zs,S,h1,h2,h3,h4,h5⟩:=h
 rcases h1.2 with ⟨rfl,h6⟩|⟨g,cap,cur,rfl,h6,h7,h8,h9,h10,h11⟩
 ·rw[h6];exact⟨none,0,rfl,Nat.le_refl _,Nat.zero_le _⟩
 ·exact⟨_,cap,rfl,h8,h9⟩
theorem MixL.read{l:List Lv}{w wr:World}{B k:Nat}{p:Option Addr}{c:Nat}(h:MixL l w B (.slice p l.length c) k wr)(hk:k<l.length) :
  ∃g q n d,p=some ⟨g,0,none⟩/\B<=g/\U wr g k=some (.slice q n d)/\RP w (.slice q n d) l[k]:=by
 obtain⟨ys,zs,S,h1,h2,h3,h4,h5⟩:=h
 rw[List.drop_eq_getElem_cons hk] at h4
 obtain⟨u,zs',rfl,h6,h7⟩:=h4
 obtain⟨q,n,d,rfl,-,-,-,-⟩:=h6.slice
 rcases h1.2 with ⟨h8,h9⟩|⟨g,cap,cur,h8,h9,h10,h11,h12,h13,h14⟩
 ·omega
 ·cases h8
  refine⟨g,q,n,d,rfl,h9,?_,h6⟩
  have hl:=h1.1
  have:=iK (xs:=ys++Value.slice q n d :: zs') h10 (by rw[hl];exact h14) k (.slice q n d) (by rw[List.getElem?_append_right (by omega)];simp[h2])
  rw[Nat.zero_add] at this
  exact this
theorem O7{l:List Lv}{k:Nat}(h:k<l.length):cB ty (l.take (k+1))=(cB ty (l.take k)).app (.row 2 68 (bY l[k]) .nil .nil):=by
 rw[List.take_succ_eq_append_getElem h,oW];rfl
theorem MixL.step{l:List Lv}{w wr wr':World}{B k g c:Nat}{v2:Value}{S2:List Nat}(h:MixL l w B (.slice (some ⟨g,0,none⟩) l.length c) k wr)(hk:k<l.length)(hBw:B<=wr.heap.size)(hb:Below wr.heap.size wr wr')
  (ho:Own wr' wr.heap.size (.row 2 68 (bY l[k]) .nil .nil) [v2] S2) (hn:S2.Nodup):MixL l w B (.slice (some ⟨g,0,none⟩) l.length c) (k+1) (wr'.setCell ⟨g,k,none⟩ v2):=by
 obtain⟨ys,zs,S,h1,h2,h3,h4,h5⟩:=h
 rw[List.drop_eq_getElem_cons hk] at h4
 obtain⟨u,zs',rfl,h6,h7⟩:=h4
 have hg:g<wr.heap.size:=(h1.lt g (by simp[Value.ownBlock])).2
 have hgS:g ∉ S:=by
  have:=(List.nodup_append.1 h5).2.2 g (by simp[Value.ownBlock])
  exact λ hm=>this g hm rfl
 have hge:∀b∈S2,wr.heap.size<=b:=λ b hm=>(ho.mem b hm).1
 have hlt:∀b∈S,b<wr.heap.size:=λ b hm=>(h3.mem b hm).2
 have hgS2:g ∉ S++S2:=λ hm=>by
  rcases List.mem_append.1 hm with hm|hm
  ·exact hgS hm
  ·have:=hge g hm;omega
 refine⟨ys++[v2],zs',S++S2,?_,by simp[h2],?_,h7,?_⟩
 ·have:=CQ (lJ h1 hb) (k:=k) v2
  rw[List.set_append_right _ _ (by omega),h2,Nat.sub_self,List.set_cons_zero] at this
  rw[List.append_assoc]
  exact this
 ·rw[O7 hk]
  exact Own.setCell (Own.app (ho.lower hBw) (h3.below hb)) (p:=⟨g,k,none⟩) hgS2 v2
 ·refine List.nodup_append.2 ⟨by simp[Value.ownBlock],wM wr.heap.size (List.nodup_append.1 h5).2.1 hn hlt hge,λ a ha b hb' e1=>?_⟩
  simp[Value.ownBlock] at ha
  subst ha
  subst e1
  exact hgS2 hb'
theorem MixL.done{l:List Lv}{w wr:World}{B:Nat}{v:Value}(h:MixL l w B v l.length wr):∃S,Own wr B (.row 1 30 (cB ty l) .nil .nil) [v] S/\S.Nodup:=by
 obtain⟨ys,zs,S,h1,h2,h3,h4,h5⟩:=h
 rw[List.drop_length] at h4
 obtain rfl:zs=[]:=h4
 rw[List.take_length] at h3
 rw[List.append_nil] at h1
 exact⟨_,RowG.own ⟨ys,h1,h3,h5⟩,h5⟩
theorem own_any(k n a:Int)(l:List Lv)(q r:Option Addr)(nl c m d:Nat)(w:World)(hl:RL ty w (.slice q nl c) l)(hs:aH l<=200000000) :
  Calls prog 228 #[.agg #[.int .i64 k,.int .i64 n,.int .i64 a,.slice q nl c,.slice r m d]] w λ e w'=>∃q' n' c' S,e=.returned (.agg #[.int .i64 k,.int .i64 n,.int .i64 a,.slice q' n' c',.slice r m d])/\Below w.heap.size w w'/\Own w' w.heap.size (.row 1 30 (cB ty l) .nil .nil) [.slice q' n' c'] S/\S.Nodup:=by
 have hlen:l.length<=200000000:=by
  have:l.length<=aH l:=by
   clear hs hl
   induction l with
   | nil=>simp
   | cons a r ih=>simp only[List.length_cons,aH];omega
  omega
 obtain⟨w2,hw2⟩:∃w2,(w.alloc (.cells #[.int .i64 k,.int .i64 n,.int .i64 a,.slice q nl c,.slice r m d] 27)).alloc (.cells cE 27)=w2:=⟨_,rfl⟩
 have hb2:Below w.heap.size w w2:=by rw[<-hw2];exact aB (aA _ _) (aA _ _)
 have hs2:w2.heap.size=w.heap.size+2:=by rw[<-hw2];simp
 have p1:∀o v,(#[.int .i64 k,.int .i64 n,.int .i64 a,.slice q nl c,.slice r m d]:Array Value)[o]? = some v->U w2 w.heap.size o=some v:=λ o v hv=>by
  rw[<-hw2];exact aE (aA _ _) _ _ _ (by simp) (aM hv)
 have p2:∀o v,cE[o]? = some v->U w2 (w.heap.size+1) o=some v:=λ o v hv=>by
  have:=aM (w:=w.alloc (.cells #[.int .i64 k,.int .i64 n,.int .i64 a,.slice q nl c,.slice r m d] 27)) (ty:=27) hv
  rw[World.size_alloc,hw2] at this
  exact this
 have c3:=aD (p1 3 _ rfl)
 have HC:=hid (yI l _ w w2 hl hb2 hlen)
 have HL:=hid hl
 have HB2:=hid hb2
 have HS2:=hid hs2
 have P1:=hid p1
 have P2:=hid p2
 have HSZ:=hid hs
 unfold cE at hw2
 clear hl hb2 hs2 p1 p2 hs
 go_enter func228,ntmps228
 go_wp2_with fail
 refine HC.out.mono ?_
 rintro e w3 ⟨v,xs,rfl,hb3,ho3,hv3⟩
 have hlt:w.heap.size+1<w2.heap.size:=by have:=HS2.out;omega
 have P13:Hid (∀o v,(#[.int .i64 k,.int .i64 n,.int .i64 a,.slice q nl c,.slice r m d]:Array Value)[o]? = some v->U w3 w.heap.size o=some v):=λ o v hv=>aE hb3 _ _ _ (by omega) (P1.out o v hv)
 have P23:Hid (∀o v,cE[o]? = some v->U w3 (w.heap.size+1) o=some v):=λ o v hv=>aE hb3 _ _ _ hlt (P2.out o v hv)
 have hX:=MixL.start ho3 hv3
 obtain⟨p',c',rfl,hc1,hc2⟩:=hX.slice
 unfold maxLen at hc2
 have HX:=hid hX
 have HB3:=hid hb3
 have f3:=aI (P13.out 3 _ rfl)
 have g3:=aD (P13.out 3 _ rfl)
 obtain⟨w4,hw4⟩:∃w4,w3.setCell ⟨w.heap.size,3,none⟩ (.slice p' l.length c')=w4:=⟨_,rfl⟩
 have P14:Hid (∀o v,(#[.int .i64 k,.int .i64 n,.int .i64 a,.slice p' l.length c',.slice r m d]:Array Value)[o]? = some v->U w4 w.heap.size o=some v):=λ o v hv=>by
  rw[<-hw4]
  by_cases h3:o=3
  ·subst h3
   have hv':Value.slice p' l.length c'=v:=by simpa using hv
   subst hv'
   exact fQ (P13.out 3 _ rfl)
  ·refine bK (P13.out o v ?_) (λ e=>by injection e with _ e _;omega)
   have:o<5:=by have:=(Array.getElem?_eq_some_iff.1 hv).1;simpa using this
   have hall:o=0∨o=1∨o=2∨o=4:=by omega
   rcases hall with rfl|rfl|rfl|rfl<;>exact hv
 have P24:Hid (∀o v,cE[o]? = some v->U w4 (w.heap.size+1) o=some v):=λ o v hv=>by
  rw[<-hw4]
  exact bK (P23.out o v hv) (λ e=>by injection e with e _;omega)
 have hX4:MixL l w w2.heap.size (.slice p' l.length c') 0 w4:=by
  obtain⟨ys,zs,S,h1,h2,h3,h4,h5⟩:=hX
  rw[<-hw4]
  refine⟨ys,zs,S,?_,h2,h3.setCell (p:=⟨w.heap.size,3,none⟩) (h3.notMem (by show w.heap.size<w2.heap.size;omega)) _,h4,h5⟩
  rcases h1.2 with h6|⟨g,cap,cur,e1,h6,h7,h8⟩
  ·exact⟨h1.1,.inl h6⟩
  ·have hne:g≠w.heap.size:=by omega
   exact⟨h1.1,.inr ⟨g,cap,cur,e1,h6,(Below.heap_setCell _ _ _ _ hne).trans h7,h8⟩⟩
 have HX4:=hid hX4
 have HS4:Hid (w.heap.size+2<=w4.heap.size):=hid (by rw[<-hw4,World.size_setCell];have:=hb3.size;omega)
 have HB4:Hid (Below w.heap.size w w4):=hid (by rw[<-hw4];exact (aB HB2.out hb3).setCell (p:=⟨w.heap.size,3,none⟩) (Nat.le_refl _) _)
 clear hb3 ho3 hv3 hX HC P13 P23 HX hX4 hlt HB3 P1 P2 c3
 have d3:=aD (P14.out 3 _ rfl)
 go_wp2_with fail
 clear d3 hw4 f3 g3
 go_loopw [11] (λ i wr=>∃k:Nat,k<=l.length/\i=.int .i64 k/\Below (w.heap.size+2) w4 wr/\MixL l w w2.heap.size (.slice p' l.length c') k wr) (λ i _=>l.length-(intOf i).toNat)
 case atStart=>exact⟨0,Nat.zero_le _,rfl,Below.refl _ _,HX4.out⟩
 case round =>
  obtain⟨j,hj,rfl,hB1,hX1⟩:=hrel
  have HB1:=hid hB1
  have HX1:=hid hX1
  have HSW:=hid (hB1.size)
  clear hB1 hX1
  by_cases hjl:j<l.length
  ·have r1:decide ((j:Int)<(l.length:Int))=true:=decide_eq_true (by omega)
   have i1:(j:Int)<(l.length:Int):=by omega
   obtain⟨g,q1,n1,d1,rfl,hg,hu,hRP⟩:=HX1.out.read hjl
   have hS4:w.heap.size+2<=w4.heap.size:=HS4.out
   have gr:∀ {o:Nat} {v:Value},U w4 w.heap.size o=some v->∀n:GrownB (w.heap.size+2) wr,n.it.cell? ⟨w.heap.size,o,none⟩=some v:=λ h=>GrownB.cell (aE HB1.out _ _ _ (by omega) h) (by omega)
   have e3:=gr (P14.out 3 _ rfl)
   have hg2:w.heap.size+2<=g:=by have:=HS2.out;omega
   have HLL:=hid (Nat.le_trans hS4 HSW.out)
   have HU:=hid hu
   have HRP:=hid hRP
   have hsz:=sL hjl
   have HLS:Hid (l[j].length<=200000000):=hid (by have:=HSZ.out;omega)
   obtain⟨L,hL⟩:∃L,l.length=L:=⟨_,rfl⟩
   have HEQ:=hid hL
   rw[hL] at e3 r1 i1 hc1 ⊢
   have q4:=aD (aE HB1.out _ _ _ (by omega) (P14.out 3 _ rfl))
   rw[hL] at q4
   clear gr hu hRP hL hsz
   go_wp2_with fail
   refine cV (w.heap.size+2) [0,1,2,3,4,5,6,7] (by decide) (by kernel_rfl) (by kernel_rfl) (by kernel_rfl) (by kernel_rfl) (λ _ _ d _ _ h=>by cases d<;>exact h) ?_
   simp only[List.map_cons,List.map_nil,List.getD_cons_zero,List.getD_cons_succ,bar,bH,List.size_toArray,List.length_cons,List.length_nil,Nat.zero_add,Nat.reduceAdd,if_true,if_false,Bool.false_eq_true]
   repeat (go_big_quiet_step (fail))
   refine wpQuiet_nil ?_
   clear e3
   have hu0:=aD HU.out
   refine aP (i:=8) (fuel:=4) (by kernel_rfl) rfl (by rfl) (λ K' hK=>?_)
   go_simp
   refine hK.out _ _ ⟨⟨wr.drew,(aZ wr).mono HLL.out⟩,rfl⟩ (λ _=>?_)
   clear hK K' hu0
   refine aP (i:=9) (fuel:=3) (by kernel_rfl) rfl (by rfl) (λ K' hK=>?_)
   go_simp
   refine (rR l[j] _ wr.drew (HRP.out.on (aB (HB4.out.trans (HB1.out.mono (by omega))) (aZ wr))) HLS.out).mono ?_
   rintro e w5 ⟨v2,S2,rfl,hb5,ho5,hn5⟩
   obtain⟨r5,n5,d5,rfl,-⟩:=ho5.slice
   refine hK.out _ _ ⟨⟨w5,(aB (aZ wr) hb5).mono HLL.out⟩,rfl⟩ (λ _=>?_)
   clear hK K'
   have hB5:Below wr.heap.size wr w5:=aB (aZ wr) hb5
   have hst:=HX1.out.step hjl (by have:=HLL.out;have:=HS2.out;omega) hB5 ho5 hn5
   have HST:=hid hst
   have u5:=aE hB5 _ _ _ (aL HU.out) HU.out
   have hu5:=aD u5
   have hf5:=aI u5
   have HB5:=hid hB5
   clear hb5 ho5 hn5 hst u5 hB5
   refine aP (i:=10) (fuel:=2) (by kernel_rfl) rfl (by rfl) (λ K' hK=>?_)
   go_simp
   refine hK.out _ _ ⟨⟨w5,HB5.out.mono HLL.out⟩,rfl⟩ (λ _=>?_)
   clear hK K'
   refine aP (i:=11) (fuel:=1) (by kernel_rfl) rfl (by rfl) (λ K' hK=>?_)
   go_simp
   refine hK.out _ _ ⟨⟨w5,HB5.out.mono HLL.out⟩,rfl⟩ (λ _=>?_)
   clear hK K'
   refine aP (i:=12) (fuel:=0) (by kernel_rfl) rfl (by rfl) (λ K' hK=>?_)
   go_simp
   have hB6:Below (w.heap.size+2) wr (w5.setCell ⟨g,j,none⟩ (.slice r5 n5 d5)):=(HB5.out.mono HLL.out).setCell (p:=⟨g,j,none⟩) hg2 _
   refine hK.out _ _ ⟨⟨_,hB6⟩,rfl⟩ (λ _=>?_)
   clear hK K'
   refine wpAnyH_done (by kernel_rfl) ?_ _
   have HB6:=hid (HB1.out.trans hB6)
   rw[HEQ.out] at HST
   obtain⟨w6,hw6⟩:∃w6,w5.setCell ⟨g,j,none⟩ (.slice r5 n5 d5)=w6:=⟨_,rfl⟩
   rw[hw6] at HB6 HST ⊢
   clear hB6 hu5 hf5 hw6
   go_wp2_with fail
   go_roundw
   case rel=>exact⟨j+1,by omega,by go_num,HB6.out,HST.out⟩
   case measure=>simp[intOf];omega
  ·obtain rfl:j=l.length:=by omega
   have r1:decide ((l.length:Int)<(l.length:Int))=false:=decide_eq_false (by omega)
   have hS4:w.heap.size+2<=w4.heap.size:=HS4.out
   have P15:Hid (∀o v,(#[.int .i64 k,.int .i64 n,.int .i64 a,.slice p' l.length c',.slice r m d]:Array Value)[o]? = some v->U wr w.heap.size o=some v):=λ o v hv=>aE HB1.out _ _ _ (by omega) (P14.out o v hv)
   have P25:Hid (∀o v,cE[o]? = some v->U wr (w.heap.size+1) o=some v):=λ o v hv=>aE HB1.out _ _ _ (by omega) (P24.out o v hv)
   obtain⟨S,ho,hn⟩:=HX1.out.done
   have HO:=hid ho
   have HN:=hid hn
   have HBR:=hid (HB4.out.trans (HB1.out.mono (by omega)))
   obtain⟨L,hL⟩:∃L,l.length=L:=⟨_,rfl⟩
   have x0:=aD (P15.out 0 _ rfl)
   have x1:=aD (P15.out 1 _ rfl)
   have x2:=aD (P15.out 2 _ rfl)
   have x3:=aD (P15.out 3 _ rfl)
   have x4:=aD (P15.out 4 _ rfl)
   have m0:=aD (P25.out 0 _ rfl)
   have m1:=aD (P25.out 1 _ rfl)
   have m2:=aD (P25.out 2 _ rfl)
   have m3:=aD (P25.out 3 _ rfl)
   have m4:=aD (P25.out 4 _ rfl)
   have o0:=aI (P25.out 0 _ rfl)
   have o1:=aI (P25.out 1 _ rfl)
   have o2:=aI (P25.out 2 _ rfl)
   have o3:=aI (P25.out 3 _ rfl)
   have o4:=aI (P25.out 4 _ rfl)
   rw[hL] at x3 r1 HO hc1 ⊢
   clear ho hn hL P15 P14
   go_wp2_with fail
   obtain⟨W,hW⟩:∃W,((((wr.setCell ⟨w.heap.size+1,0,none⟩ (.int .i64 k)).setCell ⟨w.heap.size+1,1,none⟩ (.int .i64 n)).setCell ⟨w.heap.size+1,2,none⟩ (.int .i64 a)).setCell ⟨w.heap.size+1,3,none⟩ (.slice p' L c')).setCell ⟨w.heap.size+1,4,none⟩ (.slice r m d)=W:=⟨_,rfl⟩
   obtain⟨⟨y0,y1,y2,y3,y4⟩,hBF,hkW⟩:=C8 P25.out HBR.out (by omega) hW
   rw[hW]
   refine bodyPost_ret (v:=.agg #[.int .i64 k,.int .i64 n,.int .i64 a,.slice p' L c',.slice r m d]) (by simp[results,results228,go_sem,y0,y1,y2,y3,y4]) rfl ⟨_,_,_,S,rfl,hBF,?_,HN.out⟩
   exact (HO.out.lower (by have:=HS2.out;omega)).kept λ b hb=>hkW b (by have:=(HO.out.mem b hb).1;have:=HS2.out;omega)
end
section
theorem NA(d num:Int)(w:World):Calls prog 227 #[.agg #[.int .i64 d],.int .i64 num] w λ e w'=>e=.returned (.tuple #[.int .i64 (wrap64 (num-d)),.bool (decide (d<=num))])/\Below w.heap.size w w':=by
 obtain⟨w2,hw2⟩:∃w2,w.alloc (.cells #[.int .i64 d] 219)=w2:=⟨_,rfl⟩
 have hb2:Below w.heap.size w w2:=by rw[<-hw2];exact aA _ _
 have hc:U w2 w.heap.size 0=some (.int .i64 d):=by rw[<-hw2];exact aM rfl
 have HB:=hid hb2
 have gr:∀n:Grown w2,n.it.cell? ⟨w.heap.size,0,none⟩=some (.int .i64 d):=Grown.cell hc
 have hs2:w.heap.size<=w2.heap.size:=hb2.size
 have HS:=hid hs2
 clear hb2 hc hs2
 go_enter func227,ntmps227
 go_wp2_with fail
 refine iW (by kernel_rfl) (by kernel_rfl) ?_
 repeat (go_big_quiet_step (fail))
 refine wpQuiet_nil ?_
 rintro _ ⟨n,rfl⟩
 go_wp2_with fail
 exact bodyPost_ret (v:=.tuple #[.int .i64 (wrap64 (num-d)),.bool (decide (d<=num))]) (by simp[results,results227,go_sem]) rfl ⟨rfl,aB HB.out n.below⟩
theorem OL(d:Nat)(fn:Fn)(fi cp:Array Value)(k:Int)(i:Nat)(w:World)(hw:KA w)(hd:d<=400000000000):Calls prog 256 #[.agg #[.int .i64 d,.func fn fi cp],.int .i64 k,.int .i64 i] w λ e w'=>e=.returned (.agg #[.int .i64 (aX k i d),.func fn fi cp])/\Below w.heap.size w w':=by
 obtain⟨w2,hw2⟩:∃w2,(w.alloc (.cells #[.int .i64 d,.func fn fi cp] 222)).alloc (.cells #[.int .i64 0,.nilFunc] 222)=w2:=⟨_,rfl⟩
 have hb2:Below w.heap.size w w2:=by rw[<-hw2];exact aB (aA _ _) (aA _ _)
 have c0:U w2 w.heap.size 0=some (.int .i64 d):=by rw[<-hw2];exact aE (aA _ _) _ _ _ (by simp) (aM rfl)
 have c1:U w2 w.heap.size 1=some (.func fn fi cp):=by rw[<-hw2];exact aE (aA _ _) _ _ _ (by simp) (aM rfl)
 have z:∀o v,(#[.int .i64 0,.nilFunc]:Array Value)[o]? = some v->U w2 (w.heap.size+1) o=some v:=λ o v hv=>by
  have:=aM (w:=w.alloc (.cells #[.int .i64 d,.func fn fi cp] 222)) (ty:=222) hv
  rw[World.size_alloc,hw2] at this
  exact this
 have hk2:=OK k i w2 (hw.on hb2 hw.1)
 have HK:=hid hk2
 have HB:=hid hb2
 have Z:=hid z
 have m0:=aD c0
 have m1:=aD c1
 have m2:=aI c0
 have z0:=aD (z 0 _ rfl)
 have z1:=aD (z 1 _ rfl)
 have z2:=aI (z 0 _ rfl)
 have z3:=aI (z 1 _ rfl)
 obtain⟨b,hb⟩:∃b,binds k i=b:=⟨_,rfl⟩
 have HE:Hid (aX k i d=if b then d+1 else d):=hid (by unfold aX;rw[hb])
 rw[hb] at HK
 have hn:(⟨w.heap.size,0,none⟩:Addr)≠⟨w.heap.size+1,0,none⟩:=by intro e;injection e with e _;omega
 have hn1:(⟨w.heap.size,0,none⟩:Addr)≠⟨w.heap.size+1,1,none⟩:=by intro e;injection e with e _;omega
 have hn2:(⟨w.heap.size,0,none⟩:Addr)≠⟨w.heap.size,1,none⟩:=by intro e;injection e with _ e _;omega
 have HW:=hid hw2
 have hn3:(⟨w.heap.size+1,0,none⟩:Addr)≠⟨w.heap.size+1,1,none⟩:=by intro e;injection e with _ e _;omega
 have z4:w2.cell? ⟨w.heap.size+1,1,none⟩=some .nilFunc:=z1
 have hst:∀(W:World) (p:Addr) (m:Mode),(store p (.func fn fi cp) m).run prog W=stored prog W p (.func fn fi cp) m:=λ W p m=>run_store _ W p _ m rfl
 clear hw hk2 hb2 z hb z1
 rw[HE.out]
 cases b
 ·go_enter func256,ntmps256
  go_wp2_with fail
  refine HK.out.mono ?_
  rintro e w2 ⟨rfl,rfl⟩
  go_wp2_with fail
  have y0:((w2.setCell ⟨w.heap.size+1,0,none⟩ (.int .i64 d)).setCell ⟨w.heap.size+1,1,none⟩ (.func fn fi cp)).cell? ⟨w.heap.size+1,0,none⟩=some (.int .i64 d):=by
   rw[World.cell?_setCell_other _ _ _ _ hn3.symm];exact World.cell?_setCell_same' _ _ _ (by rw[z0];rfl)
  have y1:((w2.setCell ⟨w.heap.size+1,0,none⟩ (.int .i64 d)).setCell ⟨w.heap.size+1,1,none⟩ (.func fn fi cp)).cell? ⟨w.heap.size+1,1,none⟩=some (.func fn fi cp) :=
   World.cell?_setCell_same' _ _ _ (by rw[World.cell?_setCell_other _ _ _ _ hn3,z4];rfl)
  exact bodyPost_ret (v:=.agg #[.int .i64 d,.func fn fi cp]) (by simp[results,results256,go_sem,y0,y1]) rfl ⟨rfl,(HB.out.setCell (p:=⟨w.heap.size+1,0,none⟩) (Nat.le_succ _) _).setCell (p:=⟨w.heap.size+1,1,none⟩) (Nat.le_succ _) _⟩
 ·go_enter func256,ntmps256
  go_wp2_with fail
  refine HK.out.mono ?_
  rintro e w2 ⟨rfl,rfl⟩
  go_wp2_with fail
  have y0:(((w2.setCell ⟨w.heap.size,0,none⟩ (.int .i64 ((d:Int)+1))).setCell ⟨w.heap.size+1,0,none⟩ (.int .i64 ((d:Int)+1))).setCell ⟨w.heap.size+1,1,none⟩ (.func fn fi cp)).cell? ⟨w.heap.size+1,0,none⟩=some (.int .i64 ((d:Int)+1)):=by
   rw[World.cell?_setCell_other _ _ _ _ hn3.symm];exact World.cell?_setCell_same' _ _ _ (by rw[World.cell?_setCell_other _ _ _ _ hn,z0];rfl)
  have y1:(((w2.setCell ⟨w.heap.size,0,none⟩ (.int .i64 ((d:Int)+1))).setCell ⟨w.heap.size+1,0,none⟩ (.int .i64 ((d:Int)+1))).setCell ⟨w.heap.size+1,1,none⟩ (.func fn fi cp)).cell? ⟨w.heap.size+1,1,none⟩=some (.func fn fi cp) :=
   World.cell?_setCell_same' _ _ _ (by rw[World.cell?_setCell_other _ _ _ _ hn3,World.cell?_setCell_other _ _ _ _ hn1,z4];rfl)
  exact bodyPost_ret (v:=.agg #[.int .i64 ((d:Int)+1),.func fn fi cp]) (by simp[results,results256,go_sem,y0,y1]) rfl ⟨by simp,((HB.out.setCell (p:=⟨w.heap.size,0,none⟩) (Nat.le_refl _) _).setCell (p:=⟨w.heap.size+1,0,none⟩) (Nat.le_succ _) _).setCell (p:=⟨w.heap.size+1,1,none⟩) (Nat.le_succ _) _⟩
end
section
section
variable {P:Program} {G:World->Prop} {tb:TB} {N:Nat} {Q:Exit->St->Prop} {st:St}
def seqK(P:Program)(G:World->Prop)(tb:TB)(N:Nat)(y:Code)(Q:Exit->St->Prop):Exit->St->Prop:=nN (dL P G tb N y Q) Q
theorem seqK_n{y:Code}:seqK P G tb N y Q .normal st=dL P G tb N y Q st:=rfl
theorem seqK_r{y:Code}:seqK P G tb N y Q .ret st=Q .ret st:=rfl
theorem seqK_e{y:Code}{i:Nat}:seqK P G tb N y Q (.exit i) st=Q (.exit i) st:=rfl
def AskO(P:Program)(G:World->Prop)(tb:TB)(N:Nat)(ops:Array Oper)(os:List Oper)(K:Exit->St->Prop)(o:Oper)(f:Nat)(args:AV)(st:St):Prop:=Ask P G o f args (lZ P G tb N ops os K) st
theorem aC{ops:Array Oper}{os:List Oper}{K:Exit->St->Prop}{o:Oper}{f:Nat}{args ps res:AV}(h:Holds P G f ps res)(ha:args.arg st.bx ps)(hn:st.τ (gF o)=none)(k:lZ P G tb N ops os K (st.out o { av:=res.ren (gF o),tu:=some (gF o,0) })):AskO P G tb N ops os K o f args st:=ask h ha hn k
theorem asksB{ops:Array Oper}{os:List Oper}{K:Exit->St->Prop}{o:Oper}{f:Nat}{args ps:AV}{sz e:Nat}{d:Ds}(h:N0 P G f ps sz e d)(ha:args.arg st.bx ps)(hn:st.τ (gF o)=none)(k:lZ P G tb N ops os K (st.out o { av:=.c (.blk (gF o) 1 sz e (.seg none d .nil) .nil),tu:=some (gF o,1) })):AskO P G tb N ops os K o f args st:=askB h ha hn k
theorem ac_skip:dL P G tb N .skip Q st=Q .normal st:=rfl
theorem ac_label{l:Nat}:dL P G tb N (.label l) Q st=Q .normal st:=rfl
theorem ac_region{i:Nat}{ops:Array Oper}{d:Bool}:dL P G tb N (.region i ops d) Q st=((d=true->tP ops=true)/\lZ P G tb N ops ops.toList Q st):=rfl
theorem ac_seq{x y:Code}:dL P G tb N (.seq x y) Q st=dL P G tb N x (seqK P G tb N y Q) st:=rfl
theorem ac_cond{c:Operand}{x y:Code}:dL P G tb N (.cond c x y) Q st=match ev st N c with
  | .v (.bool b)=>if b=true then dL P G tb N x Q st else dL P G tb N y Q st
  | _=>False:=rfl
theorem ac_block{i:Nat}{c:Code}:dL P G tb N (.block i c) Q st=dL P G tb N c (blkK i Q) st:=rfl
theorem ac_loop{c:Code}:dL P G tb N (.loop c) Q st=N2 P G N c Q st:=rfl
theorem ac_exit{i:Nat}:dL P G tb N (.exit i) Q st=Q (.exit i) st:=rfl
theorem ac_ret:dL P G tb N .ret Q st=Q .ret st:=rfl
theorem vo_nil{ops:Array Oper}:lZ P G tb N ops [] Q st=Q .normal st:=rfl
theorem vo_cons{ops:Array Oper}{o:Oper}{os:List Oper}:lZ P G tb N ops (o :: os) Q st =
  let go:=match rU o.op with
   | some (fo,xs)=>match eR (ev st N fo) with
    | some (f,x,y)=>(x.isLL=true/\y.isLL=true)/\AskO P G tb N ops os Q o f (x.app ((AV.list (xs.map (ev st N))).app y)) st
    | none=>False
   | none=>match BZ tb N o st with
    | some (c,r)=>c/\lZ P G tb N ops os Q (st.out o r)
    | none=>False
  match o.guard with
  | none=>go
  | some (j,want)=>match (ops[j]?).bind (·.dst) with
   | some d=>match ev st N (.tmp d) with
    | .v (.bool b)=>if b=want then go else lZ P G tb N ops os Q (st.out o { av:=.v undef })
    | _=>False
   | none=>False:=rfl
end
theorem lQ:iU KA:=λ _ _ hb h=>⟨Nat.lt_of_lt_of_le h.1 hb.size,λ k hk=>(hb.cell (p:=⟨0,k*5+4,none⟩) h.1).trans (h.2 k hk)⟩
def Dc.bare:Dc->Bool
 | .nil=>true
 | .lit _ r=>r.bare
 | .nilr _ _ r=>r.bare
 | .row _ _ _ _ r=>r.bare
 | .seg _ _ r=>r.bare
 | .blk _ _ _ _ _ _=>false
def AV.bare:AV->Bool
 | .c d=>d.bare
 | .agg d=>d.bare
 | .bx _ _=>false
 | .cons a r=>a.bare && r.bare
 | .tup l=>l.bare
 | .fn _ a b=>a.bare && b.bare
 | _=>true
theorem Dc.bare_ok{d:Dc}(h:d.bare=true)(τ:Nat->Option Nat):d.ok τ:=by
 induction d with
 | nil=>trivial
 | lit v r ih=>exact ih h
 | nilr sz e r ih=>exact ih h
 | row k sz e x r ih=>exact ih h
 | seg k d r ih=>exact ih h
 | blk k v sz e x r _ _=>cases h
theorem AV.bare_ok{a:AV}(h:a.bare=true)(bx:Nat->Option (Nat×Dc))(τ:Nat->Option Nat):a.ok bx τ:=by
 induction a with
 | c d=>exact Dc.bare_ok h τ
 | agg d=>exact Dc.bare_ok h τ
 | bx k o=>cases h
 | cons a r iha ihr=>simp only[AV.bare,Bool.and_eq_true] at h;exact⟨iha h.1,ihr h.2⟩
 | tup l ih=>exact ih h
 | fn f a b iha ihb=>simp only[AV.bare,Bool.and_eq_true] at h;exact⟨iha h.1,ihb h.2⟩
 | _=>trivial
abbrev HH(f:Nat)(ps:List AV)(r:AV):Prop:=Holds prog KA f (.list ps) r
theorem ab {f : Nat} {fn : Func} {c : Code} {l : List AV} {r : AV} {N : Nat} {rs : Array ResultVar} (hf : prog.funcs[f]? = some fn) (hN : fn.ntmps = N) (hrs : fn.results = rs) (hb : fn.body = some c) (hname : fn.name ≠ "runtime.NumGoroutine")
  (hl:l.length<=N) (ho:(l.all AV.bare)=true) (hr:(r.plain && r.still && r.flat)=true) (h:dL prog KA tb N c (GA tb N rs.toList r) (jQ l)):HH f l r:=by
 subst hN hrs
 simp only[Bool.and_eq_true] at hr
 exact rD oE lQ mixed hf hb hname hl (λ a ha=>AV.bare_ok (List.all_eq_true.1 ho a ha) _ _) hr.1.1 hr.1.2 hr.2 h
theorem ab0{f:Nat}{fn:Func}{c:Code}{l:List AV}{r:AV}{N:Nat}{rs:Array ResultVar}(hf:prog.funcs[f]? = some fn)(hN:fn.ntmps=N)(hrs:fn.results=rs)(h:dL prog KA tb N c (GA tb N rs.toList r) (jQ l))
  (hb : fn.body = some c := by exact rfl) (hname : fn.name ≠ "runtime.NumGoroutine" := by decide) (hl : l.length ≤ N := by simp) (ho : (l.all AV.bare) = true := by rfl) (hr : (r.plain && r.still && r.flat) = true := by rfl) : HH f l r := ab hf hN hrs hb hname hl ho hr h
theorem wr1{k:Nat}(h:k<9223372036854775807):IntKind.i64.wrap ((k:Int)+1)=k+1:=by rw[IntKind.wrap_i64];omega
theorem lp{α:Type}(I:α->St)(μ:α->Nat)(x0:α){c:Code}{Q:Exit->St->Prop}{st:St}{N:Nat}(h0:Le KA N st (I x0))(hr:∀x,dL prog KA tb N c (LC KA N I μ x Q) (I x)):N2 prog KA N c Q st:=LZ oE lQ mixed I μ x0 h0 hr
theorem ty_p:ty.p=68:=rfl
theorem ty_l:ty.l=30:=rfl
theorem ty_t:ty.t=27:=rfl
def tmC(k j:Option Tk)(h:Hd)(x:Ts):Dc:=.lit (.int .i64 h.k) (.lit (.int .i64 h.n) (.lit (.int .i64 h.a) (.row k 1 30 (cB ty h.l) (.row j 5 27 (tDs ty x) .nil))))
def tmA(k j:Option Tk)(t:Tm):AV:=.agg (tmC k j t.h t.x)
def tsA(k:Option Tk)(t:Ts):AV:=.c (.row k 5 27 (tDs ty t) .nil)
def iA(n:Int):AV:=.v (.int .i64 n)
abbrev tmO(t:Tm):AV:=tmA (some (0,0)) (some (0,1)) t
abbrev tmL(t:Tm):AV:=tmA none none t
theorem mQ{F:Mem}{w:World}{t:Tm}{v:Value}(hF:∀b o v,F b o=some v->U w b o=some v)(h:RepV (bJ F w) (tmL t) [v]):RM ty w v t.h t.x:=by
 obtain⟨ys,e,h⟩:=h
 obtain⟨-,_,rfl,-,_,rfl,-,_,rfl,-,v1,_,rfl,h1,-,-,v2,_,rfl,h2,-,rfl⟩:=h
 cases e
 obtain⟨p,n,c,rfl,-⟩:=id h1
 obtain⟨p',n',c',rfl,-⟩:=id h2
 exact⟨p,n,c,p',n',c',rfl,h1.mono (λ b o v _ hv=>hF b o v hv) (Nat.le_refl _),h2.mono (λ b o v _ hv=>hF b o v hv) (Nat.le_refl _)⟩
theorem oD{F:Mem}{w:World}{t:Ts}{v:Value}(hF:∀b o v,F b o=some v->U w b o=some v)(h:RepV (bJ F w) (tsA none t) [v]):RT ty w v t:=by
 obtain⟨-,v1,_,e,h1,-⟩:=h
 cases e
 exact h1.mono (λ b o v _ hv=>hF b o v hv) (Nat.le_refl _)
theorem eU(l:List Lv):(cB ty l).good:=by
 have hp:∀p:Lv,(bY p).good:=λ p=>by
  induction p with
  | nil=>trivial
  | cons a r ih=>exact⟨rfl,rfl,ih⟩
 induction l with
 | nil=>trivial
 | cons a r ih=>exact⟨hp a,trivial,ih⟩
theorem cY(t:Ts):(tDs ty t).good:=by
 induction t with
 | nil=>trivial
 | cons h x r ihx ih=>exact⟨rfl,rfl,rfl,eU _,trivial,ihx,trivial,ih⟩
theorem Vs.res{F:Mem}{w w':World}{fp:Tk->List Nat}{base:Nat}(hbs:w.heap.size<=base){x:Ds}{xs:List Value}{S:List Nat}(h:Own w' base x xs S):Vs (jF F w w' fp).F w'.heap.size x xs:=by
 have key:∀(x:Ds) (xs:List Value) (S:List Nat),Own w' base x xs S->Vs (jF F w w' fp).F w'.heap.size x xs:=by
  intro x
  induction x with
  | nil=>rintro xs S ⟨rfl,-⟩;rfl
  | lit v r ih=>rintro xs S ⟨ys,e,h⟩;exact⟨ys,e,ih _ _ h⟩
  | row sz e x s r ihx ihs ihr =>
   rintro xs S ⟨v,ys,zs,us,B,S1,S2,S3,e1,h1,h2,h3,h4,rfl⟩
   refine⟨v,ys,e1,?_,ihr _ _ h4⟩
   have hv:=ihx _ _ h2
   have hl:=h2.len
   have hu:=ihs _ _ h3
   have hul:=h3.len
   rcases h1 with ⟨p,rfl,h5,h6,rfl⟩|⟨g,n,cap,cur,rfl,rfl,hbg,h5,h6,h7,h8,h9,h10,h11,h12⟩
   ·obtain⟨rfl,rfl⟩:=List.append_eq_nil_iff.1 h6
    have hs:s.len=0:=by simpa using hul.symm
    refine⟨p,0,0,rfl,by omega,Nat.le_refl _,Nat.zero_le _,by omega,?_⟩
    by_cases hp:p=none
    ·exact .inl ⟨hp,rfl⟩
    ·exact .inr (.inl ⟨rfl,hs,hp⟩)
   ·have hc:∀j u,(zs++us)[j]? = some u->(jF F w w' fp).F g (0+j)=some u:=λ j u hu=>by
     show (if g<w.heap.size then F g (0+j) else U w' g (0+j))=some u
     rw[if_neg (by omega)]
     exact iK h5 h12 j u hu
    refine⟨_,n,cap,rfl,by omega,h6,h7,by rw[<-hl,<-hul,<-List.length_append];exact h11,.inr (.inr ⟨g,0,rfl,(Array.getElem?_eq_some_iff.1 h5).1,hv.at_ (λ j u hj=>hc j u ?_),hu.at_ (λ j u hj=>?_)⟩)⟩
    ·rw[List.getElem?_append_left (List.getElem?_eq_some_iff.1 hj).1];exact hj
    ·have:=hc (x.len+j) u (by rw[<-hl,List.getElem?_append_right (by omega)];simpa using hj)
     rw[<-Nat.add_assoc] at this;exact this
 exact key x xs S h
theorem nE{f:Nat}{ps:List AV}{t:Tm}(hc:rX prog f)(h:∀(F:Mem) (w:World) (vs:List Value),(∀b o v,F b o=some v->U w b o=some v)->KA w->RepV (bJ F w) (.list ps) vs->Calls prog f vs.toArray w (MakesT t.h t.x w)):HH f ps (tmO t):=by
 refine⟨hc,rfl,λ F w vs hF hG hv=>(h F w vs hF hG hv).mono ?_⟩
 rintro e w' ⟨r,m,d,r',m',d',S,rfl,hb,ho,hn⟩
 obtain⟨_,e0,_,e1,_,e2,v1,_,z1,u1,B1,S1,S2,S3,e3,ho1,ho2,ho3,⟨v2,_,z2,u2,B2,T1,T2,T3,e4,hp1,hp2,hp3,hp4,rfl⟩,rfl⟩:=ho
 cases e0
 cases e1
 cases e2
 cases e3
 cases e4
 have hl:Own w' w.heap.size (.row 1 30 (cB ty t.h.l) .nil .nil) [.slice r m d] (B1++(S1++(S2++[]))):=⟨_,[],z1,u1,B1,S1,S2,[],rfl,ho1,ho2,ho3,⟨rfl,rfl⟩,rfl⟩
 have hx:Own w' w.heap.size (.row 5 27 (tDs ty t.x) .nil .nil) [.slice r' m' d'] (B2++(T1++(T2++[]))):=⟨_,[],z2,u2,B2,T1,T2,[],rfl,hp1,hp2,hp3,⟨rfl,rfl⟩,rfl⟩
 have hS3:T3=[]:=hp4.2
 subst hS3
 have hn':((B1++(S1++(S2++[])))++(B2++(T1++(T2++[])))).Nodup:=by simpa[List.append_assoc] using hn
 obtain⟨n1,n2,n3⟩:=List.nodup_append.1 hn'
 let fp:Tk->List Nat:=λ k=>if k=(0,0) then B1++(S1++(S2++[])) else if k=(0,1) then B2++(T1++(T2++[])) else []
 refine⟨_,fp,rfl,hb,⟨_,rfl,rfl,_,rfl,rfl,_,rfl,rfl,_,rfl,eU _,_,_,rfl,?_,?_,cY _,_,_,rfl,?_,?_,rfl⟩,λ k b hb'=>?_,λ k k' b h1 h2=>?_⟩
 ·obtain⟨_,_,e,h1,-⟩:=Vs.res (F:=F) (fp:=fp) (Nat.le_refl _) hl
  cases e;exact h1
 ·intro j e
  cases e
  exact⟨rfl,_,hl,n1,λ b hb=>hb⟩
 ·obtain⟨_,_,e,h1,-⟩:=Vs.res (F:=F) (fp:=fp) (Nat.le_refl _) hx
  cases e;exact h1
 ·intro j e
  cases e
  exact⟨rfl,_,hx,n2,λ b hb=>hb⟩
 ·have:b∈fp k:=hb'
  simp only[fp] at this
  split at this
  ·exact hl.mem b this
  ·split at this
   ·exact hx.mem b this
   ·cases this
 ·have two:∀(x:Nat) (k:Tk),x∈fp k->(k=(0,0)/\x∈B1++(S1++(S2++[])))∨(k=(0,1)/\x∈B2++(T1++(T2++[]))):=λ x k hx=>by
   simp only[fp] at hx
   split at hx
   ·exact .inl ⟨by assumption,hx⟩
   ·split at hx
    ·exact .inr ⟨by assumption,hx⟩
    ·cases hx
  rcases two b k h1 with ⟨rfl,m1⟩|⟨rfl,m1⟩<;>rcases two b k' h2 with ⟨rfl,m2⟩|⟨rfl,m2⟩
  ·rfl
  ·exact absurd rfl (n3 b m1 b m2)
  ·exact absurd rfl (n3 b m2 b m1)
  ·rfl
theorem qF{g:Gh}{a:AV}{vs:List Value}(h:RepV g (.list [a]) vs):∃v,vs=[v]/\RepV g a [v]:=by
 obtain⟨y,ys,rfl,h1,rfl⟩:=h
 exact⟨y,rfl,h1⟩
theorem oZ{g:Gh}{a b:AV}{vs:List Value}(h:RepV g (.list [a,b]) vs):∃u v,vs=[u,v]/\RepV g a [u]/\RepV g b [v]:=by
 obtain⟨y,ys,rfl,h1,z,_,rfl,h2,rfl⟩:=h
 exact⟨y,z,rfl,h1,h2⟩
theorem xO{g:Gh}{a b c:AV}{vs:List Value}(h:RepV g (.list [a,b,c]) vs):∃u v w,vs=[u,v,w]/\RepV g a [u]/\RepV g b [v]/\RepV g c [w]:=by
 obtain⟨y,ys,rfl,h1,z,_,rfl,h2,x,_,rfl,h3,rfl⟩:=h
 exact⟨y,z,x,rfl,h1,h2,h3⟩
theorem qG{g:Gh}{n:Int}{v:Value}(h:RepV g (iA n) [v]):v=.int .i64 n:=by simpa[RepV,iA] using h
theorem bT {f : Nat} {fn : Func} (hf : prog.funcs[f]? = some fn) (h1 : fn.name ≠ "runtime.NumGoroutine") (h2 : fn.body.isNone = false) : rX prog f := ⟨fn, hf, h1, fun e => by rw [e] at h2; cases h2⟩
def Tm.fits(t:Tm):Prop:=t.h.fits/\t.x.fits
def Tm.size(t:Tm):Nat:=aH t.h.l+t.x.size
def Tm.lift(t:Tm)(n f:Int):Tm:=⟨t.h.lift n f 0,t.x.lift n f t.h.k 0 0⟩
end
section
theorem MS(w:World)(B:Nat)(k n a:Int):Own w B (tDs ty (.cons ⟨k,n,a,[]⟩ .nil .nil)) [.int .i64 k,.int .i64 n,.int .i64 a,.slice none 0 0,.slice none 0 0] [] :=
 ⟨_,rfl,_,rfl,_,rfl,_,_,[],[],[],[],[],[],rfl,.inl ⟨none,rfl,rfl,rfl,rfl⟩,⟨rfl,rfl⟩,⟨rfl,rfl⟩,⟨_,_,[],[],[],[],[],[],rfl,.inl ⟨none,rfl,rfl,rfl,rfl⟩,⟨rfl,rfl⟩,⟨rfl,rfl⟩,⟨rfl,rfl⟩,rfl⟩,rfl⟩
end
section
theorem W6:prog.cellsOf 281=5:=by kernel_rfl
theorem gTab : prog.globalNamed "spandrel/term.kinds" = some 0 := by kernel_rfl
theorem gTabType:(prog.globals[0]?).map (·.type)=some 282:=by kernel_rfl
theorem UT{H:Type}{enc:TypeId×Value->H}{P:Program}{w:World}{base:Nat}{sp:Nat->Bool}{held:Bool}{fuel:Nat}{t e:TypeId}{n sz:Nat}{cs:List Value}{x:DataW H×List MemPlace}
  (ht:P.underlying t=some (.array n e)) (hce:P.cellsOf e=sz) (h:DataW.trod enc P w base sp held fuel t cs=some x) :
  ∃xs:List (DataW H×List MemPlace),x.1=.agg (xs.map (·.1))/\∀i,i<n->∃y fuel',xs[i]? = some y/\DataW.trod enc P w base sp held fuel' e ((cs.drop (i*sz)).take sz)=some y:=by
 cases fuel with
 | zero=>simp[DataW.trod] at h
 | succ fuel =>
  simp only[DataW.trod,ht,hce] at h
  split at h
  ·obtain⟨xs,hm,rfl⟩:=Option.map_eq_some_iff.1 h
   refine⟨xs,rfl,λ i hi=>?_⟩
   obtain⟨b,hb,hf⟩:=Lib.mapM_at hm i i (by simp[hi])
   exact⟨b,fuel,hb,hf⟩
  ·cases h
def gH(a b:Bool)(x y z:Int):DataW Unit:=.agg [.lit (.bool a),.lit (.bool b),.lit (.int .i64 x),.lit (.int .i64 y),.lit (.int .i64 z)]
theorem MK{w:World}{fuel:Nat}{cs:List Value}{x:DataW Unit×List MemPlace}{a b:Bool}{i j k:Int}(h:DataW.trod (λ _=>()) prog w 0 (λ _=>true) false fuel 281 cs=some x)(hx:x.1=gH a b i j k):cs[4]? = some (.int .i64 k):=by
 obtain⟨xs,n',rfl,rfl,hl,hxs,hf⟩:=DataW.trod_struct underlying281 h
 rw[W6] at hl
 obtain⟨c0,c1,c2,c3,c4,rfl⟩:=pZ hl
 obtain⟨x0,x1,x2,x3,x4,rfl⟩:=pZ hxs
 have h4:DataW.trod (λ _=>()) prog w 0 (λ _=>true) false n' 3 (([c0,c1,c2,c3,c4].drop 4).take (prog.cellsOf 3))=some x4:=hf 4 _ rfl
 rw[qB] at h4
 obtain⟨k',e0,rfl,-⟩:=DataW.trod_int underlying3 h4
 cases e0
 simp[gH] at hx
 simp[hx]
theorem ka_of{W:World}(h:laidMetH prog Rows.goodTellsUptoRow.laid W):KA W:=by
 have h' : laidMet prog [("spandrel/term.kinds", Rows.laid_spandrel_term_kinds)] W := h
 obtain⟨ps,⟨g',t',cs,fuel,p,q,hg',ht',hvar,hd,_,_⟩,_⟩:=h'
 obtain rfl:=Option.some.inj (gTab.symm.trans hg')
 obtain rfl:=Option.some.inj (gTabType.symm.trans ht')
 obtain⟨xs,hx,hat⟩:=UT underlying282 W6 hd
 have hcell:∀k:Nat,k<25->cs[k*5+4]? = some (.int .i64 (bounds.getD k 0)):=by
  have hxs:xs.map (·.1)=[gH false false 0 0 0,gH true false 0 0 (-1),gH false false 1 0 (-1),gH true false (-1) 0 (-1),gH false false 0 2 1,gH false false 0 2 1,gH false false 0 2 (-1),gH false false 0 3 2,gH true true (-1) 0 (-1),gH true true (-1) 0 (-1),gH true true (-1) 0 (-1),gH false true 0 0 (-1),gH false false 0 2 1,gH false false 0 2 (-1),gH false false 0 1 (-1),gH false false 0 1 (-1),gH false false 0 2 1,gH false false 0 2 (-1),gH false false 0 5 1,gH false false 0 3 (-1),gH false false 0 0 (-1),gH false false 0 6 (-1),gH true false 0 0 (-1),gH true true 0 0 (-1),gH false true 0 2 (-1)]:=by
   have:Rows.laid_spandrel_term_kinds=DataW.agg (xs.map (·.1)):=hx
   unfold Rows.laid_spandrel_term_kinds at this
   exact (DataW.agg.inj this).symm
  have one:∀(k:Nat) (a b:Bool) (i j z:Int),k<25->(xs.map (·.1))[k]? = some (gH a b i j z)->cs[k*5+4]? = some (.int .i64 z):=λ k a b i j z hk he=>by
   obtain⟨y,fuel',h1,h2⟩:=hat k hk
   simp only[List.getElem?_map,h1,Option.map_some,Option.some.injEq] at he
   have:=MK h2 he
   rw[List.getElem?_take,if_pos (by decide),List.getElem?_drop,Array.getElem?_toList] at this
   exact this
  intro k hk
  rw[hxs] at one
  have hall:k=0∨k=1∨k=2∨k=3∨k=4∨k=5∨k=6∨k=7∨k=8∨k=9∨k=10∨k=11∨k=12∨k=13∨k=14∨k=15∨k=16∨k=17∨k=18∨k=19∨k=20∨k=21∨k=22∨k=23∨k=24:=by omega
  rcases hall with rfl|rfl|rfl|rfl|rfl|rfl|rfl|rfl|rfl|rfl|rfl|rfl|rfl|rfl|rfl|rfl|rfl|rfl|rfl|rfl|rfl|rfl|rfl|rfl|rfl<;>exact one _ _ _ _ _ _ hk rfl
 have hc:∀k:Nat,k<25->W.cell? ⟨0,k*5+4,none⟩=some (.int .i64 (bounds.getD k 0)):=λ k hk=>by
  rw[World.var?_cell gTab hvar];exact hcell k hk
 exact⟨World.block_lt_of_cell? W ⟨0,0*5+4,none⟩ (hc 0 (by decide)),hc⟩
end
section
def isNil:Value->Bool
 | .slice none 0 0=>true
 | _=>false
def Rb{α:Type}(p:Option (Bool×α))(q:Option (Prop×α)):Prop:=∀r,p=some (true,r)->∃c,q=some (c,r)/\c
theorem Rb.nil{α:Type}{q:Option (Prop×α)}:Rb none q:=λ _ h=>by cases h
theorem Rb.one{α:Type}{b:Bool}{c:Prop}{r:α}(h:b=true->c):Rb (some (b,r)) (some (c,r)):=λ r' e=>by
 cases e
 exact⟨c,rfl,h rfl⟩
theorem Rb.map{α β:Type}{p:Option (Bool×α)}{q:Option (Prop×α)}{f:Bool->Bool}{g:Prop->Prop}{u:α->β}(h:Rb p q)(hf:∀b,f b=true->b=true)(hg:∀b c,f b=true->c->g c):Rb (p.map λ r=>(f r.1,u r.2)) (q.map λ r=>(g r.1,u r.2)):=λ r e=>by
 obtain⟨⟨b,x⟩,e1,e2⟩:=Option.map_eq_some_iff.1 e
 cases e2':f b
 ·simp[e2'] at e2
 ·simp only[Prod.mk.injEq] at e2
  obtain⟨-,rfl⟩:=e2
  have:=hf b e2'
  subst this
  obtain⟨c,h1,h2⟩:=h x e1
  exact⟨g c,by rw[h1];rfl,hg true c e2' h2⟩
def asB(tb:TB)(T:Nat):AV->Option (Bool×Dc)
 | .v x=>match tb T with
  | some { sh:=.sl e,.. }=>match tb e with
   | some y=>match x with
    | .slice none 0 0=>some (true,.nilr y.size e .nil)
    | .slice (some a) n c=>some (true,.lit (.slice (some a) n c) .nil)
    | _=>none
   | none=>none
  | _=>some (x.oneCell',.lit x .nil)
 | .c d=>some (true,d)
 | .agg d=>some (true,d)
 | _=>none
theorem asB_ok{tb:TB}{T:Nat}{a:AV}:Rb (asB tb T a) (asC tb T a):=by
 cases a<;>simp only[asB,asC]
 case c=>exact .one λ _=>trivial
 case agg=>exact .one λ _=>trivial
 case v =>
  cases hT:tb T with
  | none=>exact .one id
  | some y =>
   obtain⟨sh,_,_,_,_⟩:=y
   cases sh
   case sl e =>
    simp only
    cases tb e with
    | none=>exact .nil
    | some y=>simp only;split<;>first | exact .one λ _=>trivial | exact .nil
   all_goals exact .one id
 all_goals exact .nil
def LN(tb:TB)(S:Nat)(ρ:Operand->AV):List (Nat×Operand)->Dc->Option (Bool×Dc)
 | [],d=>some (true,d)
 | (f,x) :: ps,d=>match mI tb S f with
  | some (o,T,y)=>match asB tb T (ρ x) with
   | some (c,p)=>match d.over o p with
    | some d'=>(LN tb S ρ ps d').map λ r=>((c && p.ln == y.size) && r.1,r.2)
    | none=>none
   | none=>none
  | none=>none
theorem fillB_ok{tb:TB}{S:Nat}{ρ:Operand->AV}:∀ {ps:List (Nat×Operand)} {d:Dc},Rb (LN tb S ρ ps d) (rO tb S ρ ps d)
 | [],d=>.one λ _=>trivial
 | (f,x) :: ps,d=>by
  intro r h
  simp only[LN] at h
  split at h
  ·rename_i o T y hf
   split at h
   ·rename_i c p hp
    split at h
    ·rename_i d' hd
     obtain⟨⟨b,r'⟩,e1,e2⟩:=Option.map_eq_some_iff.1 h
     simp only[Prod.mk.injEq,Bool.and_eq_true,beq_iff_eq] at e2
     obtain⟨⟨⟨rfl,h1⟩,rfl⟩,rfl⟩:=e2
     obtain⟨c1,h2,h3⟩:=asB_ok _ hp
     obtain⟨c2,h4,h5⟩:=fillB_ok _ e1
     refine⟨_,by simp only[rO,hf,h2,hd,h4,Option.map_some];rfl,?_⟩
     exact⟨⟨h3,h1⟩,h5⟩
    ·cases h
   ·cases h
  ·cases h
def rowB(tb:TB)(e sz:Nat)(ρ:Operand->AV):Nat->List (Nat×Operand)->Option (Bool×Dc)
 | _,[]=>some (true,.nil)
 | i,(j,x) :: ps=>if i=j then match asB tb e (ρ x) with
   | some (c,p)=>(rowB tb e sz ρ (i+1) ps).map λ r=>((c && p.ln == sz) && r.1,p.app r.2)
   | none=>none
  else none
theorem rowB_ok{tb:TB}{e sz:Nat}{ρ:Operand->AV}:∀ {ps:List (Nat×Operand)} {i:Nat},Rb (rowB tb e sz ρ i ps) (yF tb e sz ρ i ps)
 | [],i=>.one λ _=>trivial
 | (j,x) :: ps,i=>by
  intro r h
  simp only[rowB] at h
  split at h
  ·rename_i hij
   split at h
   ·rename_i c p hp
    obtain⟨⟨b,r'⟩,e1,e2⟩:=Option.map_eq_some_iff.1 h
    simp only[Prod.mk.injEq,Bool.and_eq_true,beq_iff_eq] at e2
    obtain⟨⟨⟨rfl,h1⟩,rfl⟩,rfl⟩:=e2
    obtain⟨c1,h2,h3⟩:=asB_ok _ hp
    obtain⟨c2,h4,h5⟩:=rowB_ok _ e1
    refine⟨_,by simp only[yF,if_pos hij,h2,h4,Option.map_some];rfl,?_⟩
    exact⟨⟨h3,h1⟩,h5⟩
   ·cases h
  ·cases h
def loB:Option AV->Option Nat->Option (Bool×Nat)
 | none,some d=>some (true,d)
 | some (.v (.int _ n)),_=>some (decide (0<=n),n.toNat)
 | _,_=>none
theorem IG{a:Option AV}{d:Option Nat}:Rb (loB a d) (lo? a d):=by
 unfold loB lo?
 split
 ·exact .one λ _=>trivial
 ·exact .one λ h=>by simpa using h
 ·exact .nil
def sliceB(tb:TB)(ρ:Operand->AV)(T:Nat)(x:Operand)(lo hi mx:Option Operand):Option (Bool×Out) :=
 match mx with
 | some _=>none
 | none=>match tb T with
  | some { sh:=.sl e,.. }=>match tb e with
   | some y=>match lo,(ρ x).room with
    | none,some (sz,d,s)=>match loB (hi.map ρ) (some (d.len / sz)) with
     | some (c,h)=>some (c && (sz == y.size && (decide (0<sz) && decide (h*sz<=d.len+s.len))),{ av:=.c (.seg none (.row sz e ((d.app s).tk (h*sz)) ((d.app s).dp (h*sz)) .nil) .nil) })
     | none=>none
    | lo,_=>match (ρ x).cont with
     | some (sz,d)=>match loB (lo.map ρ) (some 0),loB (hi.map ρ) (some (d.len / sz)) with
      | some (c1,l),some (c2,h)=>some (c1 && (c2 && (sz == y.size && (decide (0<sz) && (decide (l<=h) && decide (h*sz<=d.len))))),{ av:=.c (.row none sz e ((d.dp (l*sz)).tk ((h-l)*sz)) .nil) })
      | _,_=>none
     | none=>none
   | none=>none
  | _=>none
theorem MI{tb:TB}{ρ:Operand->AV}{T:Nat}{x:Operand}{lo hi mx:Option Operand}:Rb (sliceB tb ρ T x lo hi mx) (oK tb ρ T x lo hi mx):=by
 intro r h
 unfold sliceB at h
 split at h
 ·cases h
 ·split at h
  ·rename_i e _ _ _ _ hT
   split at h
   ·rename_i y hy
    split at h
    ·rename_i sz d s hc
     split at h
     ·rename_i c k h2
      simp only[Option.some.injEq,Prod.mk.injEq,Bool.and_eq_true,beq_iff_eq,decide_eq_true_eq] at h
      obtain⟨⟨rfl,h3⟩,rfl⟩:=h
      obtain⟨p2,h6,h7⟩:=IG _ h2
      refine⟨_,by simp only[oK,hT,hy,hc,h6];rfl,?_⟩
      exact⟨h7,h3⟩
     ·cases h
    ·rename_i lo _ _ hno
     split at h
     ·rename_i sz d hc
      split at h
      ·rename_i c1 l c2 k h1 h2
       simp only[Option.some.injEq,Prod.mk.injEq,Bool.and_eq_true,beq_iff_eq,decide_eq_true_eq] at h
       obtain⟨⟨rfl,rfl,h3⟩,rfl⟩:=h
       obtain⟨p1,h4,h5⟩:=IG _ h1
       obtain⟨p2,h6,h7⟩:=IG _ h2
       have e0:oK tb ρ T x lo hi none=some (p1/\p2/\sz=y.size/\0<sz/\l<=k/\k*sz<=d.len,{ av:=.c (.row none sz e ((d.dp (l*sz)).tk ((k-l)*sz)) .nil) }):=by
        cases lo with
        | none =>
         cases hr:(ρ x).room with
         | none=>simp only[oK,hT,hy,hr,hc,h4,h6]
         | some r=>obtain⟨_,_,_⟩:=r;exact (hno _ _ _ rfl hr).elim
        | some l=>simp only[oK,hT,hy,hc,h4,h6]
       exact⟨_,e0,h5,h7,h3⟩
      ·cases h
     ·cases h
   ·cases h
  ·cases h
def JE(tb:TB)(ρ:Operand->AV)(c:Call):Option (Bool×Out) :=
 match c.callee with
 | .builtin .len=>match c.args.toList,c.argTypes.toList with
  | [x],[T]=>match tb T with
   | some { sh:=.sl _,.. }=>match ρ x with
    | .v (.slice none 0 0)=>some (true,{ av:=.v (.int .i64 0) })
    | .v (.slice (some _) n _)=>some (true,{ av:=.v (.int .i64 n) })
    | .c d=>match d.cont with
     | some (sz,d)=>some (decide (0<sz),{ av:=.v (.int .i64 ((d.len / sz:Nat):Int)) })
     | none=>none
    | _=>none
   | _=>none
  | _,_=>none
 | .builtin .max=>match c.args.toList with
  | [x,y]=>match ρ x,ρ y with
   | .v (.int k a),.v (.int _ b)=>some (true,{ av:=.v (.int k (if b>a then b else a)) })
   | _,_=>none
  | _=>none
 | _=>none
theorem OJ{tb:TB}{ρ:Operand->AV}{c:Call}:Rb (JE tb ρ c) (jP tb ρ c):=by
 intro r h
 unfold JE at h
 repeat' split at h
 all_goals first
  | cases h;done
  | skip
 ·cases h
  exact⟨_,by simp only[jP, *],trivial⟩
 ·cases h
  exact⟨_,by simp only[jP, *],trivial⟩
 ·simp only[Option.some.injEq,Prod.mk.injEq,decide_eq_true_eq] at h
  obtain⟨h1,rfl⟩:=h
  exact⟨_,by simp only[jP, *],h1⟩
 all_goals (cases h;exact⟨True,by simp[jP, *],trivial⟩)
def RU(tb:TB)(ρ:Operand->AV)(cont:Option (Nat×Dc))(nm:Nat):Op->Option (Bool×Out)
 | .move x=>some (true,{ av:=ρ x })
 | .assign x=>some (true,{ av:=ρ x })
 | .pick c a b=>match ρ c with
  | .v (.bool t)=>some (true,{ av:=if t then ρ a else ρ b })
  | _=>none
 | .alloc T=>(tb T).map λ y=>(true,{ av:=.bx nm 0,bu:=some (nm,T,y.zero) })
 | .box T x=>(asB tb T (ρ x)).map λ r=>(r.1,{ av:=.bx nm 0,bu:=some (nm,T,r.2) })
 | .build T ps=>match tb T with
  | some { sh:=.st fs,zero:=z,.. }=>(LN tb T ρ ps.toList z).map λ r=>((fs.all λ f=>(tb f.2).isSome) && r.1,{ av:=.agg r.2 })
  | _=>none
 | .buildSlice T n ps=>match tb T with
  | some { sh:=.sl e,.. }=>match tb e with
   | some y=>(rowB tb e y.size ρ 0 ps.toList).map λ r=>((decide (0<y.size) && (decide (n*y.size<=10000) && n == ps.toList.length)) && r.1,{ av:=.c (.blk nm 1 y.size e r.2 .nil),tu:=some (nm,1) })
   | none=>none
  | _=>none
 | .load T a=>match tb T with
  | some y=>match ρ a with
   | .bx _ off=>match cont with
    | some (_,d)=>match d.dp off with
     | some d1=>match d1.tk y.size with
      | some d2=>match y.sh with
       | .st _=>some (true,{ av:=.agg d2 })
       | .arr=>none
       | _=>some (y.size == 1,{ av:=d2.sing })
      | none=>none
     | none=>none
    | none=>none
   | .el x=>match x.hd y.size with
    | some d2=>match y.sh with
     | .st _=>some (true,{ av:=.agg d2 })
     | .arr=>none
     | _=>some (y.size == 1,{ av:=d2.sing })
    | none=>none
   | _=>none
  | none=>none
 | .nilCheck x=>match ρ x with
  | .bx k o=>some (true,{ av:=.bx k o })
  | .el x=>some (true,{ av:=.el x })
  | _=>none
 | .fieldAddr S x f=>match mI tb S f with
  | some (o,_,y)=>match ρ x with
   | .bx k off=>some (y.size != 0,{ av:=.bx k (off+o) })
   | .el x=>some (y.size != 0,{ av:=.el (x.dp o) })
   | _=>none
  | none=>none
 | .field S x f=>match mI tb S f with
  | some (o,_,y)=>match ρ x with
   | .agg d=>match d.dp o with
    | some d1=>match d1.tk y.size with
     | some d2=>match y.sh with
      | .st _=>some (true,{ av:=.agg d2 })
      | .arr=>none
      | _=>some (y.size == 1,{ av:=d2.sing })
     | none=>none
    | none=>none
   | _=>none
  | none=>none
 | .indexAddr T x i=>match tb T with
  | some { sh:=.sl e,.. }=>match tb e with
   | some y=>match (ρ x).cont,ρ i with
    | some (sz,d),.v (.int _ n)=>some (sz == y.size && (decide (0<sz) && (decide (0<=n) && decide ((n.toNat+1)*sz<=d.len))),{ av:=.el (d.dp (n.toNat*sz)) })
    | _,_=>none
   | none=>none
  | _=>none
 | .extract t i=>match ρ t with
  | .tup l=>(l.nth i).map λ a=>(true,{ av:=a })
  | _=>none
 | .binOp op T x y _=>match ρ x,ρ y with
  | .v a,.v b=>match abin op a b with
   | some v=>some (true,{ av:=.v v })
   | none=>match aboolV op a b,tb T with
    | some t,some { sh:=.bo,.. }=>some (true,{ av:=.v (.bool t) })
    | _,_=>none
  | _,_=>none
 | .unOp op _ x=>match op,ρ x with
  | .not,.v (.bool t)=>some (true,{ av:=.v (.bool (!t)) })
  | .neg,.v (.int k n)=>some (true,{ av:=.v (.int k (k.wrap (-n))) })
  | _,_=>none
 | .convert s t x=>match tb t with
  | some { sh:=.int k,.. }=>match ρ x with
   | .v (.int _ n)=>some ((tb s).isSome,{ av:=.v (.int k (k.wrap n)) })
   | _=>none
  | _=>none
 | .makeFunc f a c=>some (true,{ av:=.fn f (.list (a.toList.map ρ)) (.list (c.toList.map ρ)) })
 | .slice T x lo hi mx=>sliceB tb ρ T x lo hi mx
 | .call c=>JE tb ρ c
 | _=>none
theorem Rb.mp{α β:Type}{p:Option (Bool×α)}{q:Option (Prop×α)}{f:Bool×α->Bool×β}{g:Prop×α->Prop×β}(h:Rb p q)(hf:∀b x r,f (b,x)=(true,r)->b=true/\∀c,c->∃c',g (c,x)=(c',r)/\c'):Rb (p.map f) (q.map g):=λ r e=>by
 obtain⟨⟨b,x⟩,e1,e2⟩:=Option.map_eq_some_iff.1 e
 obtain⟨rfl,h1⟩:=hf b x r e2
 obtain⟨c,h2,h3⟩:=h x e1
 obtain⟨c',h4,h5⟩:=h1 c h3
 exact⟨c',by rw[h2,Option.map_some,h4],h5⟩
theorem outB_ok{tb:TB}{ρ:Operand->AV}{cont:Option (Nat×Dc)}{nm:Nat}{op:Op}:Rb (RU tb ρ cont nm op) (jO tb ρ cont nm op):=by
 intro r h
 cases op<;>simp only[RU] at h<;>first
  | exact MI _ h
  | exact OJ _ h
  | skip
 case box=>exact asB_ok.mp (λ b x r e=>by cases e;exact⟨rfl,λ c hc=>⟨_,rfl,hc⟩⟩) _ h
 case build =>
  split at h
  ·rename_i hT
   simp only[jO,hT]
   refine fillB_ok.mp (λ b x r e=>?_) _ h
   simp only[Prod.mk.injEq,Bool.and_eq_true] at e
   obtain⟨⟨h1,rfl⟩,rfl⟩:=e
   exact⟨rfl,λ c hc=>⟨_,rfl,h1,hc⟩⟩
  ·cases h
 case buildSlice =>
  split at h
  ·rename_i hT
   split at h
   ·rename_i hy
    simp only[jO,hT,hy]
    refine rowB_ok.mp (λ b x r e=>?_) _ h
    simp only[Prod.mk.injEq,Bool.and_eq_true,decide_eq_true_eq,beq_iff_eq] at e
    obtain⟨⟨h1,rfl⟩,rfl⟩:=e
    exact⟨rfl,λ c hc=>⟨_,rfl,h1,hc⟩⟩
   ·cases h
  ·cases h
 case alloc =>
  obtain⟨x,e1,e2⟩:=Option.map_eq_some_iff.1 h
  cases e2
  exact⟨True,by simp only[jO,e1];rfl,trivial⟩
 case extract =>
  split at h
  ·rename_i hT
   obtain⟨x,e1,e2⟩:=Option.map_eq_some_iff.1 h
   cases e2
   exact⟨True,by simp only[jO,hT,e1];rfl,trivial⟩
  ·cases h
 case binOp =>
  split at h
  ·rename_i h1 h2
   split at h
   ·rename_i h3
    cases h
    exact⟨True,by simp only[jO,h1,h2,h3],trivial⟩
   ·rename_i h3
    split at h
    ·rename_i h4 h5
     cases h
     exact⟨True,by simp only[jO,h1,h2,h3,abool,h4,h5],trivial⟩
    ·cases h
  ·cases h
 case indexAddr =>
  split at h
  ·rename_i hT
   split at h
   ·rename_i hy
    split at h
    ·rename_i hc hi
     simp only[Option.some.injEq,Prod.mk.injEq,Bool.and_eq_true,decide_eq_true_eq,beq_iff_eq] at h
     obtain⟨h1,rfl⟩:=h
     exact⟨_,by simp only[jO,hT,hy,hc,hi],h1⟩
    ·cases h
   ·cases h
  ·cases h
 all_goals (repeat' split at h)<;>first
  | cases h;done
  | (simp only[Option.some.injEq,Prod.mk.injEq,Bool.and_eq_true,decide_eq_true_eq,beq_iff_eq,bne_iff_ne,ne_eq,true_and] at h;obtain⟨h1,rfl⟩:=h;exact⟨_,by simp only[jO, *];rfl,by simpa using h1⟩)
  | (cases h;exact⟨_,by simp only[jO, *];rfl,trivial⟩)
  | skip
 all_goals (simp only[Option.some.injEq,Prod.mk.injEq,beq_iff_eq] at h;obtain⟨h1,rfl⟩:=h;refine⟨_,?_,h1⟩;simp only[jO, *];split<;>simp_all)
def FQ(tb:TB)(ρ:Operand->AV)(cont:Option (Nat×Dc)):Op->Option (Bool×Out)
 | .store T ad x=>match ρ ad,cont,asB tb T (ρ x),tb T with
  | .bx k off,some (T0,d),some (c,p),some y=>match d.over off p with
   | some d'=>some (c && p.ln == y.size,{ av:=.v undef,bu:=some (k,T0,d') })
   | none=>none
  | _,_,_,_=>none
 | _=>none
theorem MF{tb:TB}{ρ:Operand->AV}{cont:Option (Nat×Dc)}{op:Op}:Rb (FQ tb ρ cont op) (oJ tb ρ cont op):=by
 intro r h
 unfold FQ at h
 split at h
 ·split at h
  ·rename_i h1 h2 h3
   split at h
   ·rename_i h4
    simp only[Option.some.injEq,Prod.mk.injEq,Bool.and_eq_true,beq_iff_eq] at h
    obtain⟨⟨rfl,h5⟩,rfl⟩:=h
    obtain⟨c,h6,h7⟩:=asB_ok _ h2
    refine⟨_,by simp only[oJ,h1,h6,h3,h4];rfl,?_⟩
    exact⟨h7,h5⟩
   ·cases h
  ·cases h
 ·cases h
def elsB(τ:Nat->Option Nat)(sz:Nat):AV->Option (Bool×Dc)
 | .v (.slice none 0 0)=>some (true,.nil)
 | .c (.nilr _ _ .nil)=>some (true,.nil)
 | .c (.row k s _ d .nil)=>some (s == sz,.seg k d .nil)
 | .c (.blk k ver s _ x .nil)=>some (s == sz && τ k == some ver,x)
 | _=>none
theorem LO{τ:Nat->Option Nat}{sz:Nat}{a:AV}:Rb (elsB τ sz a) (tU τ sz a):=by
 intro r h
 unfold elsB at h
 split at h
 ·cases h;exact⟨_,rfl,trivial⟩
 ·cases h;exact⟨_,rfl,trivial⟩
 ·simp only[Option.some.injEq,Prod.mk.injEq,beq_iff_eq] at h
  obtain⟨h1,rfl⟩:=h
  exact⟨_,rfl,h1⟩
 ·simp only[Option.some.injEq,Prod.mk.injEq,beq_iff_eq,Bool.and_eq_true] at h
  obtain⟨h1,rfl⟩:=h
  exact⟨_,rfl,h1⟩
 ·cases h
def appB(tb:TB)(ρ:Operand->AV)(τ:Nat->Option Nat)(nm:Nat)(c:Call):Option (Bool×Out) :=
 match c.args.toList,c.argTypes.toList with
 | [s,x],[T,T']=>match tb T with
  | some { sh:=.sl e,.. }=>match tb e with
   | some y=>match uR (ρ s),elsB τ y.size (ρ x) with
    | some (none,d),some (c,p)=>some (T == T' && (decide (0<y.size) && (c && (decide (d.ln+p.ln<=100000000000) && τ nm == none))),{ av:=.c (.blk nm 1 y.size e (d.app p) .nil),tu:=some (nm,1) })
    | some (some (k,ver,sz,e'),d),some (c,p)=>some (T == T' && (decide (0<y.size) && (c && (decide (d.ln+p.ln<=100000000000) && (τ k == some ver && (sz == y.size && (e' == e && ver != 0)))))),{ av:=.c (.blk k (ver+1) y.size e (d.app p) .nil),tu:=some (k,ver+1) })
    | _,_=>none
   | none=>none
  | _=>none
 | _,_=>none
theorem appB_ok{tb:TB}{ρ:Operand->AV}{τ:Nat->Option Nat}{nm:Nat}{c:Call}:Rb (appB tb ρ τ nm c) (xE tb ρ τ nm c):=by
 intro r h
 unfold appB at h
 split at h
 ·rename_i ha ht
  split at h
  ·rename_i hT
   split at h
   ·rename_i hy
    split at h
    ·rename_i hs he
     simp only[Option.some.injEq,Prod.mk.injEq,beq_iff_eq,Bool.and_eq_true,decide_eq_true_eq] at h
     obtain⟨⟨h1,h2,rfl,h3⟩,rfl⟩:=h
     obtain⟨c,h6,h7⟩:=LO _ he
     refine⟨_,by simp only[xE,ha,ht,hT,hy,hs,h6];rfl,?_⟩
     exact⟨h1,h2,h7,h3⟩
    ·rename_i hs he
     simp only[Option.some.injEq,Prod.mk.injEq,beq_iff_eq,Bool.and_eq_true,decide_eq_true_eq,bne_iff_ne] at h
     obtain⟨⟨h1,h2,rfl,h3⟩,rfl⟩:=h
     obtain⟨c,h6,h7⟩:=LO _ he
     refine⟨_,by simp only[xE,ha,ht,hT,hy,hs,h6];rfl,?_⟩
     exact⟨h1,h2,h7,h3⟩
    ·cases h
   ·cases h
  ·cases h
 ·cases h
def K5(st:St)(r:Out):Bool:=(match r.bu with
 | some (k,_)=>(st.bx k).isNone && decide (k<K0)
 | none=>true) && match r.tu with
 | some (k,_)=>(st.τ k).isNone
 | none=>true
theorem NR{st:St}{r:Out}(h:K5 st r=true):wV st r:=by
 unfold K5 at h
 simp only[Bool.and_eq_true] at h
 refine⟨?_,?_⟩
 ·have:=h.1
  split at this
  ·(try simp only[*]);simpa using this
  ·simp only[*]
 ·have:=h.2
  split at this
  ·(try simp only[*]);simpa using this
  ·simp only[*]
def KB(tb:TB)(N:Nat)(o:Oper)(st:St):Option (Bool×Out) :=
 match o.op with
 | .store _ _ _=>FQ tb (ev st N) (eD st N o.op) o.op
 | .call cl=>match cl.callee with
  | .builtin .append=>appB tb (ev st N) st.τ (gF o) cl
  | .value _=>none
  | _=>(RU tb (ev st N) (eD st N o.op) (gF o) o.op).map λ q=>(q.1 && K5 st q.2,q.2)
 | _=>(RU tb (ev st N) (eD st N o.op) (gF o) o.op).map λ q=>(q.1 && K5 st q.2,q.2)
theorem QB{tb:TB}{N:Nat}{o:Oper}{st:St}:Rb (KB tb N o st) (BZ tb N o st):=by
 have calm:Rb ((RU tb (ev st N) (eD st N o.op) (gF o) o.op).map λ q=>(q.1 && K5 st q.2,q.2)) ((jO tb (ev st N) (eD st N o.op) (gF o) o.op).map λ q=>(q.1/\wV st q.2,q.2)):=outB_ok.mp λ b x r e=>by
  simp only[Prod.mk.injEq,Bool.and_eq_true] at e
  obtain⟨⟨rfl,h1⟩,rfl⟩:=e
  exact⟨rfl,λ c hc=>⟨_,rfl,hc,NR h1⟩⟩
 obtain⟨dst,op,ty,pos,after,guard⟩:=o
 unfold KB BZ
 cases op<;>simp only at calm ⊢<;>try (exact calm)
 case store T ad x=>exact MF
 case call cl =>
  obtain⟨callee,xs,ts⟩:=cl
  cases callee with
  | value f=>exact .nil
  | invoke r m=>exact calm
  | builtin b =>
   cases b<;>simp only at calm ⊢<;>try (exact calm)
   case append=>exact appB_ok
end
section
def Dc.frz:Dc->Dc
 | .nil=>.nil
 | .lit v r=>.lit v r.frz
 | .nilr sz e r=>.nilr sz e r.frz
 | .row _ sz e x r=>.row none sz e x r.frz
 | .seg _ d r=>.seg none (d.app r.ds) .nil
 | .blk _ _ sz e x r=>.row none sz e x.ds r.frz
theorem Dc.frz_imp{τ τ':Nat->Option Nat}{φ:Tk->List Tk}(d:Dc):Dc.imp τ φ τ' d.frz d:=by
 induction d with
 | nil=>rfl
 | lit v r ih=>exact⟨rfl,ih⟩
 | nilr sz e r ih=>exact ih
 | row k sz e x r ih=>exact⟨⟨rfl,rfl⟩,ih⟩
 | seg k d r _=>exact (rfl:(Dc.seg k d r).ds=_)
 | blk k ver sz e x r _ ih=>exact⟨⟨rfl,rfl⟩,ih⟩
theorem Dc.frz_noblk(d:Dc):d.frz.noblk=true:=by
 induction d with
 | seg k d r _=>rfl
 | nil=>rfl
 | lit v r ih=>exact ih
 | nilr sz e r ih=>exact ih
 | row k sz e x r ih=>exact ih
 | blk k ver sz e x r _ ih=>exact ih
theorem Dc.frz_still(d:Dc):d.frz.still=true:=by
 induction d with
 | seg k d r _=>rfl
 | nil=>rfl
 | lit v r ih=>exact ih
 | nilr sz e r ih=>exact ih
 | row k sz e x r ih=>exact ih
 | blk k ver sz e x r _ ih=>exact ih
theorem Dc.frz_ok{τ:Nat->Option Nat}(d:Dc):d.frz.ok τ:=by
 induction d with
 | seg k d r _=>trivial
 | nil=>trivial
 | lit v r ih=>exact ih
 | nilr sz e r ih=>exact ih
 | row k sz e x r ih=>exact ih
 | blk k ver sz e x r _ ih=>exact ih
def Dc.lend:Dc->Dc
 | .nil=>.nil
 | .lit v r=>.lit v r.lend
 | .nilr sz e r=>.row none sz e .nil r.lend
 | .row _ sz e x r=>.row none sz e x r.lend
 | .seg _ d r=>.seg none d r.lend
 | .blk _ _ sz e x r=>.row none sz e x.ds r.lend
theorem Dc.lend_lent(d:Dc):d.lend.lent=true:=by
 induction d with
 | nil=>rfl
 | lit v r ih=>exact ih
 | nilr sz e r ih=>exact ih
 | row k sz e x r ih=>exact ih
 | seg k d r ih=>exact ih
 | blk k ver sz e x r _ ih=>exact ih
theorem Dc.lend_ds(d:Dc):d.ds=d.lend.ds:=by
 induction d with
 | nil=>rfl
 | lit v r ih=>simp[Dc.ds,Dc.lend,<-ih]
 | nilr sz e r ih=>simp[Dc.ds,Dc.lend,<-ih]
 | row k sz e x r ih=>simp[Dc.ds,Dc.lend,<-ih]
 | seg k d r ih=>simp[Dc.ds,Dc.lend,<-ih]
 | blk k ver sz e x r _ ih=>simp[Dc.ds,Dc.lend,<-ih]
def AV.frz:AV->AV
 | .v x=>.v x
 | .c d=>.c d.frz
 | .agg d=>.agg d.frz
 | .nil=>.nil
 | .cons a r=>.cons a.frz r.frz
 | .tup l=>.tup l.frz
 | .fn f a b=>.fn f a.frz b.frz
 | _=>.junk
theorem AV.frz_imp{bx:Nat->Option (Nat×Dc)}{τ τ':Nat->Option Nat}{φ:Tk->List Tk}(a:AV):AV.imp bx τ φ τ' a.frz a:=by
 induction a with
 | v x=>rfl
 | c d=>exact d.frz_imp
 | agg d=>exact d.frz_imp
 | nil=>rfl
 | cons a r iha ihr=>exact⟨iha,ihr⟩
 | tup l ih=>exact ih
 | fn f a b iha ihb=>exact⟨rfl,iha,ihb⟩
 | _=>trivial
theorem AV.frz_plain(a:AV):a.frz.plain=true/\a.frz.still=true/\a.frz.flat=true:=by
 induction a with
 | c d=>exact⟨d.frz_noblk,d.frz_still,rfl⟩
 | agg d=>exact⟨d.frz_noblk,d.frz_still,rfl⟩
 | cons a r iha ihr=>simp[AV.frz,AV.plain,AV.still,AV.flat,iha,ihr]
 | tup l ih=>exact ih
 | fn f a b iha ihb=>simp[AV.frz,AV.plain,AV.still,AV.flat,iha,ihb]
 | _=>exact⟨rfl,rfl,rfl⟩
def AV.lend(bx:Nat->Option (Nat×Dc)):AV->Option AV
 | .junk=>some .junk
 | .v x=>some (.v x)
 | .c d=>some (.c d.lend)
 | .agg d=>some (.agg d.lend)
 | .bx k off=>match bx k with
  | some (_,d)=>match d.dp off with
   | some d1=>some (.el d1.ds)
   | none=>none
  | none=>none
 | .el x=>some (.el x)
 | .nil=>some .nil
 | .cons a r=>if r.isL then match a.lend bx,r.lend bx with
   | some b,some s=>some (.cons b s)
   | _,_=>none
  else none
 | .tup a=>if a.isL then (a.lend bx).map .tup else none
 | .fn f a p=>if a.isL && p.isL then match a.lend bx,p.lend bx with
   | some b,some q=>some (.fn f b q)
   | _,_=>none
  else none
 | .ev _ _ _=>none
theorem AV.lend_arg{bx:Nat->Option (Nat×Dc)}{a:AV}:∀ {b:AV},a.lend bx=some b->a.arg bx b:=by
 induction a with
 | junk=>intro b h;cases h;trivial
 | v x=>intro b h;cases h;rfl
 | c d=>intro b h;cases h;exact⟨d.lend_lent,.inl d.lend_ds⟩
 | agg d=>intro b h;cases h;exact⟨d.lend_lent,.inl d.lend_ds⟩
 | bx k off =>
  intro b h
  simp only[AV.lend] at h
  split at h
  ·rename_i T d hk
   split at h
   ·rename_i d1 h1
    cases h
    exact⟨T,d,d1,hk,h1,rfl⟩
   ·cases h
  ·cases h
 | el x=>intro b h;cases h;rfl
 | nil=>intro b h;cases h;trivial
 | cons a r iha ihr =>
  intro b h
  simp only[AV.lend] at h
  split at h
  ·rename_i hr
   split at h
   ·rename_i b' s h1 h2
    cases h
    exact⟨iha h1,hr,ihr h2⟩
   ·cases h
  ·cases h
 | tup l ih =>
  intro b h
  simp only[AV.lend] at h
  split at h
  ·rename_i hr
   obtain⟨x,h1,rfl⟩:=Option.map_eq_some_iff.1 h
   exact⟨hr,ih h1⟩
  ·cases h
 | fn f a p iha ihp =>
  intro b h
  simp only[AV.lend] at h
  split at h
  ·rename_i hr
   simp only[Bool.and_eq_true] at hr
   split at h
   ·rename_i b' s h1 h2
    cases h
    exact⟨rfl,⟨hr.1,iha h1⟩,hr.2,ihp h2⟩
   ·cases h
  ·cases h
 | ev b o x=>intro b h;cases h
def Dc.soft(keep:Nat->Nat->Bool):Dc->Dc
 | .nil=>.nil
 | .lit v r=>.lit v (r.soft keep)
 | .nilr sz e r=>.nilr sz e (r.soft keep)
 | .row _ sz e x r=>.row none sz e x (r.soft keep)
 | .seg _ d r=>.seg none (d.app r.ds) .nil
 | .blk k ver sz e x r=>if keep k ver then .blk k ver sz e x.frz (r.soft keep) else .row none sz e x.ds (r.soft keep)
def AV.soft(keep:Nat->Nat->Bool)(has:Nat->Bool):AV->AV
 | .c d=>.c (d.soft keep)
 | .agg d=>.agg (d.soft keep)
 | .bx k o=>if has k then .bx k o else .junk
 | .cons a r=>.cons (a.soft keep has) (r.soft keep has)
 | .tup l=>.tup (l.soft keep has)
 | .fn f a b=>.fn f (a.soft keep has) (b.soft keep has)
 | a=>a
theorem Dc.soft_imp{τ τ':Nat->Option Nat}{φ:Tk->List Tk}{keep:Nat->Nat->Bool}(hk:∀k v,keep k v=true->τ' k=some v/\v≠0/\τ k=some v/\(k,0)∈φ (k,0))(d:Dc):Dc.imp τ φ τ' (d.soft keep) d/\(d.soft keep).ok τ':=by
 induction d with
 | nil=>exact⟨rfl,trivial⟩
 | lit v r ih=>exact⟨⟨rfl,ih.1⟩,ih.2⟩
 | nilr sz e r ih=>exact ih
 | row k sz e x r ih=>exact⟨⟨⟨rfl,rfl⟩,ih.1⟩,ih.2⟩
 | seg k d r _=>exact⟨(rfl:(Dc.seg k d r).ds=_),trivial⟩
 | blk k ver sz e x r _ ih =>
  simp only[Dc.soft]
  split
  ·rename_i h
   obtain⟨h1,h2,h3,h4⟩:=hk k ver h
   exact⟨⟨⟨h1,h2⟩,⟨rfl,rfl,h3,h4,x.frz_imp⟩,ih.1⟩,⟨by rw[h1];simp,x.frz_ok,ih.2⟩⟩
  ·exact⟨⟨⟨rfl,rfl⟩,ih.1⟩,ih.2⟩
theorem AV.soft_imp{bx:Nat->Option (Nat×Dc)}{τ τ':Nat->Option Nat}{φ:Tk->List Tk}{keep:Nat->Nat->Bool}{has:Nat->Bool}(hk:∀k v,keep k v=true->τ' k=some v/\v≠0/\τ k=some v/\(k,0)∈φ (k,0))(hb:∀k,has k=true->bx k≠none)(a:AV):AV.imp bx τ φ τ' (a.soft keep has) a/\(a.soft keep has).ok bx τ':=by
 induction a with
 | junk=>exact⟨trivial,trivial⟩
 | v x=>exact⟨rfl,trivial⟩
 | c d=>exact d.soft_imp hk
 | agg d=>exact d.soft_imp hk
 | bx k o =>
  simp only[AV.soft]
  split
  ·rename_i h;exact⟨⟨rfl,hb k h⟩,hb k h⟩
  ·exact⟨trivial,trivial⟩
 | el x=>exact⟨rfl,trivial⟩
 | nil=>exact⟨rfl,trivial⟩
 | cons a r iha ihr=>exact⟨⟨iha.1,ihr.1⟩,iha.2,ihr.2⟩
 | tup l ih=>exact ih
 | fn f a b iha ihb=>exact⟨⟨rfl,iha.1,ihb.1⟩,iha.2,ihb.2⟩
 | ev b o x=>exact⟨rfl,trivial⟩
def Dc.has(k:Nat):Dc->Bool
 | .nil=>false
 | .lit _ r=>r.has k
 | .nilr _ _ r=>r.has k
 | .row _ _ _ _ r=>r.has k
 | .seg _ _ r=>r.has k
 | .blk k' _ _ _ _ r=>k' == k || r.has k
def AV.has(k:Nat):AV->Bool
 | .c d=>d.has k
 | .agg d=>d.has k
 | .cons a r=>a.has k || r.has k
 | .tup l=>l.has k
 | .fn _ a b=>a.has k || b.has k
 | _=>false
def gcOf(N:Nat)(loc dropB dropT:Nat->Bool)(st:St):Option St :=
 let t:List (Nat×Nat):=(List.range (N+2)).filterMap λ k=>match st.τ k with
  | some (v+1)=>if dropT k then none else if (List.range N).any (λ n=>!loc n && (st.env n).has k) || (List.range (N+2)).any (λ n=>!dropB n && match st.bx n with
   | some (_,d)=>d.has k
   | none=>false) then some (k,v+1) else none
  | _=>none
 let q:List (Tk×List Tk):=t.map λ p=>((p.1,0),[(p.1,0)])
 let keep:=λ k ver=>τOf t k == some ver && (ver != 0 && (st.τ k == some ver && (φOf q (k,0)).contains (k,0)))
 let b:List (Nat×Nat×Dc):=(List.range (N+2)).filterMap λ k=>if dropB k then none else match st.bx k with
  | some (T,d)=>some (k,T,d.soft keep)
  | none=>none
 let l:List (Nat×AV):=(List.range N).filterMap λ n=>if loc n then none else match st.env n with
  | .junk=>none
  | a=>some (n,a.soft keep λ k=>(JD b k).isSome)
 if List.Nodup (q.flatMap λ p:Tk×List Tk=>p.2) then some (bV l b t) else none
theorem gc_le{G:World->Prop}{N:Nat}{loc dropB dropT:Nat->Bool}{st s:St}(h:gcOf N loc dropB dropT st=some s):Le G N st s:=by
 simp only[gcOf] at h
 split at h
 ·rename_i hq
  cases h
  refine aK _ (λ p hp=>?_) (λ p hp=>?_) hq
  ·obtain⟨n,-,h1⟩:=List.mem_filterMap.1 hp
   split at h1
   ·cases h1
   ·split at h1
    ·cases h1
    ·cases h1
     exact AV.soft_imp (λ k v hk=>by simpa[Bool.and_eq_true] using hk) (λ k hk=>by simpa[Option.isSome_iff_ne_none] using hk) _
  ·obtain⟨n,-,h1⟩:=List.mem_filterMap.1 hp
   split at h1
   ·cases h1
   ·split at h1
    ·rename_i T d hd
     cases h1
     simp only[hd]
     exact⟨trivial,Dc.soft_imp (λ k v hk=>by simpa[Bool.and_eq_true] using hk) _⟩
    ·cases h1
 ·cases h
end
section
def lK:Code->List Oper
 | .region _ ops _=>ops.toList
 | .seq x y=>lK x++lK y
 | .cond _ x y=>lK x++lK y
 | .block _ c=>lK c
 | .loop c=>lK c
 | _=>[]
def occ(l:List Oper)(t:Nat):Nat:=(l.filter λ o=>o.dst == some t).length
def locOf(C c:Code)(np t:Nat):Bool:=np<=t && (occ (lK c) t != 0 && occ (lK c) t == occ (lK C) t)
def isBuild:Op->Bool
 | .buildSlice _ _ _=>true
 | _=>false
def isBox:Op->Bool
 | .alloc _=>true
 | .box _ _=>true
 | _=>false
def SK(p:Op->Bool)(c:Code)(k:Nat):Bool:=(lK c).any λ o=>p o.op && gF o == k
variable {P:Program} {G:World->Prop} {tb:TB}
def CV(call:Nat->AV->Option AV)(tb:TB)(N:Nat)(ops:Array Oper):List Oper->St->Option St
 | [],st=>some st
 | o :: os,st =>
  let go:=match rU o.op with
   | some (fo,xs)=>match eR (ev st N fo) with
    | some (f,x,y)=>if x.isLL && y.isLL then match (x.app ((AV.list (xs.map (ev st N))).app y)).lend st.bx with
      | some avs=>match call f avs with
       | some res=>if st.τ (gF o)=none then CV call tb N ops os (st.out o { av:=res.ren (gF o),tu:=some (gF o,0) }) else none
       | none=>none
      | none=>none
     else none
    | none=>none
   | none=>match KB tb N o st with
    | some (true,r)=>CV call tb N ops os (st.out o r)
    | _=>none
  match o.guard with
  | none=>go
  | some (j,want)=>match (ops[j]?).bind (·.dst) with
   | some d=>match ev st N (.tmp d) with
    | .v (.bool b)=>if b=want then go else CV call tb N ops os (st.out o { av:=.v undef })
    | _=>none
   | none=>none
theorem yO{call:Nat->AV->Option AV}(hc:∀f a r,call f a=some r->Holds P G f a r){N:Nat}{ops:Array Oper}{K:Exit->St->Prop}:∀ {os:List Oper} {st s:St},CV call tb N ops os st=some s->K .normal s->lZ P G tb N ops os K st
 | [],st,s,h,k=>by cases h;exact k
 | o :: os,st,s,h,k=>by
  have go:((match rU o.op with
   | some (fo,xs)=>match eR (ev st N fo) with
    | some (f,x,y)=>if x.isLL && y.isLL then match (x.app ((AV.list (xs.map (ev st N))).app y)).lend st.bx with
      | some avs=>match call f avs with
       | some res=>if st.τ (gF o)=none then CV call tb N ops os (st.out o { av:=res.ren (gF o),tu:=some (gF o,0) }) else none
       | none=>none
      | none=>none
     else none
    | none=>none
   | none=>match KB tb N o st with
    | some (true,r)=>CV call tb N ops os (st.out o r)
    | _=>none)=some s)->(match rU o.op with
   | some (fo,xs)=>match eR (ev st N fo) with
    | some (f,x,y)=>(x.isLL=true/\y.isLL=true)/\Ask P G o f (x.app ((AV.list (xs.map (ev st N))).app y)) (lZ P G tb N ops os K) st
    | none=>False
   | none=>match BZ tb N o st with
    | some (c,r)=>c/\lZ P G tb N ops os K (st.out o r)
    | none=>False):=by
   intro h
   split at h
   ·split at h
    ·split at h
     ·rename_i hl
      split at h
      ·rename_i avs ha
       split at h
       ·rename_i res hr
        split at h
        ·rename_i hn
         simp only[Bool.and_eq_true] at hl
         exact⟨hl,avs,_,.inl ⟨res,hc _ _ _ hr,rfl⟩,AV.lend_arg ha,hn,yO hc h k⟩
        ·cases h
       ·cases h
      ·cases h
     ·cases h
    ·cases h
   ·split at h
    ·rename_i hs
     obtain⟨c,h1,h2⟩:=QB _ hs
     rw[h1]
     exact⟨h2,yO hc h k⟩
    ·cases h
  simp only[CV] at h
  simp only[lZ]
  cases hg:o.guard with
  | none=>rw[hg] at h;exact go h
  | some q =>
   obtain⟨j,want⟩:=q
   rw[hg] at h
   simp only at h ⊢
   split at h
   ·rename_i d hd
    try simp only[hd]
    split at h
    ·rename_i b hb
     try simp only[hb]
     split at h
     ·rename_i hw;rw[if_pos hw];exact go h
     ·rename_i hw;rw[if_neg hw];exact yO hc h k
    ·cases h
   ·cases h
def L4(call:Nat->AV->Option AV)(self:Code->St->Option (Exit×St))(tb:TB)(N np:Nat)(C:Code):Code->St->Option (Exit×St)
 | .skip,st=>some (.normal,st)
 | .label _,st=>some (.normal,st)
 | .region _ ops draw,st=>if !draw || tP ops then match CV call tb N ops ops.toList st with
   | some s=>some (.normal,s)
   | none=>none
  else none
 | .seq x y,st=>match self x st with
  | some (.normal,s)=>self y s
  | r=>r
 | .cond c x y,st=>match ev st N c with
  | .v (.bool b)=>if b then self x st else self y st
  | _=>none
 | .block id c,st=>match self c st with
  | some (.exit id',s)=>if id'=id then some (.normal,s) else some (.exit id',s)
  | r=>r
 | .loop c,st=>match self c st with
  | some (.normal,s)=>match gcOf N (locOf C c np) (SK isBox c) (SK isBuild c) s with
   | some s=>self (.loop c) s
   | none=>none
  | r=>r
 | .exit id,st=>some (.exit id,st)
 | .ret,st=>some (.ret,st)
 | _,_=>none
def InL(P:Program)(G:World->Prop)(N:Nat)(c:Code)(Q:Exit->St->Prop)(st:St):Prop:=∀F0 w0 a w,Sat G F0 w0 N st a w->∀b k cs,∃e a' w',OY G N F0 w0 Q e a' w'/\Arrives P (lone (b.at a (.inLoop c :: k)) cs w) b k cs e a' w'
theorem around{N:Nat}{c:Code}{Q:Exit->St->Prop}{st:St}(hT:jE P tb)(hS:iU G)(hm:P.follows .mixedOrders=true)(h:dL P G tb N c (nN (λ s=>∃s',Le G N s s'/\InL P G N c Q s') Q) st):N2 P G N c Q st/\InL P G N c Q st:=by
 have key:∀F0 w0 a w,Sat G F0 w0 N st a w->∀b k cs,∃e a' w',OY G N F0 w0 Q e a' w'/\Arrives P (lone (b.at a (.code c :: .inLoop c :: k)) cs w) b k cs e a' w':=by
  intro F0 w0 a w hs b k cs
  obtain⟨e,a1,w1,hq,harr⟩:=kF hT hS hm h F0 w0 a w hs b (.inLoop c :: k) cs
  obtain⟨s1,hq,hs1⟩:=hq
  cases e with
  | normal =>
   obtain⟨s',hle,hl⟩:=hq
   obtain⟨e2,a2,w2,hq2,harr2⟩:=hl F0 w0 a1 w1 (hle F0 w0 a1 w1 hs1) b k cs
   exact⟨e2,a2,w2,hq2,.of_steps harr harr2⟩
  | exit id=>exact⟨_,a1,w1,⟨s1,hq,hs1⟩,.pass (x:=.inLoop c) rfl (λ _ _=>.inl (by simp)) harr⟩
  | goto l=>exact⟨_,a1,w1,⟨s1,hq,hs1⟩,.pass (x:=.inLoop c) rfl (λ _ _=>.inl (by simp)) harr⟩
  | ret=>exact⟨_,a1,w1,⟨s1,hq,hs1⟩,.pass (x:=.inLoop c) rfl (λ _ _=>.inl (by simp)) harr⟩
  | panic ch=>exact⟨_,a1,w1,⟨s1,hq,hs1⟩,.pass (x:=.inLoop c) rfl (λ _ _=>.inl (by simp)) harr⟩
  | outgrown=>exact⟨_,a1,w1,⟨s1,hq,hs1⟩,.pass (x:=.inLoop c) rfl (λ _ _=>.inl (by simp)) harr⟩
 refine⟨fun F0 w0 a w hs b k cs=>?_,λ F0 w0 a w hs b k cs=>?_⟩
 ·obtain⟨e,a',w',hq,harr⟩:=key F0 w0 a w hs b k cs
  exact⟨e,a',w',hq,.of_steps (.one step_loop) harr⟩
 ·obtain⟨e,a',w',hq,harr⟩:=key F0 w0 a w hs b k cs
  exact⟨e,a',w',hq,.of_steps (.one step_inLoop) harr⟩
theorem UI{call:Nat->AV->Option AV}{N np:Nat}{C:Code}{self:Code->St->Option (Exit×St)}(hT:jE P tb)(hS:iU G)(hm:P.follows .mixedOrders=true)(hc:∀f a r,call f a=some r->Holds P G f a r)
  (hs:∀c st e s (Q:Exit->St->Prop),self c st=some (e,s)->Q e s->dL P G tb N c Q st/\∀c',c=.loop c'->InL P G N c' Q st) (c:Code) (st:St) (e:Exit) (s:St) (Q:Exit->St->Prop) (h:L4 call self tb N np C c st=some (e,s)) (hq:Q e s):dL P G tb N c Q st/\∀c',c=.loop c'->InL P G N c' Q st:=by
 cases c with
 | skip=>cases h;exact⟨hq,λ _ e=>by cases e⟩
 | label _=>cases h;exact⟨hq,λ _ e=>by cases e⟩
 | exit id=>cases h;exact⟨hq,λ _ e=>by cases e⟩
 | ret=>cases h;exact⟨hq,λ _ e=>by cases e⟩
 | region id ops draw =>
  refine⟨?_,λ _ e=>by cases e⟩
  simp only[L4] at h
  split at h
  ·rename_i hd
   split at h
   ·rename_i s' h1
    cases h
    refine⟨fun e=>?_,yO hc h1 hq⟩
    simpa[e] using hd
   ·cases h
  ·cases h
 | seq x y =>
  refine⟨?_,λ _ e=>by cases e⟩
  simp only[L4] at h
  cases hx:self x st with
  | none=>rw[hx] at h;cases h
  | some q =>
   obtain⟨e1,s1⟩:=q
   rw[hx] at h
   refine (hs x st e1 s1 (nN (dL P G tb N y Q) Q) hx ?_).1
   cases e1 with
   | normal=>exact (hs y s1 e s Q h hq).1
   | _=>cases h;exact hq
 | cond c x y =>
  refine⟨?_,λ _ e=>by cases e⟩
  simp only[L4] at h
  simp only[dL]
  split at h
  ·rename_i b hb
   try simp only[hb]
   split at h
   ·rename_i hw;rw[if_pos hw];exact (hs x st e s Q h hq).1
   ·rename_i hw;rw[if_neg hw];exact (hs y st e s Q h hq).1
  ·cases h
 | block id c =>
  refine⟨?_,λ _ e=>by cases e⟩
  simp only[L4] at h
  cases hx:self c st with
  | none=>rw[hx] at h;cases h
  | some q =>
   obtain⟨e1,s1⟩:=q
   rw[hx] at h
   refine (hs c st e1 s1 (blkK id Q) hx ?_).1
   cases e1 with
   | exit id' =>
    simp only at h
    show if id'=id then _ else _
    split at h
    ·rename_i e;rw[if_pos e];cases h;exact hq
    ·rename_i e;rw[if_neg e];cases h;exact hq
   | _=>cases h;exact hq
 | loop c =>
  have:dL P G tb N c (nN (λ s=>∃s',Le G N s s'/\InL P G N c Q s') Q) st:=by
   simp only[L4] at h
   cases hx:self c st with
   | none=>rw[hx] at h;cases h
   | some q =>
    obtain⟨e1,s1⟩:=q
    rw[hx] at h
    refine (hs c st e1 s1 _ hx ?_).1
    cases e1 with
    | normal =>
     simp only at h
     split at h
     ·rename_i s2 hg
      exact⟨s2,gc_le hg,(hs (.loop c) s2 e s Q h hq).2 c rfl⟩
     ·cases h
    | _=>cases h;exact hq
  obtain⟨h1,h2⟩:=around hT hS hm this
  exact⟨h1,λ c' e=>by cases e;exact h2⟩
 | _=>cases h
def AV.toL:AV->Option (List AV)
 | .nil=>some []
 | .cons a r=>r.toL.map (a :: ·)
 | _=>none
theorem AV.toL_ok{a:AV}:∀ {l:List AV},a.toL=some l->a=.list l:=by
 induction a with
 | nil=>intro l h;cases h;rfl
 | cons a r _ ih =>
  intro l h
  obtain⟨l',h1,rfl⟩:=Option.map_eq_some_iff.1 h
  simp[AV.list,ih h1]
 | _=>intro l h;cases h
def Dc.bareB:Dc->Bool
 | .nil=>true
 | .lit _ r=>r.bareB
 | .nilr _ _ r=>r.bareB
 | .row _ _ _ _ r=>r.bareB
 | .seg _ _ r=>r.bareB
 | .blk _ _ _ _ _ _=>false
def AV.bareB:AV->Bool
 | .c d=>d.bareB
 | .agg d=>d.bareB
 | .bx _ _=>false
 | .cons a r=>a.bareB && r.bareB
 | .tup l=>l.bareB
 | .fn _ a b=>a.bareB && b.bareB
 | _=>true
theorem Dc.bareB_ok{d:Dc}(h:d.bareB=true)(τ:Nat->Option Nat):d.ok τ:=by
 induction d with
 | nil=>trivial
 | lit v r ih=>exact ih h
 | nilr sz e r ih=>exact ih h
 | row k sz e x r ih=>exact ih h
 | seg k d r ih=>exact ih h
 | blk k v sz e x r _ _=>cases h
theorem AV.bareB_ok{a:AV}(h:a.bareB=true)(bx:Nat->Option (Nat×Dc))(τ:Nat->Option Nat):a.ok bx τ:=by
 induction a with
 | c d=>exact Dc.bareB_ok h τ
 | agg d=>exact Dc.bareB_ok h τ
 | bx k o=>cases h
 | cons a r iha ihr=>simp only[AV.bareB,Bool.and_eq_true] at h;exact⟨iha h.1,ihr h.2⟩
 | tup l ih=>exact ih h
 | fn f a b iha ihb=>simp only[AV.bareB,Bool.and_eq_true] at h;exact⟨iha h.1,ihb h.2⟩
 | _=>trivial
abbrev Hand:=Nat->Option ((Nat->AV->Option AV)->AV->Option AV)
def UR(P:Program)(tb:TB)(rG:Hand)(call:Nat->AV->Option AV)(code:Nat->Nat->Code->Code->St->Option (Exit×St))(f:Nat)(avs:AV):Option AV :=
 match rG f with
 | some g=>g call avs
 | none=>match P.funcs[f]? with
  | some fn=>match fn.body,avs.toL with
   | some c,some l=>if l.length<=fn.ntmps && l.all AV.bareB then match code fn.ntmps l.length c c (jQ l) with
     | some (.normal,s)=>(fn.results.toList.mapM (tO tb fn.ntmps s)).map λ l=>(AB l).frz
     | some (.ret,s)=>(fn.results.toList.mapM (tO tb fn.ntmps s)).map λ l=>(AB l).frz
     | _=>none
    else none
   | _,_=>none
  | none=>none
def DF(P:Program)(tb:TB)(rG:Hand):Nat->(Nat->AV->Option AV)×(Nat->Nat->Code->Code->St->Option (Exit×St))
 | 0=>(λ _ _=>none,λ _ _ _ _ _=>none)
 | n+1=>(UR P tb rG (DF P tb rG n).1 (DF P tb rG n).2,λ N np C c st=>L4 (DF P tb rG n).1 ((DF P tb rG n).2 N np C) tb N np C c st)
theorem LB (hT : jE P tb) (hS : iU G) (hm : P.follows .mixedOrders = true) (hnm : ∀ (f : Nat) (fn : Func), P.funcs[f]? = some fn → fn.name ≠ "runtime.NumGoroutine") {rG : Hand}
  (hh:∀call,(∀f a r,call f a=some r->Holds P G f a r)->∀f g,rG f=some g->∀a r,g call a=some r->Holds P G f a r):∀n,(∀f a r,(DF P tb rG n).1 f a=some r->Holds P G f a r) /\
   ∀N np C c st e s (Q:Exit->St->Prop),(DF P tb rG n).2 N np C c st=some (e,s)->Q e s->dL P G tb N c Q st/\∀c',c=.loop c'->InL P G N c' Q st
 | 0=>⟨fun _ _ _ h=>(by cases h),λ _ _ _ _ _ _ _ _ h=>(by cases h)⟩
 | n+1=>by
  obtain⟨ih1,ih2⟩:=LB hT hS hm hnm hh n
  refine⟨fun f a r h=>?_,λ N np C c st e s Q h hq=>UI hT hS hm ih1 (ih2 N np C) c st e s Q h hq⟩
  change UR P tb rG _ _ f a=some r at h
  unfold UR at h
  split at h
  ·rename_i g hg
   exact hh _ ih1 f g hg a r h
  ·split at h
   ·rename_i fn hf
    split at h
    ·rename_i c l hb hl
     have ha:=AV.toL_ok hl
     subst ha
     split at h
     ·rename_i hok
      simp only[Bool.and_eq_true,decide_eq_true_eq] at hok
      have fin:∀e s,(DF P tb rG n).2 fn.ntmps l.length c c (jQ l)=some (e,s)->(e=.normal∨e=.ret)->(fn.results.toList.mapM (tO tb fn.ntmps s)).map (λ l=>(AB l).frz)=some r->Holds P G f (.list l) r:=λ e s hc he hr=>by
       obtain⟨l',h1,rfl⟩:=Option.map_eq_some_iff.1 hr
       have hp:=AV.frz_plain (AB l')
       refine rD hT hS hm hf hb (hnm f fn hf) hok.1 (λ a ha=>AV.bareB_ok (List.all_eq_true.1 hok.2 a ha) _ _) hp.1 hp.2.1 hp.2.2 (ih2 _ _ _ _ _ _ _ _ hc ?_).1
       rcases he with rfl|rfl
       ·exact⟨l',[],h1,AV.frz_imp _,by simp⟩
       ·exact⟨l',[],h1,AV.frz_imp _,by simp⟩
      split at h
      ·rename_i s hc;exact fin _ s hc (.inl rfl) h
      ·rename_i s hc;exact fin _ s hc (.inr rfl) h
      ·cases h
     ·cases h
    ·cases h
   ·cases h
end
end Go.Proofs.YtlfnfiihfjggoaaGreatDoor
