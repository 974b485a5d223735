/-
  Calls worked out, part two: code, and what follows. Conditions: as each lemma states them.
-/
import Derived.Test.YtkcmapimcgppmaaGreatDoorT04
import Derived.Recover
import Derived.Defers
import Derived.Test.YtkcmapimcgppmaaGreatDoorT02
import Derived.Lib.AppendZeros
import Derived.Test.YtkcmapimcgppmaaGreatDoorT01
import Derived.Laws.StructEq
import Derived.Test.YtkcmapimcgppmaaGreatDoorT03
import Derived.Deep.MidRow
import Derived.Deep.Upon
import Derived.ArgAppend
import Derived.Laws.AppendOwn
import Derived.Shelf.SlIterI.Nil
import Derived.Shelf.SortM.Plain
import Derived.Shelf.SortM.SortNone
import Derived.Ground.GgzProg
import Derived.Ground.SlgmProg
import Derived.Test.YtkcmapimcgppmaaGreatDoorProg
import Derived.Maps.Own
import Derived.Maps.OwnOps
import Derived.Maps.Views
import Derived.WalkKit
set_option linter.all false
set_option linter.unusedVariables false
set_option linter.unusedSimpArgs false
set_option linter.unnecessarySimpa false
set_option maxHeartbeats 8000000
set_option maxRecDepth 100000
namespace Go.Proofs.YtkcmapimcgppmaaGreatDoor
section
open Go.RowKit
def iO:Code->List Oper
 | .region _ ops _=>ops.toList
 | .seq x y=>iO x++iO y
 | .cond _ x y=>iO x++iO y
 | .block _ c=>iO c
 | .loop c=>iO c
 | _=>[]
def occ(l:List Oper)(t:Nat):Nat:=(l.filter λ o=>o.dst == some t).length
def locOf(C c:Code)(np t:Nat):Bool:=np<=t && (occ (iO c) t != 0 && occ (iO c) t == occ (iO C) t)
def isBuild:Op->Bool
 | .buildSlice _ _ _=>true
 | _=>false
def isBox:Op->Bool
 | .alloc _=>true
 | .box _ _=>true
 | _=>false
def JN(p:Op->Bool)(c:Code)(k:Nat):Bool:=(iO c).any λ o=>p o.op && fF o == k
variable {P:Program} {G:World->Prop} {tb:TB}
def K8(call:Nat->AV->Option AV)(tb:TB)(N:Nat)(ops:Array Oper):List Oper->St->Option St
 | [],st=>some st
 | o :: os,st =>
  let go:=match oN o.op with
   | some (fo,xs)=>match dY (ev st N fo) with
    | some (f,x,y)=>if x.isLL && y.isLL then match (x.app ((AV.list (xs.map (ev st N))).app y)).lend st.bx with
      | some avs=>match call f avs with
       | some res=>if st.τ (fF o)=none then K8 call tb N ops os (st.out o { av:=res.ren (fF o),tu:=some (fF o,0) }) else none
       | none=>none
      | none=>none
     else none
    | none=>none
   | none=>match AN tb N o st with
    | some (true,r)=>K8 call tb N ops os (st.out o r)
    | _=>none
  match o.guard with
  | none=>go
  | some (j,want)=>match (ops[j]?).bind (·.dst) with
   | some d=>match ev st N (.tmp d) with
    | .v (.bool b)=>if b=want then go else K8 call tb N ops os (st.out o { av:=.v undef })
    | _=>none
   | none=>none
theorem uE{call:Nat->AV->Option AV}(hc:∀f a r,call f a=some r->Holds P G f a r){N:Nat}{ops:Array Oper}{K:Exit->St->Prop}:∀ {os:List Oper} {st s:St},K8 call tb N ops os st=some s->K .normal s->lH P G tb N ops os K st
 | [],st,s,h,k=>by cases h;exact k
 | o :: os,st,s,h,k=>by
  have go:((match oN o.op with
   | some (fo,xs)=>match dY (ev st N fo) with
    | some (f,x,y)=>if x.isLL && y.isLL then match (x.app ((AV.list (xs.map (ev st N))).app y)).lend st.bx with
      | some avs=>match call f avs with
       | some res=>if st.τ (fF o)=none then K8 call tb N ops os (st.out o { av:=res.ren (fF o),tu:=some (fF o,0) }) else none
       | none=>none
      | none=>none
     else none
    | none=>none
   | none=>match AN tb N o st with
    | some (true,r)=>K8 call tb N ops os (st.out o r)
    | _=>none)=some s)->(match oN o.op with
   | some (fo,xs)=>match dY (ev st N fo) with
    | some (f,x,y)=>(x.isLL=true/\y.isLL=true)/\Ask P G o f (x.app ((AV.list (xs.map (ev st N))).app y)) (lH P G tb N ops os K) st
    | none=>False
   | none=>match I8 tb N o st with
    | some (c,r)=>c/\lH P G tb N ops os K (st.out o r)
    | none=>False):=by
   intro h
   split at h
   ·split at h
    ·split at h
     ·rename_i hl
      split at h
      ·rename_i avs ha
       split at h
       ·rename_i res hr
        split at h
        ·rename_i hn
         simp only[Bool.and_eq_true] at hl
         exact⟨hl,avs,_,.inl ⟨res,hc _ _ _ hr,rfl⟩,AV.lend_arg ha,hn,uE hc h k⟩
        ·cases h
       ·cases h
      ·cases h
     ·cases h
    ·cases h
   ·split at h
    ·rename_i hs
     obtain⟨c,h1,h2⟩:=GI _ hs
     rw[h1]
     exact⟨h2,uE hc h k⟩
    ·cases h
  simp only[K8] at h
  simp only[lH]
  cases hg:o.guard with
  | none=>rw[hg] at h;exact go h
  | some q =>
   obtain⟨j,want⟩:=q
   rw[hg] at h
   simp only at h ⊢
   split at h
   ·rename_i d hd
    simp only[hd]
    split at h
    ·rename_i b hb
     simp only[hb]
     split at h
     ·rename_i hw;rw[if_pos hw];exact go h
     ·rename_i hw;rw[if_neg hw];exact uE hc h k
    ·cases h
   ·cases h
def wV(call:Nat->AV->Option AV)(self:Code->St->Option (Exit×St))(tb:TB)(N np:Nat)(C:Code):Code->St->Option (Exit×St)
 | .skip,st=>some (.normal,st)
 | .label _,st=>some (.normal,st)
 | .region _ ops draw,st=>if !draw || yN ops then match K8 call tb N ops ops.toList st with
   | some s=>some (.normal,s)
   | none=>none
  else none
 | .seq x y,st=>match self x st with
  | some (.normal,s)=>self y s
  | r=>r
 | .cond c x y,st=>match ev st N c with
  | .v (.bool b)=>if b then self x st else self y st
  | _=>none
 | .block id c,st=>match self c st with
  | some (.exit id',s)=>if id'=id then some (.normal,s) else some (.exit id',s)
  | r=>r
 | .loop c,st=>match self c st with
  | some (.normal,s)=>match gcOf N (locOf C c np) (JN isBox c) (JN isBuild c) s with
   | some s=>self (.loop c) s
   | none=>none
  | r=>r
 | .exit id,st=>some (.exit id,st)
 | .ret,st=>some (.ret,st)
 | _,_=>none
def InL(P:Program)(G:World->Prop)(N:Nat)(c:Code)(Q:Exit->St->Prop)(st:St):Prop:=∀F0 w0 a w,Sat G F0 w0 N st a w->∀b k cs,∃e a' w',FP G N F0 w0 Q e a' w'/\Arrives P (lone (b.at a (.inLoop c :: k)) cs w) b k cs e a' w'
theorem around{N:Nat}{c:Code}{Q:Exit->St->Prop}{st:St}(hT:gI P tb)(hS:jG G)(hm:P.follows .mixedOrders=true)(h:dI P G tb N c (tE (λ s=>∃s',Le G N s s'/\InL P G N c Q s') Q) st):zL P G N c Q st/\InL P G N c Q st:=by
 have key:∀F0 w0 a w,Sat G F0 w0 N st a w->∀b k cs,∃e a' w',FP G N F0 w0 Q e a' w'/\Arrives P (lone (b.at a (.code c :: .inLoop c :: k)) cs w) b k cs e a' w':=by
  intro F0 w0 a w hs b k cs
  obtain⟨e,a1,w1,hq,harr⟩:=gP hT hS hm h F0 w0 a w hs b (.inLoop c :: k) cs
  obtain⟨s1,hq,hs1⟩:=hq
  cases e with
  | normal =>
   obtain⟨s',hle,hl⟩:=hq
   obtain⟨e2,a2,w2,hq2,harr2⟩:=hl F0 w0 a1 w1 (hle F0 w0 a1 w1 hs1) b k cs
   exact⟨e2,a2,w2,hq2,.of_steps harr harr2⟩
  | exit id=>exact⟨_,a1,w1,⟨s1,hq,hs1⟩,.pass (x:=.inLoop c) rfl (λ _ _=>.inl (by simp)) harr⟩
  | goto l=>exact⟨_,a1,w1,⟨s1,hq,hs1⟩,.pass (x:=.inLoop c) rfl (λ _ _=>.inl (by simp)) harr⟩
  | ret=>exact⟨_,a1,w1,⟨s1,hq,hs1⟩,.pass (x:=.inLoop c) rfl (λ _ _=>.inl (by simp)) harr⟩
  | panic ch=>exact⟨_,a1,w1,⟨s1,hq,hs1⟩,.pass (x:=.inLoop c) rfl (λ _ _=>.inl (by simp)) harr⟩
  | outgrown=>exact⟨_,a1,w1,⟨s1,hq,hs1⟩,.pass (x:=.inLoop c) rfl (λ _ _=>.inl (by simp)) harr⟩
 refine⟨fun F0 w0 a w hs b k cs=>?_,λ F0 w0 a w hs b k cs=>?_⟩
 ·obtain⟨e,a',w',hq,harr⟩:=key F0 w0 a w hs b k cs
  exact⟨e,a',w',hq,.of_steps (.one step_loop) harr⟩
 ·obtain⟨e,a',w',hq,harr⟩:=key F0 w0 a w hs b k cs
  exact⟨e,a',w',hq,.of_steps (.one step_inLoop) harr⟩
theorem LJ{call:Nat->AV->Option AV}{N np:Nat}{C:Code}{self:Code->St->Option (Exit×St)}(hT:gI P tb)(hS:jG G)(hm:P.follows .mixedOrders=true)(hc:∀f a r,call f a=some r->Holds P G f a r)
  (hs:∀c st e s (Q:Exit->St->Prop),self c st=some (e,s)->Q e s->dI P G tb N c Q st/\∀c',c=.loop c'->InL P G N c' Q st) (c:Code) (st:St) (e:Exit) (s:St) (Q:Exit->St->Prop) (h:wV call self tb N np C c st=some (e,s)) (hq:Q e s):dI P G tb N c Q st/\∀c',c=.loop c'->InL P G N c' Q st:=by
 cases c with
 | skip=>cases h;exact⟨hq,λ _ e=>by cases e⟩
 | label _=>cases h;exact⟨hq,λ _ e=>by cases e⟩
 | exit id=>cases h;exact⟨hq,λ _ e=>by cases e⟩
 | ret=>cases h;exact⟨hq,λ _ e=>by cases e⟩
 | region id ops draw =>
  refine⟨?_,λ _ e=>by cases e⟩
  simp only[wV] at h
  split at h
  ·rename_i hd
   split at h
   ·rename_i s' h1
    cases h
    refine⟨fun e=>?_,uE hc h1 hq⟩
    simpa[e] using hd
   ·cases h
  ·cases h
 | seq x y =>
  refine⟨?_,λ _ e=>by cases e⟩
  simp only[wV] at h
  cases hx:self x st with
  | none=>rw[hx] at h;cases h
  | some q =>
   obtain⟨e1,s1⟩:=q
   rw[hx] at h
   refine (hs x st e1 s1 (tE (dI P G tb N y Q) Q) hx ?_).1
   cases e1 with
   | normal=>exact (hs y s1 e s Q h hq).1
   | _=>cases h;exact hq
 | cond c x y =>
  refine⟨?_,λ _ e=>by cases e⟩
  simp only[wV] at h
  simp only[dI]
  split at h
  ·rename_i b hb
   simp only[hb]
   split at h
   ·rename_i hw;rw[if_pos hw];exact (hs x st e s Q h hq).1
   ·rename_i hw;rw[if_neg hw];exact (hs y st e s Q h hq).1
  ·cases h
 | block id c =>
  refine⟨?_,λ _ e=>by cases e⟩
  simp only[wV] at h
  cases hx:self c st with
  | none=>rw[hx] at h;cases h
  | some q =>
   obtain⟨e1,s1⟩:=q
   rw[hx] at h
   refine (hs c st e1 s1 (blkK id Q) hx ?_).1
   cases e1 with
   | exit id' =>
    simp only at h
    show if id'=id then _ else _
    split at h
    ·rename_i e;rw[if_pos e];cases h;exact hq
    ·rename_i e;rw[if_neg e];cases h;exact hq
   | _=>cases h;exact hq
 | loop c =>
  have:dI P G tb N c (tE (λ s=>∃s',Le G N s s'/\InL P G N c Q s') Q) st:=by
   simp only[wV] at h
   cases hx:self c st with
   | none=>rw[hx] at h;cases h
   | some q =>
    obtain⟨e1,s1⟩:=q
    rw[hx] at h
    refine (hs c st e1 s1 _ hx ?_).1
    cases e1 with
    | normal =>
     simp only at h
     split at h
     ·rename_i s2 hg
      exact⟨s2,gc_le hg,(hs (.loop c) s2 e s Q h hq).2 c rfl⟩
     ·cases h
    | _=>cases h;exact hq
  obtain⟨h1,h2⟩:=around hT hS hm this
  exact⟨h1,λ c' e=>by cases e;exact h2⟩
 | _=>cases h
def AV.toL:AV->Option (List AV)
 | .nil=>some []
 | .cons a r=>r.toL.map (a :: ·)
 | _=>none
theorem AV.toL_ok{a:AV}:∀ {l:List AV},a.toL=some l->a=.list l:=by
 induction a with
 | nil=>intro l h;cases h;rfl
 | cons a r _ ih =>
  intro l h
  obtain⟨l',h1,rfl⟩:=Option.map_eq_some_iff.1 h
  simp[AV.list,ih h1]
 | _=>intro l h;cases h
def Dc.bareB:Dc->Bool
 | .nil=>true
 | .lit _ r=>r.bareB
 | .nilr _ _ r=>r.bareB
 | .row _ _ _ _ r=>r.bareB
 | .seg _ _ r=>r.bareB
 | .blk _ _ _ _ _ _=>false
def AV.bareB:AV->Bool
 | .c d=>d.bareB
 | .agg d=>d.bareB
 | .bx _ _=>false
 | .cons a r=>a.bareB && r.bareB
 | .tup l=>l.bareB
 | .fn _ a b=>a.bareB && b.bareB
 | _=>true
theorem Dc.bareB_ok{d:Dc}(h:d.bareB=true)(τ:Nat->Option Nat):d.ok τ:=by
 induction d with
 | nil=>trivial
 | lit v r ih=>exact ih h
 | nilr sz e r ih=>exact ih h
 | row k sz e x r ih=>exact ih h
 | seg k d r ih=>exact ih h
 | blk k v sz e x r _ _=>cases h
theorem AV.bareB_ok{a:AV}(h:a.bareB=true)(bx:Nat->Option (Nat×Dc))(τ:Nat->Option Nat):a.ok bx τ:=by
 induction a with
 | c d=>exact Dc.bareB_ok h τ
 | agg d=>exact Dc.bareB_ok h τ
 | bx k o=>cases h
 | cons a r iha ihr=>simp only[AV.bareB,Bool.and_eq_true] at h;exact⟨iha h.1,ihr h.2⟩
 | tup l ih=>exact ih h
 | fn f a b iha ihb=>simp only[AV.bareB,Bool.and_eq_true] at h;exact⟨iha h.1,ihb h.2⟩
 | _=>trivial
abbrev Hand:=Nat->Option ((Nat->AV->Option AV)->AV->Option AV)
def LS(P:Program)(tb:TB)(oC:Hand)(call:Nat->AV->Option AV)(code:Nat->Nat->Code->Code->St->Option (Exit×St))(f:Nat)(avs:AV):Option AV :=
 match oC f with
 | some g=>g call avs
 | none=>match P.funcs[f]? with
  | some fn=>match fn.body,avs.toL with
   | some c,some l=>if l.length<=fn.ntmps && l.all AV.bareB then match code fn.ntmps l.length c c (gU l) with
     | some (.normal,s)=>(fn.results.toList.mapM (pP tb fn.ntmps s)).map λ l=>(C0 l).frz
     | some (.ret,s)=>(fn.results.toList.mapM (pP tb fn.ntmps s)).map λ l=>(C0 l).frz
     | _=>none
    else none
   | _,_=>none
  | none=>none
def M4(P:Program)(tb:TB)(oC:Hand):Nat->(Nat->AV->Option AV)×(Nat->Nat->Code->Code->St->Option (Exit×St))
 | 0=>(λ _ _=>none,λ _ _ _ _ _=>none)
 | n+1=>(LS P tb oC (M4 P tb oC n).1 (M4 P tb oC n).2,λ N np C c st=>wV (M4 P tb oC n).1 ((M4 P tb oC n).2 N np C) tb N np C c st)
theorem BK (hT : gI P tb) (hS : jG G) (hm : P.follows .mixedOrders = true) (hnm : ∀ (f : Nat) (fn : Func), P.funcs[f]? = some fn → fn.name ≠ "runtime.NumGoroutine") {oC : Hand}
  (hh:∀call,(∀f a r,call f a=some r->Holds P G f a r)->∀f g,oC f=some g->∀a r,g call a=some r->Holds P G f a r):∀n,(∀f a r,(M4 P tb oC n).1 f a=some r->Holds P G f a r) /\
   ∀N np C c st e s (Q:Exit->St->Prop),(M4 P tb oC n).2 N np C c st=some (e,s)->Q e s->dI P G tb N c Q st/\∀c',c=.loop c'->InL P G N c' Q st
 | 0=>⟨fun _ _ _ h=>(by cases h),λ _ _ _ _ _ _ _ _ h=>(by cases h)⟩
 | n+1=>by
  obtain⟨ih1,ih2⟩:=BK hT hS hm hnm hh n
  refine⟨fun f a r h=>?_,λ N np C c st e s Q h hq=>LJ hT hS hm ih1 (ih2 N np C) c st e s Q h hq⟩
  change LS P tb oC _ _ f a=some r at h
  unfold LS at h
  split at h
  ·rename_i g hg
   exact hh _ ih1 f g hg a r h
  ·split at h
   ·rename_i fn hf
    split at h
    ·rename_i c l hb hl
     have ha:=AV.toL_ok hl
     subst ha
     split at h
     ·rename_i hok
      simp only[Bool.and_eq_true,decide_eq_true_eq] at hok
      have fin:∀e s,(M4 P tb oC n).2 fn.ntmps l.length c c (gU l)=some (e,s)->(e=.normal∨e=.ret)->(fn.results.toList.mapM (pP tb fn.ntmps s)).map (λ l=>(C0 l).frz)=some r->Holds P G f (.list l) r:=λ e s hc he hr=>by
       obtain⟨l',h1,rfl⟩:=Option.map_eq_some_iff.1 hr
       have hp:=AV.frz_plain (C0 l')
       refine wH hT hS hm hf hb (hnm f fn hf) hok.1 (λ a ha=>AV.bareB_ok (List.all_eq_true.1 hok.2 a ha) _ _) hp.1 hp.2.1 hp.2.2 (ih2 _ _ _ _ _ _ _ _ hc ?_).1
       rcases he with rfl|rfl
       ·exact⟨l',[],h1,AV.frz_imp _,by simp⟩
       ·exact⟨l',[],h1,AV.frz_imp _,by simp⟩
      split at h
      ·rename_i s hc;exact fin _ s hc (.inl rfl) h
      ·rename_i s hc;exact fin _ s hc (.inr rfl) h
      ·cases h
     ·cases h
    ·cases h
   ·cases h
end
section
open Go.RowKit
def ptOf:Ds->Lv
 | .lit (.int _ a) (.lit (.int _ b) r)=>(a,b) :: ptOf r
 | _=>[]
def lvOf:Ds->List Lv
 | .row _ _ p _ r=>ptOf p :: lvOf r
 | _=>[]
def FU:Ds->Ts
 | .lit (.int _ k) (.lit (.int _ n) (.lit (.int _ a) (.row _ _ l _ (.row _ _ x _ r))))=>.cons ⟨k,n,a,lvOf l⟩ (FU x) (FU r)
 | _=>.nil
def tmOf:Dc->Tm
 | .lit (.int _ k) (.lit (.int _ n) (.lit (.int _ a) (.row _ _ _ l (.row _ _ _ x _))))=>⟨⟨k,n,a,lvOf l⟩,FU x⟩
 | _=>⟨⟨0,0,0,[]⟩,.nil⟩
def BS:Value->Value->Bool
 | .int k a,.int k' b=>decide (k=k') && decide (a=b)
 | _,_=>false
theorem N7{u v:Value}(h:BS u v=true):u=v:=by
 unfold BS at h
 split at h
 ·simp only[Bool.and_eq_true,decide_eq_true_eq] at h
  rw[h.1,h.2]
 ·cases h
def Ds.eqB:Ds->Ds->Bool
 | .nil,.nil=>true
 | .lit u r,.lit v s=>BS u v && r.eqB s
 | .row sz e x p r,.row sz' e' x' p' r'=>decide (sz=sz') && (decide (e=e') && (x.eqB x' && (p.eqB p' && r.eqB r')))
 | _,_=>false
theorem Ds.eqB_ok{x:Ds}:∀ {y:Ds},x.eqB y=true->x=y:=by
 induction x with
 | nil=>intro y h;cases y<;>first | rfl | cases h
 | lit u r ih =>
  intro y h
  cases y<;>simp only[Ds.eqB,Bool.and_eq_true] at h<;>try (cases h;done)
  rw[N7 h.1,ih h.2]
 | row sz e x p r ihx ihp ihr =>
  intro y h
  cases y<;>simp only[Ds.eqB,Bool.and_eq_true,decide_eq_true_eq] at h<;>try (cases h;done)
  obtain⟨rfl,rfl,h1,h2,h3⟩:=h
  rw[ihx h1,ihp h2,ihr h3]
def Dc.eqB:Dc->Dc->Bool
 | .nil,.nil=>true
 | .lit u r,.lit v s=>BS u v && r.eqB s
 | .row none sz e x r,.row none sz' e' x' r'=>decide (sz=sz') && (decide (e=e') && (x.eqB x' && r.eqB r'))
 | _,_=>false
theorem Dc.eqB_ok{x:Dc}:∀ {y:Dc},x.eqB y=true->x=y:=by
 induction x with
 | nil=>intro y h;cases y<;>first | rfl | cases h
 | lit u r ih =>
  intro y h
  cases y<;>simp only[Dc.eqB,Bool.and_eq_true] at h<;>try (cases h;done)
  rw[N7 h.1,ih h.2]
 | row k sz e x r ihr =>
  intro y h
  cases k with
  | some _=>cases y<;>cases h
  | none =>
   cases y with
   | row k' sz' e' x' r' =>
    cases k' with
    | some _=>cases h
    | none =>
     simp only[Dc.eqB,Bool.and_eq_true,decide_eq_true_eq] at h
     obtain⟨rfl,rfl,h1,h2⟩:=h
     rw[Ds.eqB_ok h1,ihr h2]
   | _=>cases h
 | nilr sz e r _=>intro y h;cases y<;>cases h
 | seg k d r _=>intro y h;cases y<;>cases h
 | blk k v sz e x r _ _=>intro y h;cases y<;>cases h
def tmB(d:Dc):Option Tm:=let t:=tmOf d;if d.eqB (tmC none none t.h t.x) then some t else none
theorem T5{d:Dc}{t:Tm}(h:tmB d=some t):.agg d=tmL t:=by
 simp only[tmB] at h
 split at h
 ·rename_i h1;cases h;exact congrArg AV.agg (Dc.eqB_ok h1)
 ·cases h
def tsB:Dc->Option Ts
 | .row none 5 26 x .nil=>let t:=FU x;if x.eqB (tDs ty t) then some t else none
 | _=>none
theorem FW{d:Dc}{t:Ts}(h:tsB d=some t):.c d=tsA none t:=by
 unfold tsB at h
 split at h
 ·simp only at h
  split at h
  ·rename_i h1;cases h;exact congrArg (λ x=>AV.c (.row none 5 26 x .nil)) (Ds.eqB_ok h1)
  ·cases h
 ·cases h
def inB(n:Int):Bool:=decide (-9223372036854775808<=n) && decide (n<=9223372036854775807)
theorem wG{n:Int}(h:inB n=true) : -9223372036854775808<=n/\n<=9223372036854775807:=by simpa[inB] using h
end
section
open Go.RowKit
def Dc.unl:Dc->Bool
 | .nil=>true
 | .lit _ r=>r.unl
 | .nilr _ _ r=>r.unl
 | .row none _ _ _ r=>r.unl
 | .seg none _ r=>r.unl
 | _=>false
def AV.unl:AV->Bool
 | .c d=>d.unl
 | .agg d=>d.unl
 | .bx _ _=>false
 | .cons a r=>a.unl && r.unl
 | .tup l=>l.unl
 | .fn _ a b=>a.unl && b.unl
 | _=>true
theorem Gh.Ow_none{g:Gh}{d:Ds}{xs:List Value}:g.Ow none d xs:=λ j e=>by cases e
theorem RepC.mv{g g':Gh}(hF:∀b o v,g.F b o=some v->g'.F b o=some v)(hh:g.w.heap.size<=g'.w.heap.size){d:Dc}:∀ {xs:List Value},d.unl=true->RepC g d xs->RepC g' d xs:=by
 induction d with
 | nil=>intro xs _ h;exact h
 | lit v r ih=>rintro xs hu ⟨h0,ys,e,h⟩;exact⟨h0,ys,e,ih hu h⟩
 | nilr sz e r ih=>rintro xs hu ⟨ys,e,h⟩;exact⟨ys,e,ih hu h⟩
 | row k sz e x r ih =>
  cases k with
  | some _=>intro xs hu;cases hu
  | none=>rintro xs hu ⟨h0,v,ys,e,h1,-,h⟩;exact⟨h0,v,ys,e,h1.mono (λ b o v _ hv=>hF b o v hv) hh,Gh.Ow_none,ih hu h⟩
 | seg k d r ih =>
  cases k with
  | some _=>intro xs hu;cases hu
  | none=>rintro xs hu ⟨h0,ys,zs,e,h1,-,h⟩;exact⟨h0,ys,zs,e,h1.mono (λ b o v _ hv=>hF b o v hv) hh,Gh.Ow_none,ih hu h⟩
 | blk k v sz e x r _ _=>intro xs hu;cases hu
theorem RepV.mv{g g':Gh}(hF:∀b o v,g.F b o=some v->g'.F b o=some v)(hh:g.w.heap.size<=g'.w.heap.size){a:AV}(hs:a.flat=true∨∀b o v,b<g.w.heap.size->g.Fs b o=some v->g'.Fs b o=some v):∀ {xs:List Value},a.unl=true->RepV g a xs->RepV g' a xs:=by
 induction a with
 | junk=>intros;trivial
 | v x=>intro xs _ h;exact h
 | c d=>intro xs hu h;exact RepC.mv hF hh hu h
 | agg d=>rintro xs hu ⟨ys,e,h⟩;exact⟨ys,e,RepC.mv hF hh hu h⟩
 | bx k o=>intro xs hu;cases hu
 | el x =>
  rintro xs _ ⟨h0,b,o,ys,e,hb,h1,h2⟩
  rcases hs with hs|hs
  ·cases hs
  ·exact⟨h0,b,o,ys,e,Nat.lt_of_lt_of_le hb hh,h1.mono (λ b o v _ hv=>hF b o v hv) hh,λ j u hu=>hs _ _ _ hb (h2 j u hu)⟩
 | nil=>intro xs _ h;exact h
 | cons a r iha ihr =>
  rintro xs hu ⟨y,ys,e,h1,h2⟩
  simp only[AV.unl,Bool.and_eq_true] at hu
  simp only[AV.flat,Bool.and_eq_true] at hs
  exact⟨y,ys,e,iha (hs.imp And.left id) hu.1 h1,ihr (hs.imp And.right id) hu.2 h2⟩
 | tup l ih=>rintro xs hu ⟨ys,e,h⟩;exact⟨ys,e,ih hs hu h⟩
 | fn f a b iha ihb =>
  rintro xs hu ⟨ys,zs,e,h1,h2⟩
  simp only[AV.unl,Bool.and_eq_true] at hu
  simp only[AV.flat,Bool.and_eq_true] at hs
  exact⟨ys,zs,e,iha (hs.imp And.left id) hu.1 h1,ihb (hs.imp And.right id) hu.2 h2⟩
 | ev b o x =>
  rintro xs _ ⟨e,h0,hb,ys,h1,h2⟩
  rcases hs with hs|hs
  ·cases hs
  ·exact⟨e,h0,Nat.lt_of_lt_of_le hb hh,ys,h1.mono (λ b o v _ hv=>hF b o v hv) hh,λ j u hu=>hs _ _ _ hb (h2 j u hu)⟩
theorem RepC.frz{g:Gh}{d:Dc}:∀ {xs:List Value},RepC g d xs->RepC g d.frz xs:=by
 induction d with
 | nil=>intro xs h;exact h
 | lit v r ih=>rintro xs ⟨h0,ys,e,h⟩;exact⟨h0,ys,e,ih h⟩
 | nilr sz e r ih=>rintro xs ⟨ys,e,h⟩;exact⟨ys,e,ih h⟩
 | row k sz e x r ih=>rintro xs ⟨h0,v,ys,e,h1,-,h⟩;exact⟨h0,v,ys,e,h1,Gh.Ow_none,ih h⟩
 | seg k d r _=>intro xs h;exact⟨h.good,xs,[],by simp,h.vs,Gh.Ow_none,rfl⟩
 | blk k v sz e x r _ ih=>rintro xs ⟨h0,-,v,ys,e,h1,-,h⟩;exact⟨h0,v,ys,e,h1,Gh.Ow_none,ih h⟩
theorem RepV.frz{g:Gh}{a:AV}:∀ {xs:List Value},RepV g a xs->RepV g a.frz xs:=by
 induction a with
 | v x=>intro xs h;exact h
 | c d=>intro xs h;exact RepC.frz h
 | agg d=>rintro xs ⟨ys,e,h⟩;exact⟨ys,e,RepC.frz h⟩
 | nil=>intro xs h;exact h
 | cons a r iha ihr=>rintro xs ⟨y,ys,e,h1,h2⟩;exact⟨y,ys,e,iha h1,ihr h2⟩
 | tup l ih=>rintro xs ⟨ys,e,h⟩;exact⟨ys,e,ih h⟩
 | fn f a b iha ihb=>rintro xs ⟨ys,zs,e,h1,h2⟩;exact⟨ys,zs,e,iha h1,ihb h2⟩
 | _=>intros;trivial
theorem Dc.frz_unl(d:Dc):d.frz.unl=true:=by
 induction d with
 | seg k d r _=>rfl
 | nil=>rfl
 | lit v r ih=>exact ih
 | nilr sz e r ih=>exact ih
 | row k sz e x r ih=>exact ih
 | blk k ver sz e x r _ ih=>exact ih
theorem AV.frz_unl(a:AV):a.frz.unl=true:=by
 induction a with
 | c d=>exact d.frz_unl
 | agg d=>exact d.frz_unl
 | cons a r iha ihr=>simp[AV.frz,AV.unl,iha,ihr]
 | tup l ih=>exact ih
 | fn f a b iha ihb=>simp[AV.frz,AV.unl,iha,ihb]
 | _=>rfl
theorem Holds.frz{P:Program}{G:World->Prop}{f:Nat}{ps r:AV}(h:Holds P G f ps r):Holds P G f ps r.frz :=
 ⟨h.1,(AV.frz_plain r).1,λ F w vs hF hG hv=>(h.2.2 F w vs hF hG hv).mono λ e w' ⟨v,fp,h1,h2,h3,h4,h5⟩=>⟨v,fp,h1,h2,RepV.frz h3,h4,h5⟩⟩
theorem Q9(p:Addr)(w:World) :
  CallsD Tryz.prog 160 #[.pointer (some p)] .returning w λ e u' w'=>e=.returned (.tuple #[])/\u'=.returning/\w'=w:=by
 refine callsD_of_wpS Tryz.func160 rfl λ c₀ cs hu=>?_
 apply wpS_seq
 apply wpS_region
 simp[wpOpsS,go_sem,recoverD,hu,Tryz.ntmps160,Exit.thenS]
 refine wpS_of_wp (wp_mono (Q:=λ e a w'=>e=.normal/\a.defers=[]/\w'=w) ?_ ?_)
 ·clear hu
  rw[show #[Value.pointer (some p)]++((Array.replicate 16 undef).setIfInBounds 4 Value.nilIface).setIfInBounds 0 Value.nilIface=#[Value.pointer (some p),Value.nilIface,undef,undef,undef,Value.nilIface,undef,undef,undef,undef,undef,undef,undef,undef,undef,undef,undef] from rfl]
  go_wp2
 ·rintro e a w' ⟨rfl,hd,rfl⟩
  cases c₀
  simp_all [bodyPostS,results,Tryz.results160]
theorem uQ(g:Nat)(x y:Array Value)(w:World)(hg:qN Tryz.prog g)(R:Value->World->Prop)(hc:Calls Tryz.prog g (x++y) (w.alloc (.cells #[.slice none 0 0] 56)) λ e w'=>∃p n c,e=.returned (.slice p n c)/\Below (w.heap.size+1) (w.alloc (.cells #[.slice none 0 0] 56)) w'/\R (.slice p n c) w') :
  Calls Tryz.prog 79 #[.func (.func g) x y] w λ e w'=>∃v w1,e=.returned v/\Below (w.heap.size+1) (w.alloc (.cells #[.slice none 0 0] 56)) w1/\R v w1/\w'=w1.setCell ⟨w.heap.size,0,none⟩ v:=by
 have hmf:∀(fn:Fn) (first cap:Array Value) (w:World),(Instr.makeFunc fn first cap).run Tryz.prog w=.ok (.func fn first cap) w:=λ _ _ _ _=>rfl
 have hcf:∀w,(callFunc g (x++y)).run Tryz.prog w=.ok (.enter g (x++y)) w:=λ w=>by
  obtain⟨fn,k1,k2,k3⟩:=hg
  simp[callFunc,k1,k2,k3]
 have HC:=hid hc
 clear hc hg
 go_enter_defers Tryz.func79,Tryz.ntmps79
 go_wp2_with fail
 refine HC.out.mono ?_
 rintro e w1 ⟨p,n,c,rfl,hb1,hr⟩
 have HB:=hid hb1
 have HR:=hid hr
 have d0:w1.cell? ⟨w.heap.size,0,none⟩=some (.slice none 0 0):=(hb1.cell (p:=⟨w.heap.size,0,none⟩) (by simp)).trans (by simp[go_sem])
 have f0:w1.frozen? ⟨w.heap.size,0,none⟩=false:=(hb1.frozen (p:=⟨w.heap.size,0,none⟩) (by simp)).trans (by simp[go_sem])
 clear hb1 hr
 go_wp2
 refine leaves_cons (f:=160) (args:=#[.pointer (some ⟨w.heap.size,0,none⟩)]) (by simp) (by simp[go_sem]) ?_
 refine (Q9 _ _).mono ?_
 rintro e u' w'' ⟨rfl,rfl,rfl⟩
 have c0:(w1.setCell ⟨w.heap.size,0,none⟩ (.slice p n c)).cell? ⟨w.heap.size,0,none⟩=some (.slice p n c):=World.cell?_setCell_same' _ _ _ (by rw[d0];rfl)
 simp[Leaves,settle,results,Tryz.results79,go_sem,c0]
 exact⟨w1,HB.out,HR.out,rfl⟩
theorem Q7(p:Addr)(w:World) :
  CallsD Tryz.prog 194 #[.pointer (some p)] .returning w λ e u' w'=>e=.returned (.tuple #[])/\u'=.returning/\w'=w:=by
 refine callsD_of_wpS Tryz.func194 rfl λ c₀ cs hu=>?_
 apply wpS_seq
 apply wpS_region
 simp[wpOpsS,go_sem,recoverD,hu,Tryz.ntmps194,Exit.thenS]
 refine wpS_of_wp (wp_mono (Q:=λ e a w'=>e=.normal/\a.defers=[]/\w'=w) ?_ ?_)
 ·clear hu
  rw[show #[Value.pointer (some p)]++((Array.replicate 16 undef).setIfInBounds 4 Value.nilIface).setIfInBounds 0 Value.nilIface=#[Value.pointer (some p),Value.nilIface,undef,undef,undef,Value.nilIface,undef,undef,undef,undef,undef,undef,undef,undef,undef,undef,undef] from rfl]
  go_wp2
 ·rintro e a w' ⟨rfl,hd,rfl⟩
  cases c₀
  simp_all [bodyPostS,results,Tryz.results194]
theorem uP(g:Nat)(x y:Array Value)(w:World)(hg:qN Tryz.prog g)(R:Value->World->Prop)(hc:Calls Tryz.prog g (x++y) (w.alloc (.cells #[.slice none 0 0] 22)) λ e w'=>∃p n c,e=.returned (.slice p n c)/\Below (w.heap.size+1) (w.alloc (.cells #[.slice none 0 0] 22)) w'/\R (.slice p n c) w') :
  Calls Tryz.prog 112 #[.func (.func g) x y] w λ e w'=>∃v w1,e=.returned v/\Below (w.heap.size+1) (w.alloc (.cells #[.slice none 0 0] 22)) w1/\R v w1/\w'=w1.setCell ⟨w.heap.size,0,none⟩ v:=by
 have hmf:∀(fn:Fn) (first cap:Array Value) (w:World),(Instr.makeFunc fn first cap).run Tryz.prog w=.ok (.func fn first cap) w:=λ _ _ _ _=>rfl
 have hcf:∀w,(callFunc g (x++y)).run Tryz.prog w=.ok (.enter g (x++y)) w:=λ w=>by
  obtain⟨fn,k1,k2,k3⟩:=hg
  simp[callFunc,k1,k2,k3]
 have HC:=hid hc
 clear hc hg
 go_enter_defers Tryz.func112,Tryz.ntmps112
 go_wp2_with fail
 refine HC.out.mono ?_
 rintro e w1 ⟨p,n,c,rfl,hb1,hr⟩
 have HB:=hid hb1
 have HR:=hid hr
 have d0:w1.cell? ⟨w.heap.size,0,none⟩=some (.slice none 0 0):=(hb1.cell (p:=⟨w.heap.size,0,none⟩) (by simp)).trans (by simp[go_sem])
 have f0:w1.frozen? ⟨w.heap.size,0,none⟩=false:=(hb1.frozen (p:=⟨w.heap.size,0,none⟩) (by simp)).trans (by simp[go_sem])
 clear hb1 hr
 go_wp2
 refine leaves_cons (f:=194) (args:=#[.pointer (some ⟨w.heap.size,0,none⟩)]) (by simp) (by simp[go_sem]) ?_
 refine (Q7 _ _).mono ?_
 rintro e u' w'' ⟨rfl,rfl,rfl⟩
 have c0:(w1.setCell ⟨w.heap.size,0,none⟩ (.slice p n c)).cell? ⟨w.heap.size,0,none⟩=some (.slice p n c):=World.cell?_setCell_same' _ _ _ (by rw[d0];rfl)
 simp[Leaves,settle,results,Tryz.results112,go_sem,c0]
 exact⟨w1,HB.out,HR.out,rfl⟩
theorem qR{g:Nat}{x y r:AV}(hx:x.isLL=true)(hux:x.unl=true)(huy:y.unl=true)(h:Holds Tryz.prog KA g (x.app y) r)(hsl:∀g v,RepV g r [v]->∃p n c,v=.slice p n c):HH 79 [.fn (.func g) x y] r.frz:=by
 refine⟨bO Tryz.func79 (by decide) rfl,(AV.frz_plain r).1,λ F w vs hF hG hv=>?_⟩
 obtain⟨v,rfl,ys,zs,e1,h1,h2⟩:=kD hv
 cases e1
 have hb:Below w.heap.size w (w.alloc (.cells #[.slice none 0 0] 56)):=aB _ _
 have hFW:∀b o v,F b o=some v->U (w.alloc (.cells #[.slice none 0 0] 56)) b o=some v:=λ b o v hv=>aD hb _ _ _ (aM (hF b o v hv)) (hF b o v hv)
 have hmv:∀ {a:AV} {xs:List Value},a.unl=true->RepV (bE F w) a xs->RepV (bE F (w.alloc (.cells #[.slice none 0 0] 56))) a xs:=λ hu h=>RepV.mv (g:=bE F w) (g':=bE F (w.alloc (.cells #[.slice none 0 0] 56))) (λ _ _ _ h=>h) hb.size (.inr λ b o v hlt hv=>by
  have hlt:b<w.heap.size:=hlt
  have h3:(if b<w.heap.size then U w b o else F b o)=some v:=hv
  rw[if_pos hlt] at h3
  show (if b<(w.alloc (.cells #[.slice none 0 0] 56)).heap.size then U (w.alloc (.cells #[.slice none 0 0] 56)) b o else F b o)=some v
  rw[if_pos (Nat.lt_of_lt_of_le hlt hb.size)]
  exact aD hb _ _ _ hlt h3) hu h
 have hc:=h.2.2 F _ (ys++zs) hFW (iD _ _ hb hG) (RepV.app (hmv huy h2) (hmv hux h1) hx)
 refine (uQ g ys.toArray zs.toArray w h.1 (λ v w1=>∃fp,RepV (fP F (w.alloc (.cells #[.slice none 0 0] 56)) w1 fp) r [v]) ?_).mono ?_
 ·rw[show ys.toArray++zs.toArray=(ys++zs).toArray by simp]
  refine hc.mono ?_
  rintro e w' ⟨v,fp,rfl,h3,h4,-⟩
  obtain⟨p,n,c,rfl⟩:=hsl _ _ h4
  exact⟨p,n,c,rfl,by simpa using h3,fp,h4⟩
 ·rintro e w' ⟨v,w1,rfl,h3,⟨fp,h4⟩,rfl⟩
  have hsz:w.heap.size+1<=w1.heap.size:=by have:=h3.size;simpa using this
  refine⟨v,λ _=>[],rfl,(hb.trans (h3.mono (by omega))).setCell (p:=⟨w.heap.size,0,none⟩) (Nat.le_refl _) _,RepV.mv (g:=fP F (w.alloc (.cells #[.slice none 0 0] 56)) w1 fp) (λ b o u hu=>?_) (by show w1.heap.size<=(World.setCell _ _ _).heap.size;simp[World.setCell]) (.inl (AV.frz_plain r).2.2) (AV.frz_unl r) (RepV.frz h4),λ k b hb=>(by cases hb),λ k k' b hb=>(by cases hb)⟩
  have hu:(if b<(w.alloc (.cells #[.slice none 0 0] 56)).heap.size then F b o else U w1 b o)=some u:=hu
  show (if b<w.heap.size then F b o else U (w1.setCell ⟨w.heap.size,0,none⟩ v) b o)=some u
  split at hu
  ·rename_i hlt
   rw[if_pos (aM (hF b o u hu))]
   exact hu
  ·rename_i hlt
   have hlt:¬b<w.heap.size+1:=by simpa using hlt
   rw[if_neg (by omega)]
   rw[dK (Below.heap_setCell _ _ _ _ (by show b≠w.heap.size;omega))]
   exact hu
theorem zP{g:Nat}{x y r:AV}(hx:x.isLL=true)(hux:x.unl=true)(huy:y.unl=true)(h:Holds Tryz.prog KA g (x.app y) r)(hsl:∀g v,RepV g r [v]->∃p n c,v=.slice p n c):HH 112 [.fn (.func g) x y] r.frz:=by
 refine⟨bO Tryz.func112 (by decide) rfl,(AV.frz_plain r).1,λ F w vs hF hG hv=>?_⟩
 obtain⟨v,rfl,ys,zs,e1,h1,h2⟩:=kD hv
 cases e1
 have hb:Below w.heap.size w (w.alloc (.cells #[.slice none 0 0] 22)):=aB _ _
 have hFW:∀b o v,F b o=some v->U (w.alloc (.cells #[.slice none 0 0] 22)) b o=some v:=λ b o v hv=>aD hb _ _ _ (aM (hF b o v hv)) (hF b o v hv)
 have hmv:∀ {a:AV} {xs:List Value},a.unl=true->RepV (bE F w) a xs->RepV (bE F (w.alloc (.cells #[.slice none 0 0] 22))) a xs:=λ hu h=>RepV.mv (g:=bE F w) (g':=bE F (w.alloc (.cells #[.slice none 0 0] 22))) (λ _ _ _ h=>h) hb.size (.inr λ b o v hlt hv=>by
  have hlt:b<w.heap.size:=hlt
  have h3:(if b<w.heap.size then U w b o else F b o)=some v:=hv
  rw[if_pos hlt] at h3
  show (if b<(w.alloc (.cells #[.slice none 0 0] 22)).heap.size then U (w.alloc (.cells #[.slice none 0 0] 22)) b o else F b o)=some v
  rw[if_pos (Nat.lt_of_lt_of_le hlt hb.size)]
  exact aD hb _ _ _ hlt h3) hu h
 have hc:=h.2.2 F _ (ys++zs) hFW (iD _ _ hb hG) (RepV.app (hmv huy h2) (hmv hux h1) hx)
 refine (uP g ys.toArray zs.toArray w h.1 (λ v w1=>∃fp,RepV (fP F (w.alloc (.cells #[.slice none 0 0] 22)) w1 fp) r [v]) ?_).mono ?_
 ·rw[show ys.toArray++zs.toArray=(ys++zs).toArray by simp]
  refine hc.mono ?_
  rintro e w' ⟨v,fp,rfl,h3,h4,-⟩
  obtain⟨p,n,c,rfl⟩:=hsl _ _ h4
  exact⟨p,n,c,rfl,by simpa using h3,fp,h4⟩
 ·rintro e w' ⟨v,w1,rfl,h3,⟨fp,h4⟩,rfl⟩
  have hsz:w.heap.size+1<=w1.heap.size:=by have:=h3.size;simpa using this
  refine⟨v,λ _=>[],rfl,(hb.trans (h3.mono (by omega))).setCell (p:=⟨w.heap.size,0,none⟩) (Nat.le_refl _) _,RepV.mv (g:=fP F (w.alloc (.cells #[.slice none 0 0] 22)) w1 fp) (λ b o u hu=>?_) (by show w1.heap.size<=(World.setCell _ _ _).heap.size;simp[World.setCell]) (.inl (AV.frz_plain r).2.2) (AV.frz_unl r) (RepV.frz h4),λ k b hb=>(by cases hb),λ k k' b hb=>(by cases hb)⟩
  have hu:(if b<(w.alloc (.cells #[.slice none 0 0] 22)).heap.size then F b o else U w1 b o)=some u:=hu
  show (if b<w.heap.size then F b o else U (w1.setCell ⟨w.heap.size,0,none⟩ v) b o)=some u
  split at hu
  ·rename_i hlt
   rw[if_pos (aM (hF b o u hu))]
   exact hu
  ·rename_i hlt
   have hlt:¬b<w.heap.size+1:=by simpa using hlt
   rw[if_neg (by omega)]
   rw[dK (Below.heap_setCell _ _ _ _ (by show b≠w.heap.size;omega))]
   exact hu
end
section
open Go.RowKit Go.Shelf
def Fr(F:Nat->Nat->Option Value)(B g:Nat)(w:World)(b o:Nat):Option Value:=if b=g∨b=g+1 then none else if b<B then F b o else U w b o
section
variable {F:Nat->Nat->Option Value} {B g:Nat} {w w':World} {b o:Nat} {v:Value}
theorem Fr_no(h:Fr F B g w b o=some v):¬(b=g∨b=g+1):=by
 unfold Fr at h;split at h
 ·cases h
 ·assumption
theorem Fr_ne(h:Fr F B g w b o=some v):b≠g:=λ e=>Fr_no h (.inl e)
theorem MN(h:Fr F B g w b o=some v):b≠g+1:=λ e=>Fr_no h (.inr e)
theorem MM(h:U w b o=some v)(hB:B<=b)(hb:b≠g)(hb2:b≠g+1):Fr F B g w b o=some v:=by
 unfold Fr;rw[if_neg (λ e=>e.elim hb hb2),if_neg (by omega)];exact h
theorem MQ(h:F b o=some v)(hB:b<B)(hb:b≠g)(hb2:b≠g+1):Fr F B g w b o=some v:=by
 unfold Fr;rw[if_neg (λ e=>e.elim hb hb2),if_pos hB];exact h
theorem Fr_on(h:∀b,B<=b->b<w.heap.size->b≠g->(∃o v,U w b o=some v)->w'.heap[b]? = w.heap[b]?)(b o:Nat)(v:Value)(hv:Fr F B g w b o=some v):Fr F B g w' b o=some v:=by
 have h1:=Fr_ne hv
 have h2:=MN hv
 unfold Fr at hv
 rw[if_neg (λ e=>e.elim h1 h2)] at hv
 split at hv
 ·rename_i hb;exact MQ hv hb h1 h2
 ·rename_i hb;exact MM ((dK (h b (by omega) (aM hv) h1 ⟨o,v,hv⟩) o).trans hv) (by omega) h1 h2
end
structure OC where
 own:Prop
 base:Nat
 Sk:Nat->List Nat
 S2:List Nat
def OwnP(Q:OC)(t:Ts)(kk:Int)(g:Nat)(t0:Tm)(n0:Nat)(pre:List Nat)(cs:List Value)(W:World):Prop :=
 Q.own->pre.Nodup->∃S,Own W Q.base (tDs ty (acc kk t t0 pre).ts) cs S/\S.Nodup/\∀b∈S,b≠g/\b≠g+1/\(n0<=b∨b∈Q.S2∨∃k∈pre,b∈Q.Sk k)
theorem Own.cellsO{w:World}{base:Nat}{x:Ds}:∀ {xs:List Value} {S:List Nat},Own w base x xs S->∀b∈S,∃cur e,w.heap[b]? = some (.cells cur e (0,0)):=by
 induction x with
 | nil=>rintro xs S ⟨-,rfl⟩ b hb;cases hb
 | lit v r ih=>rintro xs S ⟨ys,-,h⟩;exact ih h
 | row sz e x s r ihx ihs ihr =>
  rintro xs S ⟨v,ys,zs,us,B,S1,S2,S3,-,h1,h2,h3,h4,rfl⟩ b hb
  simp only[List.mem_append] at hb
  rcases hb with hb|hb|hb|hb
  ·rcases h1 with ⟨p,-,-,-,rfl⟩|⟨g,n,cap,cur,rfl,-,-,hg,-⟩
   ·cases hb
   ·obtain rfl:b=g:=by simpa using hb
    exact⟨_,_,hg⟩
  ·exact ihx h2 b hb
  ·exact ihs h3 b hb
  ·exact ihr h4 b hb
theorem yK{w:World}{base:Nat}:∀(t:Ts) {zs:List Value} {S:List Nat},Own w base (tDs ty t) zs S->S.Nodup ->
  ∃Sk:Nat->List Nat,∀k,k<t.len->Own w base (tDs ty (.cons (t.hd k) (t.kd k) .nil)) ((zs.drop (k*5)).take 5) (Sk k)/\(Sk k).Nodup/\(∀b∈Sk k,b∈S)/\∀k',k'<t.len->k≠k'->∀b∈Sk k,b ∉ Sk k'
 | .nil,_,_,_,_=>⟨fun _=>[],λ k hk=>by simp[Ts.len] at hk⟩
 | .cons h x r,zs,S,hO,hn=>by
  have e:tDs ty (.cons h x r)=(tDs ty (.cons h x .nil)).app (tDs ty r):=by simp[tDs,Ds.app]
  rw[e] at hO
  obtain⟨z1,z2,A,C,rfl,rfl,h1,h2⟩:=hO.split
  have hl:z1.length=5:=by have:=h1.len;rwa [aF,show (Ts.cons h x .nil).len=1 from rfl] at this
  obtain⟨hnA,hnC,hd⟩:=List.nodup_append.1 hn
  obtain⟨Sk,hk⟩:=yK r h2 hnC
  refine⟨fun k=>match k with|0=>A|k+1=>Sk k,λ k hlt=>?_⟩
  cases k with
  | zero =>
   refine⟨?_,hnA,λ b hb=>List.mem_append_left _ hb,λ k' hk' hne b hb hb'=>?_⟩
   ·have:((z1++z2).drop (0*5)).take 5=z1:=by simp[<-hl]
    rw[this];exact h1
   ·cases k' with
    | zero=>exact hne rfl
    | succ k'=>exact hd b hb b ((hk k' (by simp[Ts.len] at hk';omega)).2.2.1 b hb') rfl
  | succ k =>
   have hlt':k<r.len:=by simp[Ts.len] at hlt;omega
   obtain⟨q1,q2,q3,q4⟩:=hk k hlt'
   refine⟨?_,q2,λ b hb=>List.mem_append_right _ (q3 b hb),λ k' hk' hne b hb hb'=>?_⟩
   ·have:((z1++z2).drop ((k+1)*5)).take 5=(z2.drop (k*5)).take 5:=by
     rw[show (k+1)*5=z1.length+k*5 by omega,List.drop_append,List.drop_eq_nil_of_le (by omega)]
     simp
    rw[this];exact q1
   ·cases k' with
    | zero=>exact hd b hb' b (q3 b hb) rfl
    | succ k'=>exact q4 k' (by simp[Ts.len] at hk';omega) (by omega) b hb hb'
def FoldJ(Q:OC)(F:Nat->Nat->Option Value)(B:Nat)(t:Ts)(kk:Int)(g:Nat)(t0:Tm)(wS:World)(pre:List Nat)(W:World):Prop :=
 BelowX g wS W/\(g+1<wS.heap.size/\B<=g)/\∃v,RMx (Fr F B g W) W.heap.size v (acc kk t t0 pre).h (acc kk t t0 pre).x/\(∀cs,v=.agg cs->∀o u,cs[o]? = some u->U W g o=some u)/\∀cs:Array Value,v=.agg cs->OwnP Q t kk g t0 wS.heap.size pre cs.toList W
theorem FoldJ.on{Q:OC}{F:Nat->Nat->Option Value}{B:Nat}{t:Ts}{kk:Int}{g:Nat}{t0:Tm}{wS W W':World}{pre:List Nat}{row:Option Nat}(h:FoldJ Q F B t kk g t0 wS pre W)(hg:W.grownBy W' row)(hr:∀r,row=some r->wS.heap.size<=r/\∃o:Obj,W.heap[r]? = some o/\o.isCells=false):FoldJ Q F B t kk g t0 wS pre W':=by
 obtain⟨h1,h2,v,h3,h4,h5⟩:=h
 have hne:∀b o u,U W b o=some u->some b≠row:=λ b o u hu e=>by
  obtain⟨-,ob,ho,hc⟩:=hr b e.symm
  obtain⟨ob',ho',hc'⟩:=cells_of_cell (aC hu)
  rw[ho] at ho'
  cases ho'
  rw[hc] at hc'
  cases hc'
 refine⟨h1.grown hg (λ r e=>(hr r e).1),h2,v,h3.mono (λ b o u _ hu=>Fr_on (λ b _ hb hbg ⟨o,v,hv⟩=>hg.block b hb (hne b o v hv)) b o u hu) hg.size,λ cs e o u hu=>?_,λ cs e hq hp=>?_⟩
 ·have:=h4 cs e o u hu
  exact (dK (hg.block g (aM this) (hne g o u this)) o).trans this
 ·obtain⟨S,k1,k2,k3⟩:=h5 cs e hq hp
  refine⟨S,k1.kept (λ b hb=>hg.block b (k1.mem b hb).2 λ e=>?_),k2,k3⟩
  obtain⟨-,ob,ho,hc⟩:=hr b e.symm
  obtain⟨cur,e',hcb⟩:=k1.cellsO b hb
  rw[hcb] at ho
  cases ho
  cases hc
theorem FoldJ.own{Q:OC}{F:Nat->Nat->Option Value}{B:Nat}{t:Ts}{kk:Int}{g:Nat}{t0:Tm}{wS:World}{n:Nat}:OwnFrom wS.heap.size (λ (pre:List (Fin n)) W=>FoldJ Q F B t kk g t0 wS (pre.map (·.val)) W):=λ _ _ _ _ h hg hr=>h.on hg hr
theorem FoldJ.below{Q:OC}{F:Nat->Nat->Option Value}{B:Nat}{t:Ts}{kk:Int}{g:Nat}{t0:Tm}{wS W W':World}{pre:List Nat}(h:FoldJ Q F B t kk g t0 wS pre W)(hb:Below W.heap.size W W'):FoldJ Q F B t kk g t0 wS pre W':=h.on (row:=none) ⟨hb.os,hb.tape,hb.output,hb.size,λ k hk _=>hb.block k hk⟩ (λ r e=>by cases e)
theorem FoldJ.step{Q:OC}{F:Nat->Nat->Option Value}{B:Nat}{t:Ts}{kk:Int}{g k:Nat}{t0:Tm}{wS W W':World}{pre:List Nat}(h:FoldJ Q F B t kk g t0 wS pre W){e0 e1 e2 e3 e4 a0 a1 a2 a3 a4:Value}(hE:RMx (Fr F B g W) W.heap.size (.agg #[e0,e1,e2,e3,e4]) (t.hd k) (t.kd k))
  (hA:∀o u,(#[a0,a1,a2,a3,a4]:Array Value)[o]? = some u->U W g o=some u)
  (hQ:Q.own->pre.Nodup->k ∉ pre->Q.base<=B/\B<=g/\Own W Q.base (tDs ty (.cons (t.hd k) (t.kd k) .nil)) [e0,e1,e2,e3,e4] (Q.Sk k)/\(Q.Sk k).Nodup/\(∀b∈Q.Sk k,b<B/\b ∉ Q.S2/\∀k'∈pre,b ∉ Q.Sk k'))
  (hW:(((((W.alloc (.cells #[e0,e1,e2,e3,e4,a0,a1,a2,a3,a4] 26)).setCell ⟨g,0,none⟩ (.int .i64 kk)).setCell ⟨g,1,none⟩ (.int .i64 0)).setCell ⟨g,2,none⟩ (.int .i64 0)).setCell ⟨g,3,none⟩ (.slice none 0 0)).setCell ⟨g,4,none⟩ (.slice (some ⟨W.heap.size,0,none⟩) 2 2)=W') :
  FoldJ Q F B t kk g t0 wS (pre++[k]) W'/\KeepsFrom wS.heap.size W W':=by
 obtain⟨h1,h2,v,h3,h4,h5⟩:=h
 obtain⟨Wb,hWb⟩:∃Wb,W.alloc (.cells #[e0,e1,e2,e3,e4,a0,a1,a2,a3,a4] 26)=Wb:=⟨_,rfl⟩
 rw[hWb] at hW
 have hb:Below W.heap.size W Wb:=by rw[<-hWb];exact aB _ _
 have hb':∀b,b<W.heap.size->Wb.heap[b]? = W.heap[b]?:=λ b hlt=>hb.block b hlt
 have hsb:Wb.heap.size=W.heap.size+1:=by rw[<-hWb];simp
 have hgW:g<W.heap.size:=by have:=h1.size;omega
 have ub:∀o u,(#[a0,a1,a2,a3,a4]:Array Value)[o]? = some u->U Wb g o=some u:=λ o u hu=>aD hb _ _ _ hgW (hA o u hu)
 obtain⟨x0,x1,x2,x3,x4,hk⟩:=oF (ub 0 _ rfl) (ub 1 _ rfl) (ub 2 _ rfl) (ub 3 _ rfl) (ub 4 _ rfl) hW
 have hs':W'.heap.size=W.heap.size+1:=by rw[<-hW];simpa using hsb
 have hbg:Below g W W':=by
  rw[<-hW]
  exact (((((hb.mono (Nat.le_of_lt hgW)).setCell (p:=⟨g,0,none⟩) (Nat.le_refl _) _).setCell (p:=⟨g,1,none⟩) (Nat.le_refl _) _).setCell (p:=⟨g,2,none⟩) (Nat.le_refl _) _).setCell (p:=⟨g,3,none⟩) (Nat.le_refl _) _).setCell (p:=⟨g,4,none⟩) (Nat.le_refl _) _
 have hn:∀j u,(#[e0,e1,e2,e3,e4,a0,a1,a2,a3,a4]:Array Value)[j]? = some u->Fr F B g W' W.heap.size j=some u:=λ j u hu=>by
  have h5:U Wb W.heap.size j=some u:=by rw[<-hWb];exact aL hu
  exact MM ((dK (hk _ (by omega)) j).trans h5) (by have:=h1.size;omega) (by omega) (by have:=h1.size;omega)
 have hF:∀b o u,b<W.heap.size->Fr F B g W b o=some u->Fr F B g W' b o=some u:=λ b o u _ hu=>Fr_on (λ b _ hb' hbg _=>(hk b hbg).trans (hb.block b hb')) b o u hu
 obtain⟨e3',e4',e1',hEV⟩:=(hE.mono hF (by omega:W.heap.size<=W'.heap.size)).cells
 obtain⟨a3',a4',a1',hAV⟩:=(h3.mono hF (by omega:W.heap.size<=W'.heap.size)).cells
 have hva:=h4 _ a1'
 have qa:∀o u u',(#[a0,a1,a2,a3,a4]:Array Value)[o]? = some u->(#[.int .i64 (acc kk t t0 pre).h.k,.int .i64 (acc kk t t0 pre).h.n,.int .i64 (acc kk t t0 pre).h.a,a3',a4']:Array Value)[o]? = some u'->u=u':=λ o u u' hu hu'=>by
  have z1:=hA o u hu
  rw[hva o u' hu'] at z1
  exact (Option.some.inj z1).symm
 have b0:a0=.int .i64 (acc kk t t0 pre).h.k:=qa 0 _ _ rfl rfl
 have b1:a1=.int .i64 (acc kk t t0 pre).h.n:=qa 1 _ _ rfl rfl
 have b2:a2=.int .i64 (acc kk t t0 pre).h.a:=qa 2 _ _ rfl rfl
 have b3:a3=a3':=qa 3 _ _ rfl rfl
 have b4:a4=a4':=qa 4 _ _ rfl rfl
 injection e1' with e1'
 have d0:=congrArg (λ a:Array Value=>a[0]?) e1'
 have d1:=congrArg (λ a:Array Value=>a[1]?) e1'
 have d2:=congrArg (λ a:Array Value=>a[2]?) e1'
 have d3:=congrArg (λ a:Array Value=>a[3]?) e1'
 have d4:=congrArg (λ a:Array Value=>a[4]?) e1'
 simp at d0 d1 d2 d3 d4
 subst d0 d1 d2 d3 d4 b0 b1 b2 b3 b4
 have hAt:At (Fr F B g W') W'.heap.size (tDs ty (.cons (t.hd k) (t.kd k) (acc kk t t0 pre).ts)) W.heap.size 0:=by
  refine (At.app (x:=tDs ty (.cons (t.hd k) (t.kd k) .nil)) (y:=tDs ty (acc kk t t0 pre).ts)).2 ⟨hEV.at_ (λ j u hu=>?_),hAV.at_ (λ j u hu=>?_)⟩
  ·rw[Nat.zero_add]
   refine hn j u ?_
   have hj:j<5:=by have:=(List.getElem?_eq_some_iff.1 hu).1;simpa using this
   have hall:j=0∨j=1∨j=2∨j=3∨j=4:=by omega
   rcases hall with rfl|rfl|rfl|rfl|rfl<;>exact hu
  ·rw[show (0:Nat)+(tDs ty (.cons (t.hd k) (t.kd k) .nil)).len+j=5+j by rw[aF];simp[Ts.len]]
   refine hn (5+j) u ?_
   have hj:j<5:=by have:=(List.getElem?_eq_some_iff.1 hu).1;simpa using this
   have hall:j=0∨j=1∨j=2∨j=3∨j=4:=by omega
   rcases hall with rfl|rfl|rfl|rfl|rfl<;>exact hu
 refine⟨⟨h1.trans ⟨?_,?_,?_,by omega,λ b hb' hbg=>(hk b hbg).trans (hb.block b hb')⟩,h2,.agg #[.int .i64 kk,.int .i64 0,.int .i64 0,.slice none 0 0,.slice (some ⟨W.heap.size,0,none⟩) 2 2],?_,λ cs e o u hu=>?_,λ cs e hq hp=>?_⟩,⟨by omega,λ b o hB ho _=>?_⟩⟩
 ·exact hbg.os
 ·exact hbg.tape
 ·exact hbg.output
 ·rw[oP]
  exact⟨none,0,0,some ⟨W.heap.size,0,none⟩,2,2,rfl,Rd.none_ _ _ _,_,_,_,rfl,by rw[aF];rfl,Nat.le_refl _,by decide,by rw[aF];simp[Ts.len,Ds.len,Tm.ts],.inr (.inr ⟨_,_,rfl,by omega,hAt,trivial⟩)⟩
 ·injection e with e
  subst e
  have ho:o<5:=by have:=(Array.getElem?_eq_some_iff.1 hu).1;simpa using this
  have hall:o=0∨o=1∨o=2∨o=3∨o=4:=by omega
  rcases hall with rfl|rfl|rfl|rfl|rfl
  ·cases hu;exact x0
  ·cases hu;exact x1
  ·cases hu;exact x2
  ·cases hu;exact x3
  ·cases hu;exact x4
 ·cases e
  have hp0:pre.Nodup:=(List.nodup_append.1 hp).1
  have hkn:k ∉ pre:=λ hm=>(List.nodup_append.1 hp).2.2 k hm k (by simp) rfl
  obtain⟨q0,q1,q2,q3,q4⟩:=hQ hq hp0 hkn
  obtain⟨S,k1,k2,k3⟩:=h5 _ a1' hq hp0
  have hsz:=h1.size
  have hkeep:∀b,b<W.heap.size->b≠g->W'.heap[b]? = W.heap[b]?:=λ b hb hbg=>(hk b hbg).trans (hb' b hb)
  have k1':=k1.kept (w':=W') λ b hb=>hkeep b (k1.mem b hb).2 (k3 b hb).1
  have q2':=q2.kept (w':=W') λ b hb=>hkeep b (q2.mem b hb).2 (by have:=(q4 b hb).1;omega)
  refine⟨[W.heap.size]++(Q.Sk k++S),?_,?_,λ b hb=>?_⟩
  ·rw[oP]
   refine⟨_,rfl,_,rfl,_,rfl,_,_,[],[],[],[],[],_,rfl,.inl ⟨none,rfl,rfl,rfl,rfl⟩,⟨rfl,rfl⟩,⟨rfl,rfl⟩,⟨_,_,[.int .i64 (t.hd k).k,.int .i64 (t.hd k).n,.int .i64 (t.hd k).a,e3,e4]++[.int .i64 (acc kk t t0 pre).h.k,.int .i64 (acc kk t t0 pre).h.n,.int .i64 (acc kk t t0 pre).h.a,a3,a4],[],[W.heap.size],Q.Sk k++S,[],[],rfl,.inr ⟨W.heap.size,2,2,#[.int .i64 (t.hd k).k,.int .i64 (t.hd k).n,.int .i64 (t.hd k).a,e3,e4,.int .i64 (acc kk t t0 pre).h.k,.int .i64 (acc kk t t0 pre).h.n,.int .i64 (acc kk t t0 pre).h.a,a3,a4],rfl,rfl,by omega,?_,by decide,by decide,rfl,by rw[aF];rfl,by rw[aF];exact Nat.le_refl 10,Nat.le_refl 10,rfl⟩,?_,⟨rfl,rfl⟩,⟨rfl,rfl⟩,rfl⟩,by simp⟩
   ·rw[hk _ (by omega),<-hWb];exact heap_alloc_new _ _
   ·exact Own.app k1' q2'
  ·refine List.nodup_append.2 ⟨by simp,List.nodup_append.2 ⟨q3,k2,λ a ha b hb e=>?_⟩,λ a ha b hb e=>?_⟩
   ·subst e
    obtain⟨-,-,h6⟩:=k3 a hb
    obtain⟨h7,h8,h9⟩:=q4 a ha
    rcases h6 with h6|h6|⟨k',h6,h6'⟩
    ·omega
    ·exact h8 h6
    ·exact h9 k' h6 h6'
   ·obtain rfl:a=W.heap.size:=by simpa using ha
    subst e
    rcases List.mem_append.1 hb with hb|hb
    ·have:=(q2.mem _ hb).2;omega
    ·have:=(k1.mem _ hb).2;omega
  ·rcases List.mem_append.1 hb with hb|hb
   ·obtain rfl:b=W.heap.size:=by simpa using hb
    exact⟨by omega,by omega,.inl (by omega)⟩
   ·rcases List.mem_append.1 hb with hb|hb
    ·have h7:=(q4 b hb).1
     exact⟨by omega,by omega,.inr (.inr ⟨k,by simp,hb⟩)⟩
    ·obtain⟨h6,h7,h8⟩:=k3 b hb
     refine⟨h6,h7,?_⟩
     rcases h8 with h8|h8|⟨k',h8,h9⟩
     ·exact .inl h8
     ·exact .inr (.inl h8)
     ·exact .inr (.inr ⟨k',by simp[h8],h9⟩)
 ·exact ((hk b (by omega)).trans (hb.block b (Array.getElem?_eq_some_iff.1 ho).1)).trans ho
end
section
open Go.RowKit Go.Shelf
attribute [local go_sem] Oper.semAt_some
def aK(k:Int):Ts->Tm->Tm
 | .nil,b=>b
 | .cons h x r,b=>⟨kH k,.cons h x (aK k r b).ts⟩
theorem zJ(kk:Int)(bt:Tm)(t:Ts):∀j,j<=t.len->acc kk t bt (dn t.len j)=aK kk (t.drop (t.len-j)) bt:=by
 intro j
 induction j with
 | zero=>intro _;rw[Nat.sub_zero,Ts.drop_len];rfl
 | succ j ih =>
  intro hj
  rw[G5,oP,ih (by omega),Ts.drop_step (by omega:t.len-(j+1)<t.len),show t.len-(j+1)+1=t.len-j by omega,show t.len-1-j=t.len-(j+1) by omega]
  rfl
theorem elems_F{F:Nat->Nat->Option Value}{hi:Nat}{q:Option Addr}{n c:Nat}{t:Ts}(h:Rd F hi (.slice q n c) 5 (tDs ty t) .nil)(hn:n=t.len):∃vs:Nat->Nat->Value,(∀k,k<t.len->∃b o,q=some ⟨b,o,none⟩/\b<hi/\∀i,i<5->F b (o+k*5+i)=some (vs k i))/\∀k,k<t.len->RMx F hi (el vs k) (t.hd k) (t.kd k):=by
 by_cases h0:t.len=0
 ·exact⟨fun _ _=>undef,λ k hk=>by omega,λ k hk=>by omega⟩
 ·obtain⟨b,o,rfl,hb,ha,-⟩:=Rd.lies h (by omega)
  refine⟨fun k i=>(F b (o+k*5+i)).getD undef,λ k hk=>⟨b,o,rfl,hb,λ i hi=>?_⟩,λ k hk=>?_⟩
  ·obtain⟨h1,h2,h3,⟨u,h4,-⟩,⟨u',h5,-⟩⟩:=t_at ha hk
   have hall:i=0∨i=1∨i=2∨i=3∨i=4:=by omega
   show F b (o+k*5+i)=some ((F b (o+k*5+i)).getD undef)
   rcases hall with rfl|rfl|rfl|rfl|rfl
   ·rw[Nat.add_zero,h1];rfl
   ·rw[h2];rfl
   ·rw[h3];rfl
   ·rw[h4];rfl
   ·rw[h5];rfl
  ·obtain⟨h1,h2,h3,⟨u,h4,h6⟩,⟨u',h5,h7⟩⟩:=t_at ha hk
   obtain⟨q1,n1,c1,e1,-⟩:=id h6
   obtain⟨q2,n2,c2,e2,-⟩:=id h7
   refine⟨q1,n1,c1,q2,n2,c2,?_,e1 ▸ h6,e2 ▸ h7⟩
   unfold el
   simp only[Nat.add_zero,h1,h2,h3,h4,h5,Option.getD_some,e1,e2]
theorem BkD.onx{B n c g:Nat}{p:Option Addr}{vs:Nat->Nat->Value}{w W:World}(h:BkD B p n c vs w)(hb:BelowX g w W)(hB:B≠g)(hp:0<n->∀b o,p=some ⟨b,o,none⟩->b≠g):BkD B p n c vs W:=by
 refine⟨(dE (hb.block B (World.block_lt_of_cell? _ _ h.1) hB) 0).trans h.1,λ k hk=>?_⟩
 obtain⟨b,o,e,hc⟩:=h.2 k hk
 exact⟨b,o,e,λ i hi=>(dE (hb.block b (World.block_lt_of_cell? _ _ (hc i hi)) (hp (by omega) b o e)) _).trans (hc i hi)⟩
theorem LE:∀n,(dn n n).Nodup:=by
 intro n
 unfold dn
 refine List.pairwise_map.2 (List.nodup_range.imp_of_mem λ {a b} ha hb hne e=>hne ?_)
 have:=List.mem_range.1 ha
 have:=List.mem_range.1 hb
 omega
def MG(own:Prop)(base:Nat)(S1 S2:List Nat)(va:Value)(t:Ts)(bs:List Value)(bt:Tm)(w:World):Prop :=
 own->base<=w.heap.size/\Own w base (.row 5 26 (tDs ty t) .nil .nil) [va] S1/\Own w base (tDs ty bt.ts) bs S2/\(S1++S2).Nodup
theorem EP{own:Prop}{base:Nat}{S1 S2:List Nat}{q:Option Addr}{c:Nat}{t:Ts}{bs:List Value}{bt:Tm}{w:World}{F:Nat->Nat->Option Value}(hFU:∀b o v,F b o=some v->U w b o=some v)(h:MG own base S1 S2 (.slice q t.len c) t bs bt w){vs:Nat->Nat->Value}(hvs:∀k,k<t.len->∃b o,q=some ⟨b,o,none⟩/\b<w.heap.size/\∀i,i<5->F b (o+k*5+i)=some (vs k i)) :
  ∃Q:OC,Q.own=own/\Q.base=base/\Q.S2=S2/\(own->base<=w.heap.size/\(Own w base (tDs ty bt.ts) bs S2/\S2.Nodup)/\(∀b∈S2,b<w.heap.size)/\∀k,k<t.len->Own w base (tDs ty (.cons (t.hd k) (t.kd k) .nil)) [vs k 0,vs k 1,vs k 2,vs k 3,vs k 4] (Q.Sk k)/\(Q.Sk k).Nodup/\(∀b∈Q.Sk k,b<w.heap.size/\b ∉ S2/\∀k',k'<t.len->k≠k'->b ∉ Q.Sk k')):=by
 by_cases ho:own
 ·obtain⟨h0,h1,h2,h3⟩:=h ho
  obtain⟨_,_,zs,us,B,T1,T2,T3,e,h4,h5,h6,h7,h8⟩:=h1
  cases e
  obtain⟨rfl,rfl⟩:=h6
  obtain⟨-,rfl⟩:=h7
  rw[List.append_nil,List.append_nil] at h8
  rw[List.append_nil] at h4
  subst h8
  obtain⟨n1,n2,n3⟩:=List.nodup_append.1 h3
  obtain⟨nB,nT,nd⟩:=List.nodup_append.1 n1
  obtain⟨Sk,hk⟩:=yK t h5 nT
  refine⟨⟨own,base,Sk,S2⟩,rfl,rfl,rfl,λ _=>⟨h0,⟨h2,n2⟩,λ b hb=>(h2.mem b hb).2,λ k hlt=>?_⟩⟩
  obtain⟨k1,k2,k3,k4⟩:=hk k hlt
  refine⟨?_,k2,λ b hb=>⟨(k1.mem b hb).2,λ hb2=>n3 b (List.mem_append_right _ (k3 b hb)) b hb2 rfl,λ k' hk' hne=>k4 k' hk' hne b hb⟩⟩
  obtain⟨b,o,rfl,hb,hc⟩:=hvs k hlt
  have hl:=h5.len
  rw[aF] at hl
  rcases h4 with ⟨p,e,-⟩|⟨g,n,cap,cur,rfl,e,-,hg,hn,hcap,hcs,hm,hm2,hm3,htk⟩
  ·injection e with e1 e2 e3
   omega
  ·injection e with e1 e2 e3
   cases e1
   have key:∀i,i<5->zs[k*5+i]? = some (vs k i):=λ i hi=>by
    have hlt2:k*5+i<zs.length:=by omega
    have h9:=eH hg htk (k*5+i) _ (List.getElem?_eq_getElem hlt2)
    have h10:=hFU _ _ _ (hc i hi)
    rw[show 0+(k*5+i)=0+k*5+i by omega,h10] at h9
    rw[List.getElem?_eq_getElem hlt2]
    exact h9.symm
   have:(zs.drop (k*5)).take 5=[vs k 0,vs k 1,vs k 2,vs k 3,vs k 4]:=by
    apply List.ext_getElem?
    intro i
    by_cases hi:i<5
    ·rw[List.getElem?_take,if_pos hi,List.getElem?_drop,key i hi]
     have hall:i=0∨i=1∨i=2∨i=3∨i=4:=by omega
     rcases hall with rfl|rfl|rfl|rfl|rfl<;>rfl
    ·rw[List.getElem?_take,if_neg hi]
     simp
     omega
   rw[this] at k1
   exact k1
 ·exact⟨⟨own,base,λ _=>[],S2⟩,rfl,rfl,rfl,λ h=>absurd h ho⟩
theorem zK(own:Prop)(base:Nat)(S1 S2:List Nat)(kk:Int)(va:Value)(t:Ts)(b0 b1 b2 b3 b4:Value)(bt:Tm)(w:World)(F:Nat->Nat->Option Value)(hFU:∀b o v,F b o=some v->U w b o=some v)(ha:Rd F w.heap.size va 5 (tDs ty t) .nil)(hbt:RMx F w.heap.size (.agg #[b0,b1,b2,b3,b4]) bt.h bt.x)(hO:MG own base S1 S2 va t [b0,b1,b2,b3,b4] bt w):Calls Tryz.prog 218 #[.agg #[va],.int .i64 kk,.agg #[b0,b1,b2,b3,b4]] w λ e w'=>∃v,e=.returned v/\Below w.heap.size w w'/\RMx (λ b o=>if b<w.heap.size then F b o else U w' b o) w'.heap.size v (aK kk t bt).h (aK kk t bt).x/\(own->∃xs S,v=.agg xs.toArray/\Own w' base (tDs ty (aK kk t bt).ts) xs S/\S.Nodup):=by
 refine (callsIn_wide (n:=3)).1 ?_
 refine callsIn_of_wp_marks Tryz.func218 rfl trivial ?_ rfl
 simp only[Tryz.ntmps218,List.size_toArray,List.length_cons,List.length_nil,Nat.reduceAdd,Nat.reduceSub,Array.replicate_succ,Array.replicate_zero,List.push_toArray,List.append_toArray,List.nil_append,List.cons_append]
 obtain⟨q,n,c,rfl,hq1,hc1,hc2,hc3,-⟩:=id ha
 have hn:n=t.len:=by rw[aF] at hq1;omega
 subst hn
 clear hc3 hq1
 unfold maxLen at hc2
 obtain⟨w2,hw2⟩:∃w2,(((w.alloc (.cells #[.slice q t.len c] 250)).alloc (.cells #[.int .i64 kk] 23)).alloc (.cells #[b0,b1,b2,b3,b4] 26)).alloc (.cells bI 26)=w2:=⟨_,rfl⟩
 have hb2:Below w.heap.size w w2:=by rw[<-hw2];exact aA (aA (aA (aB _ _) (aB _ _)) (aB _ _)) (aB _ _)
 have hs2:w2.heap.size=w.heap.size+4:=by rw[<-hw2];simp
 have p0:U w2 w.heap.size 0=some (.slice q t.len c):=by
  rw[<-hw2];exact aD (aA (aA (aB _ _) (aB _ _)) (aB _ _)) _ _ _ (by simp) (aL rfl)
 have e0:=aC p0
 unfold bI at hw2
 have HA:=hid ha
 have HO:=hid hO
 have HBT:=hid hbt
 have HFU:=hid hFU
 have HS2:=hid hs2
 have HB2:=hid hb2
 clear ha hbt hs2 hb2 p0 hFU hO
 gi_wp2_with fail
 refine⟨trivial,(callsIn_wide.2 (zI _ _ _ _)).mono ?_⟩
 rintro e w' ⟨rfl,rfl⟩
 obtain⟨wS,hwS⟩:∃wS,w2.alloc (.cells #[.slice q t.len c] 22)=wS:=⟨_,rfl⟩
 rw[hwS]
 have hs2:=HS2.out
 have hbS:Below w2.heap.size w2 wS:=by rw[<-hwS];exact aB _ _
 have hbS0:Below w.heap.size w wS:=aA HB2.out hbS
 have hsS:wS.heap.size=w.heap.size+5:=by rw[<-hwS];simp;omega
 obtain⟨g,hg⟩:∃g,w.heap.size+1+1=g:=⟨_,rfl⟩
 have hkS:U wS (w.heap.size+1) 0=some (.int .i64 kk):=by
  refine aD hbS _ _ _ (by omega) ?_
  rw[<-hw2]
  exact aD (aA (aB _ _) (aB _ _)) _ _ _ (by simp) (by have:=aL (w:=w.alloc (.cells #[.slice q t.len c] 250)) (cs:=#[.int .i64 kk]) (ty:=23) (o:=0) rfl;simpa using this)
 have hgS:∀o u,(#[b0,b1,b2,b3,b4]:Array Value)[o]? = some u->U wS g o=some u:=λ o u hu=>by
  refine aD hbS _ _ _ (by omega) ?_
  rw[<-hw2,<-hg]
  refine aD (aB _ _) _ _ _ (by simp) ?_
  have:=aL (w:=(w.alloc (.cells #[.slice q t.len c] 250)).alloc (.cells #[.int .i64 kk] 23)) (ty:=26) hu
  simpa using this
 have hzS:∀o v,bI[o]? = some v->U wS (w.heap.size+1+1+1) o=some v:=λ o v hv=>by
  refine aD hbS _ _ _ (by omega) ?_
  have:=aL (w:=((w.alloc (.cells #[.slice q t.len c] 250)).alloc (.cells #[.int .i64 kk] 23)).alloc (.cells #[b0,b1,b2,b3,b4] 26)) (ty:=26) hv
  unfold bI at this
  rw[hw2] at this
  simpa using this
 have hboxS:wS.cell? ⟨w2.heap.size,0,none⟩=some (.slice q t.len c):=by
  have:=aL (w:=w2) (cs:=#[.slice q t.len c]) (ty:=22) (o:=0) rfl
  rw[hwS] at this
  exact aC this
 obtain⟨vs,hvs,hel⟩:=elems_F HA.out rfl
 obtain⟨Q,hQ1,hQ2,hQ3,hQO⟩:=EP HFU.out HO.out hvs
 have hqg:0<t.len->∀b o,q=some ⟨b,o,none⟩->b≠g:=λ h0 b o e=>by
  obtain⟨b',o',e',hb',-⟩:=hvs 0 h0
  rw[e] at e'
  cases e'
  omega
 have hBk:BkD w2.heap.size q t.len c vs wS:=⟨hboxS,λ k hk=>by
  obtain⟨b,o,e,hb,hc⟩:=hvs k hk
  exact⟨b,o,e,λ i hi=>(hbS0.cell (p:=⟨b,o+k*5+i,none⟩) hb).trans (aC (HFU.out _ _ _ (hc i hi)))⟩⟩
 have hF0:∀(W:World),BelowX g wS W->∀b o v,b<w.heap.size->F b o=some v->Fr F w.heap.size g W b o=some v:=λ W hW b o v hb hu=>MQ hu hb (by omega) (by omega)
 have hI0:FoldJ Q F w.heap.size t kk g bt wS [] wS:=by
  obtain⟨y1,z1,x1,y2,z2,x2,e,h1,h2⟩:=HBT.out
  exact⟨BelowX.refl _ _,⟨by omega,by omega⟩,.agg #[b0,b1,b2,b3,b4],⟨y1,z1,x1,y2,z2,x2,e,h1.mono (hF0 wS (BelowX.refl _ _)) hbS0.size,h2.mono (hF0 wS (BelowX.refl _ _)) hbS0.size⟩,λ cs e o u hu=>by cases e;exact hgS o u hu,λ cs e hq _=>by
   cases e
   obtain⟨o0,⟨o1,o2⟩,o3,-⟩:=hQO (hQ1 ▸ hq)
   refine⟨S2,?_,o2,λ b hb=>?_⟩
   ·rw[hQ2]
    exact o1.kept λ b hb=>hbS0.block b (o3 b hb)
   ·have:=o3 b hb
    exact⟨by omega,by omega,.inr (.inl (hQ3 ▸ hb))⟩⟩
 have HI0:=hid hI0
 have HBK:=hid hBk
 have HF0:=hid hF0
 have HKS:=hid hkS
 have HZS:=hid hzS
 have HBS:=hid hbS0
 have HSS:=hid hsS
 have HGW:=hid hg
 have HQG:=hid hqg
 have HEL:=hid hel
 have HQ:=hid hQO
 clear hbS hbS0 hsS hgS hkS hzS hboxS hBk hF0 hI0 hs2 hqg hel hvs hwS hw2 e0 hQO
 rw[hg]
 gi_wp2_with fail
 refine wpIn_rangeFunc_ownH rfl (by decide) (gf:=200) (lb:=#[.pointer (some ⟨w2.heap.size,0,none⟩)]) rfl trivial (enters_of Tryz.func200 (by kernel_rfl) rfl)
  (xA w2.heap.size t.len c q vs hc1 (by unfold maxLen;omega) 2 wS (λ W hW=>HBK.out.onx (BelowX.of_below (g:=g) hW) (by have:=HS2.out;have:=HGW.out;omega) HQG.out))
  (λ h k x=>k (h x)) (λ W l o o' _ hl ho _ h=>h.putObj o' hl ho) (Below.refl _ _) (λ _=>rfl)
  (λ pre W=>FoldJ Q F w.heap.size t kk g bt wS (pre.map (·.val)) W) (λ _ _ _=>False) FoldJ.own (λ _ _ _ _ _ hs _ _=>hs) HI0.out
  (λ x a' W=>∃b9,a' = { tmps:=#[.agg #[.slice q t.len c],.int .i64 kk,.agg #[b0,b1,b2,b3,b4],.pointer (some ⟨w.heap.size,0,none⟩),.pointer (some ⟨w.heap.size+1,0,none⟩),.pointer (some ⟨g,0,none⟩),.pointer (some ⟨g+1,0,none⟩),undef,.pointer (some ⟨b9,0,none⟩),.pointer (some ⟨w.heap.size,0,none⟩),.slice q t.len c,.func (.func 200) #[] #[.pointer (some ⟨w2.heap.size,0,none⟩)],.int .i64 (x.val:Int),el vs x.val,undef,undef,undef,undef,undef,undef],defers:=[] }/\∀cs,el vs x.val=.agg cs->∀i u,cs[i]? = some u->U W b9 i=some u)
  (λ x a' _ _ _ _ h hg hr=>by obtain⟨b9,e,h⟩:=h;exact⟨b9,e,λ cs e2 i u hu=>ME (h cs e2 i u hu) hg (λ r e3=>(hr r e3).2)⟩) ?assign ?body ?done ?stop
 case assign =>
  intro l pre x W K hI hK
  obtain⟨y1,z1,x1,y2,z2,x2,hE,-,-⟩:=HEL.out x.val x.isLt
  rw[hE]
  have hsz:wS.heap.size<=W.heap.size:=hI.1.size
  have hb9:=aB W (.cells #[.int .i64 (t.hd x.val).k,.int .i64 (t.hd x.val).n,.int .i64 (t.hd x.val).a,.slice y1 z1 x1,.slice y2 z2 x2] 26)
  have hK2:=hK { tmps:=#[.agg #[.slice q t.len c],.int .i64 kk,.agg #[b0,b1,b2,b3,b4],.pointer (some ⟨w.heap.size,0,none⟩),.pointer (some ⟨w.heap.size+1,0,none⟩),.pointer (some ⟨g,0,none⟩),.pointer (some ⟨g+1,0,none⟩),undef,.pointer (some ⟨W.heap.size,0,none⟩),.pointer (some ⟨w.heap.size,0,none⟩),.slice q t.len c,.func (.func 200) #[] #[.pointer (some ⟨w2.heap.size,0,none⟩)],.int .i64 (x.val:Int),.agg #[.int .i64 (t.hd x.val).k,.int .i64 (t.hd x.val).n,.int .i64 (t.hd x.val).a,.slice y1 z1 x1,.slice y2 z2 x2],undef,undef,undef,undef,undef,undef],defers:=[] } _
   (KeepsOthers.from (KeepsOthers.alloc _ _) _) (λ h=>h.onx (BelowX.of_below (g:=g) hb9) (by have:=HS2.out;have:=HGW.out;omega) HQG.out) (hI.below hb9)
   ⟨W.heap.size,by rw[hE],λ cs e2 i u hu=>by rw[hE] at e2;cases e2;exact aL hu⟩
  clear hK hI hE
  gi_wp2_with fail
  exact hK2
 case body =>
  rintro l pre x a' W hl hr hI ⟨b9,rfl,hc9⟩ hlen
  obtain⟨y1,z1,x1,y2,z2,x2,hE,hE1,hE2⟩:=HEL.out x.val x.isLt
  have hu9:=hc9 _ hE
  have hI':=hI
  obtain⟨hX,hgl,v,⟨u1,v1,w1,u2,v2,w2',rfl,hR1,hR2⟩,hcs,-⟩:=hI'
  have hcg:=hcs _ rfl
  have k0:=aC (hX.U HKS.out (by have:=HGW.out;omega))
  have f0:=aC (hu9 0 _ rfl)
  have f1:=aC (hu9 1 _ rfl)
  have f2:=aC (hu9 2 _ rfl)
  have f3:=aC (hu9 3 _ rfl)
  have f4:=aC (hu9 4 _ rfl)
  have c0:=aC (hcg 0 _ rfl)
  have c1:=aC (hcg 1 _ rfl)
  have c2:=aC (hcg 2 _ rfl)
  have c3:=aC (hcg 3 _ rfl)
  have c4:=aC (hcg 4 _ rfl)
  have hgW:g<W.heap.size:=aM (hcg 0 _ rfl)
  obtain⟨Wb,hWb⟩:∃Wb,W.alloc (.cells #[.int .i64 (t.hd x.val).k,.int .i64 (t.hd x.val).n,.int .i64 (t.hd x.val).a,.slice y1 z1 x1,.slice y2 z2 x2,.int .i64 (acc kk t bt (pre.map (·.val))).h.k,.int .i64 (acc kk t bt (pre.map (·.val))).h.n,.int .i64 (acc kk t bt (pre.map (·.val))).h.a,.slice u1 v1 w1,.slice u2 v2 w2'] 26)=Wb:=⟨_,rfl⟩
  obtain⟨W',hW'⟩:∃W',((((Wb.setCell ⟨g,0,none⟩ (.int .i64 kk)).setCell ⟨g,1,none⟩ (.int .i64 0)).setCell ⟨g,2,none⟩ (.int .i64 0)).setCell ⟨g,3,none⟩ (.slice none 0 0)).setCell ⟨g,4,none⟩ (.slice (some ⟨W.heap.size,0,none⟩) 2 2)=W':=⟨_,rfl⟩
  have hst:=hI.step (W':=W') (k:=x.val) (e0:=.int .i64 (t.hd x.val).k) (e1:=.int .i64 (t.hd x.val).n) (e2:=.int .i64 (t.hd x.val).a) (e3:=.slice y1 z1 x1) (e4:=.slice y2 z2 x2) ⟨_,_,_,_,_,_,rfl,Rd.mono hE1 (HF0.out W hX) (by have:=HBS.out.size;have:=hX.size;omega),Rd.mono hE2 (HF0.out W hX) (by have:=HBS.out.size;have:=hX.size;omega)⟩ hcg (λ hq hp hx=>by
   obtain⟨o0,-,o3,o4⟩:=HQ.out (hQ1 ▸ hq)
   obtain⟨o5,o6,o7⟩:=o4 x.val x.isLt
   unfold el at hE
   injection hE with hE
   have z:=congrArg Array.toList hE
   simp only at z
   rw[z] at o5
   have hgw:=HGW.out
   rw[hQ2,hQ3]
   refine⟨o0,by omega,o5.kept λ b hb=>?_,o6,λ b hb=>⟨(o7 b hb).1,(o7 b hb).2.1,λ k' hk'=>?_⟩⟩
   ·have:=(o7 b hb).1
    have hss:=HSS.out
    exact (hX.block b (by omega) (by omega)).trans (HBS.out.block b this)
   ·obtain⟨y,hy,rfl⟩:=List.mem_map.1 hk'
    exact (o7 b hb).2.2 y.val y.isLt λ e=>hx (e ▸ hk')) (by rw[hWb];exact hW')
  have HST:=hid hst
  have ub:∀o u,(#[.int .i64 (acc kk t bt (pre.map (·.val))).h.k,.int .i64 (acc kk t bt (pre.map (·.val))).h.n,.int .i64 (acc kk t bt (pre.map (·.val))).h.a,.slice u1 v1 w1,.slice u2 v2 w2']:Array Value)[o]? = some u->U Wb g o=some u:=λ o u hu=>by rw[<-hWb];exact aD (aB _ _) _ _ _ hgW (hcg o u hu)
  have d0:=aC (ub 0 _ rfl)
  have d1:=aC (ub 1 _ rfl)
  have d2:=aC (ub 2 _ rfl)
  have d3:=aC (ub 3 _ rfl)
  have d4:=aC (ub 4 _ rfl)
  have j0:=aG (ub 0 _ rfl)
  have j1:=aG (ub 1 _ rfl)
  have j2:=aG (ub 2 _ rfl)
  have j3:=aG (ub 3 _ rfl)
  have j4:=aG (ub 4 _ rfl)
  clear ub
  have HKP:Hid (BkD w2.heap.size q t.len c vs W->BkD w2.heap.size q t.len c vs W'):=hid (λ _=>HBK.out.onx (g:=g) hst.1.1 (by have:=HS2.out;have:=HGW.out;omega) HQG.out)
  have HW:=hid hW'
  clear hI hE hE1 hE2 hu9 hcg hcs hX hR1 hR2 hst hW' hc9 hr hlen hl
  gi_wp2_with fail
  rw[HW.out]
  refine⟨HST.out.2,HKP.out,?_⟩
  have:=HST.out.1
  rw[show pre.map (·.val)++[x.val]=(pre++[x]).map (·.val) by simp] at this
  exact this
 case done =>
  intro D xs W hD hS hI hK
  rw[hS] at hI
  unfold FoldJ at hI
  rw[zJ kk bt t t.len (Nat.le_refl _),Nat.sub_self] at hI
  obtain⟨T,hT⟩:∃T,aK kk t bt=T:=⟨_,rfl⟩
  rw[show t.drop 0=t from rfl,hT] at hI
  obtain⟨hX,hgl,v,⟨u1,v1,w1,u2,v2,w2',rfl,hR1,hR2⟩,hcs,hown⟩:=hI
  have hOW:=hown _ rfl
  have hcg:=hcs _ rfl
  have c0:=aC (hcg 0 _ rfl)
  have c1:=aC (hcg 1 _ rfl)
  have c2:=aC (hcg 2 _ rfl)
  have c3:=aC (hcg 3 _ rfl)
  have c4:=aC (hcg 4 _ rfl)
  unfold OwnP at hOW
  rw[zJ kk bt t t.len (Nat.le_refl _),Nat.sub_self,show t.drop 0=t from rfl,hT] at hOW
  have HOW:=hid hOW
  have hBW:Below w.heap.size w W:=HBS.out.trans (hX.below (by have:=HGW.out;omega) (by have:=HSS.out;have:=HGW.out;omega))
  have Z:Hid (∀o v,bI[o]? = some v->U W (g+1) o=some v):=λ o v hv=>hX.U (by rw[<-HGW.out];exact HZS.out o v hv) (by omega)
  have m0:=aC (Z.out 0 _ rfl)
  have m1:=aC (Z.out 1 _ rfl)
  have m2:=aC (Z.out 2 _ rfl)
  have m3:=aC (Z.out 3 _ rfl)
  have m4:=aC (Z.out 4 _ rfl)
  have o0:=aG (Z.out 0 _ rfl)
  have o1:=aG (Z.out 1 _ rfl)
  have o2:=aG (Z.out 2 _ rfl)
  have o3:=aG (Z.out 3 _ rfl)
  have o4:=aG (Z.out 4 _ rfl)
  have HK:=hid hK
  have HBW:=hid hBW
  have HR1:=hid hR1
  have HR2:=hid hR2
  have HDW:Hid (w.heap.size+5<=D/\D<W.heap.size):=hid ⟨by have:=HSS.out;omega,(Array.getElem?_eq_some_iff.1 hK).1⟩
  have HT:=hid hT
  have HX:=hid hX
  clear hX hgl hR1 hR2 hcs hcg hBW hK hD hS hT hown hOW
  gi_wp2_with fail
  obtain⟨W2,hW2⟩:∃W2,((((W.setCell ⟨g+1,0,none⟩ (.int .i64 T.h.k)).setCell ⟨g+1,1,none⟩ (.int .i64 T.h.n)).setCell ⟨g+1,2,none⟩ (.int .i64 T.h.a)).setCell ⟨g+1,3,none⟩ (.slice u1 v1 w1)).setCell ⟨g+1,4,none⟩ (.slice u2 v2 w2')=W2:=⟨_,rfl⟩
  have hgw:=HGW.out
  have hDW:=HDW.out
  obtain⟨⟨x0,x1,x2,x3,x4⟩,hBF,hkW⟩:=pM (b:=g+1) Z.out HBW.out (by omega) hW2
  rw[hW2]
  refine⟨by simp,.inl ⟨_,_,rfl,run_takeDeferred ((hkW D (by omega)).trans HK.out),?_⟩⟩
  have hkP:∀(o:Obj) (k:Nat),k≠D->(W2.putObj D o).heap[k]? = W2.heap[k]?:=λ o k hk=>World.putObj_heap_other hk
  have y0:∀o,(W2.putObj D o).cell? ⟨g+1,0,none⟩=some (.int .i64 T.h.k):=λ o=>(dE (hkP o _ (by omega)) 0).trans x0
  have y1:∀o,(W2.putObj D o).cell? ⟨g+1,1,none⟩=some (.int .i64 T.h.n):=λ o=>(dE (hkP o _ (by omega)) 1).trans x1
  have y2:∀o,(W2.putObj D o).cell? ⟨g+1,2,none⟩=some (.int .i64 T.h.a):=λ o=>(dE (hkP o _ (by omega)) 2).trans x2
  have y3:∀o,(W2.putObj D o).cell? ⟨g+1,3,none⟩=some (.slice u1 v1 w1):=λ o=>(dE (hkP o _ (by omega)) 3).trans x3
  have y4:∀o,(W2.putObj D o).cell? ⟨g+1,4,none⟩=some (.slice u2 v2 w2'):=λ o=>(dE (hkP o _ (by omega)) 4).trans x4
  have hsz:W.heap.size<=W2.heap.size:=by rw[<-hW2];simp[World.setCell]
  have hR:∀o:Obj,∀b o' u,b<W.heap.size->Fr F w.heap.size g W b o'=some u->(if b<w.heap.size then F b o' else U (W2.putObj D o) b o')=some u:=λ o b o' u _ hu=>by
   have h1:=Fr_ne hu
   have h2:=MN hu
   unfold Fr at hu
   rw[if_neg (λ e=>e.elim h1 h2)] at hu
   split at hu
   ·rename_i hb;rw[if_pos hb];exact hu
   ·rename_i hb
    rw[if_neg hb]
    have hD:b≠D:=λ e=>by
     obtain⟨ob,ho,hc⟩:=cells_of_cell (aC hu)
     rw[e,HK.out] at ho
     cases ho
     cases hc
    exact ((dK (hkP o b hD) o').trans (dK (hkW b h2) o')).trans hu
  refine⟨.agg #[.int .i64 T.h.k,.int .i64 T.h.n,.int .i64 T.h.a,.slice u1 v1 w1,.slice u2 v2 w2'],by simp[results,Tryz.results218,go_sem,y0,y1,y2,y3,y4],_,rfl,hBF.trans ⟨rfl,rfl,rfl,by simp[World.putObj],λ k hk=>hkP _ k (by omega)⟩,?_⟩
  rw[HT.out]
  refine⟨⟨_,_,_,_,_,_,rfl,HR1.out.mono (hR _) (by simp[World.putObj];exact hsz),HR2.out.mono (hR _) (by simp[World.putObj];exact hsz)⟩,λ ho=>?_⟩
  obtain⟨S,s1,s2,s3⟩:=HOW.out (hQ1 ▸ ho) (LE _)
  rw[hQ2] at s1
  refine⟨[.int .i64 T.h.k,.int .i64 T.h.n,.int .i64 T.h.a,.slice u1 v1 w1,.slice u2 v2 w2'],rfl,S,s1.kept λ b hb=>?_,s2⟩
  have hD:b≠D:=λ e=>by
   obtain⟨cur,e',hc⟩:=s1.cellsO b hb
   rw[e,HK.out] at hc
   cases hc
  exact (hkP _ b hD).trans (hkW b (s3 b hb).2.1)
 case stop =>
  rintro D c pre W _ _ h _
  exact h.elim
theorem FL(kk:Int)(va:Value)(t:Ts)(b0 b1 b2 b3 b4:Value)(bt:Tm)(w:World)(F:Nat->Nat->Option Value)(hFU:∀b o v,F b o=some v->U w b o=some v)(ha:Rd F w.heap.size va 5 (tDs ty t) .nil)(hbt:RMx F w.heap.size (.agg #[b0,b1,b2,b3,b4]) bt.h bt.x):Calls Tryz.prog 218 #[.agg #[va],.int .i64 kk,.agg #[b0,b1,b2,b3,b4]] w λ e w'=>∃v,e=.returned v/\Below w.heap.size w w'/\RMx (λ b o=>if b<w.heap.size then F b o else U w' b o) w'.heap.size v (aK kk t bt).h (aK kk t bt).x :=
 (zK False 0 [] [] kk va t b0 b1 b2 b3 b4 bt w F hFU ha hbt (λ h=>h.elim)).mono λ _ _ ⟨v,h1,h2,h3,_⟩=>⟨v,h1,h2,h3⟩
end
section
open Go.RowKit
theorem KI(n:Nat)(hn:n<=400000000)(w:World):Calls Tryz.prog 219 #[.slice none 0 0,.int .i64 n] w λ e w'=>∃v,e=.returned v/\Below w.heap.size w w'/\w'.ownsRow w.heap.size 26 5 v 0 []:=by
 have r0:decide ((n:Int)<0)=false:=decide_eq_false (by omega)
 have hw0:IntKind.i64.wrap ((n:Int)-0)=n:=by rw[IntKind.wrap_i64];omega
 by_cases h0:n=0
 ·subst h0
  go_enter Tryz.func219,Tryz.ntmps219
  go_wp2_with fail
  go_ret
  exact⟨_,rfl,Below.refl _ _,World.ownsRow_nil _ _ _ _⟩
 ·have r1:decide ((0:Int)<n)=true:=decide_eq_true (by omega)
  obtain⟨i,z,bytes,ht,hi,hz,hsize,hby,hzs,hsz,hbb⟩:=elT.is
  have hb:n*i.bytes<=400000000*1000:=Nat.mul_le_mul hn (by omega)
  have hrun:=Lib.run_append_nil_zeros (P:=Tryz.prog) w 22 3 22 26 i z .i64 .i64 ht Tryz.underlying3 hi hz n (by omega) (by omega) (by omega) (by omega)
  have hge:=grownCap_ge w n 0 26
  have hcm:grownCap w n 0 26<=maxLen:=grownCap_le_maxLen w n 0 26 (by unfold maxLen;omega)
  have hc1:n<=grownCap w n 0 26:=by simpa using hge
  obtain⟨C,hC⟩:∃C,grownCap w n 0 26=C:=⟨_,rfl⟩
  rw[hC] at hrun hc1 hcm
  have HB:=hid (Below.alloc (a:=w) (w:=w.drew) (B:=w.heap.size) ⟨rfl,rfl,rfl,Nat.le_refl _,λ _ _=>rfl⟩ (Nat.le_refl _) (.cells (Builtin.zeroCells z.cells n++Builtin.zeroCells z.cells (C-n)) 26))
  have HO:=hid (World.ownsRow_made w.drew (base:=w.heap.size) (e:=26) (size:=5) (Builtin.zeroCells z.cells n++Builtin.zeroCells z.cells (C-n)) C (Nat.le_refl _) hcm (by simp only[Array.size_append,size_zeroCells,hzs,<-Nat.add_mul];congr 1;omega))
  obtain⟨W,hW⟩:∃W,w.drew.alloc (.cells (Builtin.zeroCells z.cells n++Builtin.zeroCells z.cells (C-n)) 26)=W:=⟨_,rfl⟩
  rw[hW] at hrun HB HO
  clear ht hi hz hsize hby hzs hsz hbb hb hge hC hW
  unfold maxLen at hcm
  go_enter Tryz.func219,Tryz.ntmps219
  go_wp2_with (at_builtin;refine Lib.wpList_append_run _ rfl _ _ 22 3 rfl _ _ rfl rfl _ _ hrun ?_)
  go_ret
  exact⟨_,rfl,HB.out,HO.out⟩
def aZ:List Ts->Ds
 | []=>.nil
 | t :: r=>.row 5 26 (tDs ty t) .nil (aZ r)
def gR:List Ts->Ts
 | []=>.nil
 | t :: r=>t.app (gR r)
theorem U7(l:List Ts):(aZ l).len=l.length:=by
 induction l with
 | nil=>rfl
 | cons t r ih=>simp[aZ,Ds.len,ih]
theorem wX(a b:List Ts):gR (a++b)=(gR a).app (gR b):=by
 induction a with
 | nil=>rfl
 | cons t r ih=>simp[gR,ih,Ts.app_assoc]
theorem rows_at{F:Nat->Nat->Option Value}{hi:Nat}:∀ {l:List Ts} {b o:Nat},At F hi (aZ l) b o->∀k t,l[k]? = some t->∃v,F b (o+k)=some v/\Rd F hi v 5 (tDs ty t) .nil:=by
 intro l
 induction l with
 | nil=>intro b o _ k t h;simp at h
 | cons t0 r ih =>
  intro b o h1 k t h
  obtain⟨⟨v,h2,h3⟩,h4⟩:=At_row.1 h1
  cases k with
  | zero =>
   simp at h
   subst h
   exact⟨v,h2,h3⟩
  | succ k =>
   obtain⟨u,h5,h6⟩:=ih h4 k t (by simpa using h)
   exact⟨u,by rw[show o+(k+1)=o+1+k by omega];exact h5,h6⟩
theorem J7{F:Nat->Nat->Option Value}{hi:Nat}{v:Value}{t:Ts}(h:Rd F hi v 5 (tDs ty t) .nil):∃p c ys,v=.slice p t.len c/\t.len<=c/\c<=maxLen/\Vs F hi (tDs ty t) ys/\ys.length=t.len*5/\((v=.slice none 0 0/\t.len=0)∨∃a,p=some a/\∀j u,ys[j]? = some u->∃b o,a=⟨b,o,none⟩/\b<hi/\F b (o+j)=some u):=by
 obtain⟨p,n,c,rfl,h2,h3,h4,-,h5⟩:=h
 have hn:n=t.len:=by rw[aF] at h2;omega
 subst hn
 by_cases h0:t.len=0
 ·have ht:t=.nil:=by cases t<;>simp[Ts.len] at h0 ⊢
  subst ht
  refine⟨p,c,[],rfl,h3,h4,rfl,rfl,?_⟩
  rcases h5 with ⟨rfl,rfl⟩|⟨-,-,hp⟩|⟨b,o,rfl,-⟩
  ·exact .inl ⟨rfl,rfl⟩
  ·obtain⟨a,rfl⟩:=Option.ne_none_iff_exists'.1 hp
   exact .inr ⟨a,rfl,λ j u hu=>by simp at hu⟩
  ·exact .inr ⟨_,rfl,λ j u hu=>by simp at hu⟩
 ·rcases h5 with ⟨rfl,rfl⟩|⟨h6,-⟩|⟨b,o,rfl,hb,hat,-⟩
  ·omega
  ·omega
  ·obtain⟨ys,h6,h7⟩:=At.vs hat
   exact⟨_,c,ys,rfl,h3,h4,h6,by rw[h6.len,aF],.inr ⟨_,rfl,λ j u hu=>⟨b,o,rfl,hb,h7 j u hu⟩⟩⟩
theorem owns_rd{w:World}{base e n:Nat}{v:Value}{xs:List Value}{t:Ts}{F F':Nat->Nat->Option Value}{hi:Nat}(h:w.ownsRow base e 5 v n xs)(hv:Vs F hi (tDs ty t) xs)(hF:∀b o v,b<hi->F b o=some v->F' b o=some v)(hU:∀b o v,base<=b->U w b o=some v->F' b o=some v)(hh:hi<=w.heap.size):Rd F' w.heap.size v 5 (tDs ty t) .nil:=by
 obtain⟨h1,h2⟩:=h
 have hl:=hv.len
 have hv':Vs F' w.heap.size (tDs ty t) xs:=hv.mono hF hh
 rcases h2 with ⟨rfl,rfl⟩|⟨g,cap,cur,rfl,h3,h4,h5,h6,h7,h8⟩
 ·have:t=.nil:=by
   rw[aF] at hl
   cases t
   ·rfl
   ·simp[Ts.len] at hl;omega
  subst this
  exact Rd.none_ _ _ _
 ·refine⟨_,n,cap,rfl,by omega,h5,h6,by simp[Ds.len];rw[<-hl,h1];exact Nat.mul_le_mul_right 5 h5,.inr (.inr ⟨g,0,rfl,(Array.getElem?_eq_some_iff.1 h4).1,hv'.at_ (λ j u hu=>hU _ _ _ h3 (eH h4 (by rw[h1];exact h8) j u hu)),trivial⟩)⟩
theorem J1{α:Type}{l:List α}{j:Nat}{t:α}(h:l[j]? = some t):l.take (j+1)=l.take j++[t]:=by
 rw[List.take_add_one,h];rfl
theorem Z0(l:List Ts)(va:Value)(w:World)(F:Nat->Nat->Option Value)(hFU:∀b o v,F b o=some v->U w b o=some v)(ha:Rd F w.heap.size va 1 (aZ l) .nil)(hl:l.length<=400000000)(hn:(gR l).len<=400000000):Calls Tryz.prog 166 #[va] w λ e w'=>∃v,e=.returned v/\Below w.heap.size w w'/\Rd (λ b o=>if b<w.heap.size then F b o else U w' b o) w'.heap.size v 5 (tDs ty (gR l)) .nil:=by
 have HFU:=hid hFU
 clear hFU
 obtain⟨q,n,c,rfl,h2,h3,h4,-,h5⟩:=ha
 have hnl:n=l.length:=by rw[U7] at h2;omega
 subst hnl
 unfold maxLen at h4
 have hel:∀j t,l[j]? = some t->∃b o v,q=some ⟨b,o,none⟩/\b<w.heap.size/\F b (o+j)=some v/\Rd F w.heap.size v 5 (tDs ty t) .nil:=λ j t hj=>by
  have hlt:j<l.length:=(List.getElem?_eq_some_iff.1 hj).1
  rcases h5 with ⟨rfl,rfl⟩|⟨h6,-⟩|⟨b,o,rfl,hb,hat,-⟩
  ·omega
  ·omega
  ·obtain⟨v,h7,h8⟩:=rows_at hat j t hj
   exact⟨b,o,v,rfl,hb,h7,h8⟩
 have htk:∀j,(gR (l.take j)).len<=400000000:=λ j=>by
  have:=congrArg Ts.len (wX (l.take j) (l.drop j))
  rw[List.take_append_drop,Ts.app_len] at this
  omega
 have HEL:=hid hel
 have HTK:=hid htk
 clear h5 hel htk h2
 go_enter Tryz.func166,Tryz.ntmps166
 go_wp2_with fail
 go_loopw [3,5,11] (λ s _ i wr=>∃j:Nat,j<=l.length/\i=.int .i64 (j:Int)/\s=.int .i64 ((gR (l.take j)).len:Int)/\wr=w) (λ _ _ i _=>l.length-(intOf i).toNat)
 case atStart=>exact⟨0,Nat.zero_le _,rfl,rfl,rfl⟩
 case round =>
  obtain⟨j,hj,rfl,rfl,hwr⟩:=hrel
  have hwr':w=wr:=hwr.symm
  clear hwr
  subst hwr'
  by_cases hlt:j<l.length
  ·have r1:decide ((j:Int)<l.length)=true:=decide_eq_true (by omega)
   have i1:(0:Int)<=j:=by omega
   have i2:(j:Int)<l.length:=by omega
   obtain⟨t,ht⟩:∃t,l[j]? = some t:=⟨l[j],List.getElem?_eq_getElem hlt⟩
   obtain⟨b,o,v,rfl,hb,hc,hr⟩:=HEL.out j t ht
   obtain⟨p,cc,ys,rfl,-,-,-,-,-⟩:=J7 hr
   have e0:=aC (HFU.out _ _ _ hc)
   have hcat:(gR (l.take (j+1))).len=(gR (l.take j)).len+t.len:=by rw[J1 ht,wX,Ts.app_len];simp[gR,Ts.len,Ts.app_len]
   have h6:=HTK.out (j+1)
   rw[hcat] at h6
   have r2:decide ((((gR (l.take j)).len:Int)+(t.len:Int))<0)=false:=decide_eq_false (by omega)
   have hw1:IntKind.i64.wrap (((gR (l.take j)).len:Int)+(t.len:Int))=((gR (l.take j)).len:Int)+(t.len:Int):=by rw[IntKind.wrap_i64];omega
   clear hr hc
   go_wp2_with fail
   go_roundw
   case rel=>exact⟨j+1,by omega,by go_num,by rw[hcat];go_num,trivial⟩
   case measure=>simp[intOf];omega
  ·obtain rfl:j=l.length:=by omega
   have r1:decide ((l.length:Int)<l.length)=false:=decide_eq_false (by omega)
   go_wp2_with fail
   refine (KI (gR l).len hn w).mono ?_
   rintro e w1 ⟨v1,rfl,hb1,ho1⟩
   have HB1:=hid hb1
   obtain⟨i,z,bytes,ti,hi,hz,hsize,hby,hzs,hsz,hbb⟩:=elT.is
   have HLAW:=hid (λ (W:World) (v:Value) (n:Nat) (xs:List Value) (hown:W.ownsRow w.heap.size 26 5 v n xs) (x:Value) (m:Nat) (news:List Value) (hx:(x=.slice none 0 0/\m=0)∨∃a c,x=.slice (some a) m c/\∀j u,news[j]? = some u->W.cell? (a.add j)=some u) (hl:news.length=m*5) (h1:∀u∈news,u.oneCell'=true) (h63:n+m<=100000000000) (hbase:w.heap.size<=W.heap.size) =>
    qL (P:=Tryz.prog) W w.heap.size 22 22 26 i z 5 ti hi hz hsize hzs hsz v n xs hown x m news hx hl h1 h63 (by omega) hbase)
   obtain⟨p1,c1,rfl⟩:∃p c,v1=.slice p 0 c:=by
    rcases ho1.2 with ⟨rfl,-⟩|⟨g,cap,cur,rfl,-⟩<;>exact⟨_,_,rfl⟩
   have HO1:=hid ho1
   clear hb1 ho1 ti hi hz hsize hby hzs hsz hbb
   go_wp2_with fail
   go_loopw [6,8,27] (λ v _ i wx=>∃(j:Nat) (xs:List Value),j<=l.length/\i=.int .i64 (j:Int)/\Below w.heap.size w wx/\wx.ownsRow w.heap.size 26 5 v (gR (l.take j)).len xs/\Vs F w.heap.size (tDs ty (gR (l.take j))) xs) (λ _ _ i _=>l.length-(intOf i).toNat)
   case atStart=>exact⟨0,[],Nat.zero_le _,rfl,HB1.out,HO1.out,rfl⟩
   case round =>
    obtain⟨j,xs,hj,rfl,hbx,hox,hvx⟩:=hrel
    have HBX:=hid hbx
    have HOX:=hid hox
    have HVX:=hid hvx
    clear hbx hox hvx
    by_cases hlt:j<l.length
    ·have r1:decide ((j:Int)<l.length)=true:=decide_eq_true (by omega)
     have i1:(0:Int)<=j:=by omega
     have i2:(j:Int)<l.length:=by omega
     obtain⟨t,ht⟩:∃t,l[j]? = some t:=⟨l[j],List.getElem?_eq_getElem hlt⟩
     obtain⟨b,o,v,rfl,hb,hc,hr⟩:=HEL.out j t ht
     obtain⟨p,cc,ys,rfl,-,-,hys,hyl,hyc⟩:=J7 hr
     have e0:=aC (aD HBX.out _ _ _ hb (HFU.out _ _ _ hc))
     have hcat:(gR (l.take (j+1)))=(gR (l.take j)).app t:=by rw[J1 ht,wX];simp[gR,Ts.app_nil]
     have h6:=congrArg Ts.len hcat
     rw[Ts.app_len] at h6
     have h7:=HTK.out (j+1)
     obtain⟨v',w',hrun,ho',hg'⟩:=HLAW.out _ _ _ _ HOX.out (.slice p t.len cc) t.len ys (hyc.imp id λ ⟨a,e,h⟩=>⟨a,cc,by rw[e],λ j u hu=>by
      obtain⟨b1,o1,rfl,h8,h9⟩:=h j u hu
      rw[Addr.add_lit]
      exact (HBX.out.cell (p:=⟨b1,o1+j,none⟩) h8).trans (aC (HFU.out _ _ _ h9))⟩) hyl (Vs.one (J2 ty t) hys) (by omega) HBX.out.size
     have hb':Below w.heap.size w w':=by
      rcases hg' with ⟨-,hg⟩|⟨-,hg⟩
      ·exact HBX.out.grown hg HBX.out.size (λ k hk=>(HOX.out.lt k hk).1)
      ·exact HBX.out.trans (hg.mono HBX.out.size)
     have hv':Vs F w.heap.size (tDs ty (gR (l.take (j+1)))) (xs++ys):=by
      rw[hcat,bC]
      exact Vs.app hys HVX.out
     rw[<-h6] at ho'
     have HB':=hid hb'
     have HO':=hid ho'
     have HV':=hid hv'
     clear hr hc hys hyc hg' hb' ho' hv'
     go_wp2_with (at_builtin;refine wpList_append_run rfl _ _ 22 rfl _ _ _ rfl rfl hrun ?_)
     go_roundw
     case rel=>exact⟨j+1,_,by omega,by go_num,HB'.out,HO'.out,HV'.out⟩
     case measure=>simp[intOf];omega
    ·obtain rfl:j=l.length:=by omega
     have r1:decide ((l.length:Int)<l.length)=false:=decide_eq_false (by omega)
     go_wp2_with fail
     go_ret
     have h1:=HOX.out
     have h2:=HVX.out
     rw[List.take_length] at h1 h2
     exact⟨_,rfl,HBX.out,owns_rd h1 h2 (λ b o v hb hu=>by rw[if_pos hb];exact hu) (λ b o v hb hu=>by rw[if_neg (by omega)];exact hu) HBX.out.size⟩
end
section
open Go.RowKit

set_option maxHeartbeats 1000000 in
theorem xL (p : Lv) (va vb : Value) (w : World) (ha : RP w va p) (hb : RP w vb p) : Calls Tryz.prog 204 #[va, vb] w fun e w' => e = .returned (.bool true) ∧ Below w.heap.size w w' := by
  obtain ⟨q, c, rfl, hc1, hc2, -⟩ := ha.slice
  obtain ⟨q', c', rfl, hc3, hc4, -⟩ := hb.slice
  unfold maxLen at hc2 hc4
  have HA := Lib.hid ha
  have HB := Lib.hid hb
  have hne : ((p.length : Int) != (p.length : Int)) = false := by simp
  clear ha hb
  go_enter Tryz.func204, Tryz.ntmps204
  go_wp2_with fail
  clear hne
  go_loopw [5] (fun i wr => ∃ k : Nat, k ≤ p.length ∧ i = .int .i64 k ∧ Below w.heap.size w wr) (fun i _ => p.length - (intOf i).toNat)
  case atStart => exact ⟨0, Nat.zero_le _, rfl, Below.refl _ _⟩
  case round =>
    obtain ⟨k, hk, rfl, hB⟩ := hrel
    by_cases hlt : k < p.length
    · have r1 : decide ((k : Int) < (p.length : Int)) = true := decide_eq_true (by omega)
      obtain ⟨b, o, rfl, hb1, hu1, hu2⟩ := (HA.out.on hB).at_ hlt
      obtain ⟨b', o', rfl, hb2, hu3, hu4⟩ := (HB.out.on hB).at_ hlt
      have e1 := aC hu1
      have e2 := aC hu2
      have e3 := aC hu3
      have e4 := aC hu4
      have HBB := Lib.hid hB
      clear hu1 hu2 hu3 hu4 hB
      go_wp2_with fail
      go_region_with fail
      all_goals (go_wp2_with fail)
      all_goals go_roundw
      all_goals first
        | exact ⟨k + 1, by omega, by go_num, aA HBB.out (aR wr)⟩
        | (simp [intOf]; omega)
    · have r1 : decide ((k : Int) < (p.length : Int)) = false := decide_eq_false (by omega)
      go_wp2_with fail
      go_ret
      exact ⟨rfl, hB⟩

set_option maxHeartbeats 1000000 in
theorem fZ (p : Lv) (q q' : Option Addr) (n n' c c' : Nat) (w : World) (ha : RP w (.slice q n c) p) (hb : RP w (.slice q' n' c') p) : Calls Tryz.prog 127 #[.agg #[.slice q n c], .agg #[.slice q' n' c']] w fun e w' => e = .returned (.bool true) ∧ Below w.heap.size w w' := by
  have HS : Hid (∀ W, Below w.heap.size w W → Calls Tryz.prog 204 #[.slice q n c, .slice q' n' c'] W fun e w' => e = .returned (.bool true) ∧ Below W.heap.size W w') := fun W hW => xL p _ _ W (ha.on hW) (hb.on hW)
  clear ha hb
  go_enter Tryz.func127, Tryz.ntmps127
  go_wp2_with fail
  have hB := aA (aB w (.cells #[.slice q n c] 43)) (aB _ (.cells #[.slice q' n' c'] 43))
  refine (HS.out _ hB).mono ?_
  rintro e w1 ⟨rfl, hb1⟩
  have HB1 := Lib.hid (aA hB hb1)
  clear hb1 hB
  go_wp2_with fail
  go_ret
  exact ⟨rfl, HB1.out⟩

set_option maxHeartbeats 1000000 in
theorem uZ (l : List Lv) (va vb : Value) (w : World) (ha : RL ty w va l) (hb : RL ty w vb l) : Calls Tryz.prog 61 #[va, vb] w fun e w' => e = .returned (.bool true) ∧ Below w.heap.size w w' := by
  obtain ⟨q, c, rfl, hc1, hc2, -⟩ := ha.slice
  obtain ⟨q', c', rfl, hc3, hc4, -⟩ := hb.slice
  unfold maxLen at hc2 hc4
  have HA := Lib.hid ha
  have HB := Lib.hid hb
  have hne : ((l.length : Int) != (l.length : Int)) = false := by simp
  clear ha hb
  go_enter Tryz.func61, Tryz.ntmps61
  go_wp2_with fail
  clear hne
  go_loopw [5] (fun i wr => ∃ k : Nat, k ≤ l.length ∧ i = .int .i64 k ∧ Below w.heap.size w wr) (fun i _ => l.length - (intOf i).toNat)
  case atStart => exact ⟨0, Nat.zero_le _, rfl, Below.refl _ _⟩
  case round =>
    obtain ⟨k, hk, rfl, hB⟩ := hrel
    by_cases hlt : k < l.length
    · have r1 : decide ((k : Int) < (l.length : Int)) = true := decide_eq_true (by omega)
      obtain ⟨b, o, rfl, hb1, r, d, hu1, -, -, hr1⟩ := (HA.out.on hB).at_ hlt
      obtain ⟨b', o', rfl, hb2, r', d', hu2, -, -, hr2⟩ := (HB.out.on hB).at_ hlt
      have e1 := aC hu1
      have e2 := aC hu2
      have HBB := Lib.hid hB
      have HS : Hid (∀ W, Below wr.heap.size wr W → Calls Tryz.prog 127 #[.agg #[.slice r l[k].length d], .agg #[.slice r' l[k].length d']] W fun e w' => e = .returned (.bool true) ∧ Below W.heap.size W w') := fun W hW => fZ l[k] _ _ _ _ _ _ W (hr1.on hW) (hr2.on hW)
      obtain ⟨z, hz⟩ : ∃ z : Nat, l[k].length = z := ⟨_, rfl⟩
      rw [hz] at e1 e2 HS
      clear hu1 hu2 hB hr1 hr2 hz
      go_wp2_with fail
      go_region_with (go_at_call 127; refine (HS.out _ (by first | exact aR _ | assumption)).mono ?_; rintro e wx ⟨rfl, hbx⟩
                      have hBx : Below wr.heap.size wr wx := aA (by first | exact aR _ | assumption) hbx)
      all_goals (go_wp2_with fail)
      all_goals go_roundw
      all_goals first
        | exact ⟨k + 1, by omega, by go_num, aA HBB.out hBx⟩
        | (simp [intOf]; omega)
    · have r1 : decide ((k : Int) < (l.length : Int)) = false := decide_eq_false (by omega)
      go_wp2_with fail
      go_ret
      exact ⟨rfl, hB⟩
end
section
open Go.RowKit

set_option maxHeartbeats 2000000 in
theorem tI (h : Hd) (x : Ts) (va vb : Value) (w : World) (ha : RM ty w va h x) (hb : RM ty w vb h x)
    (hk : ∀ W v v', RT ty W v x → RT ty W v' x → Calls Tryz.prog 20 #[v, v'] W fun e w' => e = .returned (.bool true) ∧ Below W.heap.size W w') :
    Calls Tryz.prog 16 #[va, vb] w fun e w' => e = .returned (.bool true) ∧ Below w.heap.size w w' := by
  obtain ⟨q, c, r, d, rfl, -, -, -, -, hl, hx⟩ := ha.agg
  obtain ⟨q', c', r', d', rfl, -, -, -, -, hl', hx'⟩ := hb.agg
  obtain ⟨n, hn⟩ : ∃ n, h.l.length = n := ⟨_, rfl⟩
  obtain ⟨m, hm⟩ : ∃ m, x.len = m := ⟨_, rfl⟩
  rw [hn] at hl hl' ⊢
  rw [hm] at hx hx' ⊢
  obtain ⟨k0, hk0⟩ : ∃ k, h.k = k := ⟨_, rfl⟩
  obtain ⟨n0, hn0⟩ : ∃ k, h.n = k := ⟨_, rfl⟩
  obtain ⟨a0, ha0⟩ : ∃ k, h.a = k := ⟨_, rfl⟩
  rw [hk0, hn0, ha0]
  obtain ⟨W0, hW0⟩ : ∃ W0, (w.alloc (.cells #[.int .i64 k0, .int .i64 n0, .int .i64 a0, .slice q n c, .slice r m d] 26)).alloc (.cells #[.int .i64 k0, .int .i64 n0, .int .i64 a0, .slice q' n c', .slice r' m d'] 26) = W0 := ⟨_, rfl⟩
  have hB0 : Below w.heap.size w W0 := by rw [← hW0]; exact aA (aB _ _) (aB _ _)
  have hs0 : W0.heap.size = w.heap.size + 2 := by rw [← hW0]; simp
  have p1 : ∀ o v, (#[.int .i64 k0, .int .i64 n0, .int .i64 a0, .slice q n c, .slice r m d] : Array Value)[o]? = some v → U W0 w.heap.size o = some v := fun o v hv => by
    rw [← hW0]; exact aD (aB _ _) _ _ _ (by simp) (aL hv)
  have p2 : ∀ o v, (#[.int .i64 k0, .int .i64 n0, .int .i64 a0, .slice q' n c', .slice r' m d'] : Array Value)[o]? = some v → U W0 (w.heap.size + 1) o = some v := fun o v hv => by
    have := aL (w := w.alloc (.cells #[.int .i64 k0, .int .i64 n0, .int .i64 a0, .slice q n c, .slice r m d] 26)) (ty := 26) hv
    rw [World.size_alloc, hW0] at this
    exact this
  have c0 := aC (p1 0 _ rfl)
  have c1 := aC (p1 1 _ rfl)
  have c2 := aC (p1 2 _ rfl)
  have c3 := aC (p1 3 _ rfl)
  have c4 := aC (p1 4 _ rfl)
  have d0 := aC (p2 0 _ rfl)
  have d1 := aC (p2 1 _ rfl)
  have d2 := aC (p2 2 _ rfl)
  have d3 := aC (p2 3 _ rfl)
  have d4 := aC (p2 4 _ rfl)
  have H61 : Hid (∀ W, Below w.heap.size w W → Calls Tryz.prog 61 #[.slice q n c, .slice q' n c'] W fun e w' => e = .returned (.bool true) ∧ Below W.heap.size W w') := fun W hW => uZ h.l _ _ W (hl.on hW) (hl'.on hW)
  have H20 : Hid (∀ W, Below w.heap.size w W → Calls Tryz.prog 20 #[.slice r m d, .slice r' m d'] W fun e w' => e = .returned (.bool true) ∧ Below W.heap.size W w') := fun W hW => hk W _ _ (hx.on hW) (hx'.on hW)
  have HB0 := Lib.hid hB0
  have P1 := Lib.hid p1
  have P2 := Lib.hid p2
  have HS0 := Lib.hid hs0
  clear hl hl' hx hx' hk ha hb hn hm hk0 hn0 ha0 hB0 p1 p2 hs0
  have b0 : (k0 == k0) = true := by simp
  have b1 : (n0 == n0) = true := by simp
  have b2 : (a0 == a0) = true := by simp
  go_enter Tryz.func16, Tryz.ntmps16
  go_wp2_with fail
  refine (H61.out _ HB0.out).mono ?_
  rintro e w1 ⟨rfl, hb1⟩
  have g4 := (hb1.cell (p := ⟨w.heap.size, 4, none⟩) (by have := HS0.out; simp; omega)).trans c4
  have k4 := (hb1.cell (p := ⟨w.heap.size + 1, 4, none⟩) (by have := HS0.out; simp; omega)).trans d4
  have HB1 := Lib.hid (aA HB0.out hb1)
  clear hb1 hW0 c0 c1 c2 c3 c4 d0 d1 d2 d3 d4
  go_wp2_with fail
  refine (H20.out _ HB1.out).mono ?_
  rintro e w2 ⟨rfl, hb2⟩
  have HB2 := Lib.hid (aA HB1.out hb2)
  clear hb2
  go_wp2_with fail
  go_ret
  exact ⟨rfl, HB2.out⟩

set_option maxHeartbeats 2000000 in
theorem pO (M : Nat) : ∀ (t : Ts) (va vb : Value) (w : World), t.count < M → RT ty w va t → RT ty w vb t → Calls Tryz.prog 20 #[va, vb] w fun e w' => e = .returned (.bool true) ∧ Below w.heap.size w w' := by
  induction M with
  | zero => intro t va vb w hm; omega
  | succ M ih =>
    intro t va vb w hm ha hb
    obtain ⟨q, c, rfl, hc1, hc2, -⟩ := ha.slice
    obtain ⟨q', c', rfl, hc3, hc4, -⟩ := hb.slice
    unfold maxLen at hc2 hc4
    have HA := Lib.hid ha
    have HB := Lib.hid hb
    have IH := Lib.hid ih
    have HM := Lib.hid hm
    have hne : ((t.len : Int) != (t.len : Int)) = false := by simp
    clear ha hb ih hm
    go_enter Tryz.func20, Tryz.ntmps20
    go_wp2_with fail
    clear hne
    go_loopw [5] (fun i wr => ∃ k : Nat, k ≤ t.len ∧ i = .int .i64 k ∧ Below w.heap.size w wr) (fun i _ => t.len - (intOf i).toNat)
    case atStart => exact ⟨0, Nat.zero_le _, rfl, Below.refl _ _⟩
    case round =>
      obtain ⟨k, hk, rfl, hB⟩ := hrel
      by_cases hlt : k < t.len
      · have r1 : decide ((k : Int) < (t.len : Int)) = true := decide_eq_true (by omega)
        obtain ⟨b, o, rfl, hb1, hu1, hu2, hu3, ⟨r, d, hu4, -, -, hr1⟩, ⟨s, f, hu5, -, -, hs1⟩⟩ := (HA.out.on hB).at_ hlt
        obtain ⟨b', o', rfl, hb2, hv1, hv2, hv3, ⟨r', d', hv4, -, -, hr2⟩, ⟨s', f', hv5, -, -, hs2⟩⟩ := (HB.out.on hB).at_ hlt
        have e1 := aC hu1
        have e2 := aC hu2
        have e3 := aC hu3
        have e4 := aC hu4
        have e5 := aC hu5
        have f1 := aC hv1
        have f2 := aC hv2
        have f3 := aC hv3
        have f4 := aC hv4
        have f5 := aC hv5
        have hcnt := Ts.count_kd hlt
        have HBB := Lib.hid hB
        have HS : Hid (∀ W, Below wr.heap.size wr W → Calls Tryz.prog 16 #[.agg #[.int .i64 (t.hd k).k, .int .i64 (t.hd k).n, .int .i64 (t.hd k).a, .slice r (t.hd k).l.length d, .slice s (t.kd k).len f], .agg #[.int .i64 (t.hd k).k, .int .i64 (t.hd k).n, .int .i64 (t.hd k).a, .slice r' (t.hd k).l.length d', .slice s' (t.kd k).len f']] W fun e w' => e = .returned (.bool true) ∧ Below W.heap.size W w') := fun W hW =>
          tI (t.hd k) (t.kd k) _ _ W ⟨_, _, _, _, _, _, rfl, hr1.on hW, hs1.on hW⟩ ⟨_, _, _, _, _, _, rfl, hr2.on hW, hs2.on hW⟩ (fun W' v v' h1 h2 => IH.out (t.kd k) v v' W' (by have := HM.out; omega) h1 h2)
        obtain ⟨z, hz⟩ : ∃ z : Nat, (t.hd k).l.length = z := ⟨_, rfl⟩
        obtain ⟨y, hy⟩ : ∃ y : Nat, (t.kd k).len = y := ⟨_, rfl⟩
        rw [hz] at e4 f4 HS
        rw [hy] at e5 f5 HS
        clear hu1 hu2 hu3 hu4 hu5 hv1 hv2 hv3 hv4 hv5 hB hr1 hr2 hs1 hs2 hz hy hcnt
        go_wp2_with fail
        go_region_with (go_at_call 16; refine (HS.out _ (by first | exact aR _ | assumption)).mono ?_; rintro e wx ⟨rfl, hbx⟩
                        have hBx : Below wr.heap.size wr wx := aA (by first | exact aR _ | assumption) hbx)
        all_goals (go_wp2_with fail)
        all_goals go_roundw
        all_goals first
          | exact ⟨k + 1, by omega, by go_num, aA HBB.out hBx⟩
          | (simp [intOf]; omega)
      · have r1 : decide ((k : Int) < (t.len : Int)) = false := decide_eq_false (by omega)
        go_wp2_with fail
        go_ret
        exact ⟨rfl, hB⟩
theorem gV (h : Hd) (x : Ts) (va vb : Value) (w : World) (ha : RM ty w va h x) (hb : RM ty w vb h x) : Calls Tryz.prog 16 #[va, vb] w fun e w' => e = .returned (.bool true) ∧ Below w.heap.size w w' :=
  tI h x va vb w ha hb fun W v v' h1 h2 => pO _ x v v' W (Nat.lt_succ_self _) h1 h2
end
section
open Go.RowKit
theorem Rd.whole{F:Nat->Nat->Option Value}{hi:Nat}{q:Option Addr}{n c sz m:Nat}{x s:Ds}(h:Rd F hi (.slice q n c) sz x s)(hs:s.len=m*sz)(hm:0<m)(hz:0<sz):n+m<=c/\Rd F hi (.slice q (n+m) c) sz (x.app s) .nil:=by
 obtain⟨q',n',c',e1,h2,h3,h4,h5,h6⟩:=h
 cases e1
 have hle:n+m<=c:=by
  rw[<-h2,hs,<-Nat.add_mul] at h5
  exact Nat.le_of_mul_le_mul_right h5 hz
 refine⟨hle,_,_,_,rfl,by rw[Ds.app_len,<-h2,hs,Nat.add_mul],hle,h4,by simp only[Ds.len];rw[Ds.app_len];omega,?_⟩
 rcases h6 with ⟨rfl,rfl⟩|⟨-,h7,-⟩|⟨b,o,rfl,hl,ha,hs'⟩
 ·omega
 ·exfalso
  rw[h7] at hs
  have:=Nat.mul_pos hm hz
  omega
 ·exact .inr (.inr ⟨b,o,rfl,hl,At.app.2 ⟨ha,hs'⟩,trivial⟩)
theorem V4(k n i:Nat)(h:i<n):(cZ k n)[i]'(by rw[eN];exact h)=sF k i:=by
 induction n with
 | zero=>omega
 | succ n ih =>
  by_cases hi:i<n
  ·have:=ih hi
   simp only[cZ]
   rw[List.getElem_append_left (by rw[eN];exact hi)]
   exact this
  ·obtain rfl:i=n:=by omega
   simp only[cZ]
   rw[List.getElem_append_right (by rw[eN];exact Nat.le_refl _)]
   simp[eN]
theorem pT(p:Lv)(va vb:Value)(w:World)(ha:Rd (U w) w.heap.size va 2 (bR p) (bR (cZ 1 12)))(hb:RP w vb p)(hn:p.length<=200000000):Calls Tryz.prog 183 #[va,vb] w λ e w'=>e=.returned (.bool true)/\Below w.heap.size w w':=by
 obtain⟨q,c,rfl,hc1,hc2,-⟩:=RP.slice (w:=w) (p:=p) ha.plain
 obtain⟨q',c',rfl,hc3,hc4,-⟩:=hb.slice
 unfold maxLen at hc2 hc4
 obtain⟨hc5,hall⟩:=ha.whole (m:=12) (by rw[jZ,eN]) (by decide) (by decide)
 rw[<-vG] at hall
 have HA:Hid (RP w (.slice q (p.length+12) c) (p++cZ 1 12)):=hid hall
 have HB:=hid hb
 obtain⟨n,hpn⟩:∃n,p.length=n:=⟨_,rfl⟩
 have HN:=hid hpn
 rw[hpn] at HA HB hc1 hc3 hc5 hn ⊢
 have hne:((n:Int) != (n:Int))=false:=by simp
 clear ha hb hall hpn
 go_enter Tryz.func183,Tryz.ntmps183
 go_wp2_with fail
 clear hne
 go_loopw [6] (λ i wr=>∃k:Nat,k<=n+12/\i=.int .i64 k/\Below w.heap.size w wr) (λ i _=>n+12-(intOf i).toNat)
 case atStart=>exact⟨0,Nat.zero_le _,rfl,Below.refl _ _⟩
 case round =>
  obtain⟨k,hk,rfl,hB⟩:=hrel
  have HBB:=hid hB
  clear hB
  by_cases hlt:k<n+12
  ·have r1:decide ((k:Int)<(n:Int)+12)=true:=decide_eq_true (by omega)
   obtain⟨b,o,rfl,hb1,hu1,hu2⟩:=(HA.out.on HBB.out).at_ (k:=k) (by rw[List.length_append,eN,HN.out];exact hlt)
   by_cases hkn:k<n
   ·have r2:decide ((k:Int)<(n:Int))=true:=decide_eq_true (by omega)
    have r3:decide ((n:Int)<=(k:Int))=false:=decide_eq_false (by omega)
    have r4:decide (n<=k)=false:=decide_eq_false (by omega)
    have i0:(0:Int)<=(k:Int):=by omega
    have i1:(k:Int)<(n:Int)+12:=by omega
    have i2:(k:Int)<(n:Int):=by omega
    obtain⟨b',o',rfl,hb2,hu3,hu4⟩:=(HB.out.on HBB.out).at_ (k:=k) (by rw[HN.out];exact hkn)
    have hg:(p++cZ 1 12)[k]'(by rw[List.length_append,eN,HN.out];exact hlt)=p[k]'(by rw[HN.out];exact hkn):=List.getElem_append_left _
    rw[hg] at hu1 hu2
    have e1:=aC hu1
    have e2:=aC hu2
    have e3:=aC hu3
    have e4:=aC hu4
    obtain⟨x,hx⟩:∃x,(p[k]'(by rw[HN.out];exact hkn)).1=x:=⟨_,rfl⟩
    obtain⟨y,hy⟩:∃x,(p[k]'(by rw[HN.out];exact hkn)).2=x:=⟨_,rfl⟩
    rw[hx] at e1 e3
    rw[hy] at e2 e4
    clear hu1 hu2 hu3 hu4 hg hx hy
    go_wp2_with fail
    go_quiet (fail)
    go_wp2_with fail
    go_roundw
    case rel=>exact⟨k+1,by omega,by go_num,aA HBB.out (R6 wr _)⟩
    case measure=>simp[intOf];omega
   ·have r2:decide ((k:Int)<(n:Int))=false:=decide_eq_false (by omega)
    have r4:decide (n<=k)=true:=decide_eq_true (by omega)
    have i0:(0:Int)<=(k:Int):=by omega
    have i1:(k:Int)<(n:Int)+12:=by omega
    have hg:(p++cZ 1 12)[k]'(by rw[List.length_append,eN,HN.out];exact hlt)=sF 1 (k-n):=by
     rw[List.getElem_append_right (by rw[HN.out];omega)]
     simp only[HN.out]
     exact V4 1 12 (k-n) (by omega)
    rw[hg] at hu1 hu2
    obtain⟨j,hj⟩:∃j,k-n=j:=⟨_,rfl⟩
    rw[hj] at hu1 hu2
    have i2:(k:Int)-(n:Int)=(j:Int):=by omega
    have HM:Hid (∀W,Calls Tryz.prog 210 #[.int .i64 1,.int .i64 j] W λ e w'=>e=.returned (.agg #[.int .i64 0,.int .i64 (fV 1 j)])/\Below W.heap.size W w'):=λ W=>mM 1 j W (by decide) (by omega)
    obtain⟨m,hm⟩:∃m,fV 1 j=m:=⟨_,rfl⟩
    rw[hm] at HM
    have e1:∀n:Grown wr,n.it.cell? ⟨b,o+k*2,none⟩=some (.int .i64 0):=Grown.cell hu1
    have e2:∀n:Grown wr,n.it.cell? ⟨b,o+k*2+1,none⟩=some (.int .i64 m):=by rw[<-hm];exact Grown.cell hu2
    clear hu1 hu2 hg hm hj
    go_wp2_with fail
    refine fN (by kernel_rfl) (by kernel_rfl) ?_
    repeat (go_big_quiet_step (exact rO (HM.out _)))
    refine wpQuiet_nil ?_
    intro _ hw'
    obtain⟨nq,hw''⟩:=hw'
    subst hw''
    have HNQ:=hid nq.below
    clear e1 e2
    obtain⟨wq,hwq⟩:∃wq,nq.it=wq:=⟨_,rfl⟩
    rw[hwq] at HNQ ⊢
    clear hwq nq
    go_wp2_with fail
    go_roundw
    case rel=>exact⟨k+1,by omega,by go_num,aA HBB.out HNQ.out⟩
    case measure=>simp[intOf];omega
  ·have r1:decide ((k:Int)<(n:Int)+12)=false:=decide_eq_false (by omega)
   go_wp2_with fail
   go_ret
   exact⟨rfl,HBB.out⟩
end
section
open Go.RowKit
theorem xT(p:Lv)(q q':Option Addr)(n n' c c':Nat)(w:World)(ha:Rd (U w) w.heap.size (.slice q n c) 2 (bR p) (bR (cZ 1 12)))(hb:RP w (.slice q' n' c') p)(hn:p.length<=200000000) :
  Calls Tryz.prog 104 #[.agg #[.slice q n c],.agg #[.slice q' n' c']] w λ e w'=>e=.returned (.bool true)/\Below w.heap.size w w':=by
 obtain⟨W0,hW0⟩:∃W0,(w.alloc (.cells #[.slice q n c] 43)).alloc (.cells #[.slice q' n' c'] 43)=W0:=⟨_,rfl⟩
 have hB0:Below w.heap.size w W0:=by rw[<-hW0];exact aA (aB _ _) (aB _ _)
 have c1:U W0 w.heap.size 0=some (.slice q n c):=by rw[<-hW0];exact aD (aB _ _) _ _ _ (by simp) (aL rfl)
 have c2:U W0 (w.heap.size+1) 0=some (.slice q' n' c'):=by
  have:=aL (w:=w.alloc (.cells #[.slice q n c] 43)) (cs:=#[.slice q' n' c']) (ty:=43) (o:=0) rfl
  rw[World.size_alloc,hW0] at this
  exact this
 have HS:Hid (∀W,Below w.heap.size w W->Calls Tryz.prog 127 #[.agg #[.slice q n c],.agg #[.slice q' n' c']] W λ e w'=>e=.returned (.bool true)/\Below W.heap.size W w'):=λ W hW=>fZ p _ _ _ _ _ _ W (Rd.plain (ha.on hW)) (hb.on hW)
 have HK:Hid (∀W,Below w.heap.size w W->Calls Tryz.prog 183 #[.slice q n c,.slice q' n' c'] W λ e w'=>e=.returned (.bool true)/\Below W.heap.size W w'):=λ W hW=>pT p _ _ W (ha.on hW) (hb.on hW) hn
 have d1:=aC c1
 have d2:=aC c2
 have HB0:=hid hB0
 have C1:=hid c1
 have C2:=hid c2
 clear ha hb hn hB0 c1 c2
 go_enter Tryz.func104,Tryz.ntmps104
 go_wp2_with fail
 refine (HS.out _ HB0.out).mono ?_
 rintro e w1 ⟨rfl,hb1⟩
 have g1:=aC (aD hb1 _ _ _ (aM C1.out) C1.out)
 have g2:=aC (aD hb1 _ _ _ (aM C2.out) C2.out)
 have HB1:=hid (aA HB0.out hb1)
 clear hb1 hW0 d1 d2
 go_wp2_with fail
 refine (HK.out _ HB1.out).mono ?_
 rintro e w2 ⟨rfl,hb2⟩
 have HB2:=hid (aA HB1.out hb2)
 clear hb2
 go_wp2_with fail
 go_ret
 exact⟨rfl,HB2.out⟩
theorem X2(k n i:Nat)(h:i<n):(cW k n)[i]'(by rw[gN];exact h)=nX k i:=by
 induction n with
 | zero=>omega
 | succ n ih =>
  by_cases hi:i<n
  ·have:=ih hi
   simp only[cW]
   rw[List.getElem_append_left (by rw[gN];exact hi)]
   exact this
  ·obtain rfl:i=n:=by omega
   simp only[cW]
   rw[List.getElem_append_right (by rw[gN];exact Nat.le_refl _)]
   simp[gN]
theorem Rd.lentLv_plain{w:World}{v:Value}{l:List Lv}{s:Ds}(h:Rd (U w) w.heap.size v 1 (cC ty l) s):RL ty w v l:=by
 have:=h.strip
 rw[cJ] at this
 exact this
theorem wD(l:List Lv)(va vb:Value)(w:World)(ha:Rd (U w) w.heap.size va 1 (cC ty l) (bN ty (cW 1 12)))(hb:RL ty w vb l)(hs:aH l<=200000000):Calls Tryz.prog 67 #[va,vb] w λ e w'=>e=.returned (.bool true)/\Below w.heap.size w w':=by
 obtain⟨q,c,rfl,hc1,hc2,-⟩:=RL.slice (y:=ty) (w:=w) (l:=l) ha.lentLv_plain
 obtain⟨q',c',rfl,hc3,hc4,-⟩:=hb.slice
 unfold maxLen at hc2 hc4
 obtain⟨hc5,hall⟩:=ha.whole (m:=12) (by rw[eI,gN]) (by decide) (by decide)
 have HA:=hid ha
 have HW:=hid hall
 have HB:=hid hb
 have HSZ:=hid hs
 have hl:l.length<=200000000:=by
  have:∀l:List Lv,l.length<=aH l:=by
   intro l
   induction l with
   | nil=>simp
   | cons a r ih=>simp only[List.length_cons,aH];omega
  have:=this l
  omega
 obtain⟨n,hpn⟩:∃n,l.length=n:=⟨_,rfl⟩
 have HN:=hid hpn
 rw[hpn] at HA HW HB hc1 hc3 hc5 hl ⊢
 have hne:((n:Int) != (n:Int))=false:=by simp
 clear ha hb hall hpn hs
 go_enter Tryz.func67,Tryz.ntmps67
 go_wp2_with fail
 clear hne
 go_loopw [6] (λ i wr=>∃k:Nat,k<=n+12/\i=.int .i64 k/\Below w.heap.size w wr) (λ i _=>n+12-(intOf i).toNat)
 case atStart=>exact⟨0,Nat.zero_le _,rfl,Below.refl _ _⟩
 case round =>
  obtain⟨k,hk,rfl,hB⟩:=hrel
  have HBB:=hid hB
  clear hB
  by_cases hlt:k<n+12
  ·have r1:decide ((k:Int)<(n:Int)+12)=true:=decide_eq_true (by omega)
   have i0:(0:Int)<=(k:Int):=by omega
   have i1:(k:Int)<(n:Int)+12:=by omega
   by_cases hkn:k<n
   ·have r2:decide ((k:Int)<(n:Int))=true:=decide_eq_true (by omega)
    have r4:decide (n<=k)=false:=decide_eq_false (by omega)
    have i2:(k:Int)<(n:Int):=by omega
    obtain⟨b,o,rfl,hlb,hAt,-⟩:=Rd.lies (HA.out.on HBB.out) (by omega)
    obtain⟨v,hv,hrv⟩:=DX hAt (k:=k) (by rw[HN.out];exact hkn)
    obtain⟨r,m,d,rfl,-⟩:=Rd.slice hrv
    obtain⟨b',o',rfl,hb2,r',d',hu2,-,-,hr2⟩:=(HB.out.on HBB.out).at_ (k:=k) (by rw[HN.out];exact hkn)
    have hsz:=oX (l:=l) (k:=k) (by rw[HN.out];exact hkn)
    obtain⟨z,hz⟩:∃z:Nat,(l[k]'(by rw[HN.out];exact hkn)).length=z:=⟨_,rfl⟩
    rw[hz] at hu2 hr2 hsz
    have HK:Hid (∀W:Grown wr,Calls Tryz.prog 104 #[.agg #[.slice r m d],.agg #[.slice r' z d']] W.it λ e w'=>e=.returned (.bool true)/\Below W.it.heap.size W.it w'):=λ W=>xT _ _ _ _ _ _ _ W.it (hrv.on W.below) (hr2.on W.below) (by rw[hz];have:=HSZ.out;omega)
    have e1:∀n:Grown wr,n.it.cell? ⟨b,o+k,none⟩=some (.slice r m d):=Grown.cell hv
    have e2:∀n:Grown wr,n.it.cell? ⟨b',o'+k,none⟩=some (.slice r' z d'):=Grown.cell hu2
    clear hv hu2 hrv hr2 hAt hz hsz
    go_wp2_with fail
    refine fN (by kernel_rfl) (by kernel_rfl) ?_
    repeat (go_big_quiet_step (exact rO (HK.out _)))
    refine wpQuiet_nil ?_
    intro _ hw'
    obtain⟨nq,hw''⟩:=hw'
    subst hw''
    have HNQ:=hid nq.below
    clear e1 e2
    obtain⟨wq,hwq⟩:∃wq,nq.it=wq:=⟨_,rfl⟩
    rw[hwq] at HNQ ⊢
    clear hwq nq
    go_wp2_with fail
    go_roundw
    case rel=>exact⟨k+1,by omega,by go_num,aA HBB.out HNQ.out⟩
    case measure=>simp[intOf];omega
   ·have r2:decide ((k:Int)<(n:Int))=false:=decide_eq_false (by omega)
    have r4:decide (n<=k)=true:=decide_eq_true (by omega)
    have r5:decide (k<n)=false:=decide_eq_false (by omega)
    have r6:decide ((n:Int)<=(k:Int))=true:=decide_eq_true (by omega)
    obtain⟨b,o,rfl,hlb,hAt,-⟩:=Rd.lies (HW.out.on HBB.out) (by omega)
    have hAt2:=(At.app.1 hAt).2
    obtain⟨v,hv,hrv⟩:=lv_at hAt2 (k:=k-n) (by rw[gN];omega)
    rw[vZ,HN.out,X2 1 12 (k-n) (by omega),show o+n+(k-n)=o+k by omega] at *
    obtain⟨r,m,d,rfl,-⟩:=Rd.slice hrv
    obtain⟨j,hj⟩:∃j,k-n=j:=⟨_,rfl⟩
    rw[hj] at hrv
    have i2:(k:Int)-(n:Int)=(j:Int):=by omega
    have HM:Hid (∀W,Calls Tryz.prog 121 #[.int .i64 1,.int .i64 j] W λ e w'=>∃r n d S,e=.returned (.agg #[.slice r n d])/\Below W.heap.size W w'/\Own w' W.heap.size (bN ty [nX 1 j]) [.slice r n d] S/\S.Nodup):=λ W=>(lB 1 j W (by decide) (by omega)).mono λ _ _ h=>Makes.one h
    have e1:∀n:Grown wr,n.it.cell? ⟨b,o+k,none⟩=some (.slice r m d):=Grown.cell hv
    have HS:Hid (∀W r' n' d' S,Below wr.heap.size wr W->Own W wr.heap.size (bN ty [nX 1 j]) [.slice r' n' d'] S->Calls Tryz.prog 127 #[.agg #[.slice r m d],.agg #[.slice r' n' d']] W λ e w'=>e=.returned (.bool true)/\Below W.heap.size W w'):=λ W r' n' d' S hW ho=>by
     obtain⟨v',ys,e2,h2,-⟩:=ho.vs
     cases e2
     exact fZ _ _ _ _ _ _ _ W (hrv.on hW) h2
    clear hv hrv hAt hAt2 hj
    go_wp2_with fail
    refine pZ 30 (by decide) (by kernel_rfl) (by kernel_rfl) (by kernel_rfl) (λ _ _ d _ _ h=>by cases d<;>exact h) ?_
    simp only[List.take_succ_cons,List.take_zero,List.map_cons,List.map_nil,bar,bD,List.size_toArray,List.length_cons,List.length_nil,Nat.zero_add,Nat.reduceAdd,if_true,if_false,Bool.false_eq_true]
    repeat (go_big_quiet_step (fail))
    refine wpQuiet_nil ?_
    clear e1
    refine aJ (i:=30) (fuel:=4) (by kernel_rfl) rfl (by rfl) (λ K' hK=>?_)
    go_simp
    refine (HM.out _).mono ?_
    rintro e wx ⟨r',n',d',S,rfl,hbx,hox,-⟩
    have hBx:Below wr.heap.size wr wx:=aA (aR wr) hbx
    refine hK.out _ _ ⟨⟨wx,hBx⟩,rfl⟩ (λ _=>?_)
    clear hK K'
    refine aJ (i:=31) (fuel:=3) (by kernel_rfl) rfl (by rfl) (λ K' hK=>?_)
    go_simp
    refine (HS.out _ _ _ _ _ hBx (hox.lower (by simp))).mono ?_
    rintro e wy ⟨rfl,hby⟩
    have hBy:Below wr.heap.size wr wy:=aA hBx hby
    refine hK.out _ _ ⟨⟨wy,hBy⟩,rfl⟩ (λ _=>?_)
    clear hK K'
    refine aJ (i:=32) (fuel:=2) (by kernel_rfl) rfl (by rfl) (λ K' hK=>?_)
    go_simp
    refine hK.out _ _ ⟨⟨wy,hBy⟩,rfl⟩ (λ _=>?_)
    clear hK K'
    refine aJ (i:=33) (fuel:=1) (by kernel_rfl) rfl (by rfl) (λ K' hK=>?_)
    go_simp
    refine hK.out _ _ ⟨⟨wy,hBy⟩,rfl⟩ (λ _=>?_)
    clear hK K'
    refine aJ (i:=34) (fuel:=0) (by kernel_rfl) rfl (by rfl) (λ K' hK=>?_)
    go_simp
    refine hK.out _ _ ⟨⟨wy,hBy⟩,rfl⟩ (λ _=>?_)
    clear hK K'
    refine wpAnyH_done (by kernel_rfl) ?_ _
    have HNQ:=hid hBy
    clear hBy hBx hby hbx hox
    go_wp2_with fail
    go_roundw
    case rel=>exact⟨k+1,by omega,by go_num,aA HBB.out HNQ.out⟩
    case measure=>simp[intOf];omega
  ·have r1:decide ((k:Int)<(n:Int)+12)=false:=decide_eq_false (by omega)
   go_wp2_with fail
   go_ret
   exact⟨rfl,HBB.out⟩
end
section
open Go.RowKit
theorem Rd.lentT_plain{w:World}{v:Value}{t:Ts}{s:Ds}(h:Rd (U w) w.heap.size v 5 (bV ty t) s):RT ty w v t:=by
 have:=h.strip
 rw[cU] at this
 exact this
theorem Rd.lentL_plain{w:World}{v:Value}{l:List Lv}{s:Ds}(h:Rd (U w) w.heap.size v 1 (cC ty l) s):RL ty w v l:=by
 have:=h.strip
 rw[cJ] at this
 exact this
def MH(l:List Lv):Prop:=∀(va vb:Value) (w:World),Rd (U w) w.heap.size va 1 (cC ty l) (bN ty (cW 1 12))->RL ty w vb l->Calls Tryz.prog 67 #[va,vb] w λ e w'=>e=.returned (.bool true)/\Below w.heap.size w w'
def RLent(w:World)(v:Value)(h:Hd)(x:Ts):Prop :=
 ∃q n c r m d,v=.agg #[.int .i64 h.k,.int .i64 h.n,.int .i64 h.a,.slice q n c,.slice r m d]/\Rd (U w) w.heap.size (.slice q n c) 1 (cC ty h.l) (bN ty (cW 1 12))/\Rd (U w) w.heap.size (.slice r m d) 5 (bV ty x) (tDs ty (bU 1 12))
theorem RLent.on{w w':World}{v:Value}{h:Hd}{x:Ts}(hm:RLent w v h x)(hb:Below w.heap.size w w'):RLent w' v h x:=by
 obtain⟨q,n,c,r,m,d,e1,h1,h2⟩:=hm
 exact⟨q,n,c,r,m,d,e1,h1.on hb,h2.on hb⟩
theorem tQ(h:Hd)(x:Ts)(va vb:Value)(w:World)(ha:RLent w va h x)(hb:RM ty w vb h x)(hkl:MH h.l)
  (hk:∀W v v',Rd (U W) W.heap.size v 5 (bV ty x) (tDs ty (bU 1 12))->RT ty W v' x->Calls Tryz.prog 22 #[v,v'] W λ e w'=>e=.returned (.bool true)/\Below W.heap.size W w') :
  Calls Tryz.prog 23 #[va,vb] w λ e w'=>e=.returned (.bool true)/\Below w.heap.size w w':=by
 obtain⟨q,n,c,r,m,d,rfl,hl,hx⟩:=ha
 obtain⟨q',n',c',r',m',d',rfl,hl',hx'⟩:=hb
 obtain⟨k0,hk0⟩:∃k,h.k=k:=⟨_,rfl⟩
 obtain⟨n0,hn0⟩:∃k,h.n=k:=⟨_,rfl⟩
 obtain⟨a0,ha0⟩:∃k,h.a=k:=⟨_,rfl⟩
 have H16:Hid (∀W,Below w.heap.size w W->Calls Tryz.prog 16 #[.agg #[.int .i64 h.k,.int .i64 h.n,.int .i64 h.a,.slice q n c,.slice r m d],.agg #[.int .i64 h.k,.int .i64 h.n,.int .i64 h.a,.slice q' n' c',.slice r' m' d']] W λ e w'=>e=.returned (.bool true)/\Below W.heap.size W w'):=λ W hW =>
  gV h x _ _ W ⟨_,_,_,_,_,_,rfl,(hl.lentL_plain).on hW,(hx.lentT_plain).on hW⟩ ⟨_,_,_,_,_,_,rfl,hl'.on hW,hx'.on hW⟩
 have H67:Hid (∀W,Below w.heap.size w W->Calls Tryz.prog 67 #[.slice q n c,.slice q' n' c'] W λ e w'=>e=.returned (.bool true)/\Below W.heap.size W w'):=λ W hW=>hkl _ _ W (hl.on hW) (hl'.on hW)
 have H22:Hid (∀W,Below w.heap.size w W->Calls Tryz.prog 22 #[.slice r m d,.slice r' m' d'] W λ e w'=>e=.returned (.bool true)/\Below W.heap.size W w'):=λ W hW=>hk W _ _ (hx.on hW) (hx'.on hW)
 rw[hk0,hn0,ha0] at H16 ⊢
 obtain⟨W0,hW0⟩:∃W0,(w.alloc (.cells #[.int .i64 k0,.int .i64 n0,.int .i64 a0,.slice q n c,.slice r m d] 26)).alloc (.cells #[.int .i64 k0,.int .i64 n0,.int .i64 a0,.slice q' n' c',.slice r' m' d'] 26)=W0:=⟨_,rfl⟩
 have hB0:Below w.heap.size w W0:=by rw[<-hW0];exact aA (aB _ _) (aB _ _)
 have p1:∀o v,(#[.int .i64 k0,.int .i64 n0,.int .i64 a0,.slice q n c,.slice r m d]:Array Value)[o]? = some v->U W0 w.heap.size o=some v:=λ o v hv=>by
  rw[<-hW0];exact aD (aB _ _) _ _ _ (by simp) (aL hv)
 have p2:∀o v,(#[.int .i64 k0,.int .i64 n0,.int .i64 a0,.slice q' n' c',.slice r' m' d']:Array Value)[o]? = some v->U W0 (w.heap.size+1) o=some v:=λ o v hv=>by
  have:=aL (w:=w.alloc (.cells #[.int .i64 k0,.int .i64 n0,.int .i64 a0,.slice q n c,.slice r m d] 26)) (ty:=26) hv
  rw[World.size_alloc,hW0] at this
  exact this
 have c0:=aC (p1 0 _ rfl)
 have c1:=aC (p1 1 _ rfl)
 have c2:=aC (p1 2 _ rfl)
 have c3:=aC (p1 3 _ rfl)
 have c4:=aC (p1 4 _ rfl)
 have d0:=aC (p2 0 _ rfl)
 have d1:=aC (p2 1 _ rfl)
 have d2:=aC (p2 2 _ rfl)
 have d3:=aC (p2 3 _ rfl)
 have d4:=aC (p2 4 _ rfl)
 have HB0:=hid hB0
 have P1:=hid p1
 have P2:=hid p2
 clear hl hl' hx hx' hk hkl hk0 hn0 ha0 hB0 p1 p2
 go_enter Tryz.func23,Tryz.ntmps23
 go_wp2_with fail
 refine (H16.out _ HB0.out).mono ?_
 rintro e w1 ⟨rfl,hb1⟩
 have f3:=aC (aD hb1 _ _ _ (aM (P1.out 3 _ rfl)) (P1.out 3 _ rfl))
 have f4:=aC (aD hb1 _ _ _ (aM (P2.out 3 _ rfl)) (P2.out 3 _ rfl))
 have Q1:Hid (U w1 w.heap.size 4=some (.slice r m d)):=hid (aD hb1 _ _ _ (aM (P1.out 4 _ rfl)) (P1.out 4 _ rfl))
 have Q2:Hid (U w1 (w.heap.size+1) 4=some (.slice r' m' d')):=hid (aD hb1 _ _ _ (aM (P2.out 4 _ rfl)) (P2.out 4 _ rfl))
 have HB1:=hid (aA HB0.out hb1)
 clear hb1 hW0 c0 c1 c2 c3 c4 d0 d1 d2 d3 d4
 go_wp2_with fail
 refine (H67.out _ HB1.out).mono ?_
 rintro e w2 ⟨rfl,hb2⟩
 have g3:=aC (aD hb2 _ _ _ (aM Q1.out) Q1.out)
 have g4:=aC (aD hb2 _ _ _ (aM Q2.out) Q2.out)
 have HB2:=hid (aA HB1.out hb2)
 clear hb2 f3 f4
 go_wp2_with fail
 refine (H22.out _ HB2.out).mono ?_
 rintro e w3 ⟨rfl,hb3⟩
 have HB3:=hid (aA HB2.out hb3)
 clear hb3
 go_wp2_with fail
 go_ret
 exact⟨rfl,HB3.out⟩
theorem CW(k n i:Nat)(h:i<n):(bU k n).hd i=yG k i/\(bU k n).kd i=.nil:=by
 induction n with
 | zero=>omega
 | succ n ih =>
  have key:∀(x:Ts) (h:Hd) (i:Nat),(i<x.len->(x.snoc h .nil).hd i=x.hd i/\(x.snoc h .nil).kd i=x.kd i)/\(i=x.len->(x.snoc h .nil).hd i=h/\(x.snoc h .nil).kd i=.nil):=by
   intro x h
   induction x with
   | nil=>intro i;exact⟨fun hi=>by simp[Ts.len] at hi,λ hi=>by subst hi;exact⟨rfl,rfl⟩⟩
   | cons w y r _ ihr =>
    intro i
    cases i with
    | zero=>exact⟨fun _=>⟨rfl,rfl⟩,λ hi=>by simp[Ts.len] at hi⟩
    | succ i=>exact⟨fun hi=>(ihr i).1 (by simp[Ts.len] at hi;omega),λ hi=>(ihr i).2 (by simp[Ts.len] at hi;omega)⟩
  by_cases hi:i<n
  ·have:=(key (bU k n) (yG k n) i).1 (by rw[mF];exact hi)
   exact⟨this.1.trans (ih hi).1,this.2.trans (ih hi).2⟩
  ·obtain rfl:i=n:=by omega
   exact (key (bU k i) (yG k i) i).2 (mF k i).symm
theorem D8(hkl:∀l,aH l<=200000000->MH l)(M:Nat):∀(t:Ts) (va vb:Value) (w:World),t.count<M->Rd (U w) w.heap.size va 5 (bV ty t) (tDs ty (bU 1 12))->RT ty w vb t->t.size<=200000000 ->
  Calls Tryz.prog 22 #[va,vb] w λ e w'=>e=.returned (.bool true)/\Below w.heap.size w w':=by
 induction M with
 | zero=>intro t va vb w hm;omega
 | succ M ih =>
  intro t va vb w hm ha hb hs
  obtain⟨q,c,rfl,hc1,hc2,-⟩:=RT.slice (y:=ty) (w:=w) (t:=t) ha.lentT_plain
  obtain⟨q',c',rfl,hc3,hc4,-⟩:=hb.slice
  unfold maxLen at hc2 hc4
  obtain⟨hc5,hall⟩:=ha.whole (m:=12) (by rw[aF,mF]) (by decide) (by decide)
  have HA:=hid ha
  have HW:=hid hall
  have HB:=hid hb
  have HSZ:=hid hs
  have IH:=hid ih
  have HM:=hid hm
  have HKL:=hid hkl
  have hl:t.len<=200000000:=by have:=Ts.len_le_size t;omega
  obtain⟨n,hpn⟩:∃n,t.len=n:=⟨_,rfl⟩
  have HN:=hid hpn
  rw[hpn] at HA HW HB hc1 hc3 hc5 hl ⊢
  have hne:((n:Int) != (n:Int))=false:=by simp
  clear ha hb hall hpn hs ih hm hkl
  go_enter Tryz.func22,Tryz.ntmps22
  go_wp2_with fail
  clear hne
  go_loopw [6] (λ i wr=>∃k:Nat,k<=n+12/\i=.int .i64 k/\Below w.heap.size w wr) (λ i _=>n+12-(intOf i).toNat)
  case atStart=>exact⟨0,Nat.zero_le _,rfl,Below.refl _ _⟩
  case round =>
   obtain⟨k,hk,rfl,hB⟩:=hrel
   have HBB:=hid hB
   clear hB
   by_cases hlt:k<n+12
   ·have r1:decide ((k:Int)<(n:Int)+12)=true:=decide_eq_true (by omega)
    have i0:(0:Int)<=(k:Int):=by omega
    have i1:(k:Int)<(n:Int)+12:=by omega
    by_cases hkn:k<n
    ·have r2:decide ((k:Int)<(n:Int))=true:=decide_eq_true (by omega)
     have r4:decide (n<=k)=false:=decide_eq_false (by omega)
     have i2:(k:Int)<(n:Int):=by omega
     have hkt:k<t.len:=by rw[HN.out];exact hkn
     obtain⟨b,o,rfl,hlb,hAt,-⟩:=Rd.lies (HA.out.on HBB.out) (by omega)
     obtain⟨h1,h2,h3,⟨v,h4,hrv⟩,⟨v',h5,hrv'⟩⟩:=JQ hAt (k:=k) hkt
     obtain⟨r,m,d,rfl,-⟩:=Rd.slice hrv
     obtain⟨s,p,f,rfl,-⟩:=Rd.slice hrv'
     obtain⟨b',o',rfl,hb2,u1,u2,u3,⟨r',d',u4,-,-,hr2⟩,⟨s',f',u5,-,-,hs2⟩⟩:=(HB.out.on HBB.out).at_ hkt
     have hsz:=Ts.size_kd hkt
     have hcnt:=Ts.count_kd hkt
     have HK:Hid (∀W:Grown wr,Calls Tryz.prog 23 #[.agg #[.int .i64 (t.hd k).k,.int .i64 (t.hd k).n,.int .i64 (t.hd k).a,.slice r m d,.slice s p f],.agg #[.int .i64 (t.hd k).k,.int .i64 (t.hd k).n,.int .i64 (t.hd k).a,.slice r' (t.hd k).l.length d',.slice s' (t.kd k).len f']] W.it λ e w'=>e=.returned (.bool true)/\Below W.it.heap.size W.it w'):=λ W =>
      tQ (t.hd k) (t.kd k) _ _ W.it ⟨_,_,_,_,_,_,rfl,hrv.on W.below,hrv'.on W.below⟩ ⟨_,_,_,_,_,_,rfl,hr2.on W.below,hs2.on W.below⟩ (HKL.out _ (by have:=HSZ.out;omega)) (λ W' v v' g1 g2=>IH.out (t.kd k) v v' W' (by have:=HM.out;omega) g1 g2 (by have:=HSZ.out;omega))
     obtain⟨z1,hz1⟩:∃z,(t.hd k).l.length=z:=⟨_,rfl⟩
     obtain⟨z2,hz2⟩:∃z,(t.kd k).len=z:=⟨_,rfl⟩
     obtain⟨x1,hx1⟩:∃z,(t.hd k).k=z:=⟨_,rfl⟩
     obtain⟨x2,hx2⟩:∃z,(t.hd k).n=z:=⟨_,rfl⟩
     obtain⟨x3,hx3⟩:∃z,(t.hd k).a=z:=⟨_,rfl⟩
     rw[hz1] at u4 HK
     rw[hz2] at u5 HK
     rw[hx1] at h1 u1 HK
     rw[hx2] at h2 u2 HK
     rw[hx3] at h3 u3 HK
     have e1:=Grown.cell h1
     have e2:=Grown.cell h2
     have e3:=Grown.cell h3
     have e4:=Grown.cell h4
     have e5:=Grown.cell h5
     have f1:=Grown.cell u1
     have f2:=Grown.cell u2
     have f3:=Grown.cell u3
     have f4:=Grown.cell u4
     have f5:=Grown.cell u5
     clear h1 h2 h3 h4 h5 u1 u2 u3 u4 u5 hrv hrv' hr2 hs2 hAt hz1 hz2 hx1 hx2 hx3 hsz hcnt hkt
     go_wp2_with fail
     refine fN (by kernel_rfl) (by kernel_rfl) ?_
     repeat (go_big_quiet_step (exact rO (HK.out _)))
     refine wpQuiet_nil ?_
     intro _ hw'
     obtain⟨nq,hw''⟩:=hw'
     subst hw''
     have HNQ:=hid nq.below
     clear e1 e2 e3 e4 e5 f1 f2 f3 f4 f5
     obtain⟨wq,hwq⟩:∃wq,nq.it=wq:=⟨_,rfl⟩
     rw[hwq] at HNQ ⊢
     clear hwq nq
     go_wp2_with fail
     go_roundw
     case rel=>exact⟨k+1,by omega,by go_num,aA HBB.out HNQ.out⟩
     case measure=>simp[intOf];omega
    ·have r2:decide ((k:Int)<(n:Int))=false:=decide_eq_false (by omega)
     have r4:decide (n<=k)=true:=decide_eq_true (by omega)
     obtain⟨b,o,rfl,hlb,hAt,-⟩:=Rd.lies (HW.out.on HBB.out) (by omega)
     have hAt2:=(At.app.1 hAt).2
     have hoff:o+(bV ty t).len+(k-n)*5=o+k*5:=by rw[yU,HN.out];omega
     obtain⟨h1,h2,h3,⟨v,h4,hrv⟩,⟨v',h5,hrv'⟩⟩:=t_at hAt2 (k:=k-n) (by rw[mF];omega)
     rw[hoff] at h1 h2 h3 h4 h5
     obtain⟨g1,g2⟩:=CW 1 12 (k-n) (by omega)
     rw[g1] at h1 h2 h3 hrv
     rw[g2] at hrv'
     obtain⟨r,m,d,rfl,-⟩:=Rd.slice hrv
     obtain⟨s,p,f,rfl,-⟩:=Rd.slice hrv'
     obtain⟨j,hj⟩:∃j,k-n=j:=⟨_,rfl⟩
     rw[hj] at h2
     have i2:(k:Int)-(n:Int)=(j:Int):=by omega
     obtain⟨x,hx⟩:∃x,fV 1 j=x:=⟨_,rfl⟩
     have HM1:Hid (∀W:Grown wr,Calls Tryz.prog 54 #[.int .i64 1,.int .i64 j] W.it λ e w'=>e=.returned (.agg #[.int .i64 0,.int .i64 x,.int .i64 0,.slice none 0 0,.slice none 0 0])/\Below W.it.heap.size W.it w'):=λ W=>by rw[<-hx];exact mL 1 j W.it (by decide) (by omega)
     have h2':U wr b (o+k*5+1)=some (.int .i64 x):=by rw[<-hx];exact h2
     have h1':U wr b (o+k*5)=some (.int .i64 0):=h1
     have h3':U wr b (o+k*5+2)=some (.int .i64 0):=h3
     have HS:Hid (∀W:Grown wr,Calls Tryz.prog 16 #[.agg #[.int .i64 0,.int .i64 x,.int .i64 0,.slice r m d,.slice s p f],.agg #[.int .i64 0,.int .i64 x,.int .i64 0,.slice none 0 0,.slice none 0 0]] W.it λ e w'=>e=.returned (.bool true)/\Below W.it.heap.size W.it w'):=λ W =>
      gV ⟨0,x,0,[]⟩ .nil _ _ W.it ⟨_,_,_,_,_,_,rfl,Rd.on hrv W.below,Rd.on hrv' W.below⟩ ⟨_,_,_,_,_,_,rfl,Rd.none_ _ _ _,Rd.none_ _ _ _⟩
     have e1:=Grown.cell h1'
     have e2:=Grown.cell h2'
     have e3:=Grown.cell h3'
     have e4:=Grown.cell h4
     have e5:=Grown.cell h5
     clear h1 h2 h3 h4 h5 h1' h2' h3' hrv hrv' hAt hAt2 hoff g1 g2 hj hx
     go_wp2_with fail
     refine fN (by kernel_rfl) (by kernel_rfl) ?_
     repeat (go_big_quiet_step (first|(exact rO (HM1.out _))|(exact rO (HS.out _))))
     refine wpQuiet_nil ?_
     intro _ hw'
     obtain⟨nq,hw''⟩:=hw'
     subst hw''
     have HNQ:=hid nq.below
     clear e1 e2 e3 e4 e5
     obtain⟨wq,hwq⟩:∃wq,nq.it=wq:=⟨_,rfl⟩
     rw[hwq] at HNQ ⊢
     clear hwq nq
     go_wp2_with fail
     go_roundw
     case rel=>exact⟨k+1,by omega,by go_num,aA HBB.out HNQ.out⟩
     case measure=>simp[intOf];omega
   ·have r1:decide ((k:Int)<(n:Int)+12)=false:=decide_eq_false (by omega)
    go_wp2_with fail
    go_ret
    exact⟨rfl,HBB.out⟩
end
section
open Go.RowKit
theorem yW(l:List Lv)(hs:aH l<=200000000):MH l:=λ va vb w ha hb=>wD l va vb w ha hb hs
theorem pS(t:Ts)(va vb:Value)(w:World)(ha:Rd (U w) w.heap.size va 5 (bV ty t) (tDs ty (bU 1 12)))(hb:RT ty w vb t)(hs:t.size<=200000000) :
  Calls Tryz.prog 22 #[va,vb] w λ e w'=>e=.returned (.bool true)/\Below w.heap.size w w':=D8 yW _ t va vb w (Nat.lt_succ_self _) ha hb hs
theorem D9(h:Hd)(x:Ts)(va vb:Value)(w:World)(ha:RLent w va h x)(hb:RM ty w vb h x)(hs:aH h.l+x.size<=200000000) :
  Calls Tryz.prog 23 #[va,vb] w λ e w'=>e=.returned (.bool true)/\Below w.heap.size w w':=tQ h x va vb w ha hb (yW _ (by omega)) λ W v v' h1 h2=>pS x v v' W h1 h2 (by omega)
end
section
open Go.RowKit
def Fl(S:List Nat)(w:World)(b o:Nat):Option Value:=if b∈S then none else U w b o
theorem Fl_U{S:List Nat}{w:World}{b o:Nat}{v:Value}(h:Fl S w b o=some v):U w b o=some v:=by
 unfold Fl at h;split at h
 ·cases h
 ·exact h
theorem Fl_ne{S:List Nat}{w:World}{b o:Nat}{v:Value}(h:Fl S w b o=some v):b ∉ S:=by
 unfold Fl at h;split at h
 ·cases h
 ·assumption
theorem Fl_mk{S:List Nat}{w:World}{b o:Nat}{v:Value}(h:U w b o=some v)(hb:b ∉ S):Fl S w b o=some v:=by
 unfold Fl;rw[if_neg hb];exact h
def XAt(S:List Nat)(g:Nat)(t:Tm)(W:World):Prop:=g<W.heap.size/\∃q n c r m d,RMx (Fl S W) W.heap.size (.agg #[.int .i64 t.h.k,.int .i64 t.h.n,.int .i64 t.h.a,.slice q n c,.slice r m d]) t.h t.x/\∀o u,(#[.int .i64 t.h.k,.int .i64 t.h.n,.int .i64 t.h.a,.slice q n c,.slice r m d]:Array Value)[o]? = some u->U W g o=some u
theorem XAt.keep{S:List Nat}{g:Nat}{t:Tm}{W W':World}(h:XAt S g t W)(hk:∀b,b<W.heap.size->b ∉ S∨b=g->W'.heap[b]? = W.heap[b]?)(hs:W.heap.size<=W'.heap.size):XAt S g t W':=by
 obtain⟨h1,q,n,c,r,m,d,h2,h3⟩:=h
 exact⟨Nat.lt_of_lt_of_le h1 hs,q,n,c,r,m,d,h2.mono (λ b o v hb hv=>Fl_mk ((dK (hk b hb (.inl (Fl_ne hv))) o).trans (Fl_U hv)) (Fl_ne hv)) hs,λ o u hu=>(dK (hk g h1 (.inr rfl)) o).trans (h3 o u hu)⟩
theorem XAt.on{S:List Nat}{g:Nat}{t:Tm}{W W':World}(h:XAt S g t W)(hb:Below W.heap.size W W'):XAt S g t W':=h.keep (λ b hb' _=>hb.block b hb') hb.size
theorem XAt.row{F:Nat->Nat->Option Value}{T:Tm}{W wa:World}{q1 q2:Option Addr}{n1 c1 n2 c2:Nat}(hRM:RMx F W.heap.size (.agg #[.int .i64 T.h.k,.int .i64 T.h.n,.int .i64 T.h.a,.slice q1 n1 c1,.slice q2 n2 c2]) T.h T.x)(hF:∀b o v,F b o=some v->U W b o=some v)
  (hwa:W.alloc (.cells #[.int .i64 T.h.k,.int .i64 T.h.n,.int .i64 T.h.a,.slice q1 n1 c1,.slice q2 n2 c2] 26)=wa):RT ty wa (.slice (some ⟨W.heap.size,0,none⟩) 1 1) T.ts/\Below W.heap.size W wa/\wa.heap.size=W.heap.size+1:=by
 have hba:Below W.heap.size W wa:=by rw[<-hwa];exact aB _ _
 have hsa:wa.heap.size=W.heap.size+1:=by rw[<-hwa];simp
 obtain⟨v3,v4,e,hv⟩:=(hRM.mono (F':=U wa) (hi':=wa.heap.size) (λ b o v hb hv=>aD hba _ _ _ hb (hF _ _ _ hv)) hba.size).cells
 injection e with e
 rw[<-show [Value.int .i64 T.h.k,.int .i64 T.h.n,.int .i64 T.h.a,.slice q1 n1 c1,.slice q2 n2 c2]=[.int .i64 T.h.k,.int .i64 T.h.n,.int .i64 T.h.a,v3,v4] from congrArg Array.toList e] at hv
 exact⟨RT.block (n:=1) (λ i u hu=>by rw[<-hwa];exact aL (by simpa using hu)) (by omega) hv rfl (by decide),hba,hsa⟩
end
section
open Go.RowKit
variable {P:Program} {G:World->Prop} {tb:TB} {N:Nat} {F0:Mem} {w0:World}
def stX(l:List (Nat×AV))(b:List (Nat×Nat×Dc))(t:List (Nat×Nat))(fx:Nat->Option Value):St:={ bP l b t with fx:=fx }
theorem le_ofX{s:St}{l:List (Nat×AV)}{b:List (Nat×Nat×Dc)}{t:List (Nat×Nat)}{fx:Nat->Option Value}(h:Le G N s (bP l b t))(hf:∀t x,fx t=some x->s.fx t=some x):Le G N s (stX l b t fx):=by
 intro F0 w0 a w hs
 obtain⟨h1,h2,h3,h4,h5,h6,-⟩:=h F0 w0 a w hs
 exact⟨⟨h1.1,h1.2⟩,h2,h3,h4,h5,h6,λ t x e=>hs.fix t x (hf t x e)⟩
def toK(G:World->Prop)(N:Nat)(st':St):Exit->St->Prop:=λ e s=>e=.normal/\Le G N s st'
theorem iG(hT:gI P tb)(hS:jG G)(hm:P.follows .mixedOrders=true){x y:Code}{Q:Exit->Act->World->Prop}{st st':St}{a:Act}{w:World}(hs:Sat G F0 w0 N st a w)(h:dI P G tb N x (toK G N st') st)
  (k:∀a' w',Sat G F0 w0 N st' a' w'->y.wp P Q a' w'):(x.seq y).wp P Q a w:=by
 refine wp_seq (wp_mono (gP hT hS hm h F0 w0 a w hs) ?_)
 rintro e a' w' ⟨s,⟨rfl,hle⟩,hs'⟩
 exact k a' w' (hle F0 w0 a' w' hs')
theorem IT(hG:G w0){st:St}{a:Act}(hok:∀t,(st.env t).ok (λ _=>none) (λ _=>none))(hb:st.bx=fun _=>none)(hτ:st.τ=fun _=>none)(hsz:a.tmps.size=N)(hd:a.defers=[])(hx:∀t x,st.fx t=some x->a.tmps.getD t undef=x)
  (hr:∀t,t<N->RepV (bE (U w0) w0) (st.env t) [a.tmps.getD t undef]):Sat G (U w0) w0 N st a w0:=by
 refine⟨⟨fun t=>by rw[hb,hτ];exact hok t,λ k T d e=>by rw[hb] at e;cases e⟩,⟨bE (U w0) w0,rfl,⟨fun _ _ _ h=>h,Nat.le_refl _,λ k T d e=>(by cases e),λ k k' h1=>(absurd rfl h1),λ k j b h1=>(absurd rfl h1),λ k k' b h1=>(absurd rfl h1)⟩,hb.symm,hτ.symm,rfl,λ _ _ _=>rfl,hr⟩,Below.refl _ _,hG,hsz,hd,hx⟩
theorem yH(hG:G w0){l:List AV}{vs:List Value}(hv:RepV (bE (U w0) w0) (.list l) vs)(hN:l.length<=N)(hl:∀a∈l,a.ok (λ _=>none) (λ _=>none)) :
  Sat G (U w0) w0 N (gU l) { tmps:=vs.toArray++Array.replicate (N-vs.toArray.size) undef,defers:=[] } w0:=by
 have hlen:∀(l:List AV) (vs:List Value),RepV (bE (U w0) w0) (.list l) vs->vs.length=l.length/\∀t,RepV (bE (U w0) w0) (l.getD t .junk) [vs.getD t undef]:=by
  intro l
  induction l with
  | nil=>intro vs h;rw[show vs=[] from h];exact⟨rfl,λ t=>trivial⟩
  | cons a l ih =>
   rintro vs ⟨y,ys,rfl,h1,h2⟩
   obtain⟨h3,h4⟩:=ih ys h2
   refine⟨by simp[h3],λ t=>?_⟩
   cases t with
   | zero=>exact h1
   | succ t=>exact h4 t
 obtain⟨hvl,hvs⟩:=hlen l vs hv
 refine IT hG (λ t=>?_) rfl rfl (by simp;omega) rfl (λ t x e=>by cases e) λ t ht=>?_
 ·show (l.getD t .junk).ok _ _
  rw[List.getD_eq_getElem?_getD]
  cases ht:l[t]? with
  | none=>trivial
  | some x=>exact hl x (List.mem_of_getElem? ht)
 ·have:=hvs t
  have e:(vs.toArray++Array.replicate (N-vs.toArray.size) undef).getD t undef=vs.getD t undef:=by
   rw[Array.getD_eq_getD_getElem?,Array.getElem?_append,List.getD_eq_getElem?_getD]
   by_cases h1:t<vs.length
   ·simp[h1]
   ·have h2:vs[t]? = none:=List.getElem?_eq_none (by omega)
    simp only[List.size_toArray,h1,if_false,h2,Option.getD_none]
    rw[Array.getElem?_replicate]
    split<;>rfl
  show RepV _ (l.getD t .junk) [(vs.toArray++Array.replicate (N-vs.toArray.size) undef).getD t undef]
  rw[e]
  exact this
theorem CM{n:Nat}{arr:Array Value}(h:arr.size=n):arr=((List.range n).map λ i=>arr.getD i undef).toArray:=by
 apply Array.ext_getElem?
 intro i
 subst h
 by_cases hi:i<arr.size
 ·simp[hi]
 ·simp[hi]
end
section
open Go.RowKit
structure Tn (em:Nat) (X:Nat->Prop) (w w':World):Prop where
 os:w'.os=w.os
 tape:w'.tape=w.tape
 output:w'.output=w.output
 size:w.heap.size<=w'.heap.size
 block:∀b,b<w.heap.size->¬X b->w'.heap[b]? = w.heap[b]?
 keep:∀(b:Nat) (cur:Array Value) (fz:Nat×Nat),w.heap[b]? = some (Obj.cells cur em fz)->w'.heap[b]? = some (Obj.cells cur em fz)
theorem Tn.refl(em:Nat)(X:Nat->Prop)(w:World):Tn em X w w:=⟨rfl,rfl,rfl,Nat.le_refl _,λ _ _ _=>rfl,λ _ _ _ h=>h⟩
theorem Tn.trans{em:Nat}{X:Nat->Prop}{a b c:World}(h:Tn em X a b)(k:Tn em X b c):Tn em X a c :=
 ⟨k.os.trans h.os,k.tape.trans h.tape,k.output.trans h.output,Nat.le_trans h.size k.size,λ i hi hx=>(k.block i (Nat.lt_of_lt_of_le hi h.size) hx).trans (h.block i hi hx),λ i c f e=>k.keep i c f (h.keep i c f e)⟩
theorem Tn.trans'{em:Nat}{X Y:Nat->Prop}{a b c:World}(h:Tn em X a b)(k:Tn em Y b c)(hxy:∀i,i<a.heap.size->Y i->X i):Tn em X a c :=
 ⟨k.os.trans h.os,k.tape.trans h.tape,k.output.trans h.output,Nat.le_trans h.size k.size,λ i hi hx=>(k.block i (Nat.lt_of_lt_of_le hi h.size) (λ hy=>hx (hxy i hi hy))).trans (h.block i hi hx),λ i c f e=>k.keep i c f (h.keep i c f e)⟩
theorem Tn.mono{em:Nat}{X Y:Nat->Prop}{w w':World}(h:Tn em X w w')(hxy:∀i,i<w.heap.size->X i->Y i):Tn em Y w w' :=
 ⟨h.os,h.tape,h.output,h.size,λ i hi hy=>h.block i hi (λ hx=>hy (hxy i hi hx)),h.keep⟩
theorem aV{w:World}{b:Nat}{o:Obj}(h:w.heap[b]? = some o):b<w.heap.size:=(Array.getElem?_eq_some_iff.1 h).1
theorem Tn.of_below{em:Nat}{X:Nat->Prop}{w w':World}(h:Below w.heap.size w w'):Tn em X w w' :=
 ⟨h.os,h.tape,h.output,h.size,λ b hb _=>h.block b hb,λ b _ _ e=>by rw[h.block b (aV e)];exact e⟩
theorem Tn.below{em:Nat}{X:Nat->Prop}{w w':World}(h:Tn em X w w'){B:Nat}(hB:B<=w.heap.size)(hx:∀b,X b->B<=b):Below B w w' :=
 ⟨h.os,h.tape,h.output,h.size,λ b hb=>h.block b (Nat.lt_of_lt_of_le hb hB) (λ h1=>by have:=hx b h1;omega)⟩
theorem iL{g:Nat}{t:TypeId}:∀(vs:List Value) (o:Nat) (cur:Array Value) (w:World),w.heap[g]? = some (Obj.cells cur t (0,0))->o+vs.length<=cur.size ->
  ∃cur',(w.setCells g o vs).heap[g]? = some (Obj.cells cur' t (0,0))/\cur'.size=cur.size/\(∀p,p<o∨o+vs.length<=p->cur'[p]? = cur[p]?)/\∀j,j<vs.length->cur'[o+j]? = vs[j]?
 | [],o,cur,w,hg,_=>⟨cur,hg,rfl,λ _ _=>rfl,λ j hj=>by simp at hj⟩
 | v :: vs,o,cur,w,hg,hl=>by
  simp only[List.length_cons] at hl
  have h1:(w.setCell ⟨g,o,none⟩ v).heap[g]? = some (Obj.cells (cur.setIfInBounds o v) t (0,0)):=by
   rw[setCell_eq_setRow w g o cur t (0,0) v hg];exact setRow_heap w g cur _ t _ hg
  obtain⟨cur',h2,h3,h4,h5⟩:=iL vs (o+1) _ _ h1 (by rw[Array.size_setIfInBounds];omega)
  refine⟨cur',h2,by rw[h3,Array.size_setIfInBounds],λ p hp=>?_,λ j hj=>?_⟩
  ·simp only[List.length_cons] at hp
   rw[h4 p (by omega),Array.getElem?_setIfInBounds,if_neg (by omega)]
  ·cases j with
   | zero=>rw[Nat.add_zero,h4 o (by omega),Array.getElem?_setIfInBounds,if_pos rfl,if_pos (by omega)];rfl
   | succ j =>
    have:=h5 j (by simp at hj;omega)
    rw[show o+(j+1)=o+1+j by omega,this];rfl
theorem xK(w:World)(g o:Nat)(vs:List Value):(w.setCells g o vs).heap.size=w.heap.size:=by
 induction vs generalizing o w with
 | nil=>rfl
 | cons v vs ih=>rw[World.setCells,ih];simp[World.setCell]
theorem xJ(w:World)(g o:Nat)(vs:List Value):(w.setCells g o vs).tape=w.tape:=by
 induction vs generalizing o w with
 | nil=>rfl
 | cons v vs ih=>rw[World.setCells,ih];rfl
theorem jX{w:World}{g o i:Nat}{vs:List Value}(hne:i≠g):(w.setCells g o vs).heap[i]? = w.heap[i]?:=by
 induction vs generalizing o w with
 | nil=>rfl
 | cons v vs ih=>rw[World.setCells,ih];exact Below.heap_setCell _ _ _ _ (by simpa using hne)
theorem iQ{em e:Nat}{w:World}{g o:Nat}{cur:Array Value}(vs:List Value)(hg:w.heap[g]? = some (Obj.cells cur e (0,0)))(he:e≠em):Tn em (λ b=>b=g) w (w.setCells g o vs) :=
 ⟨World.os_setCells _ _ _ _,xJ _ _ _ _,World.output_setCells _ _ _ _,by rw[xK];exact Nat.le_refl _,λ b _ hb=>jX hb,λ b c f h=>by
  by_cases e1:b=g
  ·subst e1;rw[hg] at h;cases h;exact absurd rfl he
  ·rw[jX e1];exact h⟩
theorem uT{w:World}{g o n:Nat}{cur:Array Value}{t:TypeId}(hg:w.heap[g]? = some (Obj.cells cur t (0,0)))(hl:o+n<=cur.size):w.there g o n:=λ j hj =>
 ⟨by simp[World.cell?,hg];omega,by simp[World.frozen?,hg]⟩
theorem mJ{w:World}{g o:Nat}{cur:Array Value}{t:TypeId}{xs:List Value}(hg:w.heap[g]? = some (Obj.cells cur t (0,0)))(h:∀j,j<xs.length->cur[o+j]? = xs[j]?):w.rangeAt g o xs:=λ j v hv=>by
 have hj:=(List.getElem?_eq_some_iff.1 hv).1
 simp[World.cell?,hg,h j hj,hv]
structure Kd where
 e:Nat
 sz:Nat
 em:Nat
 cel:World->Int->List Value->Prop
structure Kd.Ok (K:Kd):Prop where
 ne:K.e≠K.em
 pos:0<K.sz
 len:∀w M xs,K.cel w M xs->xs.length=K.sz
 one:∀w M xs,K.cel w M xs->∀u∈xs,u.oneCell'=true
 on:∀w w' M xs,(∀(b:Nat) (cur:Array Value) (fz:Nat×Nat),w.heap[b]? = some (Obj.cells cur K.em fz)->w'.heap[b]? = some (Obj.cells cur K.em fz))->K.cel w M xs->K.cel w' M xs
def mk(k i:Nat):Int:=1000003*((k:Int)+7)+i
def Mkd(K:Kd)(w:World)(cur:Array Value)(d k:Nat):Prop:=∀i,i<d->∃xs,K.cel w (mk k i) xs/\∀j,j<xs.length->cur[i*K.sz+j]? = xs[j]?
theorem Mkd.on{K:Kd}(hK:K.Ok){X:Nat->Prop}{w w':World}{cur:Array Value}{d k:Nat}(h:Mkd K w cur d k)(ht:Tn K.em X w w'):Mkd K w' cur d k:=λ i hi=>by
 obtain⟨xs,h1,h2⟩:=h i hi
 exact⟨xs,hK.on _ _ _ _ ht.keep h1,h2⟩
theorem Mkd.less{K:Kd}{w:World}{cur:Array Value}{d d' k:Nat}(h:Mkd K w cur d k)(hd:d'<=d):Mkd K w cur d' k:=λ i hi=>h i (by omega)
theorem Mkd.head{K:Kd}(hK:K.Ok){w:World}{cur cur':Array Value}{d k:Nat}(h:Mkd K w cur d k)(hc:∀p,p<d*K.sz->cur'[p]? = cur[p]?):Mkd K w cur' d k:=λ i hi=>by
 obtain⟨xs,h1,h2⟩:=h i hi
 refine⟨xs,h1,λ j hj=>?_⟩
 have hl:=hK.len _ _ _ h1
 have:(i+1)*K.sz<=d*K.sz:=Nat.mul_le_mul_right _ hi
 rw[hc _ (by rw[Nat.add_mul] at this;omega)]
 exact h2 j hj
theorem Mkd.next{K:Kd}{w:World}{cur:Array Value}{d k:Nat}{xs:List Value}(h:Mkd K w cur d k)(hx:K.cel w (mk k d) xs)(hc:∀j,j<xs.length->cur[d*K.sz+j]? = xs[j]?):Mkd K w cur (d+1) k:=λ i hi=>by
 by_cases e:i=d
 ·subst e;exact⟨xs,hx,hc⟩
 ·exact h i (by omega)
def vn:Value->Nat
 | .slice _ n _=>n
 | _=>0
def RowI(K:Kd)(lo:Nat)(w:World)(v:Value)(d k:Nat):Prop :=
 (∃p,v=.slice p 0 0/\d=0)∨∃g n cap cur,v=.slice (some ⟨g,0,none⟩) n cap/\lo<=g/\w.heap[g]? = some (Obj.cells cur K.e (0,0))/\n<=cap/\0<cap/\cap<=maxLen/\cur.size=cap*K.sz/\d<=n/\Mkd K w cur d k
def vb:Value->Option Nat
 | .slice (some a) _ (_+1)=>some a.block
 | _=>none
theorem nA{g n cap:Nat}(h:0<cap):vb (.slice (some ⟨g,0,none⟩) n cap)=some g:=by
 cases cap with
 | zero=>omega
 | succ c=>rfl
theorem RowI.lt{K:Kd}{lo:Nat}{w:World}{v:Value}{d k:Nat}(h:RowI K lo w v d k){b:Nat}(hb:vb v=some b):lo<=b/\b<w.heap.size:=by
 rcases h with ⟨p,rfl,-⟩|⟨g,n,cap,cur,rfl,h1,h2,h3,h4,-⟩
 ·cases p<;>cases hb
 ·rw[nA h4] at hb;cases hb;exact⟨h1,aV h2⟩
theorem RowI.on{K:Kd}(hK:K.Ok){X:Nat->Prop}{lo:Nat}{w w':World}{v:Value}{d k:Nat}(h:RowI K lo w v d k)(ht:Tn K.em X w w')(hx:∀(b:Nat) (cur:Array Value),w.heap[b]? = some (Obj.cells cur K.e (0,0))->vb v=some b->¬X b):RowI K lo w' v d k:=by
 rcases h with h|⟨g,n,cap,cur,rfl,h1,h2,h3,h4,h5,h6,h7,h8⟩
 ·exact .inl h
 ·exact .inr ⟨g,n,cap,cur,rfl,h1,by rw[ht.block g (aV h2) (hx g cur h2 (nA h4))];exact h2,h3,h4,h5,h6,h7,h8.on hK ht⟩
theorem RowI.start{K:Kd}{lo:Nat}{w:World}{v:Value}{d k k':Nat}(h:RowI K lo w v d k):RowI K lo w v 0 k':=by
 rcases h with ⟨p,rfl,-⟩|⟨g,n,cap,cur,rfl,h1,h2,h3,h4,h5,h6,h7,h8⟩
 ·exact .inl ⟨p,rfl,rfl⟩
 ·exact .inr ⟨g,n,cap,cur,rfl,h1,h2,h3,h4,h5,h6,Nat.zero_le _,λ i hi=>by omega⟩
theorem RowI.set{K:Kd}(hK:K.Ok){lo:Nat}{w:World}{g n cap d k:Nat}{xs:List Value}(h:RowI K lo w (.slice (some ⟨g,0,none⟩) n cap) d k)(hd:d<n)(hx:K.cel w (mk k d) xs) :
  w.there g (d*K.sz) K.sz/\RowI K lo (w.setCells g (d*K.sz) xs) (.slice (some ⟨g,0,none⟩) n cap) (d+1) k/\Tn K.em (λ b=>b=g) w (w.setCells g (d*K.sz) xs):=by
 rcases h with ⟨p,e,-⟩|⟨g,n,cap,cur,e,h1,h2,h3,h4,h5,h6,h7,h8⟩
 ·cases e;omega
 ·cases e
  have hl:=hK.len _ _ _ hx
  have hm:(d+1)*K.sz<=cap*K.sz:=Nat.mul_le_mul_right _ (by omega)
  rw[Nat.add_mul,Nat.one_mul] at hm
  have ht:=iQ (em:=K.em) (o:=d*K.sz) xs h2 hK.ne
  obtain⟨cur',e1,e2,e3,e4⟩:=iL xs (d*K.sz) cur w h2 (by omega)
  refine⟨uT h2 (by omega),.inr ⟨g,n,cap,cur',rfl,h1,e1,h3,h4,h5,by rw[e2,h6],hd,?_⟩,ht⟩
  exact ((h8.on hK ht).head hK (λ p hp=>e3 p (.inl hp))).next (hK.on _ _ _ _ ht.keep hx) e4
theorem RowI.get{K:Kd}{lo:Nat}{w:World}{g n cap d k i:Nat}(h:RowI K lo w (.slice (some ⟨g,0,none⟩) n cap) d k)(hi:i<d):∃xs,K.cel w (mk k i) xs/\w.rangeAt g (i*K.sz) xs:=by
 rcases h with ⟨p,-,rfl⟩|⟨g,n,cap,cur,e,h1,h2,h3,h4,h5,h6,h7,h8⟩
 ·omega
 ·cases e
  obtain⟨xs,e1,e2⟩:=h8 i hi
  exact⟨xs,e1,mJ h2 e2⟩
def RowsG(K:Kd)(lo:Nat)(w:World)(vs:List Value)(d:Nat->Nat):Prop:=∀k v,vs[k]? = some v->RowI K lo w v (d k) k
def I7(vs:List Value):Prop:=∀(k k':Nat) (v v':Value) (b:Nat),vs[k]? = some v->vs[k']? = some v'->vb v=some b->vb v'=some b->k=k'
def InV(vs:List Value)(b:Nat):Prop:=∃v∈vs,vb v=some b
theorem RowsG.set{K:Kd}(hK:K.Ok){lo:Nat}{w:World}{vs:List Value}(hD:I7 vs){d:Nat->Nat}(h:RowsG K lo w vs d){k g n cap:Nat}{xs:List Value}(hv:vs[k]? = some (.slice (some ⟨g,0,none⟩) n cap))(hd:d k<n)(hx:K.cel w (mk k (d k)) xs) :
  w.there g (d k*K.sz) K.sz/\RowsG K lo (w.setCells g (d k*K.sz) xs) vs (λ j=>if j=k then d k+1 else d j)/\Tn K.em (InV vs) w (w.setCells g (d k*K.sz) xs):=by
 have hr:=h k _ hv
 have hcap:0<cap:=by
  rcases hr with ⟨p,e,-⟩|⟨_,_,_,_,e,_,_,_,h4,-⟩
  ·cases e;omega
  ·cases e;exact h4
 obtain⟨h1,h2,h3⟩:=hr.set hK hd hx
 refine⟨h1,λ j v hj=>?_,h3.mono λ b _ e=>⟨_,List.mem_of_getElem? hv,by rw[e];exact nA hcap⟩⟩
 by_cases e:j=k
 ·subst e
  rw[hv] at hj;cases hj
  show RowI _ _ _ _ (if j=j then _ else _) _
  rw[if_pos rfl];exact h2
 ·show RowI _ _ _ _ (if j=k then _ else _) _
  rw[if_neg e]
  exact (h j v hj).on hK h3 λ b _ _ hb e2=>e (hD j k v _ b hj hv hb (by rw[e2];exact nA hcap))
theorem RowsG.on{K:Kd}(hK:K.Ok){X:Nat->Prop}{lo:Nat}{w w':World}{vs:List Value}{d:Nat->Nat}(h:RowsG K lo w vs d)(ht:Tn K.em X w w')(hx:∀(b:Nat) (cur:Array Value),w.heap[b]? = some (Obj.cells cur K.e (0,0))->InV vs b->¬X b):RowsG K lo w' vs d:=λ k v hv =>
 (h k v hv).on hK ht λ b cur hc hb=>hx b cur hc ⟨v,List.mem_of_getElem? hv,hb⟩
end
end Go.Proofs.YtkcmapimcgppmaaGreatDoor
section
namespace Go.Proofs
open Go.Shelf
def Tryz.keysA_ren:Go.Shelf.Ren:=⟨fun|7=>246|10=>250|n=>n,fun|23=>272|26=>3|3=>3|28=>284|0=>0|27=>283|33=>286|4=>4|n=>n,fun|n=>n⟩
theorem Tryz.keysA:Go.Proofs.SlLaysZI.n7 Tryz.prog Tryz.keysA_ren:={
 mixed:=by kernel_rfl
 f7:=⟨Tryz.f246.name,by decide,Tryz.func246.trans (congrArg some (by kernel_rfl))⟩
 f10:=⟨Tryz.f250.name,by decide,Tryz.func250.trans (congrArg some (by kernel_rfl))⟩
 t0:=Tryz.underlying0
 a0:=Tryz.isAgg0
 z0:=Tryz.sizeOf0
 v0:=Tryz.zeroValue0
 t4:=Tryz.underlying4
 a4:=Tryz.isAgg4
 z4:=Tryz.sizeOf4
 v4:=Tryz.zeroValue4
 t23:=Tryz.underlying272
 a23:=Tryz.isAgg272
 z23:=Tryz.sizeOf272
 v23:=Tryz.zeroValue272
 t26:=Tryz.underlying3
 a26:=Tryz.isAgg3
 z26:=Tryz.sizeOf3
 v26:=Tryz.zeroValue3
 t27:=Tryz.underlying283
 a27:=Tryz.isAgg283
 z27:=Tryz.sizeOf283
 v27:=Tryz.zeroValue283
 t28:=Tryz.underlying284
 a28:=Tryz.isAgg284
 z28:=Tryz.sizeOf284
 v28:=Tryz.zeroValue284
 t33:=Tryz.underlying286
 a33:=Tryz.isAgg286
 z33:=Tryz.sizeOf286
 v33:=Tryz.zeroValue286 }
def Tryz.sortedA_ren:Go.Shelf.Ren:=⟨fun|6=>245|8=>248|9=>249|11=>251|13=>253|12=>252|23=>263|24=>264|14=>254|15=>255|16=>256|17=>257|18=>258|19=>259|20=>260|21=>261|22=>262|25=>265|26=>266|27=>267|28=>268|29=>269|30=>270|31=>271|n=>n,fun|26=>3|28=>284|24=>72|0=>0|3=>3|37=>261|48=>229|50=>231|4=>4|40=>293|39=>292|45=>167|5=>5|9=>9|51=>301|55=>305|57=>307|58=>308|33=>286|n=>n,fun|n=>n⟩
theorem Tryz.sortedA:Go.Proofs.SlLaysZI.n6 Tryz.prog Tryz.sortedA_ren:={
 mixed:=by kernel_rfl
 f6:=⟨Tryz.f245.name,by decide,Tryz.func245.trans (congrArg some (by kernel_rfl))⟩
 f8:=⟨Tryz.f248.name,by decide,Tryz.func248.trans (congrArg some (by kernel_rfl))⟩
 f11:=⟨Tryz.f251.name,by decide,Tryz.func251.trans (congrArg some (by kernel_rfl))⟩
 t0:=Tryz.underlying0
 a0:=Tryz.isAgg0
 z0:=Tryz.sizeOf0
 v0:=Tryz.zeroValue0
 t24:=Tryz.underlying72
 a24:=Tryz.isAgg72
 z24:=Tryz.sizeOf72
 v24:=Tryz.zeroValue72
 t26:=Tryz.underlying3
 a26:=Tryz.isAgg3
 z26:=Tryz.sizeOf3
 v26:=Tryz.zeroValue3
 t28:=Tryz.underlying284
 a28:=Tryz.isAgg284
 z28:=Tryz.sizeOf284
 v28:=Tryz.zeroValue284
 i26:=by kernel_rfl }
def Tryz.sortA_ren:Go.Shelf.Ren:=⟨fun|5=>249|8=>253|7=>252|19=>263|20=>264|10=>254|11=>255|12=>256|13=>257|14=>258|15=>259|16=>260|17=>261|18=>262|30=>265|31=>266|32=>267|33=>268|34=>269|35=>270|40=>271|n=>n,fun|23=>72|25=>3|3=>3|32=>261|22=>72|0=>0|44=>229|46=>231|4=>4|36=>293|35=>292|41=>167|5=>5|9=>9|53=>301|57=>305|63=>307|64=>308|n=>n,fun|n=>n⟩
theorem Tryz.sortA:Go.Proofs.SlLaysM.n5 Tryz.prog Tryz.sortA_ren:={
 mixed:=by kernel_rfl
 f5:=⟨Tryz.f249.name,by decide,Tryz.func249.trans (congrArg some (by kernel_rfl))⟩
 f7:=⟨Tryz.f252.name,by decide,Tryz.func252.trans (congrArg some (by kernel_rfl))⟩
 f8:=Tryz.func253.trans (congrArg some (by kernel_rfl))
 f10:=⟨Tryz.f254.name,by decide,Tryz.func254.trans (congrArg some (by kernel_rfl))⟩
 f11:=⟨Tryz.f255.name,by decide,Tryz.func255.trans (congrArg some (by kernel_rfl))⟩
 f12:=⟨Tryz.f256.name,by decide,Tryz.func256.trans (congrArg some (by kernel_rfl))⟩
 f13:=⟨Tryz.f257.name,by decide,Tryz.func257.trans (congrArg some (by kernel_rfl))⟩
 f14:=⟨Tryz.f258.name,by decide,Tryz.func258.trans (congrArg some (by kernel_rfl))⟩
 f15:=⟨Tryz.f259.name,by decide,Tryz.func259.trans (congrArg some (by kernel_rfl))⟩
 f16:=⟨Tryz.f260.name,by decide,Tryz.func260.trans (congrArg some (by kernel_rfl))⟩
 f17:=⟨Tryz.f261.name,by decide,Tryz.func261.trans (congrArg some (by kernel_rfl))⟩
 f18:=⟨Tryz.f262.name,by decide,Tryz.func262.trans (congrArg some (by kernel_rfl))⟩
 f19:=Tryz.func263.trans (congrArg some (by kernel_rfl))
 f20:=Tryz.func264.trans (congrArg some (by kernel_rfl))
 f30:=⟨Tryz.f265.name,by decide,Tryz.func265.trans (congrArg some (by kernel_rfl))⟩
 f31:=Tryz.func266.trans (congrArg some (by kernel_rfl))
 f32:=Tryz.func267.trans (congrArg some (by kernel_rfl))
 f33:=⟨Tryz.f268.name,by decide,Tryz.func268.trans (congrArg some (by kernel_rfl))⟩
 f34:=⟨Tryz.f269.name,by decide,Tryz.func269.trans (congrArg some (by kernel_rfl))⟩
 f35:=⟨Tryz.f270.name,by decide,Tryz.func270.trans (congrArg some (by kernel_rfl))⟩
 f40:=⟨Tryz.f271.name,by decide,Tryz.func271.trans (congrArg some (by kernel_rfl))⟩
 t0:=Tryz.underlying0
 a0:=Tryz.isAgg0
 z0:=Tryz.sizeOf0
 v0:=Tryz.zeroValue0
 t3:=Tryz.underlying3
 a3:=Tryz.isAgg3
 z3:=Tryz.sizeOf3
 v3:=Tryz.zeroValue3
 t4:=Tryz.underlying4
 a4:=Tryz.isAgg4
 z4:=Tryz.sizeOf4
 v4:=Tryz.zeroValue4
 t5:=Tryz.underlying5
 a5:=Tryz.isAgg5
 z5:=Tryz.sizeOf5
 v5:=Tryz.zeroValue5
 t9:=Tryz.underlying9
 a9:=Tryz.isAgg9
 z9:=Tryz.sizeOf9
 v9:=Tryz.zeroValue9
 t22:=Tryz.underlying72
 a22:=Tryz.isAgg72
 z22:=Tryz.sizeOf72
 v22:=Tryz.zeroValue72
 t23:=Tryz.underlying72
 a23:=Tryz.isAgg72
 z23:=Tryz.sizeOf72
 v23:=Tryz.zeroValue72
 t25:=Tryz.underlying3
 a25:=Tryz.isAgg3
 z25:=Tryz.sizeOf3
 v25:=Tryz.zeroValue3
 t32:=Tryz.underlying261
 a32:=Tryz.isAgg261
 z32:=Tryz.sizeOf261
 v32:=Tryz.zeroValue261
 t35:=Tryz.underlying292
 a35:=Tryz.isAgg292
 z35:=Tryz.sizeOf292
 v35:=Tryz.zeroValue292
 t36:=Tryz.underlying293
 a36:=Tryz.isAgg293
 z36:=Tryz.sizeOf293
 v36:=Tryz.zeroValue293
 t41:=Tryz.underlying167
 a41:=Tryz.isAgg167
 z41:=Tryz.sizeOf167
 v41:=Tryz.zeroValue167
 t44:=Tryz.underlying229
 a44:=Tryz.isAgg229
 z44:=Tryz.sizeOf229
 v44:=Tryz.zeroValue229
 t46:=Tryz.underlying231
 a46:=Tryz.isAgg231
 z46:=Tryz.sizeOf231
 v46:=Tryz.zeroValue231
 t53:=Tryz.underlying301
 a53:=Tryz.isAgg301
 z53:=Tryz.sizeOf301
 v53:=Tryz.zeroValue301
 t57:=Tryz.underlying305
 a57:=Tryz.isAgg305
 z57:=Tryz.sizeOf305
 v57:=Tryz.zeroValue305
 t63:=Tryz.underlying307
 a63:=Tryz.isAgg307
 z63:=Tryz.sizeOf307
 v63:=Tryz.zeroValue307
 t64:=Tryz.underlying308
 a64:=Tryz.isAgg308
 z64:=Tryz.sizeOf308
 v64:=Tryz.zeroValue308 }
end Go.Proofs
end
namespace Go.Proofs.YtkcmapimcgppmaaGreatDoor
end Go.Proofs.YtkcmapimcgppmaaGreatDoor
section
namespace Go.Proofs
open Go.RowKit Go.Maps Go.Sort Go.Shelf
theorem Tryz.sortsA(m:Nat):AnyZI.SortsIn Tryz.prog Tryz.sortedA_ren Fence.wide m :=
 ⟨fun blk off cap ss W hH hblk hsz=>callsIn_wide.2 (AnyM.slices_Sort_int Tryz.sortA blk off cap ss W hH hblk hsz),
  fun p cap W=>callsIn_wide.2 (AnyM.slices_Sort_int_none Tryz.sortA p cap W)⟩
theorem Tryz.keys_calls(mb:Option Nat)(W:World):Calls Tryz.prog 246 #[.map mb] W λ e w'=>e=.returned (.func (.func 250) #[] #[.pointer (some ⟨W.heap.size,0,none⟩)])/\w'=W.alloc (.cells #[.map mb] 272) :=
 (callsIn_wide (n:=5)).1 (AnyZI.keys_in Tryz.keysA Fence.wide 5 trivial rfl mb W)
theorem Tryz.sorted_calls{H:Type}(b nn:Nat)(D0:DataW H)(R:Value->Option (DataW H×List MemPlace))(w:World)(hown:w.ownsMap Tryz.prog 3 R b nn D0)(hmax:Maps.size D0<=maxLen)(hbytes:Maps.size D0*8<=140737488355328) :
  Calls Tryz.prog 245 #[.func (.func 250) #[] #[.pointer (some ⟨w.heap.size,0,none⟩)]] (w.alloc (.cells #[.map (some b)] 272)) λ e w'=>∃(v:Value) (ss:List Int),e=.returned v/\ss.Perm (intKeys D0) /\
   w'.ownsRow (w.alloc (.cells #[.map (some b)] 272)).heap.size 3 1 v ss.length ((ss.mergeSort (λ x y=>decide (x<=y))).map encZ)/\(v=.slice none 0 0↔ss=[])/\Below (w.alloc (.cells #[.map (some b)] 272)).heap.size (w.alloc (.cells #[.map (some b)] 272)) w':=by
 have hbl:=hown.lt
 have hseq:SeqGives Fence.wide 2 Tryz.prog 250 #[.pointer (some ⟨w.heap.size,0,none⟩)] encZ (λ ss=>ss.Perm (intKeys D0)) (Maps.size D0) (w.alloc (.cells #[.map (some b)] 272)) :=
  AnyZI.keys_gives (ρ:=Tryz.keysA_ren) { Tryz.keysA with } Fence.wide _ trivial rfl (by omega) w.heap.size b nn D0 _ (by simp) (by simp) (by
   obtain⟨es,clock,hb,Ft,hs,hD⟩:=hown
   exact⟨es,clock,(Below.heap_alloc _ _ b hbl).trans hb,Ft,hs,hD⟩)
 exact (callsIn_wide (n:=5)).1 (AnyZI.sorted_in Tryz.sortedA Fence.wide 5 trivial trivial trivial trivial rfl (by omega) (Tryz.sortsA _) (enters_of Tryz.func249 (by kernel_rfl) rfl) 250 #[.pointer (some ⟨w.heap.size,0,none⟩)] trivial (enters_of Tryz.func250 (by kernel_rfl) rfl) _ _ hmax hbytes _ hseq)
end Go.Proofs
end
namespace Go.Proofs.YtkcmapimcgppmaaGreatDoor
section
open Go.RowKit Go.Maps
theorem X0:Keyed Tryz.prog 3:=int_keyed Tryz.underlying3
theorem zero3(w:World):(zeroValue 3).run Tryz.prog w=.ok (.int .i64 0) w:=by kernel_rfl
abbrev lK(w:World)(b n:Nat)(D:DataW Unit):Prop:=w.ownsMap Tryz.prog 3 (plainElem Tryz.prog 3) b n D
def xN(v:Int):DataW Unit:=(DataW.map []).put (.int .i64 v) (.lit (.int .i64 0))
theorem at_none(v c:Int)(h:(DataW.map []:DataW Unit).atKey (.int .i64 v) (.lit (.int .i64 0))=.lit (.int .i64 c)):c=0:=by
 have h9:(DataW.lit (.int .i64 0):DataW Unit)=.lit (.int .i64 c):=h
 injection h9 with h9
 injection h9 with _ h9
 exact h9.symm
theorem wf_v{v:Int}(h1:0<v)(h2:v<=1048576):(Lit.int .i64 v).wf=true:=WalkArith.wf_i64 (by omega)
theorem U8(v:Int)(h1:0<v)(h2:v<=1048576)(b gb o cap:Nat)(w:World)(hown:lK w b 0 (.map []))(hgb:gb<w.heap.size)(hc0:w.cell? ⟨gb,o,none⟩=some (.int .i64 v))(hc1:w.cell? ⟨gb,o+1,none⟩=some (.int .i64 0)) :
  Calls Tryz.prog 242 #[.agg #[.map (some b)],.slice (some ⟨gb,o,none⟩) 1 cap] w λ e w'=>e=.returned (.tuple #[])/\lK w' b 1 (xN v)/\(∀B,B<=b->B<=w.heap.size->Below B w w')/\∀k,k<w.heap.size->k≠b->w'.heap[k]? = w.heap[k]?:=by
 have hkey:keyOf Tryz.prog 3 (.int .i64 v)=some (.int .i64 v):=keyOf_int_mk Tryz.underlying3 (wf_v h1 h2)
 have g1:decide (v<0)=false:=decide_eq_false (by omega)
 have g2:decide (1048576<v)=false:=decide_eq_false (by omega)
 obtain⟨w1,hw1⟩:∃w1,w.alloc (.cells #[.map (some b)] 274)=w1:=⟨_,rfl⟩
 have hb1:Below w.heap.size w w1:=by rw[<-hw1];exact aB _ _
 have hs1:w1.heap.size=w.heap.size+1:=by rw[<-hw1];simp
 have c0:w1.cell? ⟨gb,o,none⟩=some (.int .i64 v):=(hb1.cell hgb).trans hc0
 have c1:w1.cell? ⟨gb,o+1,none⟩=some (.int .i64 0):=(hb1.cell hgb).trans hc1
 have cm:w1.cell? ⟨w.heap.size,0,none⟩=some (.map (some b)):=aC (by rw[<-hw1];exact aL rfl)
 have hm1:lK w1 b 0 (.map []):=by rw[<-hw1];exact hown.alloc _
 have hm2:lK (w1.alloc (.cells #[.int .i64 v,.int .i64 0] 77)) b 0 (.map []):=hm1.alloc _
 have hb2:Below w.heap.size w (w1.alloc (.cells #[.int .i64 v,.int .i64 0] 77)):=aA hb1 (aB _ _)
 have HB:=hid hb2
 clear hb1 hb2 hm1 hc0 hc1 hown
 go_enter Tryz.func242,Tryz.ntmps242
 go_wp2_with fail
 refine wp_loop_rounds 2 ?_
 rw[rounds_succ]
 go_wp2_with (first
  | (at_lookup;refine wpList_lookup_own_int _ rfl _ _ 272 rfl 3 3 .i64 X0 Tryz.underlying272 Tryz.underlying3 (zero3 _) b 0 _ rfl hm2 _ _ rfl hkey ?_;intro c hat hwc;obtain rfl:=at_none _ _ hat)
  | (at_mapUpdate;refine wpList_mapUpdate_own _ rfl _ _ _ 272 rfl 3 3 X0 Tryz.underlying272 _ b 0 _ rfl hm2 (by unfold maxLen;omega) _ _ _ rfl rfl hkey _ [] (plainElem_int Tryz.underlying3 (by decide)) ?_;intro w3 hown1 hgrow1)
  | go_in)
 rw[rounds_succ]
 go_wp2_with fail
 go_end0
 exact⟨rfl,hown1,λ B hB1 hB2=>(HB.out.mono hB2).grown hgrow1 (Nat.le_trans hB2 HB.out.size) (λ j hj=>by cases hj;exact hB1),λ k hk hne=>(hgrow1.block k (Nat.lt_of_lt_of_le hk HB.out.size) (λ e=>hne (by cases e;rfl))).trans (HB.out.block k hk)⟩
theorem W6(v:Int)(h1:0<v)(h2:v<=1048576)(b lb lo lc gb o gc:Nat)(w:World)(hown:lK w b 0 (.map []))(hlb:lb<w.heap.size)(hgb:gb<w.heap.size)(rb:Nat)(hrb:rb<w.heap.size)(hr:w.cell? ⟨rb,0,none⟩=some (.slice (some ⟨lb,lo,none⟩) 1 lc))(hl:w.cell? ⟨lb,lo,none⟩=some (.slice (some ⟨gb,o,none⟩) 1 gc))
  (hc0:w.cell? ⟨gb,o,none⟩=some (.int .i64 v)) (hc1:w.cell? ⟨gb,o+1,none⟩=some (.int .i64 0)) :
  Calls Tryz.prog 241 #[.agg #[.map (some b)],.pointer (some ⟨rb,0,none⟩)] w λ e w'=>e=.returned (.tuple #[])/\lK w' b 1 (xN v)/\(∀B,B<=b->B<=w.heap.size->Below B w w')/\∀k,k<w.heap.size->k≠b->w'.heap[k]? = w.heap[k]?:=by
 obtain⟨w1,hw1⟩:∃w1,w.alloc (.cells #[.map (some b)] 276)=w1:=⟨_,rfl⟩
 have hb1:Below w.heap.size w w1:=by rw[<-hw1];exact aB _ _
 have hs1:w1.heap.size=w.heap.size+1:=by rw[<-hw1];simp
 have r1:w1.cell? ⟨rb,0,none⟩=some (.slice (some ⟨lb,lo,none⟩) 1 lc):=(hb1.cell hrb).trans hr
 have l1:w1.cell? ⟨lb,lo,none⟩=some (.slice (some ⟨gb,o,none⟩) 1 gc):=(hb1.cell hlb).trans hl
 have cm:w1.cell? ⟨w.heap.size,0,none⟩=some (.map (some b)):=aC (by rw[<-hw1];exact aL rfl)
 obtain⟨w2,hw2⟩:∃w2,w1.alloc (.cells #[.slice (some ⟨gb,o,none⟩) 1 gc] 43)=w2:=⟨_,rfl⟩
 have hb2:Below w.heap.size w w2:=by rw[<-hw2];exact aA hb1 (aB _ _)
 have hs2:w2.heap.size=w.heap.size+1+1:=by rw[<-hw2];simp[hs1]
 have cm2:w2.cell? ⟨w.heap.size,0,none⟩=some (.map (some b)):=by rw[<-hw2];exact (Below.cell (p:=⟨w.heap.size,0,none⟩) (aB w1 _) (by show w.heap.size<w1.heap.size;omega)).trans cm
 have l2:w2.cell? ⟨w.heap.size+1,0,none⟩=some (.slice (some ⟨gb,o,none⟩) 1 gc):=by
  have:=aL (w:=w1) (cs:=#[.slice (some ⟨gb,o,none⟩) 1 gc]) (ty:=43) (o:=0) rfl
  rw[hs1,hw2] at this
  exact aC this
 have hm2:lK w2 b 0 (.map []):=by rw[<-hw2,<-hw1];exact (hown.alloc _).alloc _
 have HC:=hid (U8 v h1 h2 b gb o gc w2 hm2 (by omega) ((hb2.cell hgb).trans hc0) ((hb2.cell hgb).trans hc1))
 have HB:=hid hb2
 clear hb1 hb2 hm2 hc0 hc1 hown hr hl
 go_enter Tryz.func241,Tryz.ntmps241
 go_wp2_with fail
 refine wp_loop_rounds 2 ?_
 rw[rounds_succ]
 go_wp2_with fail
 refine HC.out.mono ?_
 rintro e w3 ⟨rfl,h3,h4,h5⟩
 have H3:=hid h3
 have H4:=hid h4
 have H5:=hid h5
 clear h3 h4 h5
 go_wp2_with fail
 rw[rounds_succ]
 go_wp2_with fail
 go_end0
 exact⟨rfl,H3.out,λ B hB1 hB2=>(HB.out.mono hB2).trans (H4.out B hB1 (Nat.le_trans hB2 HB.out.size)),λ k hk hne=>(H5.out k (Nat.lt_of_lt_of_le hk HB.out.size) hne).trans (HB.out.block k hk)⟩
end
section
open Go.RowKit Go.Maps
theorem W9{w w':World}{b n B:Nat}{D:DataW Unit}(h:lK w b n D)(hb:Below B w w')(hlt:b<B):lK w' b n D:=by
 obtain⟨es,clock,h1,Ft,hs,hD⟩:=h
 exact⟨es,clock,by rw[<-h1];exact hb.block b hlt,Ft,hs,hD⟩
theorem JX(v:Int):intKeys (xN v)=[v]:=rfl
theorem at_one(v c:Int)(h:(xN v).atKey (.int .i64 v) (.lit (.int .i64 0))=.lit (.int .i64 c)):c=0:=by
 have e:(xN v).atKey (.int .i64 v) (.lit (.int .i64 0))=.lit (.int .i64 0):=by
  unfold xN
  exact atKey_put_same ⟨[],rfl⟩ (show WideAt.IsKeyLit (.int .i64 v) from trivial) _ _
 rw[e] at h
 injection h with h9
 injection h9 with _ h9
 exact h9.symm
theorem one_row{w:World}{base:Nat}{u:Value}{v:Int}(h:w.ownsRow base 3 1 u 1 [.int .i64 v]):∃g cap,u=.slice (some ⟨g,0,none⟩) 1 cap/\base<=g/\w.cell? ⟨g,0,none⟩=some (.int .i64 v):=by
 obtain⟨h1,⟨e2,h3,-⟩|⟨g0,cap,cur,e2,h4,e3,-,-,-,e4⟩⟩:=h
 subst e2
 exact⟨g0,cap,rfl,h4,aC (eH e3 (by rw[h1];exact e4) 0 _ rfl)⟩
theorem DS(v:Int)(h1:0<v)(h2:v<=1048576)(b:Nat)(w:World)(hown:lK w b 1 (xN v)) :
  Calls Tryz.prog 244 #[.agg #[.map (some b)]] w λ e w'=>∃u,e=.returned (.agg #[u])/\RowG w' (w.heap.size+2) 2 77 u 1 (bR [(v,0)]) []/\Below w.heap.size w w':=by
 have hkey:keyOf Tryz.prog 3 (.int .i64 v)=some (.int .i64 v):=keyOf_int_mk Tryz.underlying3 (wf_v h1 h2)
 have g1:decide (0<v)=true:=decide_eq_true h1
 have hbl:=hown.lt
 obtain⟨w2,hw2⟩:∃w2,(w.alloc (.cells #[.map (some b)] 276)).alloc (.cells #[.slice none 0 0] 43)=w2:=⟨_,rfl⟩
 have hb2:Below w.heap.size w w2:=by rw[<-hw2];exact aA (aB _ _) (aB _ _)
 have hs2:w2.heap.size=w.heap.size+2:=by rw[<-hw2];simp
 have p1:U w2 w.heap.size 0=some (.map (some b)):=by rw[<-hw2];exact aD (aB _ _) _ _ _ (by simp) (aL rfl)
 have p2:U w2 (w.heap.size+1) 0=some (.slice none 0 0):=by
  have:=aL (w:=w.alloc (.cells #[.map (some b)] 276)) (cs:=#[.slice none 0 0]) (ty:=43) (o:=0) rfl
  rw[World.size_alloc,hw2] at this
  exact this
 have hm2:lK w2 b 1 (xN v):=W9 hown hb2 hbl
 obtain⟨w3,hw3⟩:∃w3,w2.alloc (.cells #[.map (some b)] 272)=w3:=⟨_,rfl⟩
 have hb3:Below w2.heap.size w2 w3:=by rw[<-hw3];exact aB _ _
 have HK:=hid (Tryz.keys_calls (some b) w2)
 have HS:=hid (Tryz.sorted_calls b 1 (xN v) _ w2 hm2 (by show 1<=maxLen;decide) (by show 1*8<=140737488355328;decide))
 rw[hw3,hs2] at HK
 rw[hw3,hs2] at HS
 have c1:=aC p1
 have c2:=aC p2
 have HB2:=hid hb2
 have HB3:=hid hb3
 have HM2:=hid hm2
 have HP1:=hid p1
 have HP2:=hid p2
 clear hown hb2 hb3 hm2 p1 p2
 go_enter Tryz.func244,Tryz.ntmps244
 go_wp2_with fail
 refine HK.out.mono ?_
 rintro e w3 ⟨rfl,rfl⟩
 go_wp2_with fail
 refine HS.out.mono ?_
 rintro e w5 ⟨u,ss,rfl,hperm,hrow,-,hb5⟩
 rw[JX] at hperm
 obtain rfl:=List.perm_singleton.1 hperm
 rw[List.mergeSort_singleton] at hrow
 obtain⟨g,cap,rfl,hge,hcg⟩:=one_row hrow
 have hB5:=aA (aA HB2.out HB3.out) (hb5.mono (Nat.le_refl _))
 have hlt3:w.heap.size+2<w3.heap.size:=by rw[<-hw3];simp[hs2]
 have p1:U w5 w.heap.size 0=some (.map (some b)):=aD hb5 _ _ _ (by omega) (aD HB3.out _ _ _ (by omega) HP1.out)
 have p2:U w5 (w.heap.size+1) 0=some (.slice none 0 0):=aD hb5 _ _ _ (by omega) (aD HB3.out _ _ _ (by omega) HP2.out)
 have d1:=aC p1
 have d2:=aC p2
 have hm5:lK w5 b 1 (xN v):=W9 (W9 HM2.out HB3.out (by omega)) hb5 (by omega)
 obtain⟨v2,w7,hrun7,hR7,hg7,-⟩:=RowG.append (P:=Tryz.prog) (t:=41) (ty:=41) elP (RowG.nil (w5.alloc (.cells #[.int .i64 v,.int .i64 0] 77)) (w.heap.size+2) 2 77) (m0:=0) (by simp[Value.ownBlock]) (y:=bR [(v,0)]) (ys:=[.int .i64 v,.int .i64 0]) (S2:=[]) ⟨_,rfl,_,rfl,rfl,rfl⟩ (by simp) (by simp) ⟨rfl,rfl,trivial⟩ ⟨w5.heap.size,0,none⟩ 1 rfl (dO w5 _ 77) (by omega) (by have:=hb5.size;simp;omega)
 have hB7:Below w5.heap.size w5 w7:=(aB w5 (.cells #[.int .i64 v,.int .i64 0] 77)).grown hg7 (by simp) (by simp[Value.ownBlock])
 have q1:U w7 w.heap.size 0=some (.map (some b)):=aD hB7 _ _ _ (aM p1) p1
 have q2:U w7 (w.heap.size+1) 0=some (.slice none 0 0):=aD hB7 _ _ _ (aM p2) p2
 have e1:=aC q1
 have e2:=aC q2
 have e3:=aG q2
 have q3:=cS (v:=v2) q2
 have e4:=aC q3
 have e5:=aG q3
 have q4:=cS (v:=v2) q3
 have e6:=aC q4
 have HR7:=hid hR7
 have HB7:=hid (hB5.trans (hB7.mono hB5.size))
 obtain⟨pp,cc,rfl,-,-⟩:=hR7.cap
 clear p1 p2 q1 q2 q3 q4 hR7 hB7 hB5 hg7 hrow hb5 HK HS HM2 HP1 HP2 HB3 HB2
 go_wp2_with fail
 refine wp_loop_rounds 2 ?_
 rw[rounds_succ]
 go_wp2_with (first
  | (at_lookup;refine wpList_lookup_own_int _ rfl _ _ 272 rfl 3 3 .i64 X0 Tryz.underlying272 Tryz.underlying3 (zero3 _) b 1 _ rfl hm5 _ _ rfl hkey ?_;intro c hat hwc;obtain rfl:=at_one _ _ hat)
  | (at_builtin;refine wpList_append_run rfl _ _ 41 rfl _ _ _ rfl rfl hrun7 ?_)
  | go_in)
 rw[rounds_succ]
 go_wp2_with fail
 refine bodyPost_ret (v:=.agg #[.slice pp (0+1) cc]) (by simp[results,Tryz.results244,go_sem];first|exact e6|simp[e6]|(trace_state;skip)) rfl ⟨_,rfl,((HR7.out.setCell (p:=⟨w.heap.size+1,0,none⟩) (Nat.lt_succ_self _) _).setCell (p:=⟨w.heap.size+1,0,none⟩) (Nat.lt_succ_self _) _),(HB7.out.setCell (p:=⟨w.heap.size+1,0,none⟩) (Nat.le_succ _) _).setCell (p:=⟨w.heap.size+1,0,none⟩) (Nat.le_succ _) _⟩
end
end Go.Proofs.YtkcmapimcgppmaaGreatDoor
