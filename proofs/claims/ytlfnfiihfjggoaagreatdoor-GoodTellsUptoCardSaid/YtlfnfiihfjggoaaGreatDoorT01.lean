/-
  Rows of cells within rows, as plain data; where they can be read, and where they are owned, and what follows. Conditions: as each lemma states them.
-/
import Derived.WalkKit
import Derived.Lib.Hide
import Derived.Deep.QuietTactic
import Derived.BigQuiet
import Derived.Maps.AppendAt
import Derived.Deep.AppendLies
import Derived.Test.YtlfnfiihfjggoaaGreatDoorProg
import Derived.IntWalk
import Derived.Deep.RegionWith
import Derived.BigGuardPart
import Derived.Laws.OwnMore
import Derived.BigFrame
import Derived.Test.YtlfnfiihfjggoaaGreatDoorCards
import Derived.Test.YtlfnfiihfjggoaaGreatDoorTie
import Derived.ChangeArms
import Derived.ChangeReads
import Derived.KernelRfl
import Derived.Lib.LaidTab
import Derived.LaidSub
import GoSem.ClaimJoined
import Derived.Deep.MidRow
import Derived.Great.BuildSlice
import Derived.Laws.Small
set_option linter.all false
set_option linter.unusedVariables false
set_option linter.unusedSimpArgs false
set_option linter.unnecessarySimpa false
set_option maxHeartbeats 8000000
set_option maxRecDepth 100000
namespace Go.Proofs.YtlfnfiihfjggoaaGreatDoor
open Go.RowKit Go.Proofs.Tryz
theorem hid {p : Prop} (h : p) : Go.RowKit.Hid p := h
section
theorem aB{a b c:World}(h:Below a.heap.size a b)(k:Below b.heap.size b c):Below a.heap.size a c:=h.trans (k.mono h.size)
theorem aZ(w:World):Below w.heap.size w w.drew:=⟨rfl,rfl,rfl,Nat.le_refl _,λ _ _=>rfl⟩
theorem EY(w:World)(n:Nat):Below w.heap.size w (w.drewN n):=⟨rfl,rfl,rfl,Nat.le_refl _,λ _ _=>rfl⟩
theorem aA(w:World)(b:Obj):Below w.heap.size w (w.alloc b):=(Below.refl _ _).alloc (Nat.le_refl _) _
inductive Ds where
 | nil
 | lit (v:Value) (rest:Ds)
 | row (sz e:Nat) (cells spare rest:Ds)
namespace Ds
def len:Ds->Nat
 | nil=>0
 | lit _ r=>r.len+1
 | row _ _ _ _ r=>r.len+1
def app:Ds->Ds->Ds
 | nil,y=>y
 | lit v r,y=>lit v (r.app y)
 | row sz e x s r,y=>row sz e x s (r.app y)
theorem app_len(x y:Ds):(x.app y).len=x.len+y.len:=by
 induction x with
 | nil=>simp[app,len]
 | lit v r ih=>simp[app,len,ih];omega
 | row sz e x s r _ _ ih=>simp[app,len,ih];omega
theorem app_nil(x:Ds):x.app nil=x:=by
 induction x with
 | nil=>rfl
 | lit v r ih=>simp[app,ih]
 | row sz e x s r _ _ ih=>simp[app,ih]
theorem app_assoc(x y z:Ds):(x.app y).app z=x.app (y.app z):=by
 induction x with
 | nil=>rfl
 | lit v r ih=>simp[app,ih]
 | row sz e x s r _ _ ih=>simp[app,ih]
end Ds
def U(w:World)(b o:Nat):Option Value:=if w.frozen? ⟨b,o,none⟩=true then none else w.cell? ⟨b,o,none⟩
theorem aD{w:World}{b o:Nat}{v:Value}(h:U w b o=some v):w.cell? ⟨b,o,none⟩=some v:=by
 unfold U at h;split at h
 ·cases h
 ·exact h
theorem aI{w:World}{b o:Nat}{v:Value}(h:U w b o=some v):w.frozen? ⟨b,o,none⟩=false:=by
 unfold U at h;split at h
 ·cases h
 ·rename_i hn;simpa using hn
theorem nJ{w:World}{b o:Nat}{v:Value}(h:w.cell? ⟨b,o,none⟩=some v)(hf:w.frozen? ⟨b,o,none⟩=false):U w b o=some v:=by
 unfold U;rw[hf];simpa using h
theorem eW{w w':World}{b:Nat}(h:w'.heap[b]? = w.heap[b]?)(o:Nat):U w' b o=U w b o:=by
 unfold U World.frozen? World.cell?;simp only[h]
theorem aL{w:World}{b o:Nat}{v:Value}(h:U w b o=some v):b<w.heap.size :=
 World.block_lt_of_cell? w ⟨b,o,none⟩ (aD h)
theorem aE{B:Nat}{w w':World}(h:Below B w w'):∀b o v,b<B->U w b o=some v->U w' b o=some v :=
 fun b o _ hb hv=>(eW (h.block b hb) o).trans hv
theorem aM{w:World}{cs:Array Value}{ty o:Nat}{v:Value}(h:cs[o]? = some v):U (w.alloc (.cells cs ty)) w.heap.size o=some v:=by
 have hb:=heap_alloc_new w (.cells cs ty (0,0))
 exact nJ (by unfold World.cell?;rw[hb];simpa using h) (by unfold World.frozen?;rw[hb];rfl)
def At(F:Nat->Nat->Option Value)(hi:Nat):Ds->Nat->Nat->Prop
 | .nil,_,_=>True
 | .lit v r,b,o=>F b o=some v/\At F hi r b (o+1)
 | .row sz _ x s r,b,o =>
   (∃(p:Option Addr) (n c:Nat),F b o=some (.slice p n c)/\n*sz=x.len/\n<=c/\c<=maxLen/\x.len+s.len<=c*sz /\
    ((p=none/\c=0)∨(n=0/\s.len=0/\p≠none)∨∃b' o',p=some ⟨b',o',none⟩/\b'<hi/\At F hi x b' o'/\At F hi s b' (o'+x.len))) /\
   At F hi r b (o+1)
def Rd(F:Nat->Nat->Option Value)(hi:Nat)(v:Value)(sz:Nat)(x s:Ds):Prop :=
 ∃(p:Option Addr) (n c:Nat),v=.slice p n c/\n*sz=x.len/\n<=c/\c<=maxLen/\x.len+s.len<=c*sz /\
  ((p=none/\c=0)∨(n=0/\s.len=0/\p≠none)∨∃b' o',p=some ⟨b',o',none⟩/\b'<hi/\At F hi x b' o'/\At F hi s b' (o'+x.len))
theorem At_row{F:Nat->Nat->Option Value}{hi sz e:Nat}{x s r:Ds}{b o:Nat}:At F hi (.row sz e x s r) b o↔(∃v,F b o=some v/\Rd F hi v sz x s)/\At F hi r b (o+1):=by
 constructor
 ·rintro⟨⟨p,n,c,h1,h2⟩,h3⟩
  exact⟨⟨_,h1,p,n,c,rfl,h2⟩,h3⟩
 ·rintro⟨⟨v,h1,p,n,c,rfl,h2⟩,h3⟩
  exact⟨⟨p,n,c,h1,h2⟩,h3⟩
theorem At.mono{F F':Nat->Nat->Option Value}{hi hi':Nat}{x:Ds}:∀ {b o:Nat},At F hi x b o->b<hi->(∀b o v,b<hi->F b o=some v->F' b o=some v)->hi<=hi'->At F' hi' x b o:=by
 induction x with
 | nil=>intros;trivial
 | lit v r ih=>intro b o h hb hF hh;exact⟨hF _ _ _ hb h.1,ih h.2 hb hF hh⟩
 | row sz e x s r ihx ihs ihr =>
  intro b o h hb hF hh
  obtain⟨⟨p,n,c,h1,h2,h3,h4,h5,h6⟩,h7⟩:=h
  refine⟨⟨p,n,c,hF _ _ _ hb h1,h2,h3,h4,h5,?_⟩,ihr h7 hb hF hh⟩
  rcases h6 with h6|h6|⟨b',o',e1,hl,ha,hs⟩
  ·exact .inl h6
  ·exact .inr (.inl h6)
  ·exact .inr (.inr ⟨b',o',e1,by omega,ihx ha hl hF hh,ihs hs hl hF hh⟩)
theorem Rd.mono{F F':Nat->Nat->Option Value}{hi hi':Nat}{v:Value}{sz:Nat}{x s:Ds}(h:Rd F hi v sz x s)(hF:∀b o v,b<hi->F b o=some v->F' b o=some v)(hh:hi<=hi'):Rd F' hi' v sz x s:=by
 obtain⟨p,n,c,h1,h2,h3,h4,h5,h6⟩:=h
 refine⟨p,n,c,h1,h2,h3,h4,h5,?_⟩
 rcases h6 with h6|h6|⟨b',o',e1,hl,ha,hs⟩
 ·exact .inl h6
 ·exact .inr (.inl h6)
 ·exact .inr (.inr ⟨b',o',e1,by omega,ha.mono hl hF hh,hs.mono hl hF hh⟩)
theorem Rd.on{w w':World}{v:Value}{sz:Nat}{x s:Ds}(h:Rd (U w) w.heap.size v sz x s)(hb:Below w.heap.size w w'):Rd (U w') w'.heap.size v sz x s :=
 h.mono (λ b o u hl hu=>aE hb b o u hl hu) hb.size
theorem Rd.below{B:Nat}{w w':World}{v:Value}{sz:Nat}{x s:Ds}(h:Rd (U w) B v sz x s)(hb:Below B w w'):Rd (U w') B v sz x s :=
 h.mono (λ b o u hl hu=>aE hb b o u hl hu) (Nat.le_refl _)
theorem Rd.plain{F:Nat->Nat->Option Value}{hi:Nat}{v:Value}{sz:Nat}{x s:Ds}(h:Rd F hi v sz x s):Rd F hi v sz x .nil:=by
 obtain⟨p,n,c,h1,h2,h3,h4,h5,h6⟩:=h
 refine⟨p,n,c,h1,h2,h3,h4,by simp only[Ds.len];omega,?_⟩
 rcases h6 with h6|h6|⟨b',o',e1,hl,ha,hs⟩
 ·exact .inl h6
 ·exact .inr (.inl ⟨h6.1,rfl,h6.2.2⟩)
 ·exact .inr (.inr ⟨b',o',e1,hl,ha,trivial⟩)
theorem Rd.none_(F:Nat->Nat->Option Value)(hi sz:Nat):Rd F hi (.slice none 0 0) sz .nil .nil:=⟨none,0,0,rfl,by simp[Ds.len],Nat.le_refl _,Nat.zero_le _,by simp[Ds.len],.inl ⟨rfl,rfl⟩⟩
theorem Rd.slice{F:Nat->Nat->Option Value}{hi:Nat}{v:Value}{sz:Nat}{x s:Ds}(h:Rd F hi v sz x s):∃p n c,v=.slice p n c/\n*sz=x.len/\n<=c/\c<=maxLen/\(p=none->c=0):=by
 obtain⟨p,n,c,rfl,h2,h5,h6,-,h7⟩:=h
 refine⟨p,n,c,rfl,h2,h5,h6,?_⟩
 rcases h7 with ⟨rfl,rfl⟩|⟨-,-,h0⟩|⟨b,o,rfl,_⟩
 ·exact λ _=>rfl
 ·exact λ h=>absurd h h0
 ·exact λ h=>by cases h
theorem Rd.lies{F:Nat->Nat->Option Value}{hi:Nat}{p:Option Addr}{n c sz:Nat}{x s:Ds}(h:Rd F hi (.slice p n c) sz x s)(h0:0<n):∃b o,p=some ⟨b,o,none⟩/\b<hi/\At F hi x b o/\At F hi s b (o+x.len):=by
 obtain⟨p',n',c',e,h2,h3,h4,h5,h6⟩:=h
 cases e
 rcases h6 with ⟨rfl,rfl⟩|⟨h6,-⟩|⟨b,o,rfl,hl,ha,hs⟩
 ·omega
 ·omega
 ·exact⟨b,o,rfl,hl,ha,hs⟩
theorem At.app{F:Nat->Nat->Option Value}{hi:Nat}{x y:Ds}:∀ {b o:Nat},At F hi (x.app y) b o↔At F hi x b o/\At F hi y b (o+x.len):=by
 induction x with
 | nil=>intro b o;simp[Ds.app,At,Ds.len]
 | lit v r ih =>
  intro b o
  simp only[Ds.app,At,ih,Ds.len,and_assoc]
  rw[show o+1+r.len=o+(r.len+1) by omega]
 | row sz e x s r _ _ ih =>
  intro b o
  simp only[Ds.app,At,ih,Ds.len,and_assoc]
  rw[show o+1+r.len=o+(r.len+1) by omega]
def Vs(F:Nat->Nat->Option Value)(hi:Nat):Ds->List Value->Prop
 | .nil,xs=>xs=[]
 | .lit v r,xs=>∃ys,xs=v :: ys/\Vs F hi r ys
 | .row sz _ x s r,xs=>∃v ys,xs=v :: ys/\Rd F hi v sz x s/\Vs F hi r ys
theorem Vs.mono{F F':Nat->Nat->Option Value}{hi hi':Nat}{x:Ds}:∀ {xs:List Value},Vs F hi x xs->(∀b o v,b<hi->F b o=some v->F' b o=some v)->hi<=hi'->Vs F' hi' x xs:=by
 induction x with
 | nil=>intro xs h _ _;exact h
 | lit v r ih=>rintro xs ⟨ys,e,h⟩ hF hh;exact⟨ys,e,ih h hF hh⟩
 | row sz e x s r _ _ ih=>rintro xs ⟨v,ys,e1,h1,h⟩ hF hh;exact⟨v,ys,e1,h1.mono hF hh,ih h hF hh⟩
theorem Vs.len{F:Nat->Nat->Option Value}{hi:Nat}{x:Ds}:∀ {xs:List Value},Vs F hi x xs->xs.length=x.len:=by
 induction x with
 | nil=>intro xs h;simp[Vs] at h;simp[h,Ds.len]
 | lit v r ih=>rintro xs ⟨ys,rfl,h⟩;simp[Ds.len,ih h]
 | row sz e x s r _ _ ih=>rintro xs ⟨v,ys,rfl,h1,h⟩;simp[Ds.len,ih h]
theorem Vs.at_{F:Nat->Nat->Option Value}{hi:Nat}{x:Ds}:∀ {xs:List Value} {b o:Nat},Vs F hi x xs->(∀j u,xs[j]? = some u->F b (o+j)=some u)->At F hi x b o:=by
 induction x with
 | nil=>intros;trivial
 | lit v r ih =>
  rintro xs b o ⟨ys,rfl,h⟩ hx
  refine⟨hx 0 _ rfl,ih h λ j u hu=>?_⟩
  have:=hx (j+1) u (by simpa using hu)
  rw[show o+1+j=o+(j+1) by omega];exact this
 | row sz e x s r _ _ ih =>
  rintro xs b o ⟨v,ys,rfl,h1,h⟩ hx
  refine At_row.2 ⟨⟨v,hx 0 _ rfl,h1⟩,ih h λ j u hu=>?_⟩
  have:=hx (j+1) u (by simpa using hu)
  rw[show o+1+j=o+(j+1) by omega];exact this
def RowO(w:World)(base sz e:Nat)(v:Value)(m:Nat)(xs:List Value)(B:List Nat):Prop :=
 (∃p,v=.slice p 0 0/\m=0/\xs=[]/\B=[])∨∃g n cap cur,B=[g]/\v=.slice (some ⟨g,0,none⟩) n cap/\base<=g/\w.heap[g]? = some (.cells cur e (0,0))/\n<=cap/\cap<=maxLen/\cur.size=cap*sz/\m=n*sz/\m<=xs.length/\xs.length<=cap*sz/\cur.toList.take xs.length=xs
def Own(w:World)(base:Nat):Ds->List Value->List Nat->Prop
 | .nil,xs,S=>xs=[]/\S=[]
 | .lit v r,xs,S=>∃ys,xs=v :: ys/\Own w base r ys S
 | .row sz e x s r,xs,S=>∃v ys zs us B S1 S2 S3,xs=v :: ys/\RowO w base sz e v x.len (zs++us) B/\Own w base x zs S1/\Own w base s us S2/\Own w base r ys S3/\S=B++(S1++(S2++S3))
theorem RowO.mem{w:World}{base sz e m:Nat}{v:Value}{xs:List Value}{B:List Nat}(h:RowO w base sz e v m xs B):∀b∈B,base<=b/\b<w.heap.size:=by
 rcases h with ⟨p,-,-,-,rfl⟩|⟨g,n,cap,cur,rfl,-,hb,hg,-⟩
 ·intro b hb;cases hb
 ·intro b hm
  obtain rfl:b=g:=by simpa using hm
  exact⟨hb,(Array.getElem?_eq_some_iff.1 hg).1⟩
theorem RowO.kept{w w':World}{base sz e m:Nat}{v:Value}{xs:List Value}{B:List Nat}(h:RowO w base sz e v m xs B)(hk:∀b∈B,w'.heap[b]? = w.heap[b]?):RowO w' base sz e v m xs B:=by
 rcases h with h|⟨g,n,cap,cur,rfl,h1,h2,h3,h4⟩
 ·exact .inl h
 ·exact .inr ⟨g,n,cap,cur,rfl,h1,h2,(hk g (by simp)).trans h3,h4⟩
theorem RowO.lower{w:World}{base base' sz e m:Nat}{v:Value}{xs:List Value}{B:List Nat}(h:RowO w base sz e v m xs B)(hl:base'<=base):RowO w base' sz e v m xs B:=by
 rcases h with h|⟨g,n,cap,cur,rfl,h1,h2,h3⟩
 ·exact .inl h
 ·exact .inr ⟨g,n,cap,cur,rfl,h1,Nat.le_trans hl h2,h3⟩
theorem Own.mem{w:World}{base:Nat}{x:Ds}:∀ {xs:List Value} {S:List Nat},Own w base x xs S->∀b∈S,base<=b/\b<w.heap.size:=by
 induction x with
 | nil=>rintro xs S ⟨-,rfl⟩ b hb;cases hb
 | lit v r ih=>rintro xs S ⟨ys,-,h⟩;exact ih h
 | row sz e x s r ihx ihs ihr =>
  rintro xs S ⟨v,ys,zs,us,B,S1,S2,S3,-,h1,h2,h3,h4,rfl⟩ b hb
  simp only[List.mem_append] at hb
  rcases hb with hb|hb|hb|hb
  ·exact h1.mem b hb
  ·exact ihx h2 b hb
  ·exact ihs h3 b hb
  ·exact ihr h4 b hb
theorem Own.kept{w w':World}{base:Nat}{x:Ds}:∀ {xs:List Value} {S:List Nat},Own w base x xs S->(∀b∈S,w'.heap[b]? = w.heap[b]?)->Own w' base x xs S:=by
 induction x with
 | nil=>intro xs S h _;exact h
 | lit v r ih=>rintro xs S ⟨ys,e,h⟩ hk;exact⟨ys,e,ih h hk⟩
 | row sz e x s r ihx ihs ihr =>
  rintro xs S ⟨v,ys,zs,us,B,S1,S2,S3,e1,h1,h2,h3,h4,rfl⟩ hk
  exact⟨v,ys,zs,us,B,S1,S2,S3,e1,h1.kept (λ b hb=>hk b (by simp[hb])),ihx h2 (λ b hb=>hk b (by simp[hb])),ihs h3 (λ b hb=>hk b (by simp[hb])),ihr h4 (λ b hb=>hk b (by simp[hb])),rfl⟩
theorem Own.lower{w:World}{base base':Nat}{x:Ds}(hl:base'<=base):∀ {xs:List Value} {S:List Nat},Own w base x xs S->Own w base' x xs S:=by
 induction x with
 | nil=>intro xs S h;exact h
 | lit v r ih=>rintro xs S ⟨ys,e,h⟩;exact⟨ys,e,ih h⟩
 | row sz e x s r ihx ihs ihr =>
  rintro xs S ⟨v,ys,zs,us,B,S1,S2,S3,e1,h1,h2,h3,h4,rfl⟩
  exact⟨v,ys,zs,us,B,S1,S2,S3,e1,h1.lower hl,ihx h2,ihs h3,ihr h4,rfl⟩
theorem Own.below{w w':World}{base:Nat}{x:Ds}{xs:List Value}{S:List Nat}(h:Own w base x xs S)(hb:Below w.heap.size w w'):Own w' base x xs S :=
 h.kept λ b hm=>hb.block b (h.mem b hm).2
theorem Own.len{w:World}{base:Nat}{x:Ds}:∀ {xs:List Value} {S:List Nat},Own w base x xs S->xs.length=x.len:=by
 induction x with
 | nil=>rintro xs S ⟨rfl,-⟩;rfl
 | lit v r ih=>rintro xs S ⟨ys,rfl,h⟩;simp[Ds.len,ih h]
 | row sz e x s r _ _ ih=>rintro xs S ⟨v,ys,zs,us,B,S1,S2,S3,rfl,h1,h2,h3,h4,rfl⟩;simp[Ds.len,ih h4]
theorem Own.app{w:World}{base:Nat}{y:Ds}{ys:List Value}{S2:List Nat}(h2:Own w base y ys S2){x:Ds}:∀ {xs:List Value} {S1:List Nat},Own w base x xs S1->Own w base (x.app y) (xs++ys) (S1++S2):=by
 induction x with
 | nil=>rintro xs S1 ⟨rfl,rfl⟩;exact h2
 | lit v r ih=>rintro xs S1 ⟨zs,rfl,h⟩;exact⟨zs++ys,rfl,ih h⟩
 | row sz e x s r _ _ ih =>
  rintro xs S1 ⟨v,zs,us,ts,B,T1,T2,T3,rfl,h1,h3,h4,h5,rfl⟩
  exact⟨v,zs++ys,us,ts,B,T1,T2,T3++S2,rfl,h1,h3,h4,ih h5,by simp⟩
theorem Own.split{w:World}{base:Nat}{y:Ds}{x:Ds}:∀ {xs:List Value} {S:List Nat},Own w base (x.app y) xs S->∃zs us S1 S2,xs=zs++us/\S=S1++S2/\Own w base x zs S1/\Own w base y us S2:=by
 induction x with
 | nil=>intro xs S h;exact⟨[],xs,[],S,rfl,rfl,⟨rfl,rfl⟩,h⟩
 | lit v r ih =>
  rintro xs S ⟨ys,rfl,h⟩
  obtain⟨zs,us,S1,S2,rfl,rfl,h1,h2⟩:=ih h
  exact⟨v :: zs,us,S1,S2,rfl,rfl,⟨zs,rfl,h1⟩,h2⟩
 | row sz e x s r _ _ ih =>
  rintro xs S ⟨v,ys,zs,us,B,T1,T2,T3,rfl,h1,h3,h4,h5,rfl⟩
  obtain⟨zs',us',S1,S2,rfl,rfl,h6,h7⟩:=ih h5
  exact⟨v :: zs',us',B++(T1++(T2++S1)),S2,rfl,by simp,⟨v,zs',zs,us,B,T1,T2,S1,rfl,h1,h3,h4,h6,rfl⟩,h7⟩
theorem iK{w:World}{g e:Nat}{cur:Array Value}{xs:List Value}(hg:w.heap[g]? = some (.cells cur e (0,0)))(ht:cur.toList.take xs.length=xs):∀j u,xs[j]? = some u->U w g (0+j)=some u:=by
 intro j u hu
 rw[Nat.zero_add]
 have hj:j<xs.length:=(List.getElem?_eq_some_iff.1 hu).1
 have h2:(cur.toList.take xs.length)[j]? = some u:=by rw[ht];exact hu
 rw[List.getElem?_take,if_pos hj] at h2
 exact nJ (by unfold World.cell?;rw[hg];simpa using h2) (by simp[World.frozen?,hg])
theorem Own.vs{w:World}{base:Nat}{x:Ds}:∀ {xs:List Value} {S:List Nat},Own w base x xs S->Vs (U w) w.heap.size x xs:=by
 induction x with
 | nil=>rintro xs S ⟨rfl,-⟩;rfl
 | lit v r ih=>rintro xs S ⟨ys,e,h⟩;exact⟨ys,e,ih h⟩
 | row sz e x s r ihx ihs ihr =>
  rintro xs S ⟨v,ys,zs,us,B,S1,S2,S3,e1,h1,h2,h3,h4,rfl⟩
  refine⟨v,ys,e1,?_,ihr h4⟩
  have hv:=ihx h2
  have hl:=h2.len
  have hu:=ihs h3
  have hul:=h3.len
  rcases h1 with ⟨p,rfl,h5,h6,rfl⟩|⟨g,n,cap,cur,rfl,rfl,h4,h5,h6,h7,h8,h9,h10,h11,h12⟩
  ·obtain⟨rfl,rfl⟩:=List.append_eq_nil_iff.1 h6
   have hs:s.len=0:=by simpa using hul.symm
   refine⟨p,0,0,rfl,by omega,Nat.le_refl _,Nat.zero_le _,by omega,?_⟩
   by_cases hp:p=none
   ·exact .inl ⟨hp,rfl⟩
   ·exact .inr (.inl ⟨rfl,hs,hp⟩)
  ·have hc:=iK h5 h12
   refine⟨_,n,cap,rfl,by omega,h6,h7,by rw[<-hl,<-hul,<-List.length_append];exact h11,.inr (.inr ⟨g,0,rfl,(Array.getElem?_eq_some_iff.1 h5).1,hv.at_ (λ j u hj=>hc j u ?_),hu.at_ (λ j u hj=>?_)⟩)⟩
   ·rw[List.getElem?_append_left (List.getElem?_eq_some_iff.1 hj).1];exact hj
   ·have:=hc (x.len+j) u (by rw[<-hl,List.getElem?_append_right (by omega)];simpa using hj)
    rw[<-Nat.add_assoc] at this;exact this
end
section
abbrev Lv:=List (Int×Int)
structure Hd where
 k:Int
 n:Int
 a:Int
 l:List Lv
inductive Ts where
 | nil
 | cons (h:Hd) (kids rest:Ts)
def Hd.zero:Hd:=⟨0,0,0,[]⟩
namespace Ts
def len:Ts->Nat
 | nil=>0
 | cons _ _ r=>r.len+1
def hd:Ts->Nat->Hd
 | nil,_=>.zero
 | cons h _ _,0=>h
 | cons _ _ r,k+1=>r.hd k
def kd:Ts->Nat->Ts
 | nil,_=>nil
 | cons _ x _,0=>x
 | cons _ _ r,k+1=>r.kd k
def count:Ts->Nat
 | nil=>0
 | cons _ x r=>x.count+r.count+1
def app:Ts->Ts->Ts
 | nil,y=>y
 | cons w x r,y=>cons w x (r.app y)
def snoc(x:Ts)(w:Hd)(k:Ts):Ts:=x.app (cons w k nil)
def take:Nat->Ts->Ts
 | 0,_=>nil
 | _+1,nil=>nil
 | n+1,cons w x r=>cons w x (take n r)
def drop:Nat->Ts->Ts
 | 0,t=>t
 | _+1,nil=>nil
 | n+1,cons _ _ r=>drop n r
theorem count_kd{t:Ts}{k:Nat}(h:k<t.len):(t.kd k).count<t.count:=by
 induction t generalizing k with
 | nil=>simp[len] at h
 | cons w x r _ ih =>
  cases k with
  | zero=>simp[kd,count];omega
  | succ k =>
   have:=ih (k:=k) (by simp[len] at h;omega)
   simp[kd,count];omega
theorem app_len(x y:Ts):(x.app y).len=x.len+y.len:=by
 induction x with
 | nil=>simp[app,len]
 | cons w k r _ ih=>simp[app,len,ih];omega
theorem snoc_len(x:Ts)(w:Hd)(k:Ts):(x.snoc w k).len=x.len+1:=by simp[snoc,app_len,len]
theorem app_assoc(x y z:Ts):(x.app y).app z=x.app (y.app z):=by
 induction x with
 | nil=>rfl
 | cons w k r _ ih=>simp[app,ih]
theorem app_nil(x:Ts):x.app nil=x:=by
 induction x with
 | nil=>rfl
 | cons w k r _ ih=>simp[app,ih]
theorem take_len(t:Ts):t.take t.len=t:=by
 induction t with
 | nil=>rfl
 | cons w k r _ ih=>simp[take,len,ih]
theorem take_succ{t:Ts}{k:Nat}(h:k<t.len):t.take (k+1)=(t.take k).snoc (t.hd k) (t.kd k):=by
 induction t generalizing k with
 | nil=>simp[len] at h
 | cons w x r _ ih =>
  cases k with
  | zero=>simp[take,snoc,app,hd,kd]
  | succ k =>
   have:=ih (k:=k) (by simp[len] at h;omega)
   simp[take,snoc,app,hd,kd] at this ⊢
   exact this
theorem take_len_le{t:Ts}{k:Nat}(h:k<=t.len):(t.take k).len=k:=by
 induction t generalizing k with
 | nil=>simp[len] at h;subst h;rfl
 | cons w x r _ ih =>
  cases k with
  | zero=>rfl
  | succ k=>simp[take,len];exact ih (by simp[len] at h;omega)
theorem drop_step{t:Ts}{k:Nat}(h:k<t.len):t.drop k=cons (t.hd k) (t.kd k) (t.drop (k+1)):=by
 induction t generalizing k with
 | nil=>simp[len] at h
 | cons w x r _ ih =>
  cases k with
  | zero=>rfl
  | succ k=>exact ih (k:=k) (by simp[len] at h;omega)
theorem drop_len(t:Ts):t.drop t.len=nil:=by
 induction t with
 | nil=>rfl
 | cons w x r _ ih=>exact ih
theorem len_le_count(t:Ts):t.len<=t.count:=by
 induction t with
 | nil=>simp[len]
 | cons w x r _ ih=>simp[len,count];omega
end Ts
structure Tys where
 p:Nat
 l:Nat
 t:Nat
def i64(n:Int):Value:=.int .i64 n
def bY:Lv->Ds
 | []=>.nil
 | p :: r=>.lit (.int .i64 p.1) (.lit (.int .i64 p.2) (bY r))
def cB(y:Tys):List Lv->Ds
 | []=>.nil
 | p :: r=>.row 2 y.p (bY p) .nil (cB y r)
def tDs(y:Tys):Ts->Ds
 | .nil=>.nil
 | .cons h x r=>.lit (.int .i64 h.k) (.lit (.int .i64 h.n) (.lit (.int .i64 h.a) (.row 1 y.l (cB y h.l) .nil (.row 5 y.t (tDs y x) .nil (tDs y r)))))
theorem mU(p:Lv):(bY p).len=p.length*2:=by
 induction p with
 | nil=>rfl
 | cons a r ih=>simp[bY,Ds.len,ih];omega
theorem gL(y:Tys)(l:List Lv):(cB y l).len=l.length:=by
 induction l with
 | nil=>rfl
 | cons a r ih=>simp[cB,Ds.len,ih]
theorem aF(y:Tys)(t:Ts):(tDs y t).len=t.len*5:=by
 induction t with
 | nil=>simp[tDs,Ds.len,Ts.len]
 | cons h x r _ ih=>simp[tDs,Ds.len,Ts.len,ih];omega
theorem D6(p q:Lv):bY (p++q)=(bY p).app (bY q):=by
 induction p with
 | nil=>rfl
 | cons a r ih=>simp[bY,Ds.app,ih]
theorem oW(y:Tys)(p q:List Lv):cB y (p++q)=(cB y p).app (cB y q):=by
 induction p with
 | nil=>rfl
 | cons a r ih=>simp[cB,Ds.app,ih]
theorem bG(y:Tys)(p q:Ts):tDs y (p.app q)=(tDs y p).app (tDs y q):=by
 induction p with
 | nil=>rfl
 | cons h x r _ ih=>simp[tDs,Ts.app,Ds.app,ih]
theorem PW(y:Tys)(t:Ts)(h:Hd)(x:Ts):tDs y (t.snoc h x)=(tDs y t).app (tDs y (.cons h x .nil)):=bG y t _
theorem pt_at{F:Nat->Nat->Option Value}{hi:Nat}{p:Lv}:∀ {b o k:Nat},At F hi (bY p) b o->(h:k<p.length)->F b (o+k*2)=some (.int .i64 p[k].1)/\F b (o+k*2+1)=some (.int .i64 p[k].2):=by
 induction p with
 | nil=>intro b o k _ h;cases h
 | cons a r ih =>
  rintro b o k ⟨h1,h2,h3⟩ hk
  cases k with
  | zero=>exact⟨h1,h2⟩
  | succ k =>
   have:=ih h3 (k:=k) (by simpa using hk)
   rw[show o+1+1+k*2=o+(k+1)*2 by omega] at this
   simpa using this
theorem lv_at{F:Nat->Nat->Option Value}{hi:Nat}{y:Tys}{l:List Lv}:∀ {b o k:Nat},At F hi (cB y l) b o->(h:k<l.length)->∃v,F b (o+k)=some v/\Rd F hi v 2 (bY l[k]) .nil:=by
 induction l with
 | nil=>intro b o k _ h;cases h
 | cons a r ih =>
  intro b o k h hk
  obtain⟨h1,h2⟩:=At_row.1 h
  cases k with
  | zero=>exact h1
  | succ k =>
   have:=ih h2 (k:=k) (by simpa using hk)
   rw[show o+1+k=o+(k+1) by omega] at this
   simpa using this
theorem t_at{F:Nat->Nat->Option Value}{hi:Nat}{y:Tys}{t:Ts}:∀ {b o k:Nat},At F hi (tDs y t) b o->k<t.len ->
  F b (o+k*5)=some (.int .i64 (t.hd k).k)/\F b (o+k*5+1)=some (.int .i64 (t.hd k).n)/\F b (o+k*5+2)=some (.int .i64 (t.hd k).a) /\
   (∃v,F b (o+k*5+3)=some v/\Rd F hi v 1 (cB y (t.hd k).l) .nil)/\∃v,F b (o+k*5+4)=some v/\Rd F hi v 5 (tDs y (t.kd k)) .nil:=by
 induction t with
 | nil=>intro b o k _ h;simp[Ts.len] at h
 | cons w x r _ ih =>
  rintro b o k ⟨h1,h2,h3,h45⟩ hk
  obtain⟨h4,h5⟩:=At_row.1 h45
  obtain⟨h5,h6⟩:=At_row.1 h5
  cases k with
  | zero=>exact⟨h1,h2,h3,h4,h5⟩
  | succ k =>
   have:=ih h6 (k:=k) (by simp[Ts.len] at hk;omega)
   rw[show o+1+1+1+1+1+k*5=o+(k+1)*5 by omega] at this
   exact this
end
section
def aH:List Lv->Nat
 | []=>0
 | p :: r=>1+p.length+aH r
def cS:List Lv->Int->Int->Int
 | [],_,n=>n
 | p :: r,m,n=>if n<=m then cS r m (n+min (1+(p.length:Int)) (m+1)) else n
namespace Ts
def size:Ts->Nat
 | nil=>0
 | cons h x r=>1+aH h.l+x.size+r.size
def cnt:Ts->Int->Int->Int
 | nil,_,n=>n
 | cons h x r,m,n=>if n<=m then r.cnt m (n+(1+cS h.l (m-n) 0+x.cnt (m-n) 0)) else n
end Ts
theorem gZ(l:List Lv):∀m n:Int,0<=m->n<=cS l m n:=by
 induction l with
 | nil=>intro m n _;exact Int.le_refl _
 | cons p r ih =>
  intro m n h0
  simp only[cS]
  split
  ·have:=ih m (n+min (1+(p.length:Int)) (m+1)) h0
   omega
  ·omega
theorem pX(l:List Lv):∀m n:Int,0<=m->n<=2*m+1->cS l m n<=2*m+1:=by
 induction l with
 | nil=>intro m n _ h;exact h
 | cons p r ih =>
  intro m n h0 h
  simp only[cS]
  split
  ·exact ih _ _ h0 (by omega)
  ·omega
theorem F8(l:List Lv):∀m n:Int,0<=m->0<=n->cS l m n<=m->cS l m n=n+aH l:=by
 induction l with
 | nil=>intro m n _ _ _;simp[cS,aH]
 | cons p r ih =>
  intro m n h0 hn0 h
  simp only[cS,aH] at *
  split
  ·rename_i hn
   rw[if_pos hn] at h
   have h1:=ih m _ h0 (by omega) h
   have h2:=gZ r m (n+min (1+(p.length:Int)) (m+1)) h0
   omega
  ·rename_i hn
   rw[if_neg hn] at h
   omega
theorem Ts.cnt_ge(t:Ts):∀m n:Int,0<=m->n<=t.cnt m n:=by
 induction t with
 | nil=>intro m n _;exact Int.le_refl _
 | cons h x r ihx ihr =>
  intro m n h0
  simp only[Ts.cnt]
  split
  ·have h1:=ihx (m-n) 0 (by omega)
   have h2:=ihr m (n+(1+cS h.l (m-n) 0+x.cnt (m-n) 0)) h0
   have h3:=gZ h.l (m-n) 0 (by omega)
   omega
  ·omega
theorem Ts.cnt_le(t:Ts):∀m n:Int,0<=m->m<=1000->0<=n->t.cnt m n<=n+2002*t.count:=by
 induction t with
 | nil=>intro m n _ _ _;simp[Ts.cnt,Ts.count]
 | cons h x r ihx ihr =>
  intro m n h0 h1 hn0
  simp only[Ts.cnt,Ts.count]
  split
  ·have h2:=ihx (m-n) 0 (by omega) (by omega) (Int.le_refl _)
   have h3:=pX h.l (m-n) 0 (by omega) (by omega)
   have h4:=gZ h.l (m-n) 0 (by omega)
   have h5:=Ts.cnt_ge x (m-n) 0 (by omega)
   have h6:=ihr m (n+(1+cS h.l (m-n) 0+x.cnt (m-n) 0)) h0 h1 (by omega)
   omega
  ·omega
theorem Ts.cnt_eq(t:Ts):∀m n:Int,0<=m->0<=n->t.cnt m n<=m->t.cnt m n=n+t.size:=by
 induction t with
 | nil=>intro m n _ _ _;simp[Ts.cnt,Ts.size]
 | cons h x r ihx ihr =>
  intro m n h0 hn0 hle
  simp only[Ts.cnt,Ts.size] at *
  split
  ·rename_i hn
   rw[if_pos hn] at hle
   have h4:=gZ h.l (m-n) 0 (by omega)
   have h5:=Ts.cnt_ge x (m-n) 0 (by omega)
   have h1:=ihr m _ h0 (by omega) hle
   have h0':=Ts.cnt_ge r m (n+(1+cS h.l (m-n) 0+x.cnt (m-n) 0)) h0
   have h2:=ihx (m-n) 0 (by omega) (Int.le_refl _) (by omega)
   have h3:=F8 h.l (m-n) 0 (by omega) (Int.le_refl _) (by omega)
   omega
  ·rename_i hn
   rw[if_neg hn] at hle
   omega
theorem Ts.count_le_size(t:Ts):t.count<=t.size:=by
 induction t with
 | nil=>simp[Ts.count]
 | cons h x r ihx ihr=>simp only[Ts.count,Ts.size];omega
theorem Ts.size_kd{t:Ts}{k:Nat}(h:k<t.len):(t.kd k).size+aH (t.hd k).l<t.size:=by
 induction t generalizing k with
 | nil=>simp[Ts.len] at h
 | cons w x r _ ih =>
  cases k with
  | zero=>simp only[Ts.kd,Ts.hd,Ts.size];omega
  | succ k =>
   have:=ih (k:=k) (by simp[Ts.len] at h;omega)
   simp only[Ts.kd,Ts.hd,Ts.size];omega
theorem Ts.cnt_drop{t:Ts}{k:Nat}(h:k<t.len)(m n:Int)(hn:n<=m):(t.drop k).cnt m n=(t.drop (k+1)).cnt m (n+(1+cS (t.hd k).l (m-n) 0+(t.kd k).cnt (m-n) 0)):=by
 rw[Ts.drop_step h,Ts.cnt,if_pos hn]
theorem AH{l:List Lv}{k:Nat}(h:k<l.length)(m n:Int)(hn:n<=m):cS (l.drop k) m n=cS (l.drop (k+1)) m (n+min (1+(l[k].length:Int)) (m+1)):=by
 rw[List.drop_eq_getElem_cons h,cS,if_pos hn]
end
section
def Ds.strip:Ds->Ds
 | .nil=>.nil
 | .lit v r=>.lit v r.strip
 | .row sz e x _ r=>.row sz e x.strip .nil r.strip
theorem Ds.strip_len(x:Ds):x.strip.len=x.len:=by
 induction x with
 | nil=>rfl
 | lit v r ih=>simp[strip,len,ih]
 | row sz e x s r _ _ ih=>simp[strip,len,ih]
theorem At.strip{F:Nat->Nat->Option Value}{hi:Nat}{x:Ds}:∀ {b o:Nat},At F hi x b o->At F hi x.strip b o:=by
 induction x with
 | nil=>intros;trivial
 | lit v r ih=>rintro b o ⟨h1,h2⟩;exact⟨h1,ih h2⟩
 | row sz e x s r ihx _ ih =>
  rintro b o ⟨⟨p,n,c,h1,h2,h3,h4,h5,h6⟩,h7⟩
  refine⟨⟨p,n,c,h1,by rw[Ds.strip_len];exact h2,h3,h4,by rw[Ds.strip_len];simp only[Ds.len];omega,?_⟩,ih h7⟩
  rcases h6 with h6|h6|⟨b',o',e1,hl,ha,hs⟩
  ·exact .inl h6
  ·exact .inr (.inl ⟨h6.1,rfl,h6.2.2⟩)
  ·exact .inr (.inr ⟨b',o',e1,hl,ihx ha,trivial⟩)
theorem Rd.strip{F:Nat->Nat->Option Value}{hi:Nat}{v:Value}{sz:Nat}{x s:Ds}(h:Rd F hi v sz x s):Rd F hi v sz x.strip .nil:=by
 obtain⟨p,n,c,h1,h2,h3,h4,h5,h6⟩:=h
 refine⟨p,n,c,h1,by rw[Ds.strip_len];exact h2,h3,h4,by rw[Ds.strip_len];simp only[Ds.len];omega,?_⟩
 rcases h6 with h6|h6|⟨b',o',e1,hl,ha,hs⟩
 ·exact .inl h6
 ·exact .inr (.inl ⟨h6.1,rfl,h6.2.2⟩)
 ·exact .inr (.inr ⟨b',o',e1,hl,ha.strip,trivial⟩)
def jG(k i:Nat):Int:=1000003*((k:Int)+7)+i
def wG(k i:Nat):Int×Int:=(0,jG k i)
def rB(k i:Nat):Lv:=[wG k i]
def R5(k i:Nat):Hd:=⟨0,jG k i,0,[]⟩
def dV(k:Nat):Nat->Lv
 | 0=>[]
 | n+1=>dV k n++[wG k n]
def dJ(k:Nat):Nat->List Lv
 | 0=>[]
 | n+1=>dJ k n++[rB k n]
def cH(k:Nat):Nat->Ts
 | 0=>.nil
 | n+1=>(cH k n).snoc (R5 k n) .nil
theorem gT(k n:Nat):(dV k n).length=n:=by
 induction n with
 | zero=>rfl
 | succ n ih=>simp[dV,ih]
theorem kC(k n:Nat):(dJ k n).length=n:=by
 induction n with
 | zero=>rfl
 | succ n ih=>simp[dJ,ih]
theorem pM(k n:Nat):(cH k n).len=n:=by
 induction n with
 | zero=>rfl
 | succ n ih=>simp[cH,Ts.snoc_len,ih]
def cO(y:Tys):List Lv->Ds
 | []=>.nil
 | p :: r=>.row 2 y.p (bY p) (bY (dV 1 12)) (cO y r)
def cJ(y:Tys):Ts->Ds
 | .nil=>.nil
 | .cons h x r=>.lit (.int .i64 h.k) (.lit (.int .i64 h.n) (.lit (.int .i64 h.a) (.row 1 y.l (cO y h.l) (cB y (dJ 1 12)) (.row 5 y.t (cJ y x) (tDs y (cH 1 12)) (cJ y r)))))
theorem pT(p:Lv):(bY p).strip=bY p:=by
 induction p with
 | nil=>rfl
 | cons a r ih=>simp[bY,Ds.strip,ih]
theorem cW(y:Tys)(l:List Lv):(cO y l).strip=cB y l:=by
 induction l with
 | nil=>rfl
 | cons a r ih=>simp[cO,cB,Ds.strip,ih,pT]
theorem dP(y:Tys)(t:Ts):(cJ y t).strip=tDs y t:=by
 induction t with
 | nil=>rfl
 | cons h x r ihx ih=>simp[cJ,tDs,Ds.strip,ih,ihx,cW]
theorem G6(y:Tys)(l:List Lv):(cO y l).len=l.length:=by rw[<-Ds.strip_len,cW,gL]
theorem V2(y:Tys)(t:Ts):(cJ y t).len=t.len*5:=by rw[<-Ds.strip_len,dP,aF]
theorem IL(y:Tys)(p q:List Lv):cO y (p++q)=(cO y p).app (cO y q):=by
 induction p with
 | nil=>rfl
 | cons a r ih=>simp[cO,Ds.app,ih]
theorem NC(y:Tys)(p q:Ts):cJ y (p.app q)=(cJ y p).app (cJ y q):=by
 induction p with
 | nil=>rfl
 | cons h x r _ ih=>simp[cJ,Ts.app,Ds.app,ih]
theorem NF{F:Nat->Nat->Option Value}{hi:Nat}{y:Tys}{l:List Lv}:∀ {b o k:Nat},At F hi (cO y l) b o->(h:k<l.length)->∃v,F b (o+k)=some v/\Rd F hi v 2 (bY l[k]) (bY (dV 1 12)):=by
 induction l with
 | nil=>intro b o k _ h;cases h
 | cons a r ih =>
  intro b o k h hk
  obtain⟨h1,h2⟩:=At_row.1 h
  cases k with
  | zero=>exact h1
  | succ k =>
   have:=ih h2 (k:=k) (by simpa using hk)
   rw[show o+1+k=o+(k+1) by omega] at this
   simpa using this
theorem SM{F:Nat->Nat->Option Value}{hi:Nat}{y:Tys}{t:Ts}:∀ {b o k:Nat},At F hi (cJ y t) b o->k<t.len ->
  F b (o+k*5)=some (.int .i64 (t.hd k).k)/\F b (o+k*5+1)=some (.int .i64 (t.hd k).n)/\F b (o+k*5+2)=some (.int .i64 (t.hd k).a) /\
   (∃v,F b (o+k*5+3)=some v/\Rd F hi v 1 (cO y (t.hd k).l) (cB y (dJ 1 12)))/\∃v,F b (o+k*5+4)=some v/\Rd F hi v 5 (cJ y (t.kd k)) (tDs y (cH 1 12)):=by
 induction t with
 | nil=>intro b o k _ h;simp[Ts.len] at h
 | cons w x r _ ih =>
  rintro b o k ⟨h1,h2,h3,h45⟩ hk
  obtain⟨h4,h5⟩:=At_row.1 h45
  obtain⟨h5,h6⟩:=At_row.1 h5
  cases k with
  | zero=>exact⟨h1,h2,h3,h4,h5⟩
  | succ k =>
   have:=ih h6 (k:=k) (by simp[Ts.len] at hk;omega)
   rw[show o+1+1+1+1+1+k*5=o+(k+1)*5 by omega] at this
   exact this
end
section
theorem wM{S T:List Nat}(m:Nat)(h1:S.Nodup)(h2:T.Nodup)(h3:∀b∈S,b<m)(h4:∀b∈T,m<=b):(S++T).Nodup :=
 List.nodup_append.2 ⟨h1,h2,λ a ha b hb e=>by have:=h3 a ha;have:=h4 b hb;omega⟩
theorem RowO.of{w:World}{base sz e n:Nat}{v:Value}{xs:List Value}(h:w.ownsRow base e sz v n xs):RowO w base sz e v (n*sz) xs v.ownBlock.toList:=by
 rcases h.2 with ⟨rfl,rfl⟩|⟨g,cap,cur,rfl,h1,h2,h3,h4,h5,h6⟩
 ·exact .inl ⟨none,rfl,by simp,by have:=h.1;simpa using this,rfl⟩
 ·exact .inr ⟨g,n,cap,cur,rfl,rfl,h1,h2,h3,h4,h5,rfl,by rw[h.1];exact Nat.le_refl _,by rw[h.1];exact Nat.mul_le_mul_right _ h3,by rw[h.1];exact h6⟩
theorem RowO.cut{w:World}{base sz e n m:Nat}{p:Option Addr}{c:Nat}{xs:List Value}(h:w.ownsRow base e sz (.slice p n c) n xs)(hm:m<=n):RowO w base sz e (.slice p m c) (m*sz) xs (Value.slice p n c).ownBlock.toList:=by
 rcases h.2 with ⟨h1,rfl⟩|⟨g,cap,cur,h0,h1,h2,h3,h4,h5,h6⟩
 ·cases h1
  obtain rfl:m=0:=by omega
  exact .inl ⟨none,rfl,by simp,by have:=h.1;simpa using this,rfl⟩
 ·cases h0
  exact .inr ⟨g,m,c,cur,rfl,rfl,h1,h2,by omega,h4,h5,rfl,by rw[h.1];exact Nat.mul_le_mul_right _ hm,by rw[h.1];exact Nat.mul_le_mul_right _ h3,by rw[h.1];exact h6⟩
theorem lJ{w w':World}{base e size n:Nat}{v:Value}{xs:List Value}(h:w.ownsRow base e size v n xs)(hb:Below w.heap.size w w'):w'.ownsRow base e size v n xs:=by
 refine h.kept (row:=none) ⟨hb.os,hb.tape,hb.output,hb.size,λ k hk _=>hb.block k hk⟩ ?_
 cases hv:v.ownBlock
 ·exact .inl rfl
 ·exact .inr (by simp)
def RowG(w:World)(base sz e:Nat)(v:Value)(n:Nat)(x:Ds)(S:List Nat):Prop :=
 ∃xs,w.ownsRow base e sz v n xs/\Own w base x xs S/\(v.ownBlock.toList++S).Nodup
theorem RowG.nil(w:World)(base sz e:Nat):RowG w base sz e (.slice none 0 0) 0 .nil []:=⟨[],World.ownsRow_nil w base e sz,⟨rfl,rfl⟩,by simp[Value.ownBlock]⟩
theorem RowG.below{w w':World}{base sz e n:Nat}{v:Value}{x:Ds}{S:List Nat}(h:RowG w base sz e v n x S)(hb:Below w.heap.size w w'):RowG w' base sz e v n x S:=by
 obtain⟨xs,h1,h2,h3⟩:=h
 exact⟨xs,lJ h1 hb,h2.below hb,h3⟩
theorem RowG.mem{w:World}{base sz e n:Nat}{v:Value}{x:Ds}{S:List Nat}(h:RowG w base sz e v n x S):∀b∈v.ownBlock.toList++S,base<=b/\b<w.heap.size:=by
 obtain⟨xs,h1,h2,h3⟩:=h
 intro b hb
 rcases List.mem_append.1 hb with hb|hb
 ·exact h1.lt b (by simpa using hb)
 ·exact h2.mem b hb
theorem RowG.push{w1 w2:World}{base sz e n k m:Nat}{v v':Value}{x y:Ds}{xs ys:List Value}{S S2:List Nat}
  (hx:Own w1 base x xs S) (hnd:(v.ownBlock.toList++S).Nodup) (hlt:∀b∈v.ownBlock.toList++S,b<m)
  (hy:Own w1 base y ys S2) (hnd2:S2.Nodup) (hge:∀b∈S2,m<=b)
  (hown:w2.ownsRow base e sz v' (n+k) (xs++ys)) (hg:w1.grownBy w2 v.ownBlock) (hat:v'.ownBlock=v.ownBlock∨v'.ownBlock=some w1.heap.size):RowG w2 base sz e v' (n+k) (x.app y) (S++S2):=by
 have hd:∀b∈S++S2,v.ownBlock≠some b:=by
  intro b hb e1
  rcases List.mem_append.1 hb with hb|hb
  ·exact (List.nodup_append.1 hnd).2.2 b (by simp[e1]) b hb rfl
  ·have:=hlt b (by simp[e1]);have:=hge b hb;omega
 have hk:∀b∈S++S2,w2.heap[b]? = w1.heap[b]?:=λ b hb=>hg.block b (by
  rcases List.mem_append.1 hb with hb|hb
  ·exact (hx.mem b hb).2
  ·exact (hy.mem b hb).2) (λ e1=>hd b hb e1.symm)
 have hxy:Own w1 base (x.app y) (xs++ys) (S++S2):=Own.app hy hx
 refine⟨_,hown,hxy.kept hk,List.nodup_append.2 ⟨by cases v'.ownBlock<;>simp,wM m (List.nodup_append.1 hnd).2.1 hnd2 (λ b hb=>hlt b (by simp[hb])) hge,?_⟩⟩
 intro a ha b hb e1
 subst e1
 have ha':v'.ownBlock=some a:=by simpa using ha
 rcases hat with e1|e1
 ·exact hd a hb (e1.symm.trans ha')
 ·rw[e1] at ha'
  obtain rfl:w1.heap.size=a:=by simpa using ha'
  have:=(hxy.mem _ hb).2
  omega
theorem RowG.own{w:World}{base sz e n:Nat}{v:Value}{x:Ds}{S:List Nat}(h:RowG w base sz e v n x S):Own w base (.row sz e x .nil .nil) [v] (v.ownBlock.toList++S):=by
 obtain⟨xs,h1,h2,h3⟩:=h
 have hl:=h2.len
 refine⟨v,[],xs,[],v.ownBlock.toList,S,[],[],rfl,?_,h2,⟨rfl,rfl⟩,⟨rfl,rfl⟩,by simp⟩
 rw[<-hl,h1.1,List.append_nil]
 exact RowO.of h1
theorem RowG.rd{w:World}{base sz e n:Nat}{v:Value}{x:Ds}{S:List Nat}(h:RowG w base sz e v n x S):Rd (U w) w.heap.size v sz x .nil:=by
 obtain⟨v',ys,e1,h1,-⟩:=h.own.vs
 injection e1 with e1 _
 rw[e1];exact h1
theorem RowG.cut{w:World}{base sz e n m:Nat}{p:Option Addr}{c:Nat}{x s:Ds}{S:List Nat}(h:RowG w base sz e (.slice p n c) n (x.app s) S)(hm:m<=n)(hx:x.len=m*sz):Own w base (.row sz e x s .nil) [.slice p m c] ((Value.slice p n c).ownBlock.toList++S):=by
 obtain⟨xs,h1,h2,h3⟩:=h
 obtain⟨zs,us,S1,S2,rfl,rfl,h4,h5⟩:=Own.split h2
 refine⟨_,[],zs,us,(Value.slice p n c).ownBlock.toList,S1,S2,[],rfl,?_,h4,h5,⟨rfl,rfl⟩,by simp⟩
 rw[hx]
 exact RowO.cut h1 hm
theorem gK(w:World)(l:List Value)(e:TypeId):∀j u,l[j]? = some u->(w.alloc (.cells l.toArray e)).cell? ((⟨w.heap.size,0,none⟩:Addr).add j)=some u:=by
 intro j u hu
 have e1:((⟨w.heap.size,0,none⟩:Addr).add j)=⟨w.heap.size,j,none⟩:=by
  unfold Addr.add;split
  ·rename_i hj;subst hj;rfl
  ·simp
 rw[e1]
 exact (cell_of_row _ _ j l.toArray e (0,0) (heap_alloc_new w _)).trans (by simpa using hu)
end
section
def RP(w:World)(v:Value)(p:Lv):Prop:=Rd (U w) w.heap.size v 2 (bY p) .nil
def RL(y:Tys)(w:World)(v:Value)(l:List Lv):Prop:=Rd (U w) w.heap.size v 1 (cB y l) .nil
def RT(y:Tys)(w:World)(v:Value)(t:Ts):Prop:=Rd (U w) w.heap.size v 5 (tDs y t) .nil
variable {y:Tys} {w w':World} {v:Value} {p:Lv} {l:List Lv} {t:Ts}
theorem RP.on(h:RP w v p)(hb:Below w.heap.size w w'):RP w' v p:=Rd.on h hb
theorem RL.on(h:RL y w v l)(hb:Below w.heap.size w w'):RL y w' v l:=Rd.on h hb
theorem RT.on(h:RT y w v t)(hb:Below w.heap.size w w'):RT y w' v t:=Rd.on h hb
theorem RP.slice(h:RP w v p):∃q c,v=.slice q p.length c/\p.length<=c/\c<=maxLen/\(q=none->c=0):=by
 obtain⟨q,n,c,rfl,h1,h2,h3,h4⟩:=Rd.slice h
 rw[mU] at h1
 obtain rfl:n=p.length:=by omega
 exact⟨q,c,rfl,h2,h3,h4⟩
theorem RL.slice(h:RL y w v l):∃q c,v=.slice q l.length c/\l.length<=c/\c<=maxLen/\(q=none->c=0):=by
 obtain⟨q,n,c,rfl,h1,h2,h3,h4⟩:=Rd.slice h
 rw[gL] at h1
 obtain rfl:n=l.length:=by omega
 exact⟨q,c,rfl,h2,h3,h4⟩
theorem RT.slice(h:RT y w v t):∃q c,v=.slice q t.len c/\t.len<=c/\c<=maxLen/\(q=none->c=0):=by
 obtain⟨q,n,c,rfl,h1,h2,h3,h4⟩:=Rd.slice h
 rw[aF] at h1
 obtain rfl:n=t.len:=by omega
 exact⟨q,c,rfl,h2,h3,h4⟩
theorem RP.at_{q:Option Addr}{n c k:Nat}(h:RP w (.slice q n c) p)(hk:k<p.length):∃b o,q=some ⟨b,o,none⟩/\b<w.heap.size/\U w b (o+k*2)=some (.int .i64 p[k].1)/\U w b (o+k*2+1)=some (.int .i64 p[k].2):=by
 obtain⟨q',c',e1,-⟩:=h.slice
 cases e1
 obtain⟨b,o,rfl,hl,ha,-⟩:=Rd.lies h (by omega)
 exact⟨b,o,rfl,hl,pt_at ha hk⟩
theorem RL.at_{q:Option Addr}{n c k:Nat}(h:RL y w (.slice q n c) l)(hk:k<l.length):∃b o,q=some ⟨b,o,none⟩/\b<w.heap.size/\∃r d,U w b (o+k)=some (.slice r l[k].length d)/\l[k].length<=d/\d<=maxLen/\RP w (.slice r l[k].length d) l[k]:=by
 obtain⟨q',c',e1,-⟩:=h.slice
 cases e1
 obtain⟨b,o,rfl,hl,ha,-⟩:=Rd.lies h (by omega)
 obtain⟨u,hu,hr⟩:=lv_at ha hk
 obtain⟨r,d,rfl,h1,h2,-⟩:=RP.slice (w:=w) hr
 exact⟨b,o,rfl,hl,r,d,hu,h1,h2,hr⟩
theorem RT.at_{q:Option Addr}{n c k:Nat}(h:RT y w (.slice q n c) t)(hk:k<t.len):∃b o,q=some ⟨b,o,none⟩/\b<w.heap.size /\
  U w b (o+k*5)=some (.int .i64 (t.hd k).k)/\U w b (o+k*5+1)=some (.int .i64 (t.hd k).n)/\U w b (o+k*5+2)=some (.int .i64 (t.hd k).a) /\
  (∃r d,U w b (o+k*5+3)=some (.slice r (t.hd k).l.length d)/\(t.hd k).l.length<=d/\d<=maxLen/\RL y w (.slice r (t.hd k).l.length d) (t.hd k).l) /\
  ∃r d,U w b (o+k*5+4)=some (.slice r (t.kd k).len d)/\(t.kd k).len<=d/\d<=maxLen/\RT y w (.slice r (t.kd k).len d) (t.kd k):=by
 obtain⟨q',c',e1,-⟩:=h.slice
 cases e1
 obtain⟨b,o,rfl,hl,ha,-⟩:=Rd.lies h (by omega)
 obtain⟨h1,h2,h3,⟨u,hu,hr⟩,⟨u',hu',hr'⟩⟩:=t_at ha hk
 obtain⟨r,d,rfl,g1,g2,-⟩:=RL.slice (w:=w) hr
 obtain⟨r',d',rfl,g3,g4,-⟩:=RT.slice (w:=w) hr'
 exact⟨b,o,rfl,hl,h1,h2,h3,⟨r,d,hu,g1,g2,hr⟩,⟨r',d',hu',g3,g4,hr'⟩⟩
def RM(y:Tys)(w:World)(v:Value)(h:Hd)(x:Ts):Prop :=
 ∃q n c r m d,v=.agg #[.int .i64 h.k,.int .i64 h.n,.int .i64 h.a,.slice q n c,.slice r m d]/\RL y w (.slice q n c) h.l/\RT y w (.slice r m d) x
theorem RM.on{h:Hd}{x:Ts}(hm:RM y w v h x)(hb:Below w.heap.size w w'):RM y w' v h x:=by
 obtain⟨q,n,c,r,m,d,e1,h1,h2⟩:=hm
 exact⟨q,n,c,r,m,d,e1,h1.on hb,h2.on hb⟩
theorem RM.agg{h:Hd}{x:Ts}(hm:RM y w v h x):∃q c r d,v=.agg #[.int .i64 h.k,.int .i64 h.n,.int .i64 h.a,.slice q h.l.length c,.slice r x.len d]/\h.l.length<=c/\c<=maxLen/\x.len<=d/\d<=maxLen/\RL y w (.slice q h.l.length c) h.l/\RT y w (.slice r x.len d) x:=by
 obtain⟨q,n,c,r,m,d,rfl,h1,h2⟩:=hm
 obtain⟨q',c',e1,g1,g2,-⟩:=h1.slice
 obtain⟨r',d',e2,g3,g4,-⟩:=h2.slice
 cases e1
 cases e2
 exact⟨q,c,r,d,rfl,g1,g2,g3,g4,h1,h2⟩
end
section
def binds(k:Int)(i:Nat):Bool:=if k=4∨k=5∨k=12∨k=16∨k=18 then i == 1 else if k=7 then i == 2 else false
def aX(k:Int)(i:Nat)(d:Nat):Nat:=if binds k i then d+1 else d
def Hd.lift(h:Hd)(n from_:Int)(d:Nat):Hd:=if h.k=1/\(d:Int)<=h.n/\from_<=h.n-d then { h with n:=IntKind.i64.wrap (h.n+n) } else h
def Ts.lift(n from_:Int):Int->Nat->Nat->Ts->Ts
 | _,_,_,.nil=>.nil
 | pk,i,d,.cons h x r=>.cons (h.lift n from_ (aX pk i d)) (x.lift n from_ h.k 0 (aX pk i d)) (r.lift n from_ pk (i+1) d)
theorem Ts.lift_len(n from_:Int)(t:Ts):∀pk i d,(t.lift n from_ pk i d).len=t.len:=by
 induction t with
 | nil=>intros;rfl
 | cons h x r _ ih=>intro pk i d;simp[Ts.lift,Ts.len,ih]
def Hd.fits(h:Hd):Prop:=(-9223372036854775808<=h.k/\h.k<=9223372036854775807)/\(-9223372036854775808<=h.n/\h.n<=9223372036854775807)/\(-9223372036854775808<=h.a/\h.a<=9223372036854775807)/\∀p∈h.l,∀q∈p,(-9223372036854775808<=q.1/\q.1<=9223372036854775807)/\(-9223372036854775808<=q.2/\q.2<=9223372036854775807)
def Ts.fits:Ts->Prop
 | .nil=>True
 | .cons h x r=>h.fits/\x.fits/\r.fits
theorem Ts.fits_hd{t:Ts}(h:t.fits):∀ {k:Nat},k<t.len->(t.hd k).fits/\(t.kd k).fits:=by
 induction t with
 | nil=>intro k hk;simp[Ts.len] at hk
 | cons w x r _ ih =>
  intro k hk
  cases k with
  | zero=>exact⟨h.1,h.2.1⟩
  | succ k=>exact ih h.2.2 (by simp[Ts.len] at hk;omega)
theorem Hd.lift_zero{h:Hd}(hf:h.fits)(from_:Int)(d:Nat):h.lift 0 from_ d=h:=by
 unfold Hd.lift
 split
 ·have:=hf.2.1
  rw[show h.n+0=h.n by omega,show IntKind.i64.wrap h.n=h.n by rw[IntKind.wrap_i64];omega]
 ·rfl
theorem Ts.lift_zero{t:Ts}(hf:t.fits):∀(from_ pk:Int) (i d:Nat),t.lift 0 from_ pk i d=t:=by
 induction t with
 | nil=>intros;rfl
 | cons h x r ihx ih=>intro f pk i d;simp only[Ts.lift,Hd.lift_zero hf.1,ihx hf.2.1,ih hf.2.2]
end
section
def kH(k:Int):Hd:=⟨k,0,0,[]⟩
def Ts.one(h:Hd)(x:Ts):Ts:=.cons h x .nil
structure Tm where
 h:Hd
 x:Ts
def Tm.ts(t:Tm):Ts:=.cons t.h t.x .nil
def mH(k:Int)(z:Hd):Ts->Tm
 | .nil=>⟨z,.nil⟩
 | .cons h x r=>match r with
  | .nil=>⟨h,x⟩
  | .cons _ _ _=>⟨kH k,.cons h x (mH k z r).ts⟩
def rN(n:Int):Hd:=⟨22,n,0,[]⟩
def gI(k n:Int):Hd:=⟨23,k,n,[]⟩
def tup(r:Ts):Tm:=mH 12 (rN 1) r
def kZ(r:Ts):Tm:=mH 13 (gI 0 1) r
def aQ:Nat->Tm->Ts
 | 0,_=>.nil
 | 1,t=>t.ts
 | n+2,t=>.cons (kH 14) t.ts (aQ (n+1) ⟨kH 15,t.ts⟩)
def jN(p:Tm)(b:Ts)(x:Tm):Tm:=⟨⟨24,0,b.len,[]⟩,.cons p.h p.x (b.app x.ts)⟩
theorem mO(k:Int)(z:Hd)(h:Hd)(x:Ts)(r:Ts)(hr:0<r.len):mH k z (.cons h x r)=⟨kH k,.cons h x (mH k z r).ts⟩:=by
 cases r with
 | nil=>simp[Ts.len] at hr
 | cons=>rfl
end
section

/-- The types' numbers here. -/
def ty : Tys := ⟨68, 30, 27⟩

theorem pQ {k : IntKind} {a b : Int} (h : a = b) : Ending.returned (.int k a) = .returned (.int k b) := by rw [h]

set_option maxHeartbeats 1000000 in
theorem xP (q : Option Addr) (n c : Nat) (m : Int) (w : World) (hn : n ≤ 200000000) (h0 : 0 ≤ m) (h1 : m ≤ 1000) :
    Calls prog 32 #[.agg #[.slice q n c], .int .i64 m] w fun e w' => e = .returned (.int .i64 (min (1 + (n : Int)) (m + 1))) ∧ Below w.heap.size w w' := by
  go_enter func32, ntmps32
  go_wp2_with fail
  all_goals
    go_ret
    exact ⟨pQ (by omega), aA _ _⟩
theorem sL {l : List Lv} {k : Nat} (h : k < l.length) : l[k].length < aH l := by
  induction l generalizing k with
  | nil => cases h
  | cons p r ih =>
    cases k with
    | zero => simp only [List.getElem_cons_zero, aH]; omega
    | succ k => have := ih (k := k) (by simpa using h); simp only [List.getElem_cons_succ, aH]; omega

set_option maxHeartbeats 1000000 in
theorem AJ (l : List Lv) (va : Value) (m : Int) (w : World) (ha : RL ty w va l) (hs : aH l ≤ 200000000) (h0 : 0 ≤ m) (h1 : m ≤ 1000) :
    Calls prog 104 #[va, .int .i64 m] w fun e w' => e = .returned (.int .i64 (cS l m 0)) ∧ Below w.heap.size w w' := by
  obtain ⟨q, c, rfl, hc1, hc2, -⟩ := ha.slice
  unfold maxLen at hc2
  have HA := Lib.hid ha
  clear ha
  go_enter func104, ntmps104
  go_wp2_with fail
  go_loopw [5, 6] (fun v i wr => ∃ (k : Nat) (n : Int), k ≤ l.length ∧ i = .int .i64 k ∧ v = .int .i64 n ∧ 0 ≤ n ∧ n ≤ 2 * m + 1 ∧ Hid (cS (l.drop k) m n = cS l m 0) ∧ Below w.heap.size w wr) (fun _ i _ => l.length - (intOf i).toNat)
  case atStart => exact ⟨0, 0, Nat.zero_le _, rfl, rfl, Int.le_refl _, by omega, rfl, Below.refl _ _⟩
  case round =>
    obtain ⟨k, n, hk, rfl, rfl, hn0, hn1, HC, hB⟩ := hrel
    have HB := Lib.hid hB
    clear hB
    by_cases hlt : k < l.length
    · have r1 : decide ((k : Int) < (l.length : Int)) = true := decide_eq_true (by omega)
      by_cases hnm : n ≤ m
      · have r2 : decide (n ≤ m) = true := decide_eq_true hnm
        obtain ⟨b, o, rfl, hb, r, d, hu, hd1, hd2, -⟩ := (HA.out.on HB.out).at_ hlt
        have e1 := aD hu
        have hsz := sL hlt
        have HS := Lib.hid (AH hlt m n hnm)
        obtain ⟨z, hz⟩ : ∃ z : Nat, l[k].length = z := ⟨_, rfl⟩
        rw [hz] at e1 HS hsz
        have HL : Hid (∀ W, Calls prog 32 #[.agg #[.slice r z d], .int .i64 m] W fun e w' => e = .returned (.int .i64 (min (1 + (z : Int)) (m + 1))) ∧ Below W.heap.size W w') := fun W => xP r z d m W (by omega) h0 h1
        obtain ⟨x, hx⟩ : ∃ x : Int, min (1 + (z : Int)) (m + 1) = x := ⟨_, rfl⟩
        have hx0 : 0 ≤ x := by omega
        have hx1 : x ≤ m + 1 := by omega
        rw [hx] at HL HS
        clear hu hd1 hd2 hx hz
        go_wp2_with fail
        refine (HL.out _).mono ?_
        rintro e w1 ⟨rfl, hb1⟩
        have HB1 := Lib.hid (aB HB.out hb1)
        clear hb1
        go_wp2_with fail
        go_roundw
        case rel => exact ⟨k + 1, n + x, by omega, by go_num, by go_num, by omega, by omega, HS.out.symm.trans HC.out, HB1.out⟩
        case measure => simp [intOf]; omega
      · have r2 : decide (n ≤ m) = false := decide_eq_false hnm
        go_wp2_with fail
        go_ret
        refine ⟨pQ ?_, HB.out⟩
        rw [← HC.out, List.drop_eq_getElem_cons hlt, cS, if_neg (by omega)]
    · have r1 : decide ((k : Int) < (l.length : Int)) = false := decide_eq_false (by omega)
      go_wp2_with fail
      go_ret
      refine ⟨pQ ?_, HB.out⟩
      rw [← HC.out, List.drop_eq_nil_of_le (by omega), cS]

set_option maxHeartbeats 1000000 in
theorem R1 (h : Hd) (x : Ts) (va : Value) (m : Int) (w : World) (ha : RM ty w va h x) (hs : aH h.l + x.size ≤ 200000000) (h0 : 0 ≤ m) (h1 : m ≤ 1000)
    (hk : ∀ W v, RT ty W v x → Calls prog 31 #[v, .int .i64 m] W fun e w' => e = .returned (.int .i64 (x.cnt m 0)) ∧ Below W.heap.size W w') :
    Calls prog 19 #[va, .int .i64 m] w fun e w' => e = .returned (.int .i64 (1 + cS h.l m 0 + x.cnt m 0)) ∧ Below w.heap.size w w' := by
  obtain ⟨q, c, r, d, rfl, -, -, -, -, hl, hx⟩ := ha.agg
  go_enter func19, ntmps19
  go_wp2_with fail
  obtain ⟨W0, hW0⟩ : ∃ W0, w.alloc (.cells #[.int .i64 h.k, .int .i64 h.n, .int .i64 h.a, .slice q h.l.length c, .slice r x.len d] 27) = W0 := ⟨_, rfl⟩
  have hB0 : Below w.heap.size w W0 := by rw [← hW0]; exact aA _ _
  have c3 : W0.cell? ⟨w.heap.size, 3, none⟩ = some (.slice q h.l.length c) := by rw [← hW0]; exact aD (aM rfl)
  have c4 : W0.cell? ⟨w.heap.size, 4, none⟩ = some (.slice r x.len d) := by rw [← hW0]; exact aD (aM rfl)
  have hlt : w.heap.size < W0.heap.size := by rw [← hW0]; simp
  have HB0 := Lib.hid hB0
  obtain ⟨b0, hb0⟩ : ∃ b0, w.heap.size = b0 := ⟨_, rfl⟩
  rw [hW0]
  rw [hb0] at c3 c4 hlt ⊢
  have HBB := Lib.hid hb0
  clear hb0
  obtain ⟨z, hz⟩ : ∃ z : Int, cS h.l m 0 = z := ⟨_, rfl⟩
  obtain ⟨y, hy⟩ : ∃ y : Int, x.cnt m 0 = y := ⟨_, rfl⟩
  have hz0 : 0 ≤ z := by rw [← hz]; exact gZ _ _ _ h0
  have hz1 : z ≤ 2 * m + 1 := by rw [← hz]; exact pX _ _ _ h0 (by omega)
  have hy0 : 0 ≤ y := by rw [← hy]; exact Ts.cnt_ge _ _ _ h0
  have hy1 : y ≤ 2002 * 200000000 := by
    rw [← hy]
    have g1 := Ts.cnt_le x m 0 h0 h1 (Int.le_refl _)
    have g2 := Ts.count_le_size x
    omega
  have H51 : Hid (∀ W, Below W0.heap.size W0 W → Calls prog 104 #[.slice q h.l.length c, .int .i64 m] W fun e w' => e = .returned (.int .i64 z) ∧ Below W.heap.size W w') := fun W hW => by
    rw [← hz]; exact AJ h.l _ m W ((hl.on hB0).on hW) (by omega) h0 h1
  have H7 : Hid (∀ W, Below W0.heap.size W0 W → Calls prog 31 #[.slice r x.len d, .int .i64 m] W fun e w' => e = .returned (.int .i64 y) ∧ Below W.heap.size W w') := fun W hW => by
    rw [← hy]; exact hk W _ ((hx.on hB0).on hW)
  have HZ := Lib.hid hz
  have HY := Lib.hid hy
  clear hW0 hB0 hl hx hk hz hy ha hs
  go_region_with (first
    | (go_at_call 104; refine (H51.out _ (by first | exact aZ _ | assumption)).mono ?_; rintro e wx ⟨rfl, hbx⟩
       have hBx : Below W0.heap.size W0 wx := aB (by first | exact aZ _ | assumption) hbx
       have g3 := (hBx.cell (p := ⟨b0, 3, none⟩) hlt).trans c3
       have g4 := (hBx.cell (p := ⟨b0, 4, none⟩) hlt).trans c4
       clear hbx)
    | (go_at_call 31; refine (H7.out _ (by first | exact aZ _ | assumption)).mono ?_; rintro e wy ⟨rfl, hby⟩
       have hBy : Below W0.heap.size W0 wy := aB (by first | exact aZ _ | assumption) hby
       have k3 := (hBy.cell (p := ⟨b0, 3, none⟩) hlt).trans c3
       have k4 := (hBy.cell (p := ⟨b0, 4, none⟩) hlt).trans c4
       clear hby))
  all_goals
    go_wp2_with fail
    go_ret
    exact ⟨pQ (by rw [HZ.out, HY.out, show IntKind.i64.wrap (1 + z) = 1 + z by rw [IntKind.wrap_i64]; omega, IntKind.wrap_i64]; omega), aB HB0.out (by assumption)⟩

set_option maxHeartbeats 1000000 in
theorem xG (M : Nat) : ∀ (t : Ts) (va : Value) (m : Int) (w : World), t.count < M → RT ty w va t → t.size ≤ 200000000 → 0 ≤ m → m ≤ 1000 →
    Calls prog 31 #[va, .int .i64 m] w fun e w' => e = .returned (.int .i64 (t.cnt m 0)) ∧ Below w.heap.size w w' := by
  induction M with
  | zero => intro t va m w hm; omega
  | succ M ih =>
    intro t va m w hm ha hs h0 h1
    obtain ⟨q, c, rfl, hc1, hc2, -⟩ := ha.slice
    unfold maxLen at hc2
    have HA := Lib.hid ha
    have IH := Lib.hid ih
    have HM := Lib.hid hm
    clear ha ih hm
    go_enter func31, ntmps31
    go_wp2_with fail
    go_loopw [5, 6] (fun v i wr => ∃ (k : Nat) (n : Int), k ≤ t.len ∧ i = .int .i64 k ∧ v = .int .i64 n ∧ 0 ≤ n ∧ n ≤ 500000000000 ∧ Hid ((t.drop k).cnt m n = t.cnt m 0) ∧ Below w.heap.size w wr) (fun _ i _ => t.len - (intOf i).toNat)
    case atStart => exact ⟨0, 0, Nat.zero_le _, rfl, rfl, Int.le_refl _, by omega, rfl, Below.refl _ _⟩
    case round =>
      obtain ⟨k, n, hk, rfl, rfl, hn0, hn1, HC, hB⟩ := hrel
      have HB := Lib.hid hB
      clear hB
      by_cases hlt : k < t.len
      · have r1 : decide ((k : Int) < (t.len : Int)) = true := decide_eq_true (by omega)
        by_cases hnm : n ≤ m
        · have r2 : decide (n ≤ m) = true := decide_eq_true hnm
          obtain ⟨b, o, rfl, hb, hu1, hu2, hu3, ⟨r, d, hu4, hd1, hd2, hRL⟩, ⟨r', d', hu5, hd3, hd4, hRT⟩⟩ := (HA.out.on HB.out).at_ hlt
          have e1 := aD hu1
          have e2 := aD hu2
          have e3 := aD hu3
          have e4 := aD hu4
          have e5 := aD hu5
          have hsz := Ts.size_kd hlt
          have hcnt := Ts.count_kd hlt
          have hRM : RM ty wr (.agg #[.int .i64 (t.hd k).k, .int .i64 (t.hd k).n, .int .i64 (t.hd k).a, .slice r (t.hd k).l.length d, .slice r' (t.kd k).len d']) (t.hd k) (t.kd k) := ⟨r, _, d, r', _, d', rfl, hRL, hRT⟩
          have HT := Lib.hid (R1 (t.hd k) (t.kd k) _ (m - n) wr hRM (by omega) (by omega) (by omega) (fun W v hv => IH.out (t.kd k) v (m - n) W (by have := HM.out; omega) hv (by omega) (by omega) (by omega)))
          have HS := Lib.hid (Ts.cnt_drop hlt m n hnm)
          obtain ⟨z, hz⟩ : ∃ z : Int, 1 + cS (t.hd k).l (m - n) 0 + (t.kd k).cnt (m - n) 0 = z := ⟨_, rfl⟩
          have hz0 : 0 ≤ z := by
            have g1 := gZ (t.hd k).l (m - n) 0 (by omega)
            have g2 := Ts.cnt_ge (t.kd k) (m - n) 0 (by omega)
            omega
          have hz1 : z ≤ 410000000000 := by
            have g1 := pX (t.hd k).l (m - n) 0 (by omega) (by omega)
            have g2 := Ts.cnt_le (t.kd k) (m - n) 0 (by omega) (by omega) (Int.le_refl _)
            have g3 := Ts.count_le_size (t.kd k)
            omega
          rw [hz] at HT HS
          clear hu1 hu2 hu3 hu4 hu5 hd1 hd2 hd3 hd4 hRL hRT hsz hcnt hRM hz
          go_wp2_with fail
          refine HT.out.mono ?_
          rintro e w1 ⟨rfl, hb1⟩
          have HB1 := Lib.hid (aB HB.out hb1)
          clear hb1
          go_wp2_with fail
          go_roundw
          case rel => exact ⟨k + 1, n + z, by omega, by go_num, by go_num, by omega, by omega, HS.out.symm.trans HC.out, HB1.out⟩
          case measure => simp [intOf]; omega
        · have r2 : decide (n ≤ m) = false := decide_eq_false hnm
          go_wp2_with fail
          go_ret
          refine ⟨pQ ?_, HB.out⟩
          rw [← HC.out, Ts.drop_step hlt, Ts.cnt, if_neg (by omega)]
      · have r1 : decide ((k : Int) < (t.len : Int)) = false := decide_eq_false (by omega)
        go_wp2_with fail
        go_ret
        refine ⟨pQ ?_, HB.out⟩
        obtain rfl : k = t.len := by omega
        rw [← HC.out, Ts.drop_len, Ts.cnt]
theorem FN (h : Hd) (x : Ts) (va : Value) (m : Int) (w : World) (ha : RM ty w va h x) (hs : aH h.l + x.size ≤ 200000000) (h0 : 0 ≤ m) (h1 : m ≤ 1000) :
    Calls prog 19 #[va, .int .i64 m] w fun e w' => e = .returned (.int .i64 (1 + cS h.l m 0 + x.cnt m 0)) ∧ Below w.heap.size w w' :=
  R1 h x va m w ha hs h0 h1 fun W v hv => xG _ x v m W (Nat.lt_succ_self _) hv (by omega) h0 h1
end
section
theorem aR{P:Program}{ops:Array Oper}{Q:Exit->Act->World->Prop}{a:Act}{w w':World}{rest:List Oper}{o:Oper}(hw:Region.wanted o (yielded ops a.tmps)=true)(s x:Operand)(t:TypeId)
  (ho:o.op=.call { callee:=.builtin .append,args:=#[s,x],argTypes:=#[t,t] }) (v xv v':Value) (hs:a.eval s=v) (hx:a.eval x=xv) (hr:(Builtin.append_ #[t,t] o.type #[v,xv]).run P w=.ok v' w')
  (h:wpList P ops Q rest (a.put o.dst v') w'):wpList P ops Q (o :: rest) a w:=by
 refine wpList_step λ K hK=>?_
 rw[if_pos hw]
 unfold Oper.wp execOp
 simp only[ho,resolve,invoke,builtin,Sem.run_bind,Sem.run_pure,Result.andThen_ok,List.map_toArray,List.map_cons,List.map_nil,hs,hx,hr]
 exact hK _ _ h
structure ElT (P:Program) (t e size:Nat):Prop where
 is:∃(i:TypeInfo) (z:Value) (bytes:Nat),P.underlying t=some (.slice e)/\P.info? e=some i/\i.zero=some z/\i.size=size/\i.bytes=bytes/\z.cells.size=size/\0<size/\bytes<=1000
theorem ElT.mk'{P:Program}{t e size bytes:Nat}{z:Value}(ht:P.underlying t=some (.slice e))(h:(P.info? e).map (λ i=>(i.zero,i.size,i.bytes))=some (some z,size,bytes))(hz:z.cells.size=size)(h0:0<size)(hb:bytes<=1000):ElT P t e size:=by
 obtain⟨i0,hi0,hz0,hz1,hz2⟩:=info_parts h
 exact⟨i0,z,bytes,ht,hi0,hz0,hz1,hz2,hz,h0,hb⟩
def Ds.ones:Ds->Prop
 | .nil=>True
 | .lit v r=>v.oneCell'=true/\r.ones
 | .row _ _ _ _ r=>r.ones
theorem Own.one{w:World}{base:Nat}{x:Ds}:∀ {xs:List Value} {S:List Nat},x.ones->Own w base x xs S->∀u∈xs,u.oneCell'=true:=by
 induction x with
 | nil=>rintro xs S-⟨rfl,-⟩ u hu;cases hu
 | lit v r ih =>
  rintro xs S ⟨h1,h2⟩ ⟨ys,rfl,h⟩ u hu
  rcases List.mem_cons.1 hu with rfl|hu
  ·exact h1
  ·exact ih h2 h u hu
 | row sz e x s r _ _ ih =>
  rintro xs S h1 ⟨v,ys,zs,us,B,S1,S2,S3,rfl,h2,h3,h4,h5,rfl⟩ u hu
  rcases List.mem_cons.1 hu with rfl|hu
  ·rcases h2 with ⟨p,rfl,-⟩|⟨g,n,cap,cur,-,rfl,-⟩<;>rfl
  ·exact ih h1 h5 u hu
theorem RowG.lt_of{w:World}{base sz e n:Nat}{v:Value}{x:Ds}{S:List Nat}(h:RowG w base sz e v n x S):∀b∈v.ownBlock.toList++S,b<w.heap.size:=λ b hb=>(h.mem b hb).2
theorem RowG.append{P:Program}{t e sz ty:Nat}(hT:ElT P t e sz){w:World}{base n k m0:Nat}{v:Value}{x y:Ds}{ys:List Value}{S S2:List Nat}(h:RowG w base sz e v n x S)(hlt:∀b∈v.ownBlock.toList++S,b<m0)
  (hy:Own w base y ys S2) (hnd:S2.Nodup) (hge:∀b∈S2,m0<=b) (h1:y.ones) (ad:Addr) (c:Nat) (hl:ys.length=k*sz) (hnews:∀j u,ys[j]? = some u->w.cell? (ad.add j)=some u) (hn:n+k<=100000000000) (hbase:base<=w.heap.size) :
  ∃v' w',(Builtin.append_ #[t,t] ty #[v,.slice (some ad) k c]).run P w=.ok v' w'/\RowG w' base sz e v' (n+k) (x.app y) (S++S2)/\w.grownBy w' v.ownBlock/\(v'.ownBlock=v.ownBlock∨v'.ownBlock=some w.heap.size):=by
 obtain⟨i,z,bytes,ht,hi,hz,hsize,hby,hzs,hsz,hb⟩:=hT.is
 obtain⟨xs,hown,hx,hnd0⟩:=h
 have hbb:(n+k)*bytes<=100000000000*1000:=Nat.mul_le_mul hn hb
 obtain⟨v',w',hr,h2,h3,-,h5⟩:=run_append_own_at (P:=P) w base t ty e i z sz bytes ht hi hz hsize hby hzs hsz v n xs hown ad k c ys hl hnews (hy.one h1) (by unfold maxLen;omega) (by omega) hbase
 exact⟨v',w',hr,RowG.push hx hnd0 hlt hy hnd hge h2 h3 h5,h3,h5⟩
theorem RowG.append_none{P:Program}{t e sz ty:Nat}(hT:ElT P t e sz){w:World}{base n:Nat}{v:Value}{x:Ds}{S:List Nat}(h:RowG w base sz e v n x S):(Builtin.append_ #[t,t] ty #[v,.slice none 0 0]).run P w=.ok v w:=by
 obtain⟨i,z,bytes,ht,hi,hz,hsize,hby,hzs,hsz,hb⟩:=hT.is
 obtain⟨xs,hown,-,-⟩:=h
 exact run_append_owned_none w base t ty e i sz ht hi v n xs hown
theorem RowG.make{P:Program}{t e sz:Nat}(hT:ElT P t e sz)(w:World)(base c:Nat)(kl kc:IntKind)(hc:c<=100000000000)(hb:base<=w.heap.size) :
  ∃w',(Instr.makeSlice t (.int kl 0) (.int kc (c:Int))).run P w=.ok (.slice (some ⟨w.heap.size,0,none⟩) 0 c) w'/\RowG w' base sz e (.slice (some ⟨w.heap.size,0,none⟩) 0 c) 0 .nil []/\Below w.heap.size w w':=by
 obtain⟨i,z,bytes,ht,hi,hz,hsize,hby,hzs,hsz,hbb⟩:=hT.is
 have h2:bytes*c<=1000*100000000000:=Nat.mul_le_mul hbb hc
 obtain⟨w',hr,h3,h4⟩:=run_make_own (P:=P) w base t e i z sz ht hi hz hsize kl kc c (by rw[hby];omega) (by unfold maxLen;omega) hb
 refine⟨w',hr,⟨[],h3,⟨rfl,rfl⟩,by simp[Value.ownBlock]⟩,?_⟩
 exact (Below.refl _ w).grown h4 (Nat.le_refl _) (λ g hg=>by cases hg)
theorem RowG.cap{w:World}{base sz e n:Nat}{v:Value}{x:Ds}{S:List Nat}(h:RowG w base sz e v n x S):∃p c,v=.slice p n c/\n<=c/\c<=maxLen:=by
 obtain⟨xs,h1,-,-⟩:=h
 rcases h1.2 with ⟨rfl,rfl⟩|⟨g,cap,cur,rfl,-,-,h2,h3,-⟩
 ·exact⟨none,0,rfl,Nat.le_refl _,Nat.zero_le _⟩
 ·exact⟨_,cap,rfl,h2,h3⟩
def Ds.flat:Ds->Prop
 | .nil=>True
 | .lit _ r=>r.flat
 | .row _ _ _ _ _=>False
theorem At.flat{F:Nat->Nat->Option Value}{hi:Nat}(w:World)(base:Nat){x:Ds}(hf:x.flat):∀ {b o:Nat},At F hi x b o->∃xs,Own w base x xs []/\∀j u,xs[j]? = some u->F b (o+j)=some u:=by
 induction x with
 | nil=>intro b o _;exact⟨[],⟨rfl,rfl⟩,λ j u hu=>by simp at hu⟩
 | lit v r ih =>
  rintro b o ⟨h1,h2⟩
  obtain⟨xs,h3,h4⟩:=ih hf h2
  refine⟨v :: xs,⟨xs,rfl,h3⟩,λ j u hu=>?_⟩
  cases j with
  | zero=>simp at hu;subst hu;exact h1
  | succ j =>
   have:=h4 j u (by simpa using hu)
   rw[show o+(j+1)=o+1+j by omega];exact this
 | row sz e x s r _ _ _=>exact absurd hf id
theorem Own.laid{w:World}{base sz e n:Nat}{x:Ds}{zs:List Value}{S:List Nat}(h:Own w base x zs S)(hnd:S.Nodup)(hb:base<=w.heap.size)(hl:zs.length=n*sz)(hn:n<=100000000) :
  Own (w.alloc (.cells zs.toArray e)) base (.row sz e x .nil .nil) [.slice (some ⟨w.heap.size,0,none⟩) n n] ([w.heap.size]++S)/\([w.heap.size]++S).Nodup:=by
 have h1:(w.alloc (.cells zs.toArray e)).ownsRow base e sz (.slice (some ⟨w.heap.size,0,none⟩) n n) n zs.toArray.toList:=World.ownsRow_lit w zs.toArray n hb (by unfold maxLen;omega) (by simpa using hl)
 have h2:Own (w.alloc (.cells zs.toArray e)) base x zs S:=h.below (aA _ _)
 have hnd':([w.heap.size]++S).Nodup:=by
  refine List.nodup_append.2 ⟨by simp,hnd,λ a ha b hb' e1=>?_⟩
  have:=(h.mem b hb').2
  simp at ha
  omega
 exact⟨RowG.own (v:=.slice (some ⟨w.heap.size,0,none⟩) n n) (n:=n) ⟨_,h1,h2,hnd'⟩,hnd'⟩
end
section
theorem TA:(prog.info? 68).map (λ i=>(i.zero,i.size,i.bytes))=some (some (.agg #[.int .i64 0,.int .i64 0]),2,16):=by kernel_rfl
theorem IS:(prog.info? 30).map (λ i=>(i.zero,i.size,i.bytes))=some (some (.agg #[.slice none 0 0]),1,24):=by kernel_rfl
theorem IU:(prog.info? 27).map (λ i=>(i.zero,i.size,i.bytes))=some (some (.agg #[.int .i64 0,.int .i64 0,.int .i64 0,.slice none 0 0,.slice none 0 0]),5,72):=by kernel_rfl
theorem elP:ElT prog 28 68 2:=ElT.mk' underlying28 TA rfl (by decide) (by decide)
theorem elL:ElT prog 24 30 1:=ElT.mk' underlying24 IS rfl (by decide) (by decide)
theorem elT:ElT prog 25 27 5:=ElT.mk' underlying25 IU rfl (by decide) (by decide)
theorem MO(p:Lv):(bY p).ones:=by
 induction p with
 | nil=>trivial
 | cons a r ih=>exact⟨rfl,rfl,ih⟩
theorem U5(y:Tys)(l:List Lv):(cB y l).ones:=by
 induction l with
 | nil=>trivial
 | cons a r ih=>exact ih
theorem CE(y:Tys)(t:Ts):(tDs y t).ones:=by
 induction t with
 | nil=>trivial
 | cons h x r _ ih=>exact⟨rfl,rfl,rfl,ih⟩
theorem MP(p:Lv):(bY p).flat:=by
 induction p with
 | nil=>trivial
 | cons a r ih=>exact ih
def Makes(x:Ds)(w:World)(e:Ending)(w':World):Prop:=∃xs S,e=.returned (.agg xs.toArray)/\Below w.heap.size w w'/\Own w' w.heap.size x xs S/\S.Nodup
def M9(x:Ds)(w:World)(e:Ending)(w':World):Prop:=∃v S,e=.returned v/\Below w.heap.size w w'/\Own w' w.heap.size x [v] S/\S.Nodup
theorem uW(k i:Nat)(w:World)(hk:k<=10000000000)(hi:i<=10000000000):Calls prog 138 #[.int .i64 k,.int .i64 i] w λ e w'=>e=.returned (.int .i64 (jG k i))/\w'=w:=by
 go_enter func138,ntmps138
 go_wp2_with fail
 go_ret
 exact⟨pQ (by unfold jG;omega),rfl⟩
theorem pW(k i:Nat)(w:World)(hk:k<=10000000000)(hi:i<=10000000000):Calls prog 224 #[.int .i64 k,.int .i64 i] w λ e w'=>e=.returned (.agg #[.int .i64 0,.int .i64 (jG k i)])/\Below w.heap.size w w':=by
 have HM:Hid (∀W,Calls prog 138 #[.int .i64 k,.int .i64 i] W λ e w'=>e=.returned (.int .i64 (jG k i))/\w'=W):=λ W=>uW k i W hk hi
 obtain⟨m,hm⟩:∃m,jG k i=m:=⟨_,rfl⟩
 rw[hm] at HM ⊢
 go_enter func224,ntmps224
 go_wp2_with fail
 refine (HM.out _).mono ?_
 rintro e w' ⟨rfl,rfl⟩
 go_wp2_with fail
 refine bodyPost_ret (v:=.agg #[.int .i64 0,.int .i64 m]) (by simp[results,results224,go_sem]) rfl ⟨rfl,aA _ _⟩
theorem pV(k i:Nat)(w:World)(hk:k<=10000000000)(hi:i<=10000000000):Calls prog 132 #[.int .i64 k,.int .i64 i] w λ e w'=>e=.returned (.agg #[.int .i64 0,.int .i64 (jG k i),.int .i64 0,.slice none 0 0,.slice none 0 0])/\Below w.heap.size w w':=by
 have HM:Hid (∀W,Calls prog 138 #[.int .i64 k,.int .i64 i] W λ e w'=>e=.returned (.int .i64 (jG k i))/\w'=W):=λ W=>uW k i W hk hi
 obtain⟨m,hm⟩:∃m,jG k i=m:=⟨_,rfl⟩
 rw[hm] at HM ⊢
 go_enter func132,ntmps132
 go_wp2_with fail
 refine (HM.out _).mono ?_
 rintro e w' ⟨rfl,rfl⟩
 go_wp2_with fail
 refine bodyPost_ret (v:=.agg #[.int .i64 0,.int .i64 m,.int .i64 0,.slice none 0 0,.slice none 0 0]) (by simp[results,results132,go_sem]) rfl ⟨rfl,aA _ _⟩
theorem oG(k i:Nat)(w:World)(hk:k<=10000000000)(hi:i<=10000000000):Calls prog 193 #[.int .i64 k,.int .i64 i] w (Makes (cB ty [rB k i]) w):=by
 have HM:Hid (∀W,Calls prog 138 #[.int .i64 k,.int .i64 i] W λ e w'=>e=.returned (.int .i64 (jG k i))/\w'=W):=λ W=>uW k i W hk hi
 obtain⟨m,hm⟩:∃m,jG k i=m:=⟨_,rfl⟩
 rw[hm] at HM
 have hd:cB ty [rB k i]=.row 2 68 (.lit (.int .i64 0) (.lit (.int .i64 m) .nil)) .nil .nil:=by
  show Ds.row 2 68 (.lit (.int .i64 0) (.lit (.int .i64 (jG k i)) .nil)) .nil .nil=_
  rw[hm]
 rw[hd]
 clear hd
 go_enter func193,ntmps193
 go_wp2_with fail
 refine (HM.out _).mono ?_
 rintro e w' ⟨rfl,rfl⟩
 go_wp2_with fail
 have h0:Own (w.alloc (.cells #[.slice (some ⟨w.heap.size+1,0,none⟩) 1 1] 30)) w.heap.size (.lit (.int .i64 0) (.lit (.int .i64 m) .nil)) [.int .i64 0,.int .i64 m] []:=⟨_,rfl,_,rfl,rfl,rfl⟩
 obtain⟨h1,h2⟩:=Own.laid (sz:=2) (e:=68) (n:=1) h0 (by simp) (by simp) rfl (by decide)
 simp only[World.size_alloc] at h1 h2
 exact bodyPost_ret (v:=.agg #[.slice (some ⟨w.heap.size+1,0,none⟩) 1 1]) (by simp[results,results193,go_sem]) rfl ⟨_,_,rfl,aB (aA _ _) (aA _ _),h1,h2⟩
end
section
theorem RowG.ge{w:World}{base sz e n:Nat}{v:Value}{x:Ds}{S:List Nat}(h:RowG w base sz e v n x S):∀g,v.ownBlock=some g->base<=g:=λ g hg=>(h.mem g (by simp[hg])).1
theorem V1{w w1:World}{base:Nat}{v:Value}{q:Option Addr}{c:Nat}{p:Lv}(hr:RowG w1 base 2 68 v 0 .nil [])(ha:RP w1 (.slice q p.length c) p)(hn:p.length<=200000000)(hb:base<=w1.heap.size)(hB:Below base w w1) :
  ∃v' w',(Builtin.append_ #[28,28] 28 #[v,.slice q p.length c]).run prog w1=.ok v' w'/\RowG w' base 2 68 v' p.length (bY p) []/\Below base w w':=by
 obtain⟨q',n',c',e1,h2,h3,h4,h5,h6⟩:=ha
 cases e1
 have grow:∀(ad:Addr) (ys:List Value),Own w1 base (bY p) ys []->(∀j u,ys[j]? = some u->w1.cell? (ad.add j)=some u) ->
   ∃v' w',(Builtin.append_ #[28,28] 28 #[v,.slice (some ad) p.length c]).run prog w1=.ok v' w'/\RowG w' base 2 68 v' p.length (bY p) []/\Below base w w':=by
  intro ad ys hy hnews
  obtain⟨v',w',hrun,hR,hg,-⟩:=RowG.append (ty:=28) elP hr hr.lt_of hy (by simp) (by simp) (MO p) ad c (by rw[hy.len,mU]) hnews (by omega) hb
  refine⟨v',w',hrun,by simpa[Ds.app] using hR,hB.grown hg hb hr.ge⟩
 rcases h6 with ⟨rfl,rfl⟩|⟨h6,-,h7⟩|⟨b',o',rfl,hl,hA,-⟩
 ·have hp:p=[]:=List.length_eq_zero_iff.1 (by omega)
  subst hp
  exact⟨v,w1,RowG.append_none elP hr,hr,hB⟩
 ·have hp:p=[]:=List.length_eq_zero_iff.1 h6
  subst hp
  cases q with
  | none=>exact absurd rfl h7
  | some ad=>exact grow ad [] ⟨rfl,rfl⟩ (λ j u hu=>by simp at hu)
 ·obtain⟨ys,h8,h9⟩:=hA.flat w1 base (MP p)
  refine grow ⟨b',o',none⟩ ys h8 λ j u hu=>?_
  have:=aD (h9 j u hu)
  have e1:((⟨b',o',none⟩:Addr).add j)=⟨b',o'+j,none⟩:=by
   unfold Addr.add;split
   ·rename_i hj;subst hj;rfl
   ·rfl
  rw[e1];exact this
theorem tR(p:Lv)(va:Value)(w:World)(ha:RP w va p)(hn:p.length<=200000000):Calls prog 133 #[va] w (M9 (.row 2 68 (bY p) (bY (dV 1 12)) .nil) w):=by
 obtain⟨q,c,rfl,hc1,hc2,-⟩:=ha.slice
 unfold maxLen at hc2
 obtain⟨w1,hrun,hR,hB⟩:=RowG.make elP w w.heap.size (p.length+12) .i64 .i64 (by omega) (Nat.le_refl _)
 rw[show ((p.length+12:Nat):Int)=(p.length:Int)+12 by omega] at hrun
 obtain⟨v1,w2,hrun2,hR2,hB2⟩:=V1 hR (ha.on hB) hn hB.size hB
 obtain⟨n,hpn⟩:∃n,p.length=n:=⟨_,rfl⟩
 rw[hpn] at hrun hrun2 hR2 hn hc1 ⊢
 have HR2:=hid hR2
 have HB2:=hid hB2
 have HPN:=hid hpn
 clear hR hB hR2 hB2 ha hpn
 go_enter func133,ntmps133
 go_wp2_with (at_builtin;refine aR rfl _ _ 28 rfl _ _ _ rfl rfl hrun2 ?_)
 clear hrun hrun2
 go_loopw [3,4] (λ v i wr=>∃j:Nat,j<=12/\i=.int .i64 j/\Below w.heap.size w wr/\RowG wr w.heap.size 2 68 v (n+j) (bY (p++dV 1 j)) []) (λ _ i _=>12-(intOf i).toNat)
 case atStart=>exact⟨0,Nat.zero_le _,rfl,HB2.out,by simpa[dV] using HR2.out⟩
 case round =>
  obtain⟨j,hj,rfl,hB,hR⟩:=hrel
  have HB:=hid hB
  have HR:=hid hR
  clear hB hR HR2 HB2
  by_cases hlt:j<12
  ·have r1:decide ((j:Int)<12)=true:=decide_eq_true (by omega)
   have HM:=hid (pW 1 j wr (by decide) (by omega))
   obtain⟨m,hm⟩:∃m,jG 1 j=m:=⟨_,rfl⟩
   have HMM:Hid (wG 1 j=(0,m)):=hid (by unfold wG;rw[hm])
   rw[hm] at HM
   clear hm
   go_wp2_with fail
   refine HM.out.mono ?_
   rintro e w3 ⟨rfl,hb3⟩
   have hR3:=(HR.out.below hb3).below (aA w3 (.cells #[.int .i64 0,.int .i64 m] 68))
   have hB3:=aB (aB HB.out hb3) (aA w3 (.cells #[.int .i64 0,.int .i64 m] 68))
   obtain⟨v',w4,hrun4,hR4,hg4,-⟩:=RowG.append (ty:=28) (k:=1) elP hR3 hR3.lt_of (y:=bY [(0,m)]) (ys:=[.int .i64 0,.int .i64 m]) (S2:=[]) ⟨_,rfl,_,rfl,rfl,rfl⟩ (by simp) (by simp) ⟨rfl,rfl,trivial⟩ ⟨w3.heap.size,0,none⟩ 1 rfl (gK w3 _ 68) (by omega) hB3.size
   have HB4:=hid (hB3.grown hg4 hB3.size hR3.ge)
   have HR4:Hid (RowG w4 w.heap.size 2 68 v' (n+(j+1)) (bY (p++dV 1 (j+1))) []):=hid (by
    rw[dV,HMM.out,<-List.append_assoc,D6];exact hR4)
   clear hb3 hR3 hB3 hR4 hg4 HMM
   go_wp2_with (at_builtin;refine aR rfl _ _ 28 rfl _ _ _ rfl rfl hrun4 ?_)
   clear hrun4
   go_roundw
   case rel=>exact⟨j+1,by omega,by go_num,HB4.out,HR4.out⟩
   case measure=>simp[intOf];omega
  ·obtain rfl:j=12:=by omega
   obtain⟨p',c',rfl,hc3,hc4⟩:=HR.out.cap
   unfold maxLen at hc4
   have HX:=hid (RowG.cut (m:=n) (s:=bY (dV 1 12)) (by rw[<-D6];exact HR.out) (by omega) (by rw[mU,HPN.out]))
   have hnd:((Value.slice p' (n+12) c').ownBlock.toList++[]).Nodup:=by cases p'<;>simp[Value.ownBlock]
   clear hj hlt
   go_wp2_with fail
   all_goals go_ret
   exact⟨_,_,rfl,HB.out,HX.out,hnd⟩
end
section
theorem RowG.empty(w:World)(sz e:Nat):RowG (w.alloc (.cells #[] e)) w.heap.size sz e (.slice (some ⟨w.heap.size,0,none⟩) 0 0) 0 .nil [] :=
 ⟨[],by simpa using World.ownsRow_lit (size:=sz) (e:=e) w #[] 0 (Nat.le_refl _) (Nat.zero_le _) (by simp),⟨rfl,rfl⟩,by simp[Value.ownBlock]⟩
theorem RowG.nodup{w:World}{base sz e n:Nat}{v:Value}{x:Ds}{S:List Nat}(h:RowG w base sz e v n x S):(v.ownBlock.toList++S).Nodup:=by obtain⟨_,_,_,h⟩:=h;exact h
end
section
def bounds:List Int:=[0,-1,-1,-1,1,1,-1,2,-1,-1,-1,-1,1,-1,-1,-1,1,-1,1,-1,-1,-1,-1,-1,-1]
def KA(w:World):Prop:=0<w.heap.size/\∀k:Nat,k<25->w.cell? ⟨0,k*5+4,none⟩=some (.int .i64 (bounds.getD k 0))
theorem KA.on{B:Nat}{w w':World}(h:KA w)(hb:Below B w w')(h0:0<B):KA w' :=
 ⟨Nat.lt_of_lt_of_le h.1 hb.size,λ k hk=>(hb.cell (p:=⟨0,k*5+4,none⟩) h0).trans (h.2 k hk)⟩
theorem US(k i:Nat)(h0:0<k)(hk:k<25):(bounds.getD k 0 == (i:Int))=binds k i:=by
 have h1:((1:Int) == (i:Int))=(i == 1):=by rw[Bool.eq_iff_iff];simp;omega
 have h2:((2:Int) == (i:Int))=(i == 2):=by rw[Bool.eq_iff_iff];simp;omega
 have hm:((-1:Int) == (i:Int))=false:=by
  rw[beq_eq_false_iff_ne];omega
 have hall:k=1∨k=2∨k=3∨k=4∨k=5∨k=6∨k=7∨k=8∨k=9∨k=10∨k=11∨k=12∨k=13∨k=14∨k=15∨k=16∨k=17∨k=18∨k=19∨k=20∨k=21∨k=22∨k=23∨k=24:=by omega
 rcases hall with rfl|rfl|rfl|rfl|rfl|rfl|rfl|rfl|rfl|rfl|rfl|rfl|rfl|rfl|rfl|rfl|rfl|rfl|rfl|rfl|rfl|rfl|rfl|rfl
 all_goals first
  | exact hm
  | exact h1
  | exact h2
theorem EX(k:Int)(i:Nat)(h:¬(0<k/\k<25)):binds k i=false:=by
 unfold binds
 rw[if_neg (by omega),if_neg (by omega)]
theorem OK(k:Int)(i:Nat)(w:World)(hw:KA w):Calls prog 274 #[.int .i64 k,.int .i64 i] w λ e w'=>e=.returned (.bool (binds k i))/\w'=w:=by
 by_cases h0:0<k
 ·have r1:decide (0<k)=true:=decide_eq_true h0
  by_cases h1:k<25
  ·have r2:decide (k<25)=true:=decide_eq_true h1
   obtain⟨n,rfl⟩:∃n:Nat,k=n:=⟨k.toNat,by omega⟩
   have hc:=hw.2 n (by omega)
   have hb:=US n i (by omega) (by omega)
   obtain⟨z,hz⟩:∃z,bounds.getD n 0=z:=⟨_,rfl⟩
   obtain⟨bb,hbb⟩:∃bb,binds n i=bb:=⟨_,rfl⟩
   rw[hz] at hc hb
   rw[hbb] at hb ⊢
   have i0:(0:Int)<=(n:Int):=by omega
   have r3:decide ((0:Int)<=(i:Int))=true:=decide_eq_true (by omega)
   clear hz hbb hw
   go_enter func274,ntmps274
   go_wp2_with fail
   all_goals first
    | (exfalso;omega)
    | (go_ret;exact⟨rfl,rfl⟩)
  ·have r2:decide (k<25)=false:=decide_eq_false h1
   rw[EX k i (by omega)]
   clear hw
   go_enter func274,ntmps274
   go_wp2_with fail
   all_goals (go_ret;exact⟨rfl,rfl⟩)
 ·have r1:decide (0<k)=false:=decide_eq_false h0
  rw[EX k i (by omega)]
  clear hw
  go_enter func274,ntmps274
  go_wp2_with fail
  all_goals (go_ret;exact⟨rfl,rfl⟩)
end
section
theorem FE{w:World}{a:Addr}{j:Nat}{u:Value}(h:w.cell? (a.add j)=some u):w.cell? ⟨a.block,a.off+j,none⟩=some u:=by
 by_cases hj:j=0
 ·subst hj
  have hs:a.spot=none:=by
   cases hsp:a.spot with
   | none=>rfl
   | some k =>
    exfalso
    simp only[Addr.add,if_pos] at h
    unfold World.cell? at h
    rw[hsp] at h
    cases hb:w.heap[a.block]? with
    | none=>rw[hb] at h;cases h
    | some o=>rw[hb] at h;cases o<;>simp at h
  have ha:a.add 0=⟨a.block,a.off+0,none⟩:=by
   cases a;simp at hs;subst hs;rfl
  rw[<-ha];exact h
 ·simpa[Addr.add,hj] using h
theorem VE{w:World}{a:Addr}{u:Value}(h:w.cell? (a.add 0)=some u):a=⟨a.block,a.off,none⟩:=by
 cases hsp:a.spot with
 | none=>cases a;simp at hsp;subst hsp;rfl
 | some k =>
  exfalso
  simp only[Addr.add,if_pos] at h
  unfold World.cell? at h
  rw[hsp] at h
  cases hb:w.heap[a.block]? with
  | none=>rw[hb] at h;cases h
  | some o=>rw[hb] at h;cases o<;>simp at h
theorem add_add(a:Addr)(i j:Nat):(a.add i).add j=a.add (i+j):=by
 by_cases hi:i=0
 ·subst hi;simp[Addr.add]
 ·by_cases hj:j=0
  ·subst hj;simp[Addr.add]
  ·simp[Addr.add,hi,hj,Nat.add_assoc]
theorem Y0{α:Type}:∀ {l:List α},l.length=2->∃a b,l=[a,b]
 | [a,b],_=>⟨a,b,rfl⟩
 | [],h=>by cases h
 | [_],h=>by cases h
 | _ :: _ :: _ :: _,h=>by simp at h
theorem one_of{α:Type}:∀ {l:List α},l.length=1->∃a,l=[a]
 | [a],_=>⟨a,rfl⟩
 | [],h=>by cases h
 | _ :: _ :: _,h=>by simp at h
theorem pZ{α:Type}:∀ {l:List α},l.length=5->∃a b c d e,l=[a,b,c,d,e]
 | [a,b,c,d,e],_=>⟨a,b,c,d,e,rfl⟩
 | [],h=>by cases h
 | [_],h=>by cases h
 | [_,_],h=>by cases h
 | [_,_,_],h=>by cases h
 | [_,_,_,_],h=>by cases h
 | _ :: _ :: _ :: _ :: _ :: _ :: _,h=>by simp at h
def oI:List Ds->Ds
 | []=>.nil
 | d :: l=>d.app (oI l)
theorem CK{W:World}{a:Addr}{len cap sz:Nat}(Q:Nat->Ds->Prop)(hl:len<=cap)(hm:cap<=maxLen)(hsz:0<sz)(one:∀i,i<len->∃d,Q i d/\∃cs:List Value,cs.length=sz/\(∀j u,cs[j]? = some u->W.cell? (a.add (i*sz+j))=some u)/\Vs (U W) W.heap.size d cs)
  (uno:∀j,j<len*sz->W.frozen? ⟨a.block,a.off+j,none⟩=false):∃l:List Ds,l.length=len/\(∀i d,l[i]? = some d->Q i d)/\Rd (U W) W.heap.size (.slice (some a) len cap) sz (oI l) .nil:=by
 have build:∀m,m<=len->∃l:List Ds,l.length=m/\(∀i d,l[i]? = some d->Q (len-m+i) d)/\(oI l).len=m*sz/\At (U W) W.heap.size (oI l) a.block (a.off+(len-m)*sz):=by
  intro m
  induction m with
  | zero=>exact λ _=>⟨[],rfl,λ i d h=>by simp at h,by simp[oI,Ds.len],trivial⟩
  | succ m ihm =>
   intro hm'
   obtain⟨l,h1,h2,h3,h4⟩:=ihm (by omega)
   obtain⟨d,q,cs,c1,c2,c3⟩:=one (len-(m+1)) (by omega)
   have hdl:d.len=sz:=by rw[<-c3.len,c1]
   refine⟨d :: l,by simp[h1],λ i e he=>?_,?_,?_⟩
   ·cases i with
    | zero=>simp at he;subst he;exact q
    | succ i =>
     have:=h2 i e (by simpa using he)
     rw[show len-(m+1)+(i+1)=len-m+i by omega];exact this
   ·show (d.app (oI l)).len=_
    rw[Ds.app_len,hdl,h3,Nat.add_mul];omega
   ·refine At.app.2 ⟨?_,?_⟩
    ·refine c3.at_ λ j u hu=>?_
     have hj:j<sz:=by rw[<-c1];exact (List.getElem?_eq_some_iff.1 hu).1
     have h5:=FE (c2 j u hu)
     rw[<-Nat.add_assoc] at h5
     refine nJ h5 ?_
     have h6:(len-(m+1))*sz+j<len*sz:=by
      have:(len-(m+1)+1)*sz<=len*sz:=Nat.mul_le_mul_right _ (by omega)
      rw[Nat.add_mul,Nat.one_mul] at this
      omega
     have:=uno _ h6
     rwa [<-Nat.add_assoc] at this
    ·rw[hdl,Nat.add_assoc,show (len-(m+1))*sz+sz=(len-m)*sz by rw[show len-m=len-(m+1)+1 by omega,Nat.add_mul,Nat.one_mul]]
     exact h4
 obtain⟨l,h1,h2,h3,h4⟩:=build len (Nat.le_refl _)
 rw[Nat.sub_self,Nat.zero_mul,Nat.add_zero] at h4
 refine⟨l,h1,λ i d h=>by have:=h2 i d h;rwa [Nat.sub_self,Nat.zero_add] at this,some a,len,cap,rfl,h3.symm,hl,hm,?_,?_⟩
 ·rw[h3];simp only[Ds.len,Nat.add_zero];exact Nat.mul_le_mul_right _ hl
 ·by_cases h0:len=0
  ·exact .inr (.inl ⟨h0,rfl,by simp⟩)
  ·obtain⟨d,q,cs,c1,c2,c3⟩:=one 0 (by omega)
   obtain⟨u,hu⟩:∃u,cs[0]? = some u:=⟨_,List.getElem?_eq_getElem (by omega)⟩
   have h5:=c2 0 u hu
   rw[Nat.zero_mul] at h5
   have ha:=VE h5
   exact .inr (.inr ⟨a.block,a.off,by rw[<-ha],World.block_lt_of_cell? W ⟨a.block,a.off+0,none⟩ (FE h5),h4,trivial⟩)
theorem qB:prog.cellsOf 3=1:=by kernel_rfl
theorem UQ:prog.cellsOf 23=1:=by kernel_rfl
theorem UP:prog.cellsOf 24=1:=by kernel_rfl
theorem rT:prog.cellsOf 25=1:=by kernel_rfl
theorem UN:prog.cellsOf 28=1:=by kernel_rfl
theorem ER:prog.cellsOf 68=2:=by kernel_rfl
theorem M0:prog.cellsOf 30=1:=by kernel_rfl
theorem rS:prog.cellsOf 27=5:=by kernel_rfl
def inW(n:Int):Prop:=-9223372036854775808<=n/\n<=9223372036854775807
section
variable {H:Type} {enc:TypeId×Value->H} {W:World} {sp:Nat->Bool} {held:Bool}
def kI(W:World)(ps:List MemPlace):Prop:=∀b off,MemPlace.cell b off∈ps->W.frozen? ⟨b,off,none⟩=false
theorem wf_in{n:Int}(h:(Lit.int .i64 n).wf=true):inW n:=by
 have h2:IntKind.i64.min<=n/\n<=9223372036854775807:=by simpa[Lit.wf] using h
 have e:IntKind.i64.min = -9223372036854775808:=by decide
 rw[e] at h2
 exact h2
theorem open_int{n:Nat}{t:Nat}{cs:List Value}{x:DataW H×List MemPlace}(ht:prog.underlying t=some (.int .i64))(h:DataW.trod enc prog W 0 sp held n t cs=some x):∃k,cs=[.int .i64 k]/\x=(.lit (.int .i64 k),[])/\inW k:=by
 obtain⟨k,h1,h2,h3⟩:=DataW.trod_int ht h
 exact⟨k,h1,h2,wf_in h3⟩
theorem MU{n:Nat}{cs:List Value}{x:DataW H×List MemPlace}(h:DataW.trod enc prog W 0 sp held n 68 cs=some x):∃a b,cs=[.int .i64 a,.int .i64 b]/\Rows.uptoBulk x.1=3/\inW a/\inW b:=by
 obtain⟨xs,n',rfl,rfl,hl,hxs,hf⟩:=DataW.trod_struct underlying68 h
 rw[ER] at hl
 obtain⟨c0,c1,rfl⟩:=Y0 hl
 obtain⟨x0,x1,rfl⟩:=Y0 hxs
 have h0:DataW.trod enc prog W 0 sp held n' 3 (([c0,c1].drop 0).take (prog.cellsOf 3))=some x0:=hf 0 _ rfl
 have h1:DataW.trod enc prog W 0 sp held n' 3 (([c0,c1].drop 1).take (prog.cellsOf 3))=some x1:=hf 1 _ rfl
 rw[qB] at h0 h1
 obtain⟨a,e0,rfl,g0⟩:=open_int underlying3 h0
 obtain⟨b,e1,rfl,g1⟩:=open_int underlying3 h1
 cases e0
 cases e1
 exact⟨a,b,rfl,by simp[Rows.uptoBulk,Rows.uptoBulkAll],g0,g1⟩
theorem NS{a:Addr}{m:Nat}{elems rest:List (DataW H×List MemPlace)}(h:kI W (MemPlace.row a m++(elems++rest).flatMap (·.2))){i:Nat}{x:DataW H×List MemPlace}(hx:elems[i]? = some x):kI W x.2:=λ b off hp =>
 h b off (List.mem_append.2 (.inr (List.mem_flatMap.2 ⟨x,List.mem_append.2 (.inl (List.mem_of_getElem? hx)),hp⟩)))
theorem TI{a:Addr}{m:Nat}{qs:List MemPlace}(h:kI W (MemPlace.row a m++qs)):∀j,j<m->W.frozen? ⟨a.block,a.off+j,none⟩=false:=λ j hj=>h _ _ (List.mem_append.2 (.inl (by
 unfold MemPlace.row
 exact List.mem_map.2 ⟨j,List.mem_range.2 hj,rfl⟩)))
theorem LE{α:Type}(R:α->Ds->Nat->Prop):∀ {l:List Ds} {elems:List (DataW H×List MemPlace)},l.length=elems.length->(∀(i:Nat) (d:Ds),l[i]? = some d->∀x:DataW H×List MemPlace,elems[i]? = some x->∃y s,R y d s/\s<=Rows.uptoBulk x.1) ->
  ∃ys:List (α×Ds×Nat),ys.map (λ y=>y.2.1)=l/\(∀y∈ys,R y.1 y.2.1 y.2.2)/\(ys.map (λ y=>y.2.2)).sum<=Rows.uptoBulkAll (elems.map (·.1))
 | [],_,_,_=>⟨[],rfl,(λ y hy=>by cases hy),Nat.zero_le _⟩
 | d :: l,[],hl,_=>by cases hl
 | d :: l,x :: elems,hl,h=>by
  obtain⟨ys,h1,h2,h3⟩:=LE R (l:=l) (elems:=elems) (by simpa using hl) (λ i d' hd x' hx'=>h (i+1) d' (by simpa using hd) x' (by simpa using hx'))
  obtain⟨y,s,r1,r2⟩:=h 0 d rfl x rfl
  refine⟨(y,d,s) :: ys,by simp[h1],λ z hz=>?_,?_⟩
  ·rcases List.mem_cons.1 hz with rfl|hz
   ·exact r1
   ·exact h2 z hz
  ·simp only[List.map_cons,List.sum_cons,Rows.uptoBulkAll]
   omega
theorem jT{α:Type}{t e sz:Nat}(hu:prog.underlying t=some (.slice e))(hc:prog.cellsOf e=sz)(hsz:0<sz)(R:α->Ds->Nat->Prop){n:Nat}{cs:List Value}{x:DataW H×List MemPlace}(h:DataW.trod enc prog W 0 (λ _=>true) held n t cs=some x)(hz:kI W x.2)
  (one:∀(n':Nat) (cs:List Value) (x:DataW H×List MemPlace),n'<n->DataW.trod enc prog W 0 (λ _=>true) held n' e cs=some x->kI W x.2->∃y d s,R y d s/\s<=Rows.uptoBulk x.1/\Vs (U W) W.heap.size d cs) :
  ∃v,cs=[v]/\∃ys:List (α×Ds×Nat),(∀y∈ys,R y.1 y.2.1 y.2.2)/\(ys.map (λ y=>y.2.2)).sum+1<=Rows.uptoBulk x.1/\Rd (U W) W.heap.size v sz (oI (ys.map (λ y=>y.2.1))) .nil:=by
 rcases DataW.trod_slice hu h with ⟨rfl,rfl⟩|⟨a,len,cap,elems,rest,n',rfl,rfl,rfl,-,hl,hm,hlen,hel,-,-⟩
 ·exact⟨_,rfl,[],(λ y hy=>by cases hy),by simp[Rows.uptoBulk],Rd.none_ _ _ _⟩
 ·rw[hc] at hel hz
  have hfr:=TI hz
  obtain⟨l,h1,h2,h3⟩:=CK (W:=W) (a:=a) (len:=len) (cap:=cap) (sz:=sz) (λ i d=>∀x:DataW H×List MemPlace,elems[i]? = some x->∃y s,R y d s/\s<=Rows.uptoBulk x.1) hl hm hsz (λ i hi=>by
   have hi':i<elems.length:=by omega
   have he:=hel i hi
   rw[List.getElem?_eq_getElem hi'] at he
   obtain⟨cs2,hc2,ht2⟩:=Option.bind_eq_some_iff.1 he
   obtain⟨-,hcl,hcc⟩:=World.cells?_some hc2
   obtain⟨y,d,s,r1,r2,r3⟩:=one n' cs2 elems[i] (Nat.lt_succ_self _) ht2 (NS hz (List.getElem?_eq_getElem hi'))
   refine⟨d,λ x' hx'=>?_,cs2,hcl,λ j u hu=>?_,r3⟩
   ·rw[List.getElem?_eq_getElem hi'] at hx'
    cases hx'
    exact⟨y,s,r1,r2⟩
   ·have hj:j<cs2.length:=(List.getElem?_eq_some_iff.1 hu).1
    have:=hcc j (by omega)
    rw[add_add,hu] at this
    exact this)
   (λ j hj=>hfr j (by
    have:len*sz<=(elems.length+rest.length)*sz:=Nat.mul_le_mul_right _ (by omega)
    omega))
  obtain⟨ys,k1,k2,k3⟩:=LE R (by rw[h1,hlen]) h2
  refine⟨_,rfl,ys,k2,?_,by rw[k1];exact h3⟩
  simp only[Rows.uptoBulk]
  omega
end
end
section
abbrev Mem:=Nat->Nat->Option Value
abbrev Tk:=Nat×Nat
def Ds.good:Ds->Prop
 | .nil=>True
 | .lit v r=>v.oneCell'=true/\r.good
 | .row _ _ x s r=>x.good/\s.good/\r.good
theorem Ds.app_good{x y:Ds}(hx:x.good)(hy:y.good):(x.app y).good:=by
 induction x with
 | nil=>exact hy
 | lit v r ih=>exact⟨hx.1,ih hx.2⟩
 | row sz e a s r _ _ ih=>exact⟨hx.1,hx.2.1,ih hx.2.2⟩
def Ds.dp:Nat->Ds->Ds
 | 0,x=>x
 | _+1,.nil=>.nil
 | n+1,.lit _ r=>r.dp n
 | n+1,.row _ _ _ _ r=>r.dp n
def Ds.tk:Nat->Ds->Ds
 | 0,_=>.nil
 | _+1,.nil=>.nil
 | n+1,.lit v r=>.lit v (r.tk n)
 | n+1,.row sz e x s r=>.row sz e x s (r.tk n)
theorem Ds.dp_good:∀(n:Nat) {x:Ds},x.good->(x.dp n).good
 | 0,_,h=>h
 | _+1,.nil,h=>h
 | n+1,.lit _ _,h=>Ds.dp_good n h.2
 | n+1,.row _ _ _ _ _,h=>Ds.dp_good n h.2.2
theorem Ds.tk_good:∀(n:Nat) {x:Ds},x.good->(x.tk n).good
 | 0,_,_=>trivial
 | _+1,.nil,h=>h
 | n+1,.lit _ _,h=>⟨h.1,Ds.tk_good n h.2⟩
 | n+1,.row _ _ _ _ _,h=>⟨h.1,h.2.1,Ds.tk_good n h.2.2⟩
theorem Ds.dp_len:∀(n:Nat) (x:Ds),(x.dp n).len=x.len-n
 | 0,_=>rfl
 | _+1,.nil=>by simp[Ds.dp,Ds.len]
 | n+1,.lit _ r=>by simp[Ds.dp,Ds.len,Ds.dp_len n r]
 | n+1,.row _ _ _ _ r=>by simp[Ds.dp,Ds.len,Ds.dp_len n r]
theorem Ds.tk_len:∀(n:Nat) (x:Ds),(x.tk n).len=min n x.len
 | 0,x=>by simp[Ds.tk,Ds.len]
 | _+1,.nil=>by simp[Ds.tk,Ds.len]
 | n+1,.lit _ r=>by simp[Ds.tk,Ds.len,Ds.tk_len n r]
 | n+1,.row _ _ _ _ r=>by simp[Ds.tk,Ds.len,Ds.tk_len n r]
theorem Vs.dp{F:Mem}{hi:Nat}:∀(n:Nat) {x:Ds} {xs:List Value},Vs F hi x xs->Vs F hi (x.dp n) (xs.drop n)
 | 0,_,_,h=>h
 | _+1,.nil,_,h=>by cases h;rfl
 | n+1,.lit _ _,_,⟨ys,e,h⟩=>by subst e;exact Vs.dp n h
 | n+1,.row _ _ _ _ _,_,⟨v,ys,e,_,h⟩=>by subst e;exact Vs.dp n h
theorem Vs.tk{F:Mem}{hi:Nat}:∀(n:Nat) {x:Ds} {xs:List Value},Vs F hi x xs->Vs F hi (x.tk n) (xs.take n)
 | 0,_,_,_=>rfl
 | _+1,.nil,_,h=>by cases h;rfl
 | n+1,.lit _ _,_,⟨ys,e,h⟩=>by subst e;exact⟨_,rfl,Vs.tk n h⟩
 | n+1,.row _ _ _ _ _,_,⟨v,ys,e,h1,h⟩=>by subst e;exact⟨v,_,rfl,h1,Vs.tk n h⟩
theorem At.dp{F:Mem}{hi:Nat}:∀(n:Nat) {x:Ds} {b o:Nat},At F hi x b o->n<=x.len->At F hi (x.dp n) b (o+n)
 | 0,_,_,_,h,_=>h
 | n+1,.nil,_,_,_,h=>by simp[Ds.len] at h
 | n+1,.lit _ _,b,o,h,hn=>by
  have:=At.dp n h.2 (by simp[Ds.len] at hn;omega)
  rwa [show o+1+n=o+(n+1) by omega] at this
 | n+1,.row _ _ _ _ _,b,o,h,hn=>by
  have:=At.dp n h.2 (by simp[Ds.len] at hn;omega)
  rwa [show o+1+n=o+(n+1) by omega] at this
theorem At.tk{F:Mem}{hi:Nat}:∀(n:Nat) {x:Ds} {b o:Nat},At F hi x b o->At F hi (x.tk n) b o
 | 0,_,_,_,_=>trivial
 | _+1,.nil,_,_,_=>trivial
 | n+1,.lit _ _,_,_,h=>⟨h.1,At.tk n h.2⟩
 | n+1,.row _ _ _ _ _,_,_,h=>⟨h.1,At.tk n h.2⟩
theorem At.vsx{F:Mem}{hi:Nat}{x:Ds}:∀ {b o:Nat},At F hi x b o->∃ys,Vs F hi x ys/\∀j u,ys[j]? = some u->F b (o+j)=some u:=by
 induction x with
 | nil=>intro b o _;exact⟨[],rfl,λ j u h=>by simp at h⟩
 | lit v r ih =>
  rintro b o ⟨h1,h2⟩
  obtain⟨ys,h3,h4⟩:=ih h2
  refine⟨v :: ys,⟨ys,rfl,h3⟩,λ j u h=>?_⟩
  cases j with
  | zero=>simp at h;subst h;exact h1
  | succ j=>rw[show o+(j+1)=o+1+j by omega];exact h4 j u (by simpa using h)
 | row sz e x s r _ _ ih =>
  intro b o h
  obtain⟨⟨v,h1,h2⟩,h3⟩:=At_row.1 h
  obtain⟨ys,h4,h5⟩:=ih h3
  refine⟨v :: ys,⟨v,ys,rfl,h2,h4⟩,λ j u h=>?_⟩
  cases j with
  | zero=>simp at h;subst h;exact h1
  | succ j=>rw[show o+(j+1)=o+1+j by omega];exact h5 j u (by simpa using h)
inductive Dc where
 | nil
 | lit (v:Value) (r:Dc)
 | nilr (sz e:Nat) (r:Dc)
 | row (k:Option Tk) (sz e:Nat) (x:Ds) (r:Dc)
 | seg (k:Option Tk) (d:Ds) (r:Dc)
 | blk (k ver sz e:Nat) (x r:Dc)
namespace Dc
def ds:Dc->Ds
 | nil=>.nil
 | lit v r=>.lit v r.ds
 | nilr sz e r=>.row sz e .nil .nil r.ds
 | row _ sz e x r=>.row sz e x .nil r.ds
 | seg _ d r=>d.app r.ds
 | blk _ _ sz e x r=>.row sz e x.ds .nil r.ds
def app:Dc->Dc->Dc
 | nil,y=>y
 | lit v r,y=>lit v (r.app y)
 | nilr sz e r,y=>nilr sz e (r.app y)
 | row k sz e x r,y=>row k sz e x (r.app y)
 | seg k d r,y=>seg k d (r.app y)
 | blk k v sz e x r,y=>blk k v sz e x (r.app y)
def ln:Dc->Nat
 | nil=>0
 | lit _ r=>r.ln+1
 | nilr _ _ r=>r.ln+1
 | row _ _ _ _ r=>r.ln+1
 | seg _ d r=>d.len+r.ln
 | blk _ _ _ _ _ r=>r.ln+1
def tk:Nat->Dc->Option Dc
 | 0,_=>some nil
 | n+1,lit v r=>(r.tk n).map (lit v)
 | n+1,nilr sz e r=>(r.tk n).map (nilr sz e)
 | n+1,row k sz e x r=>(r.tk n).map (row k sz e x)
 | n+1,blk k v sz e x r=>(r.tk n).map (blk k v sz e x)
 | n+1,seg k d r=>match k,d with
  | none,.row sz e x s .nil=>(r.tk n).map (seg none (.row sz e x s .nil))
  | _,_=>none
 | _+1,_=>none
def dp:Nat->Dc->Option Dc
 | 0,d=>some d
 | n+1,lit _ r=>r.dp n
 | n+1,nilr _ _ r=>r.dp n
 | n+1,row _ _ _ _ r=>r.dp n
 | n+1,blk _ _ _ _ _ r=>r.dp n
 | n+1,seg k d r=>match k,d with
  | none,.row _ _ _ _ .nil=>r.dp n
  | _,_=>none
 | _+1,_=>none
theorem ds_len(d:Dc):d.ds.len=d.ln:=by
 induction d with
 | nil=>rfl
 | lit v r ih=>simp[ds,ln,Ds.len,ih]
 | nilr sz e r ih=>simp[ds,ln,Ds.len,ih]
 | row k sz e x r ih=>simp[ds,ln,Ds.len,ih]
 | seg k d r ih=>simp[ds,ln,Ds.app_len,ih]
 | blk k v sz e x r _ ih=>simp[ds,ln,Ds.len,ih]
end Dc
def Ds.hd:Nat->Ds->Option Dc
 | 0,_=>some .nil
 | n+1,.lit v r=>(r.hd n).map (.lit v)
 | n+1,.row sz e x s r=>match s with
  | .nil=>(r.hd n).map (.row none sz e x)
  | s=>(r.hd n).map (.seg none (.row sz e x s .nil))
 | _+1,_=>none
inductive AV where
 | junk
 | v (x:Value)
 | c (d:Dc)
 | agg (d:Dc)
 | bx (k off:Nat)
 | el (x:Ds)
 | nil
 | cons (a r:AV)
 | tup (l:AV)
 | fn (f:Fn) (first cap:AV)
 | ev (b o:Nat) (x:Ds)
structure St where
 env:Nat->AV
 bx:Nat->Option (Nat×Dc)
 τ:Nat->Option Nat
 fx:Nat->Option Value:=λ _=>none
structure Gh where
 st:St
 F:Mem
 w:World
 base:Nat
 fp:Tk->List Nat
 B:Nat->Nat
def Gh.Ow(g:Gh)(k:Option Tk)(d:Ds)(xs:List Value):Prop:=∀j,k=some j->g.st.τ j.1=some 0/\∃S,Own g.w g.base d xs S/\S.Nodup/\∀b∈S,b∈g.fp j
def RepC(g:Gh):Dc->List Value->Prop
 | .nil,xs=>xs=[]
 | .lit v r,xs=>v.oneCell'=true/\∃ys,xs=v :: ys/\RepC g r ys
 | .nilr _ _ r,xs=>∃ys,xs=.slice none 0 0 :: ys/\RepC g r ys
 | .row k sz e x r,xs=>x.good/\∃v ys,xs=v :: ys/\Rd g.F g.w.heap.size v sz x .nil/\g.Ow k (.row sz e x .nil .nil) [v]/\RepC g r ys
 | .seg k d r,xs=>d.good/\∃ys zs,xs=ys++zs/\Vs g.F g.w.heap.size d ys/\g.Ow k d ys/\RepC g r zs
 | .blk k ver sz e x r,xs=>x.ds.good/\ver≠0/\∃v ys,xs=v :: ys/\Rd g.F g.w.heap.size v sz x.ds .nil /\
   (∃cur,g.st.τ k=some cur/\ver<=cur/\(cur=ver->∃n zs,g.w.ownsRow g.base e sz v n zs/\RepC g x zs/\∀b,v.ownBlock=some b->b∈g.fp (k,0)/\∀o,zs.length<=o->g.F b o=none))/\RepC g r ys
def Gh.Fs(g:Gh)(b o:Nat):Option Value:=if b<g.base then U g.w b o else g.F b o
def RepV(g:Gh):AV->List Value->Prop
 | .junk,_=>True
 | .v x,xs=>xs=[x]
 | .c d,xs=>RepC g d xs
 | .agg d,xs=>∃ys,xs=[.agg ys.toArray]/\RepC g d ys
 | .bx k off,xs=>xs=[.pointer (some ⟨g.B k,off,none⟩)]/\g.st.bx k≠none
 | .el x,xs=>x.good/\∃b o ys,xs=[.pointer (some ⟨b,o,none⟩)]/\b<g.w.heap.size/\Vs g.F g.w.heap.size x ys/\∀j u,ys[j]? = some u->g.Fs b (o+j)=some u
 | .nil,xs=>xs=[]
 | .cons a r,xs=>∃y ys,xs=y :: ys/\RepV g a [y]/\RepV g r ys
 | .tup l,xs=>∃ys,xs=[.tuple ys.toArray]/\RepV g l ys
 | .fn f a b,xs=>∃ys zs,xs=[.func f ys.toArray zs.toArray]/\RepV g a ys/\RepV g b zs
 | .ev b o x,xs=>xs=[.pointer (some ⟨b,o,none⟩)]/\x.good/\b<g.w.heap.size/\∃ys,Vs g.F g.w.heap.size x ys/\∀j u,ys[j]? = some u->g.Fs b (o+j)=some u
theorem RepC.len{g:Gh}{d:Dc}:∀ {xs:List Value},RepC g d xs->xs.length=d.ln:=by
 induction d with
 | nil=>rintro xs rfl;rfl
 | lit v r ih=>rintro xs ⟨-,ys,rfl,h⟩;simp[Dc.ln,ih h]
 | nilr sz e r ih=>rintro xs ⟨ys,rfl,h⟩;simp[Dc.ln,ih h]
 | row k sz e x r ih=>rintro xs ⟨-,v,ys,rfl,-,-,h⟩;simp[Dc.ln,ih h]
 | seg k d r ih=>rintro xs ⟨-,ys,zs,rfl,h1,-,h⟩;simp[Dc.ln,ih h,h1.len]
 | blk k v sz e x r _ ih=>rintro xs ⟨-,-,v,ys,rfl,-,-,h⟩;simp[Dc.ln,ih h]
theorem Rd.one{F:Mem}{hi:Nat}{v:Value}{sz:Nat}{x s:Ds}(h:Rd F hi v sz x s):v.oneCell'=true:=by
 obtain⟨p,n,c,rfl,-⟩:=h;rfl
theorem Vs.onex{F:Mem}{hi:Nat}{x:Ds}:∀ {xs:List Value},Vs F hi x xs->x.good->∀u∈xs,u.oneCell'=true:=by
 induction x with
 | nil=>rintro xs rfl _ u hu;cases hu
 | lit v r ih =>
  rintro xs ⟨ys,rfl,h⟩ hg u hu
  rcases List.mem_cons.1 hu with rfl|hu
  ·exact hg.1
  ·exact ih h hg.2 u hu
 | row sz e x s r _ _ ih =>
  rintro xs ⟨v,ys,rfl,h1,h⟩ hg u hu
  rcases List.mem_cons.1 hu with rfl|hu
  ·exact h1.one
  ·exact ih h hg.2.2 u hu
theorem RepC.one{g:Gh}{d:Dc}:∀ {xs:List Value},RepC g d xs->∀u∈xs,u.oneCell'=true:=by
 induction d with
 | nil=>rintro xs rfl u hu;cases hu
 | lit v r ih =>
  rintro xs ⟨h0,ys,rfl,h⟩ u hu
  rcases List.mem_cons.1 hu with rfl|hu
  ·exact h0
  ·exact ih h u hu
 | nilr sz e r ih =>
  rintro xs ⟨ys,rfl,h⟩ u hu
  rcases List.mem_cons.1 hu with rfl|hu
  ·rfl
  ·exact ih h u hu
 | row k sz e x r ih =>
  rintro xs ⟨-,v,ys,rfl,h1,-,h⟩ u hu
  rcases List.mem_cons.1 hu with rfl|hu
  ·exact h1.one
  ·exact ih h u hu
 | seg k d r ih =>
  rintro xs ⟨h0,ys,zs,rfl,h1,-,h⟩ u hu
  rcases List.mem_append.1 hu with hu|hu
  ·exact h1.onex h0 u hu
  ·exact ih h u hu
 | blk k v sz e x r _ ih =>
  rintro xs ⟨-,-,v,ys,rfl,h1,-,h⟩ u hu
  rcases List.mem_cons.1 hu with rfl|hu
  ·exact h1.one
  ·exact ih h u hu
theorem Vs.app{F:Mem}{hi:Nat}{y:Ds}{ys:List Value}(hy:Vs F hi y ys){x:Ds}:∀ {xs:List Value},Vs F hi x xs->Vs F hi (x.app y) (xs++ys):=by
 induction x with
 | nil=>rintro xs rfl;exact hy
 | lit v r ih=>rintro xs ⟨zs,rfl,h⟩;exact⟨_,rfl,ih h⟩
 | row sz e x s r _ _ ih=>rintro xs ⟨v,zs,rfl,h1,h⟩;exact⟨v,_,rfl,h1,ih h⟩
theorem RepC.vs{g:Gh}{d:Dc}:∀ {xs:List Value},RepC g d xs->Vs g.F g.w.heap.size d.ds xs:=by
 induction d with
 | nil=>rintro xs rfl;rfl
 | lit v r ih=>rintro xs ⟨-,ys,rfl,h⟩;exact⟨ys,rfl,ih h⟩
 | nilr sz e r ih=>rintro xs ⟨ys,rfl,h⟩;exact⟨_,ys,rfl,Rd.none_ _ _ _,ih h⟩
 | row k sz e x r ih=>rintro xs ⟨-,v,ys,rfl,h1,-,h⟩;exact⟨v,ys,rfl,h1,ih h⟩
 | seg k d r ih=>rintro xs ⟨-,ys,zs,rfl,h1,-,h⟩;exact Vs.app (ih h) h1
 | blk k v sz e x r _ ih=>rintro xs ⟨-,-,v,ys,rfl,h1,-,h⟩;exact⟨v,ys,rfl,h1,ih h⟩
theorem RepC.good{g:Gh}{d:Dc}:∀ {xs:List Value},RepC g d xs->d.ds.good:=by
 induction d with
 | nil=>intros;trivial
 | lit v r ih=>rintro xs ⟨h0,ys,rfl,h⟩;exact⟨h0,ih h⟩
 | nilr sz e r ih=>rintro xs ⟨ys,rfl,h⟩;exact⟨trivial,trivial,ih h⟩
 | row k sz e x r ih=>rintro xs ⟨h0,v,ys,rfl,h1,-,h⟩;exact⟨h0,trivial,ih h⟩
 | seg k d r ih=>rintro xs ⟨h0,ys,zs,rfl,h1,-,h⟩;exact Ds.app_good h0 (ih h)
 | blk k v sz e x r _ ih=>rintro xs ⟨h0,-,v,ys,rfl,h1,-,h⟩;exact⟨h0,trivial,ih h⟩
theorem RepC.app{g:Gh}{y:Dc}{ys:List Value}(hy:RepC g y ys){x:Dc}:∀ {xs:List Value},RepC g x xs->RepC g (x.app y) (xs++ys):=by
 induction x with
 | nil=>rintro xs rfl;exact hy
 | lit v r ih=>rintro xs ⟨h0,zs,rfl,h⟩;exact⟨h0,_,rfl,ih h⟩
 | nilr sz e r ih=>rintro xs ⟨zs,rfl,h⟩;exact⟨_,rfl,ih h⟩
 | row k sz e x r ih=>rintro xs ⟨h0,v,zs,rfl,h1,h2,h⟩;exact⟨h0,v,_,rfl,h1,h2,ih h⟩
 | seg k d r ih=>rintro xs ⟨h0,zs,us,rfl,h1,h2,h⟩;exact⟨h0,zs,us++ys,by simp,h1,h2,ih h⟩
 | blk k v sz e x r _ ih=>rintro xs ⟨h0,h9,v,zs,rfl,h1,h2,h⟩;exact⟨h0,h9,v,_,rfl,h1,h2,ih h⟩
theorem RepC.tk{g:Gh}:∀(n:Nat) {d d':Dc} {xs:List Value},RepC g d xs->d.tk n=some d'->RepC g d' (xs.take n)
 | 0,d,d',xs,_,e=>by cases d<;>(simp[Dc.tk] at e;subst e;rfl)
 | n+1,.nil,d',xs,h,e=>by simp[Dc.tk] at e
 | n+1,.seg k d r,d',xs,⟨h0,ys,zs,e1,h1,h2,h⟩,e=>by
  simp only[Dc.tk] at e
  split at e
  ·obtain⟨r',e2,rfl⟩:=Option.map_eq_some_iff.1 e
   obtain⟨v,ys',rfl,h3,rfl⟩:=h1
   subst e1
   exact⟨h0,[v],_,rfl,⟨v,[],rfl,h3,rfl⟩,h2,RepC.tk n h e2⟩
  ·cases e
 | n+1,.lit v r,d',xs,⟨h0,ys,e1,h⟩,e=>by
  simp[Dc.tk] at e;obtain⟨r',e2,rfl⟩:=e;subst e1
  exact⟨h0,_,rfl,RepC.tk n h e2⟩
 | n+1,.nilr sz t r,d',xs,⟨ys,e1,h⟩,e=>by
  simp[Dc.tk] at e;obtain⟨r',e2,rfl⟩:=e;subst e1
  exact⟨_,rfl,RepC.tk n h e2⟩
 | n+1,.row k sz t x r,d',xs,⟨h0,v,ys,e1,h1,h2,h⟩,e=>by
  simp[Dc.tk] at e;obtain⟨r',e2,rfl⟩:=e;subst e1
  exact⟨h0,v,_,rfl,h1,h2,RepC.tk n h e2⟩
 | n+1,.blk k ver sz t x r,d',xs,⟨h0,h9,v,ys,e1,h1,h2,h⟩,e=>by
  simp[Dc.tk] at e;obtain⟨r',e2,rfl⟩:=e;subst e1
  exact⟨h0,h9,v,_,rfl,h1,h2,RepC.tk n h e2⟩
theorem RepC.dp{g:Gh}:∀(n:Nat) {d d':Dc} {xs:List Value},RepC g d xs->d.dp n=some d'->RepC g d' (xs.drop n)
 | 0,d,d',xs,h,e=>by cases d<;>(simp[Dc.dp] at e;subst e;exact h)
 | n+1,.nil,d',xs,h,e=>by simp[Dc.dp] at e
 | n+1,.seg k d r,d',xs,⟨h0,ys,zs,e1,h1,h2,h⟩,e=>by
  simp only[Dc.dp] at e
  split at e
  ·obtain⟨v,ys',rfl,h3,rfl⟩:=h1
   subst e1
   exact RepC.dp n h e
  ·cases e
 | n+1,.lit v r,d',xs,⟨h0,ys,e1,h⟩,e=>by subst e1;exact RepC.dp n h (by simpa[Dc.dp] using e)
 | n+1,.nilr sz t r,d',xs,⟨ys,e1,h⟩,e=>by subst e1;exact RepC.dp n h (by simpa[Dc.dp] using e)
 | n+1,.row k sz t x r,d',xs,⟨h0,v,ys,e1,h1,h2,h⟩,e=>by subst e1;exact RepC.dp n h (by simpa[Dc.dp] using e)
 | n+1,.blk k ver sz t x r,d',xs,⟨h0,h9,v,ys,e1,h1,h2,h⟩,e=>by subst e1;exact RepC.dp n h (by simpa[Dc.dp] using e)
theorem RepC.hd{g:Gh}:∀(n:Nat) {x:Ds} {d:Dc} {xs:List Value},x.good->Vs g.F g.w.heap.size x xs->x.hd n=some d->RepC g d (xs.take n)
 | 0,x,d,xs,_,_,e=>by cases x<;>(simp[Ds.hd] at e;subst e;rfl)
 | n+1,.nil,d,xs,_,h,e=>by simp[Ds.hd] at e
 | n+1,.lit v r,d,xs,hg,⟨ys,e1,h⟩,e=>by
  simp[Ds.hd] at e;obtain⟨r',e2,rfl⟩:=e;subst e1
  exact⟨hg.1,_,rfl,RepC.hd n hg.2 h e2⟩
 | n+1,.row sz t x s r,d,xs,hg,⟨v,ys,e1,h1,h⟩,e=>by
  simp only[Ds.hd] at e
  subst e1
  split at e
  ·obtain⟨r',e2,rfl⟩:=Option.map_eq_some_iff.1 e
   exact⟨hg.1,v,_,rfl,h1,λ _ e=>(by cases e),RepC.hd n hg.2.2 h e2⟩
  ·obtain⟨r',e2,rfl⟩:=Option.map_eq_some_iff.1 e
   exact⟨⟨hg.1,hg.2.1,trivial⟩,[v],_,rfl,⟨v,[],rfl,h1,rfl⟩,λ _ e=>(by cases e),RepC.hd n hg.2.2 h e2⟩
structure Tr (g g':Gh):Prop where
 F:∀b o v,b<g.w.heap.size->g.F b o=some v->g'.F b o=some v
 size:g.w.heap.size<=g'.w.heap.size
 base:g'.base=g.base
 old:∀b,b<g.base->g'.w.heap[b]? = g.w.heap[b]?
 Fo:∀b o,b<g.base->g'.F b o=g.F b o
 bx:∀k,g.st.bx k≠none->g'.st.bx k≠none/\g'.B k=g.B k
 tok:∀k ver,g.st.τ k=some ver->(g'.st.τ k=some ver/\∀j b,b∈g.fp (k,j)->b∈g'.fp (k,j)/\g'.w.heap[b]? = g.w.heap[b]?/\∀o,g.F b o=none->g'.F b o=none)∨(ver≠0/\∃v',g'.st.τ k=some v'/\ver<v')
theorem Gh.Ow.tr{g g':Gh}(ht:Tr g g'){k:Option Tk}{d:Ds}{xs:List Value}(h:g.Ow k d xs):g'.Ow k d xs:=by
 intro j e
 obtain⟨h0,S,h1,h2,h3⟩:=h j e
 rcases ht.tok _ _ h0 with ⟨h4,h5⟩|⟨h4,-⟩
 ·refine⟨h4,S,?_,h2,λ b hb=>(h5 j.2 b (h3 b hb)).1⟩
  rw[ht.base]
  exact h1.kept λ b hb=>(h5 j.2 b (h3 b hb)).2.1
 ·exact absurd rfl h4
theorem Z7{w w':World}{base e size n:Nat}{v:Value}{xs:List Value}(h:w.ownsRow base e size v n xs)(hk:∀b,v.ownBlock=some b->w'.heap[b]? = w.heap[b]?):w'.ownsRow base e size v n xs:=by
 rcases h with ⟨h1,h2|⟨g,cap,cur,rfl,h3,h4,h5⟩⟩
 ·exact⟨h1,.inl h2⟩
 ·exact⟨h1,.inr ⟨g,cap,cur,rfl,h3,(hk g rfl).trans h4,h5⟩⟩
theorem RepC.tr{g g':Gh}(ht:Tr g g'){d:Dc}:∀ {xs:List Value},RepC g d xs->RepC g' d xs:=by
 have hF:∀b o v,b<g.w.heap.size->g.F b o=some v->g'.F b o=some v:=ht.F
 induction d with
 | nil=>intro xs h;exact h
 | lit v r ih=>rintro xs ⟨h0,ys,rfl,h⟩;exact⟨h0,ys,rfl,ih h⟩
 | nilr sz e r ih=>rintro xs ⟨ys,rfl,h⟩;exact⟨ys,rfl,ih h⟩
 | row k sz e x r ih=>rintro xs ⟨h0,v,ys,rfl,h1,h2,h⟩;exact⟨h0,v,ys,rfl,h1.mono hF ht.size,h2.tr ht,ih h⟩
 | seg k d r ih=>rintro xs ⟨h0,ys,zs,rfl,h1,h2,h⟩;exact⟨h0,ys,zs,rfl,h1.mono hF ht.size,h2.tr ht,ih h⟩
 | blk k ver sz e x r ihx ih =>
  rintro xs ⟨h0,h9,v,ys,rfl,h1,⟨cur,h2,h3,h4⟩,h⟩
  refine⟨h0,h9,v,ys,rfl,h1.mono hF ht.size,?_,ih h⟩
  rcases ht.tok _ _ h2 with ⟨h5,h6⟩|⟨-,v',h5,h6⟩
  ·refine⟨cur,h5,h3,λ e=>?_⟩
   obtain⟨n,zs,h7,h8,h9⟩:=h4 e
   refine⟨n,zs,?_,ihx h8,λ b hb=>?_⟩
   ·rw[ht.base]
    exact Z7 h7 λ b hb=>(h6 0 b (h9 b hb).1).2.1
   ·obtain⟨h10,h11⟩:=h9 b hb
    exact⟨(h6 0 b h10).1,λ o ho=>(h6 0 b h10).2.2 o (h11 o ho)⟩
  ·exact⟨v',h5,by omega,λ e=>by omega⟩
theorem RepV.tr{g g':Gh}(ht:Tr g g'){a:AV}:∀ {xs:List Value},RepV g a xs->RepV g' a xs:=by
 induction a with
 | junk=>intro xs h;exact h
 | v x=>intro xs h;exact h
 | c d=>intro xs h;exact RepC.tr ht h
 | agg d=>rintro xs ⟨ys,rfl,h⟩;exact⟨ys,rfl,h.tr ht⟩
 | bx k o=>rintro xs ⟨rfl,h⟩;exact⟨by rw[(ht.bx k h).2],(ht.bx k h).1⟩
 | el x =>
  rintro xs ⟨h0,b,o,ys,rfl,hb,h1,h2⟩
  refine⟨h0,b,o,ys,rfl,Nat.lt_of_lt_of_le hb ht.size,h1.mono ht.F ht.size,λ j u hu=>?_⟩
  have h3:=h2 j u hu
  unfold Gh.Fs at h3 ⊢
  rw[ht.base]
  split
  ·rename_i hl
   rw[if_pos hl] at h3
   exact (eW (ht.old b hl) _).trans h3
  ·rename_i hl
   rw[if_neg hl] at h3
   exact ht.F _ _ _ hb h3
 | nil=>intro xs h;exact h
 | cons a r iha ihr=>rintro xs ⟨y,ys,rfl,h1,h2⟩;exact⟨y,ys,rfl,iha h1,ihr h2⟩
 | tup l ih=>rintro xs ⟨ys,rfl,h⟩;exact⟨ys,rfl,ih h⟩
 | fn f a b iha ihb=>rintro xs ⟨ys,zs,rfl,h1,h2⟩;exact⟨ys,zs,rfl,iha h1,ihb h2⟩
 | ev b o x =>
  rintro xs ⟨rfl,h0,hb,ys,h1,h2⟩
  refine⟨rfl,h0,Nat.lt_of_lt_of_le hb ht.size,ys,h1.mono ht.F ht.size,λ j u hu=>?_⟩
  have h3:=h2 j u hu
  unfold Gh.Fs at h3 ⊢
  rw[ht.base]
  split
  ·rename_i hl
   rw[if_pos hl] at h3
   exact (eW (ht.old b hl) _).trans h3
  ·rename_i hl
   rw[if_neg hl] at h3
   exact ht.F _ _ _ hb h3
theorem RepV.ev_el{g:Gh}{b o:Nat}{x:Ds}{xs:List Value}(h:RepV g (.ev b o x) xs):RepV g (.el x) xs:=by
 obtain⟨rfl,h0,hb,ys,h1,h2⟩:=h
 exact⟨h0,b,o,ys,rfl,hb,h1,h2⟩
end
section
inductive Sh where
 | st (fs:List (Nat×Nat))
 | sl (e:Nat)
 | int (k:IntKind)
 | str
 | arr
 | bo
 | oth
def yE:TypeDesc->Sh
 | .struct fs=>.st (fs.toList.map λ f=>(f.offset,f.type))
 | .slice e=>.sl e
 | .int k=>.int k
 | .string=>.str
 | .array _ _=>.arr
 | .bool=>.bo
 | _=>.oth
structure Ty where
 sh:Sh
 size:Nat
 bytes:Nat
 zval:Value
 zero:Dc
abbrev TB:=Nat->Option Ty
def Dc.zs:Dc->Option (List Value)
 | .nil=>some []
 | .lit v r=>if v.oneCell' then r.zs.map (v :: ·) else none
 | .nilr _ _ r=>r.zs.map (.slice none 0 0 :: ·)
 | _=>none
def TyOk(P:Program)(T:Nat)(y:Ty):Prop :=
 (P.underlying T).map yE=some y.sh/\(P.info? T).map (λ i=>(i.zero,i.size,i.bytes))=some (some y.zval,y.size,y.bytes)/\y.zero.zs=some y.zval.cells.toList/\y.zval.cells.size=y.size/\y.bytes<=1000
def jE(P:Program)(tb:TB):Prop:=∀T y,tb T=some y->TyOk P T y
theorem RepC.zero{g:Gh}:∀ {d:Dc} {xs:List Value},d.zs=some xs->RepC g d xs:=by
 intro d
 induction d with
 | nil=>intro xs h;simp[Dc.zs] at h;subst h;rfl
 | lit v r ih =>
  intro xs h
  simp only[Dc.zs] at h
  split at h
  ·rename_i h0
   simp at h
   obtain⟨ys,h1,rfl⟩:=h
   exact⟨h0,ys,rfl,ih h1⟩
  ·cases h
 | nilr sz e r ih =>
  intro xs h
  simp[Dc.zs] at h
  obtain⟨ys,h1,rfl⟩:=h
  exact⟨ys,rfl,ih h1⟩
 | row k sz e x r _=>intro xs h;simp[Dc.zs] at h
 | seg k d r _=>intro xs h;simp[Dc.zs] at h
 | blk k v sz e x r _ _=>intro xs h;simp[Dc.zs] at h
def AV.vals:AV->Option (List Value)
 | .nil=>some []
 | .cons (.v x) r=>r.vals.map (x :: ·)
 | .cons (.ev b o _) r=>r.vals.map (.pointer (some ⟨b,o,none⟩) :: ·)
 | _=>none
def asC(tb:TB)(T:Nat):AV->Option (Prop×Dc)
 | .v x=>match tb T with
  | some { sh:=.sl e,.. }=>match tb e with
   | some y=>match x with
    | .slice none 0 0=>some (True,.nilr y.size e .nil)
    | .slice (some a) n c=>some (True,.lit (.slice (some a) n c) .nil)
    | _=>none
   | none=>none
  | _=>some (x.oneCell'=true,.lit x .nil)
 | .c d=>some (True,d)
 | .agg d=>some (True,d)
 | .fn f a b=>match a.vals,b.vals with
  | some x,some y=>some (True,.lit (.func f x.toArray y.toArray) .nil)
  | _,_=>none
 | _=>none
def Dc.sing:Dc->AV
 | .lit v .nil=>.v v
 | d=>.c d
def Dc.cont:Dc->Option (Nat×Ds)
 | .nilr sz _ .nil=>some (sz,.nil)
 | .row _ sz _ x .nil=>some (sz,x)
 | .blk _ _ sz _ x .nil=>some (sz,x.ds)
 | .seg none (.row sz _ x _ .nil) .nil=>some (sz,x)
 | _=>none
def AV.room:AV->Option (Nat×Ds×Ds)
 | .c (.blk _ _ sz _ x .nil)=>some (sz,x.ds,.nil)
 | .c (.seg none (.row sz _ x s .nil) .nil)=>some (sz,x,s)
 | _=>none
def AV.cont:AV->Option (Nat×Ds)
 | .c d=>d.cont
 | _=>none
def mI(tb:TB)(S f:Nat):Option (Nat×Nat×Ty) :=
 match tb S with
 | some { sh:=.st fs,.. }=>match fs[f]? with
  | some (o,T)=>(tb T).map λ y=>(o,T,y)
  | none=>none
 | _=>none
def Dc.over(d:Dc)(o:Nat)(p:Dc):Option Dc :=
 match d.tk o,d.dp (o+p.ln) with
 | some a,some b=>some (a.app (p.app b))
 | _,_=>none
def rO(tb:TB)(S:Nat)(ρ:Operand->AV):List (Nat×Operand)->Dc->Option (Prop×Dc)
 | [],d=>some (True,d)
 | (f,x) :: ps,d=>match mI tb S f with
  | some (o,T,y)=>match asC tb T (ρ x) with
   | some (c,p)=>match d.over o p with
    | some d'=>(rO tb S ρ ps d').map λ r=>((c/\p.ln=y.size)/\r.1,r.2)
    | none=>none
   | none=>none
  | none=>none
def yF(tb:TB)(e sz:Nat)(ρ:Operand->AV):Nat->List (Nat×Operand)->Option (Prop×Dc)
 | _,[]=>some (True,.nil)
 | i,(j,x) :: ps=>if i=j then match asC tb e (ρ x) with
   | some (c,p)=>(yF tb e sz ρ (i+1) ps).map λ r=>((c/\p.ln=sz)/\r.1,p.app r.2)
   | none=>none
  else none
def abin:BinOp->Value->Value->Option Value
 | .add,.int k a,.int k' b=>if k=k' then some (.int k (k.wrap (a+b))) else none
 | .sub,.int k a,.int k' b=>if k=k' then some (.int k (k.wrap (a-b))) else none
 | .mul,.int k a,.int k' b=>if k=k' then some (.int k (k.wrap (a*b))) else none
 | .quo,.int k a,.int k' b=>if k=k'/\b≠0 then some (.int k (k.wrap (a.tdiv b))) else none
 | .rem,.int k a,.int k' b=>if k=k'/\b≠0 then some (.int k (a.tmod b)) else none
 | .eql,.int k a,.int k' b=>if k=k' then some (.bool (a == b)) else none
 | .neq,.int k a,.int k' b=>if k=k' then some (.bool (a != b)) else none
 | .lss,.int k a,.int k' b=>if k=k' then some (.bool (decide (a<b))) else none
 | .leq,.int k a,.int k' b=>if k=k' then some (.bool (decide (a<=b))) else none
 | .gtr,.int k a,.int k' b=>if k=k' then some (.bool (decide (b<a))) else none
 | .geq,.int k a,.int k' b=>if k=k' then some (.bool (decide (b<=a))) else none
 | _,_,_=>none
@[simp] def aboolV:BinOp->Value->Value->Option Bool
 | .eql,.bool a,.bool b=>some (a == b)
 | _,_,_=>none
def AV.nth:AV->Nat->Option AV
 | .cons a _,0=>some a
 | .cons _ r,n+1=>r.nth n
 | _,_=>none
def AV.list:List AV->AV
 | []=>.nil
 | a :: r=>.cons a (AV.list r)
structure Out where
 av:AV
 bu:Option (Nat×Nat×Dc):=none
 tu:Option (Nat×Nat):=none
def lo? : Option AV->Option Nat->Option (Prop×Nat)
 | none,some d=>some (True,d)
 | some (.v (.int _ n)),_=>some (0<=n,n.toNat)
 | _,_=>none
def oK(tb:TB)(ρ:Operand->AV)(T:Nat)(x:Operand)(lo hi mx:Option Operand):Option (Prop×Out) :=
 match mx with
 | some _=>none
 | none=>match tb T with
  | some { sh:=.sl e,.. }=>match tb e with
   | some y=>match lo,(ρ x).room with
    | none,some (sz,d,s)=>match lo? (hi.map ρ) (some (d.len / sz)) with
     | some (c,h)=>some (c/\sz=y.size/\0<sz/\h*sz<=d.len+s.len,{ av:=.c (.seg none (.row sz e ((d.app s).tk (h*sz)) ((d.app s).dp (h*sz)) .nil) .nil) })
     | none=>none
    | lo,_=>match (ρ x).cont with
     | some (sz,d)=>match lo? (lo.map ρ) (some 0),lo? (hi.map ρ) (some (d.len / sz)) with
      | some (c1,l),some (c2,h)=>some (c1/\c2/\sz=y.size/\0<sz/\l<=h/\h*sz<=d.len,{ av:=.c (.row none sz e ((d.dp (l*sz)).tk ((h-l)*sz)) .nil) })
      | _,_=>none
     | none=>none
   | none=>none
  | _=>none
def FB(tb:TB)(ρ:Operand->AV)(nm T:Nat)(x y:Operand):Option (Prop×Out) :=
 match tb T with
 | some { sh:=.sl e,.. }=>match tb e with
  | some z=>match ρ x,ρ y with
   | .v (.int _ n),.v (.int _ c)=>some (n=0/\0<=c/\c<=100000000000/\0<z.size,{ av:=.c (.blk nm 1 z.size e .nil .nil),tu:=some (nm,1) })
   | _,_=>none
  | none=>none
 | _=>none
def jP(tb:TB)(ρ:Operand->AV)(c:Call):Option (Prop×Out) :=
 match c.callee with
 | .builtin .len=>match c.args.toList,c.argTypes.toList with
  | [x],[T]=>match tb T with
   | some { sh:=.sl _,.. }=>match ρ x with
    | .v (.slice none 0 0)=>some (True,{ av:=.v (.int .i64 0) })
    | .v (.slice (some _) n _)=>some (True,{ av:=.v (.int .i64 n) })
    | .c d=>match d.cont with
     | some (sz,d)=>some (0<sz,{ av:=.v (.int .i64 ((d.len / sz:Nat):Int)) })
     | none=>none
    | _=>none
   | _=>none
  | _,_=>none
 | .builtin .max=>match c.args.toList with
  | [x,y]=>match ρ x,ρ y with
   | .v (.int k a),.v (.int _ b)=>some (True,{ av:=.v (.int k (if b>a then b else a)) })
   | _,_=>none
  | _=>none
 | _=>none
def K0:Nat:=100000000000
@[simp] def abool (tb:TB) (op:BinOp) (T:Nat) (a b:Value):Option (Prop×Out) :=
 match aboolV op a b,tb T with
 | some t,some { sh:=.bo,.. }=>some (True,{ av:=.v (.bool t) })
 | _,_=>none
def jO(tb:TB)(ρ:Operand->AV)(cont:Option (Nat×Dc))(nm:Nat):Op->Option (Prop×Out)
 | .move x=>some (True,{ av:=ρ x })
 | .assign x=>some (True,{ av:=ρ x })
 | .pick c a b=>match ρ c with
  | .v (.bool t)=>some (True,{ av:=if t then ρ a else ρ b })
  | _=>none
 | .alloc T=>(tb T).map λ y=>(True,{ av:=.bx nm 0,bu:=some (nm,T,y.zero) })
 | .box T x=>(asC tb T (ρ x)).map λ r=>(r.1,{ av:=.bx nm 0,bu:=some (nm,T,r.2) })
 | .build T ps=>match tb T with
  | some { sh:=.st fs,zero:=z,.. }=>(rO tb T ρ ps.toList z).map λ r=>((fs.all λ f=>(tb f.2).isSome)=true/\r.1,{ av:=.agg r.2 })
  | _=>none
 | .buildSlice T n ps=>match tb T with
  | some { sh:=.sl e,.. }=>match tb e with
   | some y=>(yF tb e y.size ρ 0 ps.toList).map λ r=>((0<y.size/\n*y.size<=10000/\n=ps.toList.length)/\r.1,{ av:=.c (.blk nm 1 y.size e r.2 .nil),tu:=some (nm,1) })
   | none=>none
  | _=>none
 | .load T a=>match tb T with
  | some y=>match ρ a with
   | .bx _ off=>match cont with
    | some (_,d)=>match d.dp off with
     | some d1=>match d1.tk y.size with
      | some d2=>match y.sh with
       | .st _=>some (True,{ av:=.agg d2 })
       | .arr=>none
       | _=>some (y.size=1,{ av:=d2.sing })
      | none=>none
     | none=>none
    | none=>none
   | .el x=>match x.hd y.size with
    | some d2=>match y.sh with
     | .st _=>some (True,{ av:=.agg d2 })
     | .arr=>none
     | _=>some (y.size=1,{ av:=d2.sing })
    | none=>none
   | .ev _ _ x=>match x.hd y.size with
    | some d2=>match y.sh with
     | .st _=>some (True,{ av:=.agg d2 })
     | .arr=>none
     | _=>some (y.size=1,{ av:=d2.sing })
    | none=>none
   | _=>none
  | none=>none
 | .nilCheck x=>match ρ x with
  | .bx k o=>some (True,{ av:=.bx k o })
  | .el x=>some (True,{ av:=.el x })
  | .ev _ _ x=>some (True,{ av:=.el x })
  | _=>none
 | .fieldAddr S x f=>match mI tb S f with
  | some (o,_,y)=>match ρ x with
   | .bx k off=>some (y.size≠0,{ av:=.bx k (off+o) })
   | .el x=>some (y.size≠0,{ av:=.el (x.dp o) })
   | .ev _ _ x=>some (y.size≠0,{ av:=.el (x.dp o) })
   | _=>none
  | none=>none
 | .field S x f=>match mI tb S f with
  | some (o,_,y)=>match ρ x with
   | .agg d=>match d.dp o with
    | some d1=>match d1.tk y.size with
     | some d2=>match y.sh with
      | .st _=>some (True,{ av:=.agg d2 })
      | .arr=>none
      | _=>some (y.size=1,{ av:=d2.sing })
     | none=>none
    | none=>none
   | _=>none
  | none=>none
 | .indexAddr T x i=>match tb T with
  | some { sh:=.sl e,.. }=>match tb e with
   | some y=>match (ρ x).cont,ρ i with
    | some (sz,d),.v (.int _ n)=>some (sz=y.size/\0<sz/\0<=n/\(n.toNat+1)*sz<=d.len,{ av:=.el (d.dp (n.toNat*sz)) })
    | _,_=>none
   | none=>none
  | _=>none
 | .extract t i=>match ρ t with
  | .tup l=>(l.nth i).map λ a=>(True,{ av:=a })
  | _=>none
 | .binOp op T x y _=>match ρ x,ρ y with
  | .v a,.v b=>match abin op a b with
   | some v=>some (True,{ av:=.v v })
   | none=>abool tb op T a b
  | _,_=>none
 | .unOp op _ x=>match op,ρ x with
  | .not,.v (.bool t)=>some (True,{ av:=.v (.bool (!t)) })
  | .neg,.v (.int k n)=>some (True,{ av:=.v (.int k (k.wrap (-n))) })
  | _,_=>none
 | .convert s t x=>match tb t with
  | some { sh:=.int k,.. }=>match ρ x with
   | .v (.int _ n)=>some ((tb s).isSome=true,{ av:=.v (.int k (k.wrap n)) })
   | _=>none
  | _=>none
 | .makeFunc f a c=>some (True,{ av:=.fn f (.list (a.toList.map ρ)) (.list (c.toList.map ρ)) })
 | .slice T x lo hi mx=>oK tb ρ T x lo hi mx
 | .makeSlice T x y=>FB tb ρ nm T x y
 | .call c=>jP tb ρ c
 | _=>none
end
section
structure Inv (g:Gh):Prop where
 F:∀b o v,g.F b o=some v->U g.w b o=some v
 base:g.base<=g.w.heap.size
 box:∀k T d,g.st.bx k=some (T,d)->g.base<=g.B k/\(∀o,g.F (g.B k) o=none)/\∃xs,g.w.heap[g.B k]? = some (.cells xs.toArray T (0,0))/\RepC g d xs
 inj:∀k k',g.st.bx k≠none->g.st.bx k'≠none->g.B k=g.B k'->k=k'
 fpb:∀k j b,g.st.τ k≠none->b∈g.fp (k,j)->g.base<=b/\b<g.w.heap.size/\∀i,g.st.bx i≠none->b≠g.B i
 fpd:∀k k' b,g.st.τ k.1≠none->g.st.τ k'.1≠none->b∈g.fp k->b∈g.fp k'->k=k'
def upd{α:Type}(f:Nat->Option α)(k:Nat)(x:α):Nat->Option α:=λ n=>if n=k then some x else f n
def oC{α:Type}(f:Nat->Option α):Option (Nat×α)->Nat->Option α
 | none=>f
 | some (k,x)=>upd f k x
structure Ext (g g':Gh) (o:Out):Prop where
 inv:Inv g'
 tr:Tr g g'
 below:Below g.base g.w g'.w
 bx:g'.st.bx=oC g.st.bx o.bu
 τ:g'.st.τ=oC g.st.τ o.tu
theorem Tr.refl(g:Gh):Tr g g:=⟨fun _ _ _ _ h=>h,Nat.le_refl _,rfl,λ _ _=>rfl,λ _ _ _=>rfl,λ _ h=>⟨h,rfl⟩,λ _ _ h=>.inl ⟨h,λ _ _ hb=>⟨hb,rfl,λ _ h=>h⟩⟩⟩
theorem Tr.trans{a b c:Gh}(h:Tr a b)(k:Tr b c):Tr a c where
 F:=λ b o v hb hv=>k.F _ _ _ (Nat.lt_of_lt_of_le hb h.size) (h.F _ _ _ hb hv)
 size:=Nat.le_trans h.size k.size
 base:=k.base.trans h.base
 old:=λ b hb=>(k.old b (by rw[h.base];exact hb)).trans (h.old b hb)
 Fo:=λ b o hb=>(k.Fo b o (by rw[h.base];exact hb)).trans (h.Fo b o hb)
 bx:=λ n hn=>⟨(k.bx n (h.bx n hn).1).1,(k.bx n (h.bx n hn).1).2.trans (h.bx n hn).2⟩
 tok:=λ n ver hv=>by
  rcases h.tok n ver hv with ⟨h1,h2⟩|⟨h1,v',h2,h3⟩
  ·rcases k.tok n ver h1 with ⟨h4,h5⟩|h4
   ·exact .inl ⟨h4,λ j b hb=>⟨(h5 j b (h2 j b hb).1).1,((h5 j b (h2 j b hb).1).2.1).trans (h2 j b hb).2.1,λ o ho=>(h5 j b (h2 j b hb).1).2.2 o ((h2 j b hb).2.2 o ho)⟩⟩
   ·exact .inr h4
  ·rcases k.tok n v' h2 with ⟨h4,-⟩|⟨-,v2,h4,h5⟩
   ·exact .inr ⟨h1,v',h4,h3⟩
   ·exact .inr ⟨h1,v2,h4,by omega⟩
theorem Ext.same{g:Gh}(hI:Inv g){o:Out}(h1:o.bu=none)(h2:o.tu=none):Ext g g o:=⟨hI,Tr.refl g,Below.refl _ _,by rw[h1];rfl,by rw[h2];rfl⟩
theorem dU{P:Program}{tb:TB}(hT:jE P tb){T:Nat}{y:Ty}(h:tb T=some y):∃i d,P.info? T=some i/\P.underlying T=some d/\yE d=y.sh/\i.zero=some y.zval/\i.size=y.size/\i.bytes=y.bytes/\y.zero.zs=some y.zval.cells.toList/\y.zval.cells.size=y.size/\y.bytes<=1000:=by
 obtain⟨h1,h2,h3,h4,h5⟩:=hT T y h
 cases hi:P.info? T with
 | none=>simp[hi] at h2
 | some i =>
  cases hu:P.underlying T with
  | none=>simp[hu] at h1
  | some d =>
   simp[hi] at h2
   simp[hu] at h1
   exact⟨i,d,rfl,rfl,h1,h2.1,h2.2.1,h2.2.2,h3,h4,h5⟩
theorem KM{d:TypeDesc}{fs:List (Nat×Nat)}(h:yE d=.st fs):∃gs:Array Field,d=.struct gs/\fs=gs.toList.map λ f=>(f.offset,f.type):=by
 cases d<;>simp[yE] at h
 exact⟨_,rfl,h.symm⟩
theorem A9{d:TypeDesc}{e:Nat}(h:yE d=.sl e):d=.slice e:=by
 cases d<;>simp[yE] at h
 rw[h]
theorem sh_bo{d:TypeDesc}(h:yE d=.bo):d=.bool:=by
 cases d<;>simp[yE] at h
 rfl
theorem sh_int{d:TypeDesc}{k:IntKind}(h:yE d=.int k):d=.int k:=by
 cases d<;>simp[yE] at h
 rw[h]
theorem QZ{d:TypeDesc}{s:Sh}(h:yE d=s)(h1:∀fs,s≠.st fs)(h2:s≠.arr):d.isRow=false:=by
 cases d<;>simp[yE,TypeDesc.isRow] at h ⊢
 ·exact h2 h.symm
 ·exact h1 _ h.symm
theorem oQ{P:Program}{s:Sem Value}{w w':World}{v:Value}(h:s.run P w=.ok v w'):(do pure (Next.value (<-s)):Sem Next).run P w=.ok (.value v) w':=by simp[h]
theorem getElem?_slice{xs:List Value}{o n j:Nat}{u:Value}(h:((xs.drop o).take n)[j]? = some u):xs[o+j]? = some u:=by
 rw[List.getElem?_take] at h
 split at h
 ·rwa [List.getElem?_drop] at h
 ·cases h
theorem C3{P:Program}{tb:TB}(hT:jE P tb){T:Nat}{y:Ty}(hy:tb T=some y){w:World}{b o:Nat}{cs:List Value}(hc:w.rangeAt b o cs)(hl:cs.length=y.size) :
  (∀fs,y.sh=.st fs->(Instr.loadAt T (.pointer (some ⟨b,o,none⟩))).run P w=.ok (.agg cs.toArray) w) /\
  ((∀fs,y.sh≠.st fs)->y.sh≠.arr->∀v,cs=[v]->(Instr.loadAt T (.pointer (some ⟨b,o,none⟩))).run P w=.ok v w):=by
 obtain⟨i,d,h1,h2,h3,-,h4,-⟩:=dU hT hy
 refine⟨fun fs hs=>?_,λ h5 h6 v hv=>?_⟩
 ·obtain⟨gs,rfl,-⟩:=KM (h3.trans hs)
  exact run_loadAt_mid w b o T cs _ hc h2 rfl (by rw[h1,hl,<-h4];rfl)
 ·have hr:=QZ h3 h5 h6
  have hc0:=hc 0 v (by rw[hv];rfl)
  simp only[Nat.add_zero] at hc0
  have hagg:(isAgg T).run P w=.ok false w:=by
   unfold isAgg
   rw[Sem.run_bind,run_underlying h2 w]
   cases d<;>simp_all [TypeDesc.isRow]
  simp[Instr.loadAt,Instr.sureAddr,loadVar,hagg,hc0]
theorem RepC.sing{g:Gh}{d:Dc}{v:Value}(h:RepC g d [v]):RepV g d.sing [v]:=by
 unfold Dc.sing
 split
 ·obtain⟨-,ys,e,h⟩:=h
  cases h
  exact e
 ·exact h
theorem RepC.one_of{g:Gh}{d:Dc}{xs:List Value}(h:RepC g d xs)(hl:xs.length=1):∃v,xs=[v]:=by
 match xs,hl with
 | [v],_=>exact⟨v,rfl⟩
theorem Inv.lt{g:Gh}(hI:Inv g):∀b o v,g.F b o=some v->b<g.w.heap.size:=λ b o v h=>aL (hI.F b o v h)
theorem Inv.fs{g:Gh}(hI:Inv g){b o:Nat}{v:Value}(h:g.Fs b o=some v):U g.w b o=some v:=by
 unfold Gh.Fs at h
 split at h
 ·exact h
 ·exact hI.F _ _ _ h
theorem AV.vals_eq{g:Gh}:∀ {a:AV} {xs ys:List Value},RepV g a xs->a.vals=some ys->xs=ys
 | .nil,xs,ys,h,e=>by cases h;cases e;rfl
 | .cons (.v x) r,xs,ys,⟨y,zs,e0,h1,h2⟩,e=>by
  simp only[AV.vals] at e
  obtain⟨us,e1,rfl⟩:=Option.map_eq_some_iff.1 e
  have h1 : [y]=[x]:=h1
  cases h1
  rw[e0,AV.vals_eq h2 e1]
 | .cons (.ev b o x) r,xs,ys,⟨y,zs,e0,h1,h2⟩,e=>by
  simp only[AV.vals] at e
  obtain⟨us,e1,rfl⟩:=Option.map_eq_some_iff.1 e
  have h1 : [y]=[.pointer (some ⟨b,o,none⟩)]:=h1.1
  cases h1
  rw[e0,AV.vals_eq h2 e1]
 | .junk,_,_,_,e=>by cases e
 | .v _,_,_,_,e=>by cases e
 | .c _,_,_,_,e=>by cases e
 | .agg _,_,_,_,e=>by cases e
 | .bx _ _,_,_,_,e=>by cases e
 | .el _,_,_,_,e=>by cases e
 | .tup _,_,_,_,e=>by cases e
 | .fn _ _ _,_,_,_,e=>by cases e
 | .ev _ _ _,_,_,_,e=>by cases e
 | .cons .junk _,_,_,_,e=>by cases e
 | .cons (.c _) _,_,_,_,e=>by cases e
 | .cons (.agg _) _,_,_,_,e=>by cases e
 | .cons (.bx _ _) _,_,_,_,e=>by cases e
 | .cons (.el _) _,_,_,_,e=>by cases e
 | .cons .nil _,_,_,_,e=>by cases e
 | .cons (.cons _ _) _,_,_,_,e=>by cases e
 | .cons (.tup _) _,_,_,_,e=>by cases e
 | .cons (.fn _ _ _) _,_,_,_,e=>by cases e
theorem yS{tb:TB}{g:Gh}{T:Nat}{a:AV}{v:Value}{c:Prop}{d:Dc}(ha:RepV g a [v])(h:asC tb T a=some (c,d))(hc:c):RepC g d v.cells.toList:=by
 unfold asC at h
 cases a with
 | v x =>
  obtain rfl:v=x:=by simpa[RepV] using ha
  simp only at h
  split at h
  ·split at h
   ·split at h
    ·cases h;exact⟨[],rfl,rfl⟩
    ·cases h;exact⟨rfl,[],rfl,rfl⟩
    ·cases h
   ·cases h
  ·cases h
   have e:v.cells.toList=[v]:=by cases v<;>first|rfl|(simp[Value.oneCell'] at hc)
   rw[e]
   exact⟨hc,[],rfl,rfl⟩
 | c x =>
  simp at h
  obtain⟨-,rfl⟩:=h
  have ha:RepC g x [v]:=ha
  have h1:=ha.one v (by simp)
  have e:v.cells.toList=[v]:=by cases v<;>first|rfl|(simp[Value.oneCell'] at h1)
  rw[e];exact ha
 | agg x =>
  simp at h
  obtain⟨-,rfl⟩:=h
  obtain⟨ys,e,h1⟩:=ha
  obtain rfl:v=.agg ys.toArray:=by simpa using e
  simpa[Value.cells] using h1
 | junk=>cases h
 | bx k o=>cases h
 | el x=>cases h
 | nil=>cases h
 | cons x y=>cases h
 | tup l=>cases h
 | fn f x y =>
  simp only at h
  split at h
  ·rename_i us ws e1 e2
   cases h
   obtain⟨ys,zs,e,h1,h2⟩:=ha
   have e:v=.func f ys.toArray zs.toArray:=by simpa using e
   subst e
   rw[AV.vals_eq h1 e1,AV.vals_eq h2 e2]
   exact⟨rfl,[],rfl,rfl⟩
  ·cases h
 | ev b o x=>cases h
theorem Inv.newBox{g:Gh}(hI:Inv g){nm T:Nat}{d:Dc}{xs:List Value}(hd:RepC g d xs)(hn:g.st.bx nm=none) :
  ∃g':Gh,Inv g'/\Tr g g'/\Below g.base g.w g'.w/\g'.w=g.w.alloc (.cells xs.toArray T)/\g'.st.bx=upd g.st.bx nm (T,d)/\g'.st.τ=g.st.τ/\g'.B nm=g.w.heap.size:=by
 have hs:(g.w.alloc (.cells xs.toArray T)).heap.size=g.w.heap.size+1:=by simp
 have hb:=aA g.w (.cells xs.toArray T)
 let g':Gh:={ g with st:={ g.st with bx:=upd g.st.bx nm (T,d) },w:=g.w.alloc (.cells xs.toArray T),B:=λ k=>if k=nm then g.w.heap.size else g.B k }
 have hB:∀k,g.st.bx k≠none->g'.st.bx k=g.st.bx k/\g'.B k=g.B k:=λ k hk=>by
  have:k≠nm:=λ e=>hk (e ▸ hn)
  exact⟨if_neg this,if_neg this⟩
 have ht:Tr g g':=⟨fun _ _ _ _ h=>h,by show _<=(g.w.alloc _).heap.size;omega,rfl,λ b hb'=>hb.block b (Nat.lt_of_lt_of_le hb' hI.base),λ _ _ _=>rfl,λ k hk=>⟨by rw[(hB k hk).1];exact hk,(hB k hk).2⟩,
  fun k ver hv=>.inl ⟨hv,λ j b hb'=>⟨hb',hb.block b (hI.fpb k j b (by rw[hv];simp) hb').2.1,λ _ h=>h⟩⟩⟩
 have hnm:g'.B nm=g.w.heap.size:=if_pos rfl
 have hxn:g'.st.bx nm=some (T,d):=if_pos rfl
 have hlt:∀k,g.st.bx k≠none->g.B k<g.w.heap.size:=λ k hk=>by
  obtain⟨⟨T',d'⟩,e⟩:=Option.ne_none_iff_exists'.1 hk
  obtain⟨-,-,xs',h1,-⟩:=hI.box k T' d' e
  exact (Array.getElem?_eq_some_iff.1 h1).1
 have hcase:∀k,g'.st.bx k≠none->k=nm∨(k≠nm/\g.st.bx k≠none):=λ k hk=>by
  by_cases e:k=nm
  ·exact .inl e
  ·refine .inr ⟨e,λ h=>hk ?_⟩
   show upd g.st.bx nm (T,d) k=none
   unfold upd;rw[if_neg e];exact h
 refine⟨g',⟨fun b o v h=>aE hb b o v (hI.lt _ _ _ h) (hI.F b o v h),by show _<=(g.w.alloc _).heap.size;have:=hI.base;show g.base<=_;omega,?_,?_,?_,?_⟩,ht,hb.mono hI.base,rfl,rfl,rfl,hnm⟩
 ·intro k T' d' e
  by_cases hk:k=nm
  ·subst hk
   rw[hxn] at e
   cases e
   rw[hnm]
   refine⟨hI.base,λ o=>?_,xs,heap_alloc_new _ _,hd.tr ht⟩
   cases hf:g.F g.w.heap.size o with
   | none=>rfl
   | some v=>exact absurd (hI.lt _ _ _ hf) (by omega)
  ·have e':g.st.bx k=some (T',d'):=by
    have:g'.st.bx k=g.st.bx k:=if_neg hk
    rw[<-this];exact e
   obtain⟨h1,h2,xs',h3,h4⟩:=hI.box k T' d' e'
   rw[(hB k (by rw[e'];simp)).2]
   exact⟨h1,h2,xs',(hb.block _ (Array.getElem?_eq_some_iff.1 h3).1).trans h3,h4.tr ht⟩
 ·intro k k' hk hk' e
  rcases hcase k hk with rfl|⟨n1,h1⟩<;>rcases hcase k' hk' with rfl|⟨n2,h2⟩
  ·rfl
  ·rw[hnm,(hB k' h2).2] at e
   have:=hlt k' h2;omega
  ·rw[hnm,(hB k h1).2] at e
   have:=hlt k h1;omega
  ·rw[(hB k h1).2,(hB k' h2).2] at e
   exact hI.inj k k' h1 h2 e
 ·intro k j b hk hb'
  obtain⟨h1,h2,h3⟩:=hI.fpb k j b hk hb'
  refine⟨h1,by show b<(g.w.alloc _).heap.size;omega,λ i hi=>?_⟩
  rcases hcase i hi with rfl|⟨-,hi'⟩
  ·rw[hnm];omega
  ·rw[(hB i hi').2];exact h3 i hi'
 ·exact λ k k' b h1 h2=>hI.fpd k k' b h1 h2
theorem Inv.newBlk{g:Gh}(hI:Inv g){nm sz e n:Nat}{d:Dc}{xs:List Value}(hd:RepC g d xs)(hn:g.st.τ nm=none)(hl:xs.length=n*sz)(hm:n<=maxLen) :
  ∃g':Gh,Inv g'/\Tr g g'/\Below g.base g.w g'.w/\g'.w=g.w.alloc (.cells xs.toArray e)/\g'.st.bx=g.st.bx/\g'.st.τ=upd g.st.τ nm 1/\RepC g' (.blk nm 1 sz e d .nil) [.slice (some ⟨g.w.heap.size,0,none⟩) n n]:=by
 have hs:(g.w.alloc (.cells xs.toArray e)).heap.size=g.w.heap.size+1:=by simp
 have hb:=aA g.w (.cells xs.toArray e)
 let g':Gh:={ g with st:={ g.st with τ:=upd g.st.τ nm 1 },w:=g.w.alloc (.cells xs.toArray e),F:=λ b o=>if b=g.w.heap.size then xs[o]? else g.F b o,fp:=λ k=>if k.1=nm then (if k.2=0 then [g.w.heap.size] else []) else g.fp k }
 have hτ:∀k,g.st.τ k≠none->k≠nm/\g'.st.τ k=g.st.τ k/\∀j,g'.fp (k,j)=g.fp (k,j):=λ k hk=>by
  have:k≠nm:=λ e=>hk (e ▸ hn)
  exact⟨this,if_neg this,λ j=>if_neg this⟩
 have hτn:g'.st.τ nm=some 1:=if_pos rfl
 have hfn:g'.fp (nm,0)=[g.w.heap.size]:=by show (if nm=nm then _ else _)=_;rw[if_pos rfl,if_pos rfl]
 have hF:∀b,b<g.w.heap.size->∀o,g'.F b o=g.F b o:=λ b hb' o=>if_neg (Nat.ne_of_lt hb')
 have ht:Tr g g':=⟨fun b o v hb' h=>by rw[hF b hb'];exact h,by show _<=(g.w.alloc _).heap.size;omega,rfl,λ b hb'=>hb.block b (Nat.lt_of_lt_of_le hb' hI.base),λ b o hb'=>hF b (Nat.lt_of_lt_of_le hb' hI.base) o,λ k hk=>⟨hk,rfl⟩,
  fun k ver hv=>by
   obtain⟨h1,h2,h3⟩:=hτ k (by rw[hv];simp)
   refine .inl ⟨h2.trans hv,λ j b hb'=>?_⟩
   have hlt:=(hI.fpb k j b (by rw[hv];simp) hb').2.1
   exact⟨by rw[h3];exact hb',hb.block b hlt,λ o ho=>by rw[hF b hlt];exact ho⟩⟩
 have hlt:∀k,g.st.bx k≠none->g.B k<g.w.heap.size:=λ k hk=>by
  obtain⟨⟨T',d'⟩,e⟩:=Option.ne_none_iff_exists'.1 hk
  obtain⟨-,-,xs',h1,-⟩:=hI.box k T' d' e
  exact (Array.getElem?_eq_some_iff.1 h1).1
 have hdr:=hd.tr ht
 have hblk:(g.w.alloc (.cells xs.toArray e)).heap[g.w.heap.size]? = some (.cells xs.toArray e (0,0)):=heap_alloc_new _ _
 have hcase:∀k j b,g'.st.τ k≠none->b∈g'.fp (k,j)->(k=nm/\j=0/\b=g.w.heap.size)∨(k≠nm/\g.st.τ k≠none/\b∈g.fp (k,j)):=λ k j b hk hb'=>by
  by_cases h1:k=nm
  ·left
   refine⟨h1,?_⟩
   have:b∈(if j=0 then [g.w.heap.size] else []):=by
    have h2:g'.fp (k,j)=if j=0 then [g.w.heap.size] else []:=if_pos h1
    rw[<-h2];exact hb'
   split at this
   ·exact⟨by assumption,by simpa using this⟩
   ·cases this
  ·right
   have h2:g'.st.τ k=g.st.τ k:=if_neg h1
   have h3:g'.fp (k,j)=g.fp (k,j):=if_neg h1
   exact⟨h1,by rw[<-h2];exact hk,by rw[<-h3];exact hb'⟩
 refine⟨g',⟨?_,by show g.base<=(g.w.alloc _).heap.size;have:=hI.base;omega,?_,hI.inj,?_,?_⟩,ht,hb.mono hI.base,rfl,rfl,rfl,?_⟩
 ·intro b o v h
  by_cases hbs:b=g.w.heap.size
  ·subst hbs
   have h':xs[o]? = some v:=by
    have:g'.F g.w.heap.size o=xs[o]?:=if_pos rfl
    rw[<-this];exact h
   exact aM (by simpa using h')
  ·have h':g.F b o=some v:=by
    have:g'.F b o=g.F b o:=if_neg hbs
    rw[<-this];exact h
   exact aE hb b o v (hI.lt _ _ _ h') (hI.F b o v h')
 ·intro k T' d' e'
  obtain⟨h1,h2,xs',h3,h4⟩:=hI.box k T' d' e'
  refine⟨h1,λ o=>?_,xs',(hb.block _ (Array.getElem?_eq_some_iff.1 h3).1).trans h3,h4.tr ht⟩
  rw[hF _ (hlt k (by have:g.st.bx k=some (T',d'):=e';rw[this];simp))]
  exact h2 o
 ·intro k j b hk hb'
  rcases hcase k j b hk hb' with ⟨-,-,rfl⟩|⟨-,h1,h2⟩
  ·exact⟨hI.base,by show _<(g.w.alloc _).heap.size;omega,λ i hi=>by have:=hlt i hi;show _≠g.B i;omega⟩
  ·obtain⟨h3,h4,h5⟩:=hI.fpb k j b h1 h2
   exact⟨h3,by show b<(g.w.alloc _).heap.size;omega,h5⟩
 ·rintro⟨k,j⟩ ⟨k',j'⟩ b h1 h2 h3 h4
  rcases hcase k j b h1 h3 with ⟨rfl,rfl,rfl⟩|⟨-,h5,h6⟩<;>rcases hcase k' j' _ h2 h4 with ⟨rfl,rfl,e2⟩|⟨-,h7,h8⟩
  ·rfl
  ·exact absurd (hI.fpb k' j' _ h7 h8).2.1 (by omega)
  ·subst e2;exact absurd (hI.fpb k j _ h5 h6).2.1 (by omega)
  ·exact hI.fpd (k,j) (k',j') b h5 h7 h6 h8
 ·have hrow:(g.w.alloc (.cells xs.toArray e)).ownsRow g.base e sz (.slice (some ⟨g.w.heap.size,0,none⟩) n n) n xs:=World.ownsRow_lit g.w xs.toArray n hI.base hm (by simpa using hl)
  have hFn:∀o,g'.F g.w.heap.size o=xs[o]?:=λ o=>if_pos rfl
  refine⟨hd.good,by decide,_,[],rfl,⟨_,n,n,rfl,?_,Nat.le_refl _,hm,by rw[Dc.ds_len,<-hd.len];simp[Ds.len,hl],.inr (.inr ⟨_,0,rfl,by show _<(g.w.alloc _).heap.size;omega,hdr.vs.at_ (λ j u hu=>?_),trivial⟩)⟩,⟨1,hτn,Nat.le_refl _,λ _=>⟨n,xs,hrow,hdr,λ b hb'=>?_⟩⟩,rfl⟩
  ·rw[Dc.ds_len,<-hd.len];exact hl.symm
  ·rw[Nat.zero_add,hFn];exact hu
  ·obtain rfl:b=g.w.heap.size:=by simpa[Value.ownBlock] using hb'.symm
   exact⟨by rw[hfn];simp,λ o ho=>by rw[hFn];simp;exact ho⟩
theorem Inv.newRoom{g:Gh}(hI:Inv g){nm sz e c:Nat}{xs:List Value}(hn:g.st.τ nm=none)(hl:xs.length=c*sz)(hm:c<=maxLen) :
  ∃g':Gh,Inv g'/\Tr g g'/\Below g.base g.w g'.w/\g'.w=g.w.alloc (.cells xs.toArray e)/\g'.st.bx=g.st.bx/\g'.st.τ=upd g.st.τ nm 1/\RepC g' (.blk nm 1 sz e .nil .nil) [.slice (some ⟨g.w.heap.size,0,none⟩) 0 c]:=by
 have hs:(g.w.alloc (.cells xs.toArray e)).heap.size=g.w.heap.size+1:=by simp
 have hb:=aA g.w (.cells xs.toArray e)
 let g':Gh:={ g with st:={ g.st with τ:=upd g.st.τ nm 1 },w:=g.w.alloc (.cells xs.toArray e),F:=λ b o=>if b=g.w.heap.size then none else g.F b o,fp:=λ k=>if k.1=nm then (if k.2=0 then [g.w.heap.size] else []) else g.fp k }
 have hτ:∀k,g.st.τ k≠none->k≠nm/\g'.st.τ k=g.st.τ k/\∀j,g'.fp (k,j)=g.fp (k,j):=λ k hk=>by
  have:k≠nm:=λ e=>hk (e ▸ hn)
  exact⟨this,if_neg this,λ j=>if_neg this⟩
 have hτn:g'.st.τ nm=some 1:=if_pos rfl
 have hfn:g'.fp (nm,0)=[g.w.heap.size]:=by show (if nm=nm then _ else _)=_;rw[if_pos rfl,if_pos rfl]
 have hF:∀b,b<g.w.heap.size->∀o,g'.F b o=g.F b o:=λ b hb' o=>if_neg (Nat.ne_of_lt hb')
 have ht:Tr g g':=⟨fun b o v hb' h=>by rw[hF b hb'];exact h,by show _<=(g.w.alloc _).heap.size;omega,rfl,λ b hb'=>hb.block b (Nat.lt_of_lt_of_le hb' hI.base),λ b o hb'=>hF b (Nat.lt_of_lt_of_le hb' hI.base) o,λ k hk=>⟨hk,rfl⟩,
  fun k ver hv=>by
   obtain⟨h1,h2,h3⟩:=hτ k (by rw[hv];simp)
   refine .inl ⟨h2.trans hv,λ j b hb'=>?_⟩
   have hlt:=(hI.fpb k j b (by rw[hv];simp) hb').2.1
   exact⟨by rw[h3];exact hb',hb.block b hlt,λ o ho=>by rw[hF b hlt];exact ho⟩⟩
 have hlt:∀k,g.st.bx k≠none->g.B k<g.w.heap.size:=λ k hk=>by
  obtain⟨⟨T',d'⟩,e⟩:=Option.ne_none_iff_exists'.1 hk
  obtain⟨-,-,xs',h1,-⟩:=hI.box k T' d' e
  exact (Array.getElem?_eq_some_iff.1 h1).1
 have hblk:(g.w.alloc (.cells xs.toArray e)).heap[g.w.heap.size]? = some (.cells xs.toArray e (0,0)):=heap_alloc_new _ _
 have hcase:∀k j b,g'.st.τ k≠none->b∈g'.fp (k,j)->(k=nm/\j=0/\b=g.w.heap.size)∨(k≠nm/\g.st.τ k≠none/\b∈g.fp (k,j)):=λ k j b hk hb'=>by
  by_cases h1:k=nm
  ·left
   refine⟨h1,?_⟩
   have:b∈(if j=0 then [g.w.heap.size] else []):=by
    have h2:g'.fp (k,j)=if j=0 then [g.w.heap.size] else []:=if_pos h1
    rw[<-h2];exact hb'
   split at this
   ·exact⟨by assumption,by simpa using this⟩
   ·cases this
  ·right
   have h2:g'.st.τ k=g.st.τ k:=if_neg h1
   have h3:g'.fp (k,j)=g.fp (k,j):=if_neg h1
   exact⟨h1,by rw[<-h2];exact hk,by rw[<-h3];exact hb'⟩
 refine⟨g',⟨?_,by show g.base<=(g.w.alloc _).heap.size;have:=hI.base;omega,?_,hI.inj,?_,?_⟩,ht,hb.mono hI.base,rfl,rfl,rfl,?_⟩
 ·intro b o v h
  by_cases hbs:b=g.w.heap.size
  ·subst hbs
   have:g'.F g.w.heap.size o=none:=if_pos rfl
   rw[this] at h;cases h
  ·have h':g.F b o=some v:=by
    have:g'.F b o=g.F b o:=if_neg hbs
    rw[<-this];exact h
   exact aE hb b o v (hI.lt _ _ _ h') (hI.F b o v h')
 ·intro k T' d' e'
  obtain⟨h1,h2,xs',h3,h4⟩:=hI.box k T' d' e'
  refine⟨h1,λ o=>?_,xs',(hb.block _ (Array.getElem?_eq_some_iff.1 h3).1).trans h3,h4.tr ht⟩
  rw[hF _ (hlt k (by have:g.st.bx k=some (T',d'):=e';rw[this];simp))]
  exact h2 o
 ·intro k j b hk hb'
  rcases hcase k j b hk hb' with ⟨-,-,rfl⟩|⟨-,h1,h2⟩
  ·exact⟨hI.base,by show _<(g.w.alloc _).heap.size;omega,λ i hi=>by have:=hlt i hi;show _≠g.B i;omega⟩
  ·obtain⟨h3,h4,h5⟩:=hI.fpb k j b h1 h2
   exact⟨h3,by show b<(g.w.alloc _).heap.size;omega,h5⟩
 ·rintro⟨k,j⟩ ⟨k',j'⟩ b h1 h2 h3 h4
  rcases hcase k j b h1 h3 with ⟨rfl,rfl,rfl⟩|⟨-,h5,h6⟩<;>rcases hcase k' j' _ h2 h4 with ⟨rfl,rfl,e2⟩|⟨-,h7,h8⟩
  ·rfl
  ·exact absurd (hI.fpb k' j' _ h7 h8).2.1 (by omega)
  ·subst e2;exact absurd (hI.fpb k j _ h5 h6).2.1 (by omega)
  ·exact hI.fpd (k,j) (k',j') b h5 h7 h6 h8
 ·have hrow:(g.w.alloc (.cells xs.toArray e)).ownsRow g.base e sz (.slice (some ⟨g.w.heap.size,0,none⟩) 0 c) 0 []:=⟨by simp,.inr ⟨_,c,xs.toArray,rfl,hI.base,hblk,Nat.zero_le _,hm,by simpa using hl,by simp⟩⟩
  have hFn:∀o,g'.F g.w.heap.size o=none:=λ o=>if_pos rfl
  refine⟨trivial,by decide,_,[],rfl,⟨_,0,c,rfl,by simp[Dc.ds,Ds.len],Nat.zero_le _,hm,by simp[Dc.ds,Ds.len],.inr (.inr ⟨_,0,rfl,by show _<(g.w.alloc _).heap.size;omega,trivial,trivial⟩)⟩,⟨1,hτn,Nat.le_refl _,λ _=>⟨0,[],hrow,rfl,λ b hb'=>?_⟩⟩,rfl⟩
  obtain rfl:b=g.w.heap.size:=by simpa[Value.ownBlock] using hb'.symm
  exact⟨by rw[hfn];simp,λ o ho=>hFn o⟩
end
section
variable {P:Program} {tb:TB} {g:Gh} {a:Act} {ρ:Operand->AV}
theorem Rd.noRoom{F:Mem}{hi:Nat}{v:Value}{sz:Nat}{x s:Ds}(h:Rd F hi v sz x s):Rd F hi v sz x .nil:=by
 obtain⟨p,n,c,rfl,h2,h3,h4,h5,h6⟩:=h
 refine⟨p,n,c,rfl,h2,h3,h4,by simp only[Ds.len];omega,?_⟩
 rcases h6 with h6|⟨h6,-,h7⟩|⟨b,o,e,h6,h7,-⟩
 ·exact .inl h6
 ·exact .inr (.inl ⟨h6,rfl,h7⟩)
 ·exact .inr (.inr ⟨b,o,e,h6,h7,trivial⟩)
theorem room_rd{d:AV}{sz:Nat}{x s:Ds}{v:Value}(h:RepV g d [v])(e:d.room=some (sz,x,s)):Rd g.F g.w.heap.size v sz x s/\x.good/\s.good:=by
 unfold AV.room at e
 split at e
 ·cases e
  obtain⟨h0,-,v',ys,e1,h1,-⟩:=h
  cases e1
  exact⟨h1,h0,trivial⟩
 ·cases e
  obtain⟨h0,ys,zs,e1,⟨v',ys',rfl,h1,rfl⟩,-,rfl⟩:=h
  cases e1
  exact⟨h1,h0.1,h0.2.1⟩
 ·cases e
theorem Rd.cut{F:Mem}{hi:Nat}{p:Option Addr}{n c sz:Nat}{x s:Ds}(h:Rd F hi (.slice p n c) sz x s){r:Nat}(h2:r*sz<=x.len+s.len)(hsz:0<sz) :
  Rd F hi (.slice p r c) sz ((x.app s).tk (r*sz)) ((x.app s).dp (r*sz)):=by
 obtain⟨p',n',c',e,h3,h4,h5,h6,h7⟩:=h
 cases e
 have hr:r<=c:=Nat.le_of_mul_le_mul_right (by omega) hsz
 have h8:((x.app s).tk (r*sz)).len=r*sz:=by rw[Ds.tk_len,Ds.app_len];omega
 have h9:((x.app s).dp (r*sz)).len=x.len+s.len-r*sz:=by rw[Ds.dp_len,Ds.app_len]
 refine⟨_,_,_,rfl,h8.symm,hr,h5,by omega,?_⟩
 rcases h7 with ⟨rfl,rfl⟩|⟨rfl,h10,hp⟩|⟨b,o,rfl,hb,ha,hs⟩
 ·exact .inl ⟨rfl,rfl⟩
 ·rw[Nat.zero_mul] at h3
  have:r=0:=by
   cases r with
   | zero=>rfl
   | succ r=>rw[Nat.succ_mul] at h2;omega
  exact .inr (.inl ⟨this,by omega,hp⟩)
 ·have hall:At F hi (x.app s) b o:=At.app.2 ⟨ha,hs⟩
  exact .inr (.inr ⟨b,o,rfl,hb,hall.tk _,by rw[h8];exact hall.dp _ (by rw[Ds.app_len];omega)⟩)
theorem LT{d:Dc}{sz:Nat}{x:Ds}{v:Value}(h:RepC g d [v])(e:d.cont=some (sz,x)):Rd g.F g.w.heap.size v sz x .nil/\x.good:=by
 unfold Dc.cont at e
 split at e
 ·cases e
  obtain⟨ys,e1,-⟩:=h
  cases e1
  exact⟨Rd.none_ _ _ _,trivial⟩
 ·cases e
  obtain⟨h0,v',ys,e1,h1,-⟩:=h
  cases e1
  exact⟨h1,h0⟩
 ·cases e
  obtain⟨h0,-,v',ys,e1,h1,-⟩:=h
  cases e1
  exact⟨h1,h0⟩
 ·cases e
  obtain⟨h0,ys,zs,e1,⟨v',ys',rfl,h1,rfl⟩,-,rfl⟩:=h
  cases e1
  exact⟨h1.noRoom,h0.1⟩
 ·cases e
theorem FF{d:AV}{sz:Nat}{x:Ds}{v:Value}(h:RepV g d [v])(e:d.cont=some (sz,x)):Rd g.F g.w.heap.size v sz x .nil/\x.good:=by
 cases d<;>try (cases e;done)
 exact LT (h:RepC g _ _) e
theorem Rd.piece{F:Mem}{hi:Nat}{p:Option Addr}{n c sz:Nat}{x:Ds}(h:Rd F hi (.slice p n c) sz x .nil){l r:Nat}(h1:l<=r)(h2:r*sz<=x.len)(hsz:0<sz) :
  Rd F hi (.slice (if c=l then p else p.map (·.add (l*sz))) (r-l) (c-l)) sz ((x.dp (l*sz)).tk ((r-l)*sz)) .nil:=by
 obtain⟨p',n',c',e,h3,h4,h5,h6,h7⟩:=h
 cases e
 have hr:r<=n:=Nat.le_of_mul_le_mul_right (by omega) hsz
 have hsub:(r-l)*sz=r*sz-l*sz:=Nat.sub_mul _ _ _
 have hlr:l*sz<=r*sz:=Nat.mul_le_mul_right _ h1
 have hlen:((x.dp (l*sz)).tk ((r-l)*sz)).len=(r-l)*sz:=by rw[Ds.tk_len,Ds.dp_len];omega
 refine⟨_,_,_,rfl,hlen.symm,by omega,by omega,by rw[hlen];simp only[Ds.len,Nat.add_zero];exact Nat.mul_le_mul_right _ (by omega),?_⟩
 rcases h7 with ⟨rfl,rfl⟩|⟨rfl,-,hp⟩|⟨b,o,rfl,hb,ha,-⟩
 ·obtain rfl:l=0:=by omega
  exact .inl ⟨rfl,rfl⟩
 ·refine .inr (.inl ⟨by omega,rfl,?_⟩)
  split
  ·exact hp
  ·simpa using hp
 ·refine .inr (.inr ?_)
  by_cases hc:c=l
  ·rw[if_pos hc]
   have:(r-l)*sz=0:=by rw[show r-l=0 by omega,Nat.zero_mul]
   rw[this]
   exact⟨b,o,rfl,hb,trivial,trivial⟩
  ·rw[if_neg hc]
   refine⟨b,o+l*sz,?_,hb,(ha.dp _ (by omega)).tk _,trivial⟩
   simp[Addr.add_mid]
theorem uS{T e:Nat}{y:Ty}(hT:jE P tb)(hu:P.underlying T=some (.slice e))(hy:tb e=some y)(w:World)(p:Option Addr)(n c l r:Nat)(lo hi:Option Value)
  (hl:∀m,(match lo with|some v=>Instr.sliceBound v r .sliceB|none=>pure 0:Sem Nat).run P m=.ok l m) (hr:∀m,(match hi with|some v=>Instr.sliceBound v c .sliceAcap|none=>pure n:Sem Nat).run P m=.ok r m) :
  (Instr.sliceAt T (.slice p n c) lo hi none).run P w=.ok (.slice (if c=l then p else p.map (·.add (l*y.size))) (r-l) (c-l)) w:=by
 obtain⟨i,d,h1,-,-,-,h4,-⟩:=dU hT hy
 have hb:(Instr.sliceBounds true n c lo hi none).run P w=.ok (l,r,c) w:=by
  unfold Instr.sliceBounds
  have:=hl w
  have:=hr w
  cases lo<;>cases hi<;>simp_all
 simp[Instr.sliceAt,Instr.slice,run_underlying hu,hb,sizeOf,typeInfo,h1,h4]
theorem NU{place:Nat->Option (Nat×Nat)}{cells:List Value}{i off:Nat}{v:Value}{ps:List (Nat×Value)}(hp:place i=some (off,v.cells.size))(hl:off+v.cells.size<=cells.length) :
  Instr.fill place cells.toArray ((i,v) :: ps)=Instr.fill place (cells.take off++(v.cells.toList++cells.drop (off+v.cells.size))).toArray ps:=by
 have h1:=Great.foldl_set off v.cells.toList 0 cells.toArray
 conv=>lhs;unfold Instr.fill
 simp only[hp]
 rw[if_neg (by simp;omega)]
 have:(v.cells.zipIdx.foldl (λ cs (x:Value×Nat)=>cs.setIfInBounds (off+x.2) x.1) cells.toArray)=(cells.take off++(v.cells.toList++cells.drop (off+v.cells.size))).toArray:=by
  have e0:v.cells.zipIdx.foldl (λ cs (x:Value×Nat)=>cs.setIfInBounds (off+x.2) x.1) cells.toArray=(v.cells.toList.zipIdx 0).foldl (λ cs (x:Value×Nat)=>cs.setIfInBounds (off+x.2) x.1) cells.toArray:=by
   rw[<-Array.foldl_toList];simp
  rw[e0]
  apply Array.ext_getElem?
  intro k
  rw[h1.2 k]
  simp only[Nat.add_zero,Array.length_toList,List.size_toArray,List.getElem?_toArray]
  by_cases hk:k<off
  ·rw[if_neg (by omega),List.getElem?_append_left (by simp;omega),List.getElem?_take,if_pos hk]
  ·by_cases hk2:k<off+v.cells.size
   ·rw[if_pos ⟨by omega,hk2,by omega⟩,List.getElem?_append_right (by simp;omega),List.getElem?_append_left (by simp;omega)]
    simp;congr 1;omega
   ·rw[if_neg (by omega),List.getElem?_append_right (by simp;omega),List.getElem?_append_right (by simp;omega),List.getElem?_drop]
    simp;congr 1;omega
 rw[<-this]
theorem CU{d p d':Dc}{o:Nat}{xs ys:List Value}(hd:RepC g d xs)(hp:RepC g p ys)(h:d.over o p=some d'):RepC g d' (xs.take o++(ys++xs.drop (o+ys.length))):=by
 unfold Dc.over at h
 split at h
 ·rename_i x y h1 h2
  cases h
  rw[hp.len]
  exact RepC.app (RepC.app (hd.dp _ h2) hp) (hd.tk _ h1)
 ·cases h
theorem zF:∀(n:Nat) {d d':Dc},d.dp n=some d'->n<=d.ln
 | 0,_,_,_=>Nat.zero_le _
 | n+1,.nil,_,h=>by simp[Dc.dp] at h
 | n+1,.seg _ _ r,_,h=>by
  simp only[Dc.dp] at h
  split at h
  ·have:=zF n (d:=r) h;simp[Dc.ln,Ds.len];omega
  ·cases h
 | n+1,.lit _ r,_,h=>by have:=zF n (d:=r) (by simpa[Dc.dp] using h);simp[Dc.ln];omega
 | n+1,.nilr _ _ r,_,h=>by have:=zF n (d:=r) (by simpa[Dc.dp] using h);simp[Dc.ln];omega
 | n+1,.row _ _ _ _ r,_,h=>by have:=zF n (d:=r) (by simpa[Dc.dp] using h);simp[Dc.ln];omega
 | n+1,.blk _ _ _ _ _ r,_,h=>by have:=zF n (d:=r) (by simpa[Dc.dp] using h);simp[Dc.ln];omega
theorem zE:∀(n:Nat) {d d':Dc},d.tk n=some d'->d'.ln=n
 | 0,d,_,h=>by cases d<;>(simp[Dc.tk] at h;subst h;rfl)
 | n+1,.nil,_,h=>by simp[Dc.tk] at h
 | n+1,.seg _ _ r,_,h=>by
  simp only[Dc.tk] at h
  split at h
  ·obtain⟨x,h1,rfl⟩:=Option.map_eq_some_iff.1 h;simp[Dc.ln,Ds.len,zE n h1];omega
  ·cases h
 | n+1,.lit _ r,_,h=>by simp[Dc.tk] at h;obtain⟨x,h1,rfl⟩:=h;simp[Dc.ln,zE n h1]
 | n+1,.nilr _ _ r,_,h=>by simp[Dc.tk] at h;obtain⟨x,h1,rfl⟩:=h;simp[Dc.ln,zE n h1]
 | n+1,.row _ _ _ _ r,_,h=>by simp[Dc.tk] at h;obtain⟨x,h1,rfl⟩:=h;simp[Dc.ln,zE n h1]
 | n+1,.blk _ _ _ _ _ r,_,h=>by simp[Dc.tk] at h;obtain⟨x,h1,rfl⟩:=h;simp[Dc.ln,zE n h1]
theorem DX:∀(n:Nat) {x:Ds} {d:Dc},x.hd n=some d->d.ln=n
 | 0,x,d,h=>by cases x<;>(simp[Ds.hd] at h;subst h;rfl)
 | n+1,.nil,_,h=>by simp[Ds.hd] at h
 | n+1,.lit _ r,_,h=>by simp[Ds.hd] at h;obtain⟨x,h1,rfl⟩:=h;simp[Dc.ln,DX n h1]
 | n+1,.row _ _ _ _ r,_,h=>by
  simp only[Ds.hd] at h
  split at h
  ·obtain⟨x,h1,rfl⟩:=Option.map_eq_some_iff.1 h;simp[Dc.ln,DX n h1]
  ·obtain⟨x,h1,rfl⟩:=Option.map_eq_some_iff.1 h;simp[Dc.ln,Ds.len,DX n h1];omega
theorem uI{S f o T:Nat}{y:Ty}(hT:jE P tb)(h:mI tb S f=some (o,T,y)):∃gs:Array Field,P.underlying S=some (.struct gs)/\(∃fd,gs[f]? = some fd/\fd.offset=o/\fd.type=T)/\tb T=some y:=by
 unfold mI at h
 split at h
 ·rename_i fs sz by_ zv z hS
  split at h
  ·rename_i o' T' hf
   obtain⟨y',h1,h2⟩:=Option.map_eq_some_iff.1 h
   cases h2
   obtain⟨i,d,-,h4,h5,-⟩:=dU hT hS
   obtain⟨gs,rfl,e⟩:=KM h5
   refine⟨gs,h4,?_,h1⟩
   rw[e] at hf
   simp at hf
   obtain⟨fd,h6,h7,h8⟩:=hf
   exact⟨fd,h6,h7,h8⟩
  ·cases h
 ·cases h
theorem MQ{S:Nat}{gs:Array Field}(hT:jE P tb)(hu:P.underlying S=some (.struct gs))(ps:List (Nat×Nat))(h:gs.toList.mapM (λ f=>(P.info? f.type).map λ i=>(f.offset,i.size))=some ps){f o T:Nat}{y:Ty}(hf:mI tb S f=some (o,T,y)):ps[f]? = some (o,y.size):=by
 obtain⟨gs',h1,⟨fd,h2,rfl,rfl⟩,h3⟩:=uI hT hf
 rw[hu] at h1
 cases h1
 obtain⟨i,-,h4,-,-,-,h5,-⟩:=dU hT h3
 have key:∀(l:List Field) (ps:List (Nat×Nat)) (f:Nat) (fd:Field),l.mapM (λ f=>(P.info? f.type).map λ i=>(f.offset,i.size))=some ps->l[f]? = some fd->(P.info? fd.type).map (λ i=>(fd.offset,i.size))=ps[f]?:=by
  intro l
  induction l with
  | nil=>intro ps f fd _ h;simp at h
  | cons x l ih =>
   intro ps f fd h h'
   simp only[List.mapM_cons,Option.bind_eq_bind,Option.pure_def] at h
   cases hx:(P.info? x.type).map λ i=>(x.offset,i.size) with
   | none=>simp[hx] at h
   | some q =>
    cases hl:l.mapM (λ f=>(P.info? f.type).map λ i=>(f.offset,i.size)) with
    | none=>simp[hx,hl] at h
    | some qs =>
     simp[hx,hl] at h
     subst h
     cases f with
     | zero=>simp at h';subst h';simpa using hx
     | succ f=>simpa using ih qs f fd hl (by simpa using h')
 have:=key gs.toList ps f fd h (by simpa using h2)
 rw[<-this,h4]
 simp[h5]
theorem EH(hT:jE P tb)(hρ:∀x,RepV g (ρ x) [a.eval x]){S:Nat}{gs:Array Field}(hu:P.underlying S=some (.struct gs)){pl:List (Nat×Nat)}(hm:gs.toList.mapM (λ f=>(P.info? f.type).map λ i=>(f.offset,i.size))=some pl) :
  ∀(ps:List (Nat×Operand)) {d:Dc} {xs:List Value} {c:Prop} {d':Dc},RepC g d xs->rO tb S ρ ps d=some (c,d')->c->∃ys,Instr.fill (pl.toArray[·]?) xs.toArray (ps.map λ p=>(p.1,a.eval p.2))=some ys/\RepC g d' ys.toList:=by
 intro ps
 induction ps with
 | nil =>
  intro d xs c d' hd h _
  cases h
  exact⟨xs.toArray,rfl,hd⟩
 | cons p ps ih =>
  obtain⟨f,x⟩:=p
  intro d xs c d' hd h hc
  simp only[rO] at h
  split at h
  ·rename_i o T y hf
   split at h
   ·rename_i c0 p0 ha
    split at h
    ·rename_i d1 ho
     obtain⟨⟨c2,d2⟩,h1,h2⟩:=Option.map_eq_some_iff.1 h
     cases h2
     obtain⟨⟨hc0,hln⟩,hc2⟩:=hc
     have hv:=yS (hρ x) ha hc0
     have hsz:(a.eval x).cells.size=y.size:=by rw[<-hln,<-hv.len];simp
     have hle:o+y.size<=xs.length:=by
      unfold Dc.over at ho
      split at ho
      ·rename_i h3
       have:=zF _ h3
       rw[hd.len];omega
      ·cases ho
     have hr:=CU hd hv ho
     obtain⟨ys,h4,h5⟩:=ih hr h1 hc2
     refine⟨ys,?_,h5⟩
     rw[List.map_cons,NU (off:=o) (by rw[hsz];simpa using MQ hT hu pl hm hf) (by show o+(a.eval x).cells.size<=_;omega)]
     simpa using h4
    ·cases h
   ·cases h
  ·cases h
theorem FZ(hρ:∀x,RepV g (ρ x) [a.eval x]){e sz:Nat}:∀(ps:List (Nat×Operand)) {i:Nat} {c:Prop} {d:Dc},yF tb e sz ρ i ps=some (c,d)->c ->
  ∃vs:List Value,(ps.map λ p=>(p.1,a.eval p.2))=(vs.zipIdx i).map (λ x=>(x.2,x.1))/\vs.length=ps.length/\(∀v∈vs,v.cells.size=sz)/\RepC g d (vs.flatMap λ v=>v.cells.toList):=by
 intro ps
 induction ps with
 | nil =>
  intro i c d h _
  cases h
  exact⟨[],rfl,rfl,(λ v hv=>by cases hv),rfl⟩
 | cons p ps ih =>
  obtain⟨j,x⟩:=p
  intro i c d h hc
  simp only[yF] at h
  split at h
  ·rename_i hij
   split at h
   ·rename_i c0 p0 ha
    obtain⟨⟨c2,d2⟩,h1,h2⟩:=Option.map_eq_some_iff.1 h
    cases h2
    obtain⟨⟨hc0,hln⟩,hc2⟩:=hc
    have hv:=yS (hρ x) ha hc0
    obtain⟨vs,h3,h4,h5,h6⟩:=ih h1 hc2
    refine⟨a.eval x :: vs,?_,by simp[h4],?_,?_⟩
    ·simp[h3,hij]
    ·intro v hv'
     rcases List.mem_cons.1 hv' with rfl|hv'
     ·rw[<-hln,<-hv.len];simp
     ·exact h5 v hv'
    ·rw[List.flatMap_cons]
     exact RepC.app h6 hv
   ·cases h
  ·cases h
theorem RepV.list(hρ:∀x,RepV g (ρ x) [a.eval x]):∀l:List Operand,RepV g (.list (l.map ρ)) (l.map a.eval)
 | []=>rfl
 | x :: l=>⟨_,_,rfl,hρ x,RepV.list hρ l⟩
theorem RepV.nth{l:AV}:∀ {i:Nat} {x:AV} {ys:List Value},RepV g l ys->l.nth i=some x->∃v,ys[i]? = some v/\RepV g x [v]:=by
 induction l with
 | cons b r _ ih =>
  rintro i x ys ⟨y,zs,rfl,h1,h2⟩ h
  cases i with
  | zero=>cases h;exact⟨y,rfl,h1⟩
  | succ i =>
   have:=ih h2 (i:=i) h
   simpa using this
 | junk=>intro i x ys _ h;cases h
 | v _=>intro i x ys _ h;cases h
 | c _=>intro i x ys _ h;cases h
 | agg _=>intro i x ys _ h;cases h
 | bx _ _=>intro i x ys _ h;cases h
 | el _=>intro i x ys _ h;cases h
 | nil=>intro i x ys _ h;cases h
 | tup _ _=>intro i x ys _ h;cases h
 | fn _ _ _ _ _=>intro i x ys _ h;cases h
 | ev _ _ _=>intro i x ys _ h;cases h
theorem VG{op:BinOp}{T:Nat}{x y:Operand}{u v r:Value}(h:abin op u v=some r)(w:World):(do eqGuard op T x y u v;binOp op T u v:Sem Value).run P w=.ok r w:=by
 unfold abin at h
 split at h<;>first|(cases h;done)|(split at h<;>first|(cases h;done)|(rename_i hk;subst hk;cases h;simp[eqGuard,binOp,Op.intArith,Op.intCmp])|(rename_i hk;obtain⟨hk,hb⟩:=hk;subst hk;cases h;simp[eqGuard,binOp,Op.intDiv,hb]))
theorem OW{T:Nat}{x y:Operand}{s t:Bool}(hu:P.underlying T=some .bool)(w:World):(do eqGuard .eql T x y (.bool s) (.bool t);binOp .eql T (.bool s) (.bool t):Sem Value).run P w=.ok (.bool (s == t)) w:=by
 simp[eqGuard,binOp,run_equal_bool w T s t hu]
theorem IF{l:Option AV}{dv:Option Nat}{c:Prop}{n:Nat}(h:lo? l dv=some (c,n))(hc:c):(l=none/\dv=some n)∨∃k m,l=some (.v (.int k m))/\0<=m/\n=m.toNat:=by
 unfold lo? at h
 split at h
 ·cases h;exact .inl ⟨rfl,rfl⟩
 ·cases h;exact .inr ⟨_,_,rfl,hc,rfl⟩
 ·cases h
end
end Go.Proofs.YtlfnfiihfjggoaaGreatDoor
