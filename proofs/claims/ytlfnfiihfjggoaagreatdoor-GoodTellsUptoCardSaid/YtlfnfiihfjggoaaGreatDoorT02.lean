/-
  The calm steps are right, all of them, and what follows. Conditions: as each lemma states them.
-/
import Derived.Test.YtlfnfiihfjggoaaGreatDoorT01
set_option linter.all false
set_option linter.unusedVariables false
set_option linter.unusedSimpArgs false
set_option linter.unnecessarySimpa false
set_option maxHeartbeats 8000000
set_option maxRecDepth 100000
namespace Go.Proofs.YtlfnfiihfjggoaaGreatDoor
open Go.RowKit Go.Proofs.Tryz
section
variable {P:Program} {tb:TB} {g:Gh} {a:Act} {ρ:Operand->AV}
def CalmOk(P:Program)(g:Gh)(a:Act)(o:Oper)(out:Out):Prop:=∃v g',(execOp a.eval o).run P g.w=.ok (.value v) g'.w/\Ext g g' out/\RepV g' out.av [v]
theorem bL(hI:Inv g){o:Oper}{av:AV}{v:Value}(hr:(execOp a.eval o).run P g.w=.ok (.value v) g.w)(hv:RepV g av [v]):CalmOk P g a o { av:=av }:=⟨v,g,hr,Ext.same hI rfl rfl,hv⟩
theorem uX(hT:jE P tb){T:Nat}{y:Ty}(hy:tb T=some y){b q:Nat}{cs:List Value}{d:Dc}(hc:g.w.rangeAt b q cs)(hd:RepC g d cs)(hl:d.ln=y.size) :
  (∀fs,y.sh=.st fs->∃v,(Instr.loadAt T (.pointer (some ⟨b,q,none⟩))).run P g.w=.ok v g.w/\RepV g (.agg d) [v]) /\
  ((∀fs,y.sh≠.st fs)->y.sh≠.arr->y.size=1->∃v,(Instr.loadAt T (.pointer (some ⟨b,q,none⟩))).run P g.w=.ok v g.w/\RepV g d.sing [v]):=by
 have h:=C3 hT hy hc (by rw[hd.len,hl])
 refine⟨fun fs hs=>⟨_,h.1 fs hs,cs,rfl,hd⟩,λ h1 h2 h3=>?_⟩
 obtain⟨v,rfl⟩:=hd.one_of (by rw[hd.len,hl,h3])
 exact⟨v,h.2 h1 h2 v rfl,hd.sing⟩
theorem RO(hT:jE P tb){T:Nat}{y:Ty}(hy:tb T=some y){q:Nat}{xs:List Value}{d:Dc}(hd:RepC g d ((xs.drop q).take y.size))(hl:d.ln=y.size) :
  (∀fs,y.sh=.st fs->∃v,(part T xs.toArray q).run P g.w=.ok v g.w/\RepV g (.agg d) [v]) /\
  ((∀fs,y.sh≠.st fs)->y.sh≠.arr->y.size=1->∃v,(part T xs.toArray q).run P g.w=.ok v g.w/\RepV g d.sing [v]):=by
 obtain⟨i,dd,h1,h2,h3,-,h4,-⟩:=dU hT hy
 refine⟨fun fs hs=>?_,λ h5 h6 h7=>?_⟩
 ·obtain⟨gs,rfl,-⟩:=KM (h3.trans hs)
  have hagg:(isAgg T).run P g.w=.ok true g.w:=by
   unfold isAgg
   rw[Sem.run_bind,run_underlying h2 g.w]
   simp
  refine⟨.agg ((xs.drop q).take y.size).toArray,?_,_,rfl,hd⟩
  simp[part,hagg,sizeOf,typeInfo,h1,h4,List.extract_toArray,List.extract_eq_take_drop]
 ·have hr:=QZ h3 h5 h6
  have hagg:(isAgg T).run P g.w=.ok false g.w:=by
   unfold isAgg
   rw[Sem.run_bind,run_underlying h2 g.w]
   cases dd<;>simp_all [TypeDesc.isRow]
  obtain⟨v,hv⟩:=hd.one_of (by rw[hd.len,hl,h7])
  have hv0:xs[q]? = some v:=by
   have:((xs.drop q).take y.size)[0]? = some v:=by rw[hv];rfl
   have:=getElem?_slice this
   simpa using this
  rw[hv] at hd
  exact⟨v,by simp[part,hagg,hv0],hd.sing⟩
theorem pH(hI:Inv g){x:Ds}{v:Value}(h:RepV g (.el x) [v]):∃b o ys,v=.pointer (some ⟨b,o,none⟩)/\b<g.w.heap.size/\x.good/\Vs g.F g.w.heap.size x ys/\(∀j u,ys[j]? = some u->g.Fs b (o+j)=some u)/\g.w.rangeAt b o ys:=by
 obtain⟨h0,b,o,ys,e,hb,h1,h2⟩:=h
 cases e
 exact⟨b,o,ys,rfl,hb,h0,h1,h2,λ j u hu=>aD (hI.fs (h2 j u hu))⟩
theorem TX{x:Ds}{b o n:Nat}{ys:List Value}(h0:x.good)(hb:b<g.w.heap.size)(h1:Vs g.F g.w.heap.size x ys)(h2:∀j u,ys[j]? = some u->g.Fs b (o+j)=some u):RepV g (.el (x.dp n)) [.pointer (some ⟨b,o+n,none⟩)] :=
 ⟨Ds.dp_good n h0,b,o+n,ys.drop n,rfl,hb,h1.dp n,λ j u hu=>by rw[Nat.add_assoc];exact h2 _ u (by rwa [List.getElem?_drop] at hu)⟩
theorem DE(hT:jE P tb)(gs:Array Field)(h:((gs.toList.map λ f=>(f.offset,f.type)).all λ f=>(tb f.2).isSome)=true):∃pl,gs.toList.mapM (λ f=>(P.info? f.type).map λ i=>(f.offset,i.size))=some pl:=by
 generalize gs.toList=l at h
 induction l with
 | nil=>exact⟨[],rfl⟩
 | cons f l ih =>
  simp only[List.map_cons,List.all_cons,Bool.and_eq_true] at h
  obtain⟨y,hy⟩:=Option.isSome_iff_exists.1 h.1
  obtain⟨i,-,h1,-⟩:=dU hT hy
  obtain⟨pl,h2⟩:=ih h.2
  exact⟨(f.offset,i.size) :: pl,by simp[List.mapM_cons,h1,h2]⟩
theorem JL(hT:jE P tb)(hI:Inv g)(hρ:∀x,RepV g (ρ x) [a.eval x]){cont:Option (Nat×Dc)}{nm:Nat}{o:Oper}(hc:∀T ad k off,o.op=.load T ad->ρ ad=.bx k off->cont=g.st.bx k)
  {c:Prop} {out:Out} (h:jO tb ρ cont nm o.op=some (c,out)) (hcc:c) (hf1:∀k x,out.bu=some (k,x)->g.st.bx k=none) (hf2:∀k x,out.tu=some (k,x)->g.st.τ k=none):CalmOk P g a o out:=by
 obtain⟨dst,op,ty,pos,after,guard⟩:=o
 cases op<;>simp only[jO] at h<;>try (cases h;done)
 case move x =>
  cases h
  exact bL hI (by simp[execOp]) (hρ x)
 case assign x =>
  cases h
  exact bL hI (by simp[execOp]) (hρ x)
 case pick c' x y =>
  split at h
  ·rename_i t ht
   cases h
   have hb:a.eval c'=.bool t:=by
    have:=hρ c'
    rw[ht] at this
    simpa[RepV] using this
   refine bL hI (v:=if t then a.eval x else a.eval y) (by simp[execOp,hb,asBool]) ?_
   cases t
   ·exact hρ y
   ·exact hρ x
  ·cases h
 case alloc T =>
  obtain⟨y,hy,e⟩:=Option.map_eq_some_iff.1 h
  cases e
  obtain⟨i,d,h1,-,-,h2,-,-,h3,-⟩:=dU hT hy
  obtain⟨g',g1,g2,g3,g4,g5,g6,g7⟩:=hI.newBox (nm:=nm) (T:=T) (RepC.zero h3) (hf1 _ _ rfl)
  refine⟨.pointer (some ⟨g.w.heap.size,0,none⟩),g',?_,⟨g1,g2,g3,g5,g6⟩,by rw[<-g7];exact⟨rfl,by rw[g5];simp[upd]⟩⟩
  rw[g4]
  simp[execOp,Instr.alloc,zeroValue,typeInfo,h1,h2,newVar,newRow]
 case box T x =>
  obtain⟨⟨c',d⟩,hd,e⟩:=Option.map_eq_some_iff.1 h
  cases e
  have hr:=yS (hρ x) hd hcc
  obtain⟨g',g1,g2,g3,g4,g5,g6,g7⟩:=hI.newBox (nm:=nm) (T:=T) hr (hf1 _ _ rfl)
  refine⟨.pointer (some ⟨g.w.heap.size,0,none⟩),g',?_,⟨g1,g2,g3,g5,g6⟩,by rw[<-g7];exact⟨rfl,by rw[g5];simp[upd]⟩⟩
  rw[g4]
  simp[execOp,Instr.box,newVar,newRow]
 case build T ps =>
  split at h
  ·rename_i fs sz by_ zv z hy
   obtain⟨⟨c',d⟩,hd,e⟩:=Option.map_eq_some_iff.1 h
   cases e
   obtain⟨i,dd,h1,h2,h3,h4,-,-,h5,-⟩:=dU hT hy
   obtain⟨gs,rfl,hfs⟩:=KM h3
   have hz:=RepC.zero (g:=g) h5
   obtain⟨pl,hpl⟩:=DE hT gs (by rw[hfs] at hcc;exact hcc.1)
   obtain⟨ys,r1,r2⟩:=EH hT hρ h2 hpl ps.toList hz hd hcc.2
   refine bL hI (v:=.agg ys) ?_ ⟨ys.toList,by simp,r2⟩
   have hb:P.built T (ps.map λ (p:Nat×Operand)=>(p.1,a.eval p.2)).toList=some ys:=by
    rw[Array.toList_map]
    unfold Program.built
    simp only[h1,h2,h4,hpl]
    simpa using r1
   simp only[execOp]
   exact oQ (run_build g.w T _ ys hb)
  ·cases h
 case buildSlice T n ps =>
  split at h
  ·rename_i e sz by_ zv z hy
   split at h
   ·rename_i y hye
    obtain⟨⟨c',d⟩,hd,e1⟩:=Option.map_eq_some_iff.1 h
    cases e1
    obtain⟨⟨h0,hsm,hn⟩,hc'⟩:=hcc
    obtain⟨i,dd,-,h2,h3,-⟩:=dU hT hy
    obtain rfl:=A9 h3
    obtain⟨ie,de,k1,k2,k3,k4,k5,-,-,k6,-⟩:=dU hT hye
    by_cases hn00:n=0
    ·subst hn00
     obtain rfl:ps=#[]:=Array.eq_empty_of_size_eq_zero (by have h9:=hn.symm;simpa using h9)
     simp[yF] at hd
     obtain⟨-,rfl⟩:=hd
     obtain⟨g',g1,g2,g3,g4,g5,g6,g7⟩:=hI.newRoom (nm:=nm) (sz:=y.size) (e:=e) (c:=0) (xs:=[]) (hf2 _ _ rfl) (by simp) (by unfold maxLen;omega)
     refine⟨_,g',?_,⟨g1,g2,g3,g5,g6⟩,g7⟩
     rw[g4]
     simp only[execOp]
     exact oQ (by simp[Instr.buildSlice,run_underlying h2,sizeOf,typeInfo,k1,newRow,Instr.fill];rw[Array.eq_empty_of_size_eq_zero (xs:=Array.map (λ _=>default) (Array.range 0)) (by simp)])
    have hn0:0<n:=Nat.pos_of_ne_zero hn00
    obtain⟨vs,r1,r2,r3,r4⟩:=FZ hρ ps.toList hd hc'
    have hlen:(vs.flatMap λ v=>v.cells.toList).length=n*y.size:=by
     rw[hn,<-r2]
     clear r1 r2 r4 hd
     induction vs with
     | nil=>simp
     | cons v vs ih =>
      rw[List.flatMap_cons,List.length_append,ih (λ u hu=>r3 u (List.mem_cons_of_mem _ hu)),List.length_cons,Nat.add_mul,Nat.one_mul]
      have:=r3 v (by simp)
      simp only[Array.length_toList]
      omega
    have hpos:0<n*y.size:=Nat.mul_pos hn0 h0
    obtain⟨g',g1,g2,g3,g4,g5,g6,g7⟩:=hI.newBlk (nm:=nm) (sz:=y.size) (e:=e) (n:=n) r4 (hf2 _ _ rfl) hlen (by unfold maxLen;have:=Nat.le_mul_of_pos_right n h0;omega)
    refine⟨_,g',?_,⟨g1,g2,g3,g5,g6⟩,g7⟩
    rw[g4]
    have hfill:=Great.fill_whole h0 vs ((Array.range (n*ie.size)).map (y.zval.cells[· % y.zval.cells.size]!)) r3 (by rw[r2,<-hn,k5];simp)
    have hpe:(ps.map λ (p:Nat×Operand)=>(p.1,a.eval p.2)).toList=(vs.zipIdx 0).map λ x=>(x.2,x.1):=by rw[Array.toList_map];exact r1
    have hb:=run_buildSlice (P:=P) g.w T e n (ps.map λ (p:Nat×Operand)=>(p.1,a.eval p.2)) _ ie y.zval h2 k1 k4 (by rw[k5];omega) (by rw[k5];omega) (by rw[hpe,k5] at *;exact hfill)
    simp only[execOp]
    exact oQ hb
   ·cases h
  ·cases h
 case makeSlice T x y =>
  unfold FB at h
  split at h
  ·rename_i e sz by_ zv z hy
   split at h
   ·rename_i ye hye
    have hx:=hρ x
    have hyv:=hρ y
    split at h
    ·rename_i k1 n k2 c e1 e2
     cases h
     obtain⟨rfl,hc0,hcm,hz0⟩:=hcc
     rw[e1] at hx
     rw[e2] at hyv
     have ex:a.eval x=.int k1 0:=by simpa[RepV] using hx
     have ey:a.eval y=.int k2 c:=by simpa[RepV] using hyv
     obtain⟨c,rfl⟩:=Int.eq_ofNat_of_zero_le hc0
     obtain⟨i,dd,-,h2,h3,-⟩:=dU hT hy
     obtain rfl:=A9 h3
     obtain⟨ie,de,q1,q2,q3,q4,q5,q6,-,q8,q9⟩:=dU hT hye
     have hbb:(ie.bytes:Int)*(c:Int)<=281474976710656:=by
      have:ie.bytes*c<=1000*100000000000:=Nat.mul_le_mul (by omega) (by omega)
      have e3:((ie.bytes*c:Nat):Int)=(ie.bytes:Int)*(c:Int):=Int.natCast_mul _ _
      omega
     have hr:=run_make (P:=P) g.w T e ie ye.zval h2 q1 q4 k1 k2 0 c (Int.le_refl _) (by omega) hbb (by omega)
     obtain⟨g',g1,g2,g3,g4,g5,g6,g7⟩:=hI.newRoom (nm:=nm) (sz:=ye.size) (e:=e) (c:=c) (xs:=(madeCells ye.zval.cells (c*ie.size)).toList) (hf2 _ _ rfl) (by rw[Array.length_toList,size_madeCells,q5]) (by unfold maxLen;omega)
     refine⟨_,g',?_,⟨g1,g2,g3,g5,g6⟩,g7⟩
     rw[g4]
     simp only[execOp,ex,ey]
     simp only[Int.toNat_zero,Int.toNat_natCast] at hr
     exact oQ hr
    ·cases h
   ·cases h
  ·cases h
 case load T ad =>
  split at h
  ·rename_i y hy
   have hp:=hρ ad
   split at h
   ·rename_i k off hk
    rw[hk] at hp
    obtain⟨hp,hnn⟩:=hp
    have hp':a.eval ad=.pointer (some ⟨g.B k,off,none⟩):=by simpa using hp
    split at h
    ·rename_i T0 d
     have hbx:g.st.bx k=some (T0,d):=(hc T ad k off rfl hk).symm
     obtain⟨-,-,xs,hx1,hx2⟩:=hI.box k T0 d hbx
     split at h
     ·rename_i d1 hd1
      split at h
      ·rename_i d2 hd2
       have hr2:=(hx2.dp _ hd1).tk _ hd2
       have hrange:g.w.rangeAt (g.B k) off ((xs.drop off).take y.size):=λ j u hu=>by
        rw[cell_of_row g.w _ _ _ _ _ hx1]
        simpa using getElem?_slice hu
       have hl:=uX hT hy hrange hr2 (zE _ hd2)
       have run:∀v,(Instr.loadAt T (.pointer (some ⟨g.B k,off,none⟩))).run P g.w=.ok v g.w->(execOp a.eval { dst:=dst,op:=Op.load T ad,type:=ty,pos:=pos,after:=after,guard:=guard }).run P g.w=.ok (.value v) g.w:=λ v hv=>by
        simp only[execOp,hp'];exact oQ hv
       split at h
       ·rename_i fs hs
        cases h
        obtain⟨v,e1,e2⟩:=hl.1 fs hs
        exact bL hI (run v e1) e2
       ·cases h
       ·rename_i hs1 hs2
        cases h
        obtain⟨v,e1,e2⟩:=hl.2 (λ fs e=>hs1 fs e) hs2 hcc
        exact bL hI (run v e1) e2
      ·cases h
     ·cases h
    ·cases h
   ·rename_i x hk
    rw[hk] at hp
    obtain⟨b,q,ys,hp',hb,h0,h1,h2,h3⟩:=pH hI hp
    split at h
    ·rename_i d2 hd2
     have hr2:=RepC.hd _ h0 h1 hd2
     have hrange:g.w.rangeAt b q (ys.take y.size):=λ j u hu=>h3 j u (by
      rw[List.getElem?_take] at hu
      split at hu
      ·exact hu
      ·cases hu)
     have hl:=uX hT hy hrange hr2 (DX _ hd2)
     have run:∀v,(Instr.loadAt T (.pointer (some ⟨b,q,none⟩))).run P g.w=.ok v g.w->(execOp a.eval { dst:=dst,op:=Op.load T ad,type:=ty,pos:=pos,after:=after,guard:=guard }).run P g.w=.ok (.value v) g.w:=λ v hv=>by
      simp only[execOp,hp'];exact oQ hv
     split at h
     ·rename_i fs hs
      cases h
      obtain⟨v,e1,e2⟩:=hl.1 fs hs
      exact bL hI (run v e1) e2
     ·cases h
     ·rename_i hs1 hs2
      cases h
      obtain⟨v,e1,e2⟩:=hl.2 (λ fs e=>hs1 fs e) hs2 hcc
      exact bL hI (run v e1) e2
    ·cases h
   ·rename_i eb eo x hk
    rw[hk] at hp
    have hp:=RepV.ev_el hp
    obtain⟨b,q,ys,hp',hb,h0,h1,h2,h3⟩:=pH hI hp
    split at h
    ·rename_i d2 hd2
     have hr2:=RepC.hd _ h0 h1 hd2
     have hrange:g.w.rangeAt b q (ys.take y.size):=λ j u hu=>h3 j u (by
      rw[List.getElem?_take] at hu
      split at hu
      ·exact hu
      ·cases hu)
     have hl:=uX hT hy hrange hr2 (DX _ hd2)
     have run:∀v,(Instr.loadAt T (.pointer (some ⟨b,q,none⟩))).run P g.w=.ok v g.w->(execOp a.eval { dst:=dst,op:=Op.load T ad,type:=ty,pos:=pos,after:=after,guard:=guard }).run P g.w=.ok (.value v) g.w:=λ v hv=>by
      simp only[execOp,hp'];exact oQ hv
     split at h
     ·rename_i fs hs
      cases h
      obtain⟨v,e1,e2⟩:=hl.1 fs hs
      exact bL hI (run v e1) e2
     ·cases h
     ·rename_i hs1 hs2
      cases h
      obtain⟨v,e1,e2⟩:=hl.2 (λ fs e=>hs1 fs e) hs2 hcc
      exact bL hI (run v e1) e2
    ·cases h
   ·cases h
  ·cases h
 case nilCheck x =>
  have hx:=hρ x
  split at h
  ·rename_i k q hk
   cases h
   rw[hk] at hx
   have e:a.eval x=.pointer (some ⟨g.B k,q,none⟩):=by simpa using hx.1
   exact bL hI (v:=a.eval x) (by simp[execOp,e]) hx
  ·rename_i d hk
   cases h
   rw[hk] at hx
   obtain⟨b,q,ys,e,-⟩:=pH hI hx
   exact bL hI (v:=a.eval x) (by simp[execOp,e]) hx
  ·rename_i eb eo d hk
   cases h
   rw[hk] at hx
   have hx:=RepV.ev_el hx
   obtain⟨b,q,ys,e,-⟩:=pH hI hx
   exact bL hI (v:=a.eval x) (by simp[execOp,e]) hx
  ·cases h
 case fieldAddr S x f =>
  have hx:=hρ x
  split at h
  ·rename_i q T y hf
   obtain⟨gs,hu,⟨fd,h1,rfl,rfl⟩,hy⟩:=uI hT hf
   obtain⟨i,dd,k1,-,-,-,k5,-⟩:=dU hT hy
   have run:∀(b p:Nat),a.eval x=.pointer (some ⟨b,p,none⟩)->y.size≠0->(execOp a.eval { dst:=dst,op:=Op.fieldAddr S x f,type:=ty,pos:=pos,after:=after,guard:=guard }).run P g.w=.ok (.value (.pointer (some ⟨b,p+fd.offset,none⟩))) g.w:=λ b p e hs=>by
    simp[execOp,Instr.fieldAt,e,run_underlying hu,h1,Instr.sureAddr,fieldPlace,sizeOf,typeInfo,k1,k5,hs,Addr.add_mid]
   split at h
   ·rename_i k p hk
    cases h
    rw[hk] at hx
    have e:a.eval x=.pointer (some ⟨g.B k,p,none⟩):=by simpa using hx.1
    exact bL hI (run _ _ e hcc) ⟨rfl,hx.2⟩
   ·rename_i d hk
    cases h
    rw[hk] at hx
    obtain⟨b,p,ys,e,hb,h0,h2,h3,-⟩:=pH hI hx
    exact bL hI (run _ _ e hcc) (TX h0 hb h2 h3)
   ·rename_i eb eo d hk
    cases h
    rw[hk] at hx
    have hx:=RepV.ev_el hx
    obtain⟨b,p,ys,e,hb,h0,h2,h3,-⟩:=pH hI hx
    exact bL hI (run _ _ e hcc) (TX h0 hb h2 h3)
   ·cases h
  ·cases h
 case field S x f =>
  have hx:=hρ x
  split at h
  ·rename_i q T y hf
   obtain⟨gs,hu,⟨fd,h1,rfl,rfl⟩,hy⟩:=uI hT hf
   split at h
   ·rename_i d hk
    rw[hk] at hx
    obtain⟨xs,e,hd⟩:=hx
    have e':a.eval x=.agg xs.toArray:=by simpa using e
    split at h
    ·rename_i d1 hd1
     split at h
     ·rename_i d2 hd2
      have hl:=RO hT hy ((hd.dp _ hd1).tk _ hd2) (zE _ hd2)
      have run:∀v,(part fd.type xs.toArray fd.offset).run P g.w=.ok v g.w->(execOp a.eval { dst:=dst,op:=Op.field S x f,type:=ty,pos:=pos,after:=after,guard:=guard }).run P g.w=.ok (.value v) g.w:=λ v hv=>by
       simp[execOp,Instr.field,run_underlying hu,h1,e',asAgg,hv]
      split at h
      ·rename_i fs hs
       cases h
       obtain⟨v,e1,e2⟩:=hl.1 fs hs
       exact bL hI (run v e1) e2
      ·cases h
      ·rename_i hs1 hs2
       cases h
       obtain⟨v,e1,e2⟩:=hl.2 (λ fs e=>hs1 fs e) hs2 hcc
       exact bL hI (run v e1) e2
     ·cases h
    ·cases h
   ·cases h
  ·cases h
 case indexAddr T x i =>
  have hx:=hρ x
  have hi:=hρ i
  split at h
  ·rename_i e sz by_ zv z hy
   split at h
   ·rename_i y hye
    split at h
    ·rename_i sz' d k n hcx hin
     cases h
     obtain⟨h1,h2,h3,h4⟩:=hcc
     rw[hin] at hi
     have e2:a.eval i=.int k n:=by simpa[RepV] using hi
     obtain⟨hrd,hg⟩:=FF hx hcx
     obtain⟨p,m,c,e1,k1,k2,k3,-,k4⟩:=hrd
     obtain⟨ii,dd,-,u2,u3,-⟩:=dU hT hy
     obtain rfl:=A9 u3
     obtain⟨ie,de,v1,-,-,-,v5,-⟩:=dU hT hye
     have hmul:(n.toNat+1)*sz'=n.toNat*sz'+sz':=by rw[Nat.add_mul,Nat.one_mul]
     have hnm:n.toNat<m:=Nat.lt_of_mul_lt_mul_right (a:=sz') (by rw[k1];omega)
     have hn:n<(m:Int):=by omega
     rcases k4 with ⟨rfl,rfl⟩|⟨rfl,-⟩|⟨b,q,rfl,hb,hat,-⟩
     ·omega
     ·omega
     ·obtain⟨ys,w1,w2⟩:=At.vsx hat
      have hfs:∀j u,ys[j]? = some u->g.Fs b (q+j)=some u:=λ j u hu=>by
       unfold Gh.Fs
       split
       ·exact hI.F _ _ _ (w2 j u hu)
       ·exact w2 j u hu
      refine bL hI (v:=.pointer (some ⟨b,q+n.toNat*sz',none⟩)) ?_ (TX hg hb w1 hfs)
      simp[execOp,Instr.indexAt,e1,e2,asIntOf,run_underlying u2,h3,hn,sizeOf,typeInfo,v1,v5,<-h1,Addr.add_mid]
    ·cases h
   ·cases h
  ·cases h
 case extract t i =>
  have ht:=hρ t
  split at h
  ·rename_i l hl
   obtain⟨x,hx,e⟩:=Option.map_eq_some_iff.1 h
   cases e
   rw[hl] at ht
   obtain⟨ys,e,h1⟩:=ht
   have e':a.eval t=.tuple ys.toArray:=by simpa using e
   obtain⟨v,h2,h3⟩:=RepV.nth h1 hx
   exact bL hI (v:=v) (by simp[execOp,Instr.extract,e',h2]) h3
  ·cases h
 case binOp op T x y T2 =>
  have hx:=hρ x
  have hy:=hρ y
  split at h
  ·rename_i u v hu hv
   rw[hu] at hx
   rw[hv] at hy
   have ex:a.eval x=u:=by simpa[RepV] using hx
   have ey:a.eval y=v:=by simpa[RepV] using hy
   split at h
   ·rename_i r hr
    cases h
    refine bL hI (v:=r) ?_ rfl
    simp only[execOp,ex,ey]
    exact oQ (VG hr g.w)
   ·unfold abool at h
    split at h
    ·rename_i t sz by_ zv z hb hT2
     cases h
     refine bL hI (v:=.bool t) ?_ rfl
     obtain⟨ii,dd,-,u2,u3,-⟩:=dU hT hT2
     obtain rfl:=sh_bo u3
     simp only[execOp,ex,ey]
     unfold aboolV at hb
     split at hb
     ·cases hb
      exact oQ (OW u2 g.w)
     ·cases hb
    ·cases h
  ·cases h
 case unOp op T x =>
  have hx:=hρ x
  split at h
  ·rename_i t hk
   cases h
   rw[hk] at hx
   have ex:a.eval x=.bool t:=by simpa[RepV] using hx
   exact bL hI (v:=.bool (!t)) (by simp[execOp,ex,Op.unary]) rfl
  ·rename_i k n hk
   cases h
   rw[hk] at hx
   have ex:a.eval x=.int k n:=by simpa[RepV] using hx
   exact bL hI (v:=.int k (k.wrap (-n))) (by simp[execOp,ex,Op.unary,Op.intArith]) rfl
  ·cases h
 case convert s t x =>
  have hx:=hρ x
  split at h
  ·rename_i k sz by_ zv z hy
   split at h
   ·rename_i k0 n hk
    cases h
    rw[hk] at hx
    have ex:a.eval x=.int k0 n:=by simpa[RepV] using hx
    obtain⟨i,d,-,h2,h3,-⟩:=dU hT hy
    obtain rfl:=sh_int h3
    obtain⟨ys,hys⟩:=Option.isSome_iff_exists.1 hcc
    obtain⟨-,ds,-,q2,-⟩:=dU hT hys
    refine bL hI (v:=.int k (k.wrap n)) ?_ rfl
    have hcv:(convert s t (.int k0 n)).run P g.w=.ok (.int k (k.wrap n)) g.w:=by
     simp[convert,run_underlying h2,run_underlying q2,Conv.intToInt]
    simp only[execOp,ex]
    exact oQ hcv
   ·cases h
  ·cases h
 case makeFunc f x y =>
  cases h
  refine bL hI (v:=.func f (x.map a.eval) (y.map a.eval)) (by simp[execOp,Instr.makeFunc]) ⟨_,_,?_,RepV.list hρ x.toList,RepV.list hρ y.toList⟩
  have e:∀z:Array Operand,z.map a.eval=(z.toList.map a.eval).toArray:=λ z=>by apply Array.ext';simp
  rw[e,e]
 case slice T x lo hi mx =>
  unfold oK at h
  cases mx with
  | some _=>cases h
  | none =>
  have hx:=hρ x
  simp only at h
  split at h
  ·rename_i e sz by_ zv z hy
   split at h
   ·rename_i y hye
    split at h
    ·rename_i sz' d s hcx
     split at h
     ·rename_i c1 r h1
      cases h
      obtain⟨hc1,hz1,hz2,hrl⟩:=hcc
      obtain⟨hrd,hg,hsg⟩:=room_rd hx hcx
      obtain⟨p,m,c,e1,k1,k2,k3,k5,k4⟩:=id hrd
      rw[e1] at hrd
      obtain⟨ii,dd,-,u2,u3,-⟩:=dU hT hy
      obtain rfl:=A9 u3
      have hm:d.len / sz'=m:=by rw[<-k1];exact Nat.mul_div_cancel _ hz2
      have hrm:r<=c:=Nat.le_of_mul_le_mul_right (by omega) hz2
      have hp:(if c=0 then p else p.map (·.add (0*y.size)))=p:=by
       split
       ·rfl
       ·cases p<;>simp[Addr.add]
      refine bL hI (v:=.slice (if c=0 then p else p.map (·.add (0*y.size))) (r-0) (c-0)) ?_ ⟨⟨Ds.tk_good _ (Ds.app_good hg hsg),Ds.dp_good _ (Ds.app_good hg hsg),trivial⟩,_,[],rfl,⟨_,[],rfl,(by rw[hp];exact hrd.cut hrl hz2),rfl⟩,(λ _ e=>by cases e),rfl⟩
      simp only[execOp,e1]
      refine oQ (uS hT u2 hye g.w p m c 0 r _ _ (λ w=>rfl) (λ w=>?_))
      rcases IF h1 hc1 with ⟨e2,e3⟩|⟨k,q,e2,e3,e4⟩
      ·cases hi
       ·simp at e3
        simp;omega
       ·cases e2
      ·cases hi with
       | none=>cases e2
       | some hi =>
        have hhi:=hρ hi
        have:ρ hi=.v (.int k q):=by simpa using e2
        rw[this] at hhi
        have el:a.eval hi=.int k q:=by simpa[RepV] using hhi
        simp only[Option.map_some,el]
        rw[run_sliceBound w k q c .sliceAcap e3 (by omega),e4]
     ·cases h
    ·rename_i lo _ _ hno
     split at h
     ·rename_i sz' d hcx
      split at h
      ·rename_i c1 l c2 r h1 h2
       cases h
       obtain⟨hc1,hc2,hz1,hz2,hlr,hrl⟩:=hcc
       obtain⟨hrd,hg⟩:=FF hx hcx
       obtain⟨p,m,c,e1,k1,k2,k3,k5,k4⟩:=id hrd
       rw[e1] at hrd
       obtain⟨ii,dd,-,u2,u3,-⟩:=dU hT hy
       obtain rfl:=A9 u3
       have hm:d.len / sz'=m:=by rw[<-k1];exact Nat.mul_div_cancel _ hz2
       have hrm:r<=m:=Nat.le_of_mul_le_mul_right (by omega) hz2
       refine bL hI (v:=.slice (if c=l then p else p.map (·.add (l*y.size))) (r-l) (c-l)) ?_ ⟨Ds.tk_good _ (Ds.dp_good _ hg),_,[],rfl,(by rw[<-hz1];exact hrd.piece hlr hrl hz2),(λ _ e=>by cases e),rfl⟩
       simp only[execOp,e1]
       refine oQ (uS hT u2 hye g.w p m c l r _ _ (λ w=>?_) (λ w=>?_))
       ·rcases IF h1 hc1 with ⟨e2,e3⟩|⟨k,q,e2,e3,e4⟩
        ·cases lo
         ·cases e3;simp
         ·cases e2
        ·cases lo with
         | none=>cases e2
         | some lo =>
          have hlo:=hρ lo
          have:ρ lo=.v (.int k q):=by simpa using e2
          rw[this] at hlo
          have el:a.eval lo=.int k q:=by simpa[RepV] using hlo
          simp only[Option.map_some,el]
          rw[run_sliceBound w k q r .sliceB e3 (by omega),e4]
       ·rcases IF h2 hc2 with ⟨e2,e3⟩|⟨k,q,e2,e3,e4⟩
        ·cases hi
         ·simp at e3
          simp;omega
         ·cases e2
        ·cases hi with
         | none=>cases e2
         | some hi =>
          have hhi:=hρ hi
          have:ρ hi=.v (.int k q):=by simpa using e2
          rw[this] at hhi
          have el:a.eval hi=.int k q:=by simpa[RepV] using hhi
          simp only[Option.map_some,el]
          rw[run_sliceBound w k q c .sliceAcap e3 (by omega),e4]
      ·cases h
     ·cases h
   ·cases h
  ·cases h
 case call cl =>
  obtain⟨callee,xs,ts⟩:=cl
  unfold jP at h
  cases callee with
  | value f=>cases h
  | invoke r m=>cases h
  | builtin b =>
   cases b<;>simp only at h<;>try (cases h;done)
   case len =>
    split at h
    ·rename_i x T hx1 ht1
     split at h
     ·rename_i e sz by_ zv z hy
      obtain⟨ii,dd,-,u2,u3,-⟩:=dU hT hy
      obtain rfl:=A9 u3
      have hx:=hρ x
      have exs:xs=#[x]:=by apply Array.ext';simpa using hx1
      have ets:ts=#[T]:=by apply Array.ext';simpa using ht1
      subst exs ets
      have run:∀p n c,a.eval x=.slice p n c->(execOp a.eval { dst:=dst,op:=Op.call { callee:=.builtin .len,args:=#[x],argTypes:=#[T] },type:=ty,pos:=pos,after:=after,guard:=guard }).run P g.w=.ok (.value (.int .i64 n)) g.w:=λ p n c e=>by
       simp[execOp,resolve,invoke,builtin,Builtin.len_,run_underlying u2,e,goInt]
      split at h
      ·rename_i hk
       cases h
       rw[hk] at hx
       exact bL hI (run none 0 0 (by simpa[RepV] using hx)) rfl
      ·rename_i p m c hk
       cases h
       rw[hk] at hx
       exact bL hI (run (some p) m c (by simpa[RepV] using hx)) rfl
      ·rename_i d hk
       rw[hk] at hx
       split at h
       ·rename_i sz' d' hd
        cases h
        obtain⟨⟨p,m,c,e1,k1,-⟩,-⟩:=LT (hx:RepC g d [a.eval x]) hd
        have hm:d'.len / sz'=m:=by rw[<-k1];exact Nat.mul_div_cancel _ hcc
        rw[hm]
        exact bL hI (run p m c e1) rfl
       ·cases h
      ·cases h
     ·cases h
    ·cases h
   case max =>
    split at h
    ·rename_i x y hx1
     split at h
     ·rename_i k m k' n hkx hky
      cases h
      have exs:xs=#[x,y]:=by apply Array.ext';simpa using hx1
      subst exs
      have hx:=hρ x
      have hy:=hρ y
      rw[hkx] at hx
      rw[hky] at hy
      have e1:a.eval x=.int k m:=by simpa[RepV] using hx
      have e2:a.eval y=.int k' n:=by simpa[RepV] using hy
      exact bL hI (v:=.int k (if n>m then n else m)) (by simp[execOp,resolve,invoke,builtin,Builtin.max_,Builtin.max2,e1,e2]) rfl
     ·cases h
    ·cases h
end
section
def Dc.lent:Dc->Bool
 | .nil=>true
 | .lit _ r=>r.lent
 | .row none _ _ _ r=>r.lent
 | .seg none _ r=>r.lent
 | _=>false
theorem Vs.split{F:Mem}{hi:Nat}{y:Ds}{x:Ds}:∀ {xs:List Value},Vs F hi (x.app y) xs->∃ys zs,xs=ys++zs/\Vs F hi x ys/\Vs F hi y zs:=by
 induction x with
 | nil=>intro xs h;exact⟨[],xs,rfl,rfl,h⟩
 | lit v r ih=>rintro xs ⟨ys,rfl,h⟩;obtain⟨y1,y2,rfl,h1,h2⟩:=ih h;exact⟨v :: y1,y2,rfl,⟨_,rfl,h1⟩,h2⟩
 | row sz e x s r _ _ ih=>rintro xs ⟨v,ys,rfl,h0,h⟩;obtain⟨y1,y2,rfl,h1,h2⟩:=ih h;exact⟨v :: y1,y2,rfl,⟨v,_,rfl,h0,h1⟩,h2⟩
theorem Ds.good_app{x y:Ds}(h:(x.app y).good):x.good/\y.good:=by
 induction x with
 | nil=>exact⟨trivial,h⟩
 | lit v r ih=>exact⟨⟨h.1,(ih h.2).1⟩,(ih h.2).2⟩
 | row sz e x s r _ _ ih=>exact⟨⟨h.1,h.2.1,(ih h.2.2).1⟩,(ih h.2.2).2⟩
theorem RepC.lent{g:Gh}{d:Dc}:∀ {xs:List Value},d.lent=true->d.ds.good->Vs g.F g.w.heap.size d.ds xs->RepC g d xs:=by
 induction d with
 | nil=>intro xs _ _ h;exact h
 | lit v r ih=>rintro xs hl hg ⟨ys,rfl,h⟩;exact⟨hg.1,ys,rfl,ih hl hg.2 h⟩
 | nilr sz e r _=>intro xs hl;cases hl
 | row k sz e x r ih =>
  cases k with
  | some _=>intro xs hl;cases hl
  | none=>rintro xs hl hg ⟨v,ys,rfl,h1,h⟩;exact⟨hg.1,v,ys,rfl,h1,(λ _ e=>by cases e),ih hl hg.2.2 h⟩
 | seg k d r ih =>
  cases k with
  | some _=>intro xs hl;cases hl
  | none =>
   intro xs hl hg h
   obtain⟨y1,y2,rfl,h1,h2⟩:=Vs.split h
   exact⟨(Ds.good_app hg).1,y1,y2,rfl,h1,(λ _ e=>by cases e),ih hl (Ds.good_app hg).2 h2⟩
 | blk k v sz e x r _ _=>intro xs hl;cases hl
theorem Ds.good.strip{x:Ds}(h:x.good):x.strip.good:=by
 induction x with
 | nil=>trivial
 | lit v r ih=>exact⟨h.1,ih h.2⟩
 | row sz e x s r ihx _ ih=>exact⟨ihx h.1,trivial,ih h.2.2⟩
theorem Vs.strip{F:Mem}{hi:Nat}{x:Ds}:∀ {xs:List Value},Vs F hi x xs->Vs F hi x.strip xs:=by
 induction x with
 | nil=>intro xs h;exact h
 | lit v r ih=>rintro xs ⟨ys,e,h⟩;exact⟨ys,e,ih h⟩
 | row sz e x s r _ _ ih=>rintro xs ⟨v,ys,e,h1,h⟩;exact⟨v,ys,e,h1.strip,ih h⟩
def AV.isL:AV->Bool
 | .nil=>true
 | .cons _ _=>true
 | _=>false
def AV.arg(bx:Nat->Option (Nat×Dc)):AV->AV->Prop
 | .nil,.junk=>False
 | .cons _ _,.junk=>False
 | _,.junk=>True
 | .v x,.v y=>x=y
 | .v x,.c d=>x=.slice none 0 0/\d.lent=true/\∃sz e,d.ds=.row sz e .nil .nil .nil
 | .c d,.c d'=>d'.lent=true/\(d.ds=d'.ds∨d.ds.strip=d'.ds)
 | .agg d,.agg d'=>d'.lent=true/\(d.ds=d'.ds∨d.ds.strip=d'.ds)
 | .el x,.el y=>x=y
 | .bx k off,.el y=>∃T d d1,bx k=some (T,d)/\d.dp off=some d1/\d1.ds=y
 | .nil,.nil=>True
 | .cons a r,.cons b s=>a.arg bx b/\r.isL=true/\r.arg bx s
 | .tup a,.tup b=>a.isL=true/\a.arg bx b
 | .fn f a p,.fn f' b q=>f=f'/\(a.isL=true/\a.arg bx b)/\p.isL=true/\p.arg bx q
 | .ev _ _ x,.el y=>x=y
 | .ev b o x,.ev b' o' y=>b=b'/\o=o'/\x=y
 | .ev b o _,.v y=>y=.pointer (some ⟨b,o,none⟩)
 | _,_=>False
def bJ(F:Mem)(w:World):Gh:={ st:={ env:=λ _=>.junk,bx:=λ _=>none,τ:=λ _=>none },F:=F,w:=w,base:=w.heap.size,fp:=λ _=>[],B:=λ _=>0 }
def jF(F:Mem)(w w':World)(fp:Tk->List Nat):Gh:={ st:={ env:=λ _=>.junk,bx:=λ _=>none,τ:=λ k=>if k=0 then some 0 else none },F:=λ b o=>if b<w.heap.size then F b o else U w' b o,w:=w',base:=w.heap.size,fp:=fp,B:=λ _=>0 }
def Dc.noblk:Dc->Bool
 | .nil=>true
 | .lit _ r=>r.noblk
 | .nilr _ _ r=>r.noblk
 | .row _ _ _ _ r=>r.noblk
 | .seg _ _ r=>r.noblk
 | .blk _ _ _ _ _ _=>false
def AV.plain:AV->Bool
 | .c d=>d.noblk
 | .agg d=>d.noblk
 | .el _=>false
 | .bx _ _=>false
 | .cons a r=>a.plain && r.plain
 | .tup l=>l.plain
 | .fn _ a b=>a.plain && b.plain
 | .ev _ _ _=>false
 | _=>true
def rX (P : Program) (f : Nat) : Prop := ∃ fn, P.funcs[f]? = some fn ∧ fn.name ≠ "runtime.NumGoroutine" ∧ fn.body ≠ none
def Holds(P:Program)(G:World->Prop)(f:Nat)(avs r:AV):Prop:=rX P f/\r.plain=true/\∀(F:Mem) (w:World) (vs:List Value),(∀b o v,F b o=some v->U w b o=some v)->G w->RepV (bJ F w) avs vs ->
 Calls P f vs.toArray w λ e w'=>∃v fp,e=.returned v/\Below w.heap.size w w'/\RepV (jF F w w' fp) r [v]/\(∀k b,b∈fp k->w.heap.size<=b/\b<w'.heap.size)/\∀k k' b,b∈fp k->b∈fp k'->k=k'
theorem LX{g:Gh}(hI:Inv g){a:AV}:∀ {b:AV} {xs:List Value},RepV g a xs->a.arg g.st.bx b->RepV (bJ g.F g.w) b xs:=by
 induction a with
 | junk =>
  intro b xs h ha
  cases b<;>first|trivial|exact ha.elim
 | v x =>
  intro b xs h ha
  cases b<;>simp only[AV.arg] at ha
  ·trivial
  ·subst ha;exact h
  ·obtain⟨rfl,h1,sz,e,h2⟩:=ha
   have e:xs=[.slice none 0 0]:=h
   subst e
   exact RepC.lent h1 (by rw[h2];exact⟨trivial,trivial,trivial⟩) (by rw[h2];exact⟨_,[],rfl,Rd.none_ _ _ _,rfl⟩)
 | c d =>
  intro b xs h ha
  have h:RepC g d xs:=h
  cases b<;>simp only[AV.arg] at ha
  ·trivial
  ·obtain⟨h1,h2|h2⟩:=ha
   ·exact RepC.lent h1 (by rw[<-h2];exact h.good) (by rw[<-h2];exact h.vs)
   ·exact RepC.lent h1 (by rw[<-h2];exact h.good.strip) (by rw[<-h2];exact h.vs.strip)
 | agg d =>
  rintro b xs ⟨ys,rfl,h⟩ ha
  cases b<;>simp only[AV.arg] at ha
  ·trivial
  ·obtain⟨h1,h2|h2⟩:=ha
   ·exact⟨ys,rfl,RepC.lent h1 (by rw[<-h2];exact h.good) (by rw[<-h2];exact h.vs)⟩
   ·exact⟨ys,rfl,RepC.lent h1 (by rw[<-h2];exact h.good.strip) (by rw[<-h2];exact h.vs.strip)⟩
 | bx k off =>
  rintro b xs ⟨rfl,hn⟩ ha
  cases b<;>simp only[AV.arg] at ha
  ·trivial
  ·obtain⟨T,d,d1,h1,h2,rfl⟩:=ha
   obtain⟨-,-,ys,h3,h4⟩:=hI.box k T d h1
   have hr:=h4.dp _ h2
   refine⟨hr.good,g.B k,off,ys.drop off,rfl,(Array.getElem?_eq_some_iff.1 h3).1,hr.vs,λ j u hu=>?_⟩
   have hlt:g.B k<(bJ g.F g.w).base:=(Array.getElem?_eq_some_iff.1 h3).1
   unfold Gh.Fs
   rw[if_pos hlt]
   rw[List.getElem?_drop] at hu
   refine nJ ?_ (frozen_of_row _ _ _ _ _ h3)
   show g.w.cell? _=_
   rw[cell_of_row _ _ _ _ _ _ h3]
   simpa using hu
 | el x =>
  rintro b xs ⟨h0,b',o,ys,rfl,hb,h1,h2⟩ ha
  cases b<;>simp only[AV.arg] at ha
  ·trivial
  ·subst ha
   refine⟨h0,b',o,ys,rfl,hb,h1,λ j u hu=>?_⟩
   have h3:=hI.fs (h2 j u hu)
   have hlt:b'<(bJ g.F g.w).base:=hb
   unfold Gh.Fs
   rw[if_pos hlt]
   exact h3
 | nil =>
  intro b xs h ha
  cases b<;>simp only[AV.arg] at ha
  exact h
 | cons a r iha ihr =>
  rintro b xs ⟨y,ys,rfl,h1,h2⟩ ha
  cases b<;>simp only[AV.arg] at ha
  exact⟨y,ys,rfl,iha h1 ha.1,ihr h2 ha.2.2⟩
 | tup l ih =>
  rintro b xs ⟨ys,rfl,h⟩ ha
  cases b<;>simp only[AV.arg] at ha
  ·trivial
  ·exact⟨ys,rfl,ih h ha.2⟩
 | fn f x y ihx ihy =>
  rintro b xs ⟨ys,zs,rfl,h1,h2⟩ ha
  cases b<;>simp only[AV.arg] at ha
  ·trivial
  ·exact⟨ys,zs,by rw[ha.1],ihx h1 ha.2.1.2,ihy h2 ha.2.2.2⟩
 | ev b o x =>
  rintro c xs ⟨rfl,h0,hb,ys,h1,h2⟩ ha
  have key:∀j u,ys[j]? = some u->(bJ g.F g.w).Fs b (o+j)=some u:=λ j u hu=>by
   have h3:=hI.fs (h2 j u hu)
   have hlt:b<(bJ g.F g.w).base:=hb
   unfold Gh.Fs
   rw[if_pos hlt]
   exact h3
  cases c<;>simp only[AV.arg] at ha
  ·trivial
  ·subst ha;rfl
  ·subst ha;exact⟨h0,b,o,ys,rfl,hb,h1,key⟩
  ·obtain⟨rfl,rfl,rfl⟩:=ha
   exact⟨rfl,h0,hb,ys,h1,key⟩
end
section
variable {P:Program} {tb:TB} {G:World->Prop}
def Dc.ren(n:Nat):Dc->Dc
 | .nil=>.nil
 | .lit v r=>.lit v (r.ren n)
 | .nilr sz e r=>.nilr sz e (r.ren n)
 | .row k sz e x r=>.row (k.map λ k=>(n,k.2)) sz e x (r.ren n)
 | .seg k d r=>.seg (k.map λ k=>(n,k.2)) d (r.ren n)
 | .blk k v sz e x r=>.blk k v sz e x (r.ren n)
def AV.ren(n:Nat):AV->AV
 | .c d=>.c (d.ren n)
 | .agg d=>.agg (d.ren n)
 | .cons a r=>.cons (a.ren n) (r.ren n)
 | .tup l=>.tup (l.ren n)
 | .fn f a b=>.fn f (a.ren n) (b.ren n)
 | a=>a
def AV.app:AV->AV->AV
 | .cons a r,y=>.cons a (r.app y)
 | _,y=>y
def AV.isLL:AV->Bool
 | .nil=>true
 | .cons _ r=>r.isLL
 | _=>false
theorem RepV.app{g:Gh}{x y:AV}{ys:List Value}(hy:RepV g y ys):∀ {xs:List Value},RepV g x xs->x.isLL=true->RepV g (x.app y) (xs++ys):=by
 induction x with
 | nil=>rintro xs rfl _;exact hy
 | cons a r _ ih=>rintro xs ⟨u,us,rfl,h1,h2⟩ hl;exact⟨u,us++ys,rfl,h1,ih h2 hl⟩
 | junk=>intro xs _ h;cases h
 | v _=>intro xs _ h;cases h
 | c _=>intro xs _ h;cases h
 | agg _=>intro xs _ h;cases h
 | bx _ _=>intro xs _ h;cases h
 | el _=>intro xs _ h;cases h
 | tup _ _=>intro xs _ h;cases h
 | fn _ _ _ _ _=>intro xs _ h;cases h
 | ev _ _ _=>intro xs _ h;cases h
theorem U6(l:List AV):(AV.list l).isLL=true:=by
 induction l with
 | nil=>rfl
 | cons a l ih=>exact ih
def jU(g:Gh)(nm:Nat)(w':World)(fp:Tk->List Nat):Gh :=
 { st:={ g.st with τ:=upd g.st.τ nm 0 },F:=λ b o=>if b<g.w.heap.size then g.F b o else U w' b o,w:=w',base:=g.base,fp:=λ k=>if k.1=nm then fp (0,k.2) else g.fp k,B:=g.B }
theorem RepC.ren{g:Gh}{nm:Nat}{w':World}{fp:Tk->List Nat}(hb:g.base<=g.w.heap.size){d:Dc}:∀ {xs:List Value},RepC (jF g.F g.w w' fp) d xs->RepC (jU g nm w' fp) (d.ren nm) xs:=by
 have how:∀(k:Option Tk) (d:Ds) (xs:List Value),(jF g.F g.w w' fp).Ow k d xs->(jU g nm w' fp).Ow (k.map λ k=>(nm,k.2)) d xs:=by
  intro k d xs h j e
  cases k with
  | none=>cases e
  | some k =>
   cases e
   obtain⟨h0,S,h1,h2,h3⟩:=h k rfl
   have hk:k.1=0:=by
    by_cases hk:k.1=0
    ·exact hk
    ·exact absurd h0 (by simp[jF,hk])
   refine⟨if_pos rfl,S,h1.lower hb,h2,λ b hbS=>?_⟩
   have h4:=h3 b hbS
   show b∈(if nm=nm then fp (0,k.2) else _)
   rw[if_pos rfl]
   have:k=(0,k.2):=by rw[<-hk]
   rw[this] at h4
   exact h4
 induction d with
 | nil=>intro xs h;exact h
 | lit v r ih=>rintro xs ⟨h0,ys,rfl,h⟩;exact⟨h0,ys,rfl,ih h⟩
 | nilr sz e r ih=>rintro xs ⟨ys,rfl,h⟩;exact⟨ys,rfl,ih h⟩
 | row k sz e x r ih=>rintro xs ⟨h0,v,ys,rfl,h1,h2,h⟩;exact⟨h0,v,ys,rfl,h1,how _ _ _ h2,ih h⟩
 | seg k d r ih=>rintro xs ⟨h0,ys,zs,rfl,h1,h2,h⟩;exact⟨h0,ys,zs,rfl,h1,how _ _ _ h2,ih h⟩
 | blk k v sz e x r _ ih =>
  rintro xs ⟨h0,h9,v,ys,rfl,h1,⟨cur,h2,h3,-⟩,h⟩
  by_cases hk:k=0
  ·simp[jF,hk] at h2
   omega
  ·simp[jF,hk] at h2
theorem RepV.ren{g:Gh}{nm:Nat}{w':World}{fp:Tk->List Nat}(hb:g.base<=g.w.heap.size){r:AV}:∀ {xs:List Value},r.plain=true->RepV (jF g.F g.w w' fp) r xs->RepV (jU g nm w' fp) (r.ren nm) xs:=by
 induction r with
 | junk=>intro xs _ h;exact h
 | v x=>intro xs _ h;exact h
 | c d=>intro xs _ h;exact RepC.ren hb h
 | agg d=>rintro xs _ ⟨ys,rfl,h⟩;exact⟨ys,rfl,h.ren hb⟩
 | bx k o=>intro xs h;cases h
 | el x=>intro xs h;cases h
 | nil=>intro xs _ h;exact h
 | cons a r iha ihr =>
  rintro xs hp ⟨y,ys,rfl,h1,h2⟩
  simp only[AV.plain,Bool.and_eq_true] at hp
  exact⟨y,ys,rfl,iha hp.1 h1,ihr hp.2 h2⟩
 | tup l ih=>rintro xs hp ⟨ys,rfl,h⟩;exact⟨ys,rfl,ih hp h⟩
 | fn f a b iha ihb =>
  rintro xs hp ⟨ys,zs,rfl,h1,h2⟩
  simp only[AV.plain,Bool.and_eq_true] at hp
  exact⟨ys,zs,rfl,iha hp.1 h1,ihb hp.2 h2⟩
 | ev b o x=>intro xs h;cases h
theorem OI{g:Gh}(hI:Inv g){nm:Nat}(hn:g.st.τ nm=none){w':World}{fp:Tk->List Nat}(hb:Below g.w.heap.size g.w w')(h1:∀k b,b∈fp k->g.w.heap.size<=b/\b<w'.heap.size)(h2:∀k k' b,b∈fp k->b∈fp k'->k=k')(av:AV) :
  Ext g (jU g nm w' fp) { av:=av,tu:=some (nm,0) }:=by
 have hτ:∀k,g.st.τ k≠none->k≠nm:=λ k hk e=>hk (e ▸ hn)
 have hF:∀b,b<g.w.heap.size->∀o,(jU g nm w' fp).F b o=g.F b o:=λ b hb' o=>if_pos hb'
 have hlt:∀k,g.st.bx k≠none->g.B k<g.w.heap.size:=λ k hk=>by
  obtain⟨⟨T',d'⟩,e⟩:=Option.ne_none_iff_exists'.1 hk
  obtain⟨-,-,xs',h1,-⟩:=hI.box k T' d' e
  exact (Array.getElem?_eq_some_iff.1 h1).1
 have hτ':∀k,k≠nm->(jU g nm w' fp).st.τ k=g.st.τ k:=λ k hk=>if_neg hk
 have hfp':∀k:Tk,k.1≠nm->(jU g nm w' fp).fp k=g.fp k:=λ k hk=>if_neg hk
 have hfpn:∀j,(jU g nm w' fp).fp (nm,j)=fp (0,j):=λ j=>if_pos rfl
 have ht:Tr g (jU g nm w' fp):=⟨fun b o v hb' h=>by rw[hF b hb'];exact h,hb.size,rfl,λ b hb'=>hb.block b (Nat.lt_of_lt_of_le hb' hI.base),λ b o hb'=>hF b (Nat.lt_of_lt_of_le hb' hI.base) o,λ k hk=>⟨hk,rfl⟩,
  fun k ver hv=>by
   have hk:=hτ k (by rw[hv];simp)
   refine .inl ⟨(hτ' k hk).trans hv,λ j b hb'=>?_⟩
   have hl:=(hI.fpb k j b (by rw[hv];simp) hb').2.1
   exact⟨by rw[hfp' (k,j) hk];exact hb',hb.block b hl,λ o ho=>by rw[hF b hl];exact ho⟩⟩
 have hcase:∀(k:Tk) b,(jU g nm w' fp).st.τ k.1≠none->b∈(jU g nm w' fp).fp k->(k.1=nm/\b∈fp (0,k.2))∨(k.1≠nm/\g.st.τ k.1≠none/\b∈g.fp k):=λ k b hk hb'=>by
  by_cases e:k.1=nm
  ·refine .inl ⟨e,?_⟩
   have:(jU g nm w' fp).fp k=fp (0,k.2):=if_pos e
   rw[<-this];exact hb'
  ·exact .inr ⟨e,by rw[<-hτ' _ e];exact hk,by rw[<-hfp' k e];exact hb'⟩
 refine⟨⟨?_,Nat.le_trans hI.base hb.size,?_,hI.inj,?_,?_⟩,ht,hb.mono hI.base,rfl,rfl⟩
 ·intro b o v h
  by_cases hbs:b<g.w.heap.size
  ·rw[hF b hbs] at h
   exact aE hb b o v hbs (hI.F _ _ _ h)
  ·have:(jU g nm w' fp).F b o=U w' b o:=if_neg hbs
   rw[this] at h;exact h
 ·intro k T' d' e'
  obtain⟨k1,k2,xs',k3,k4⟩:=hI.box k T' d' e'
  refine⟨k1,λ o=>?_,xs',(hb.block _ (Array.getElem?_eq_some_iff.1 k3).1).trans k3,k4.tr ht⟩
  have hl:g.B k<g.w.heap.size:=(Array.getElem?_eq_some_iff.1 k3).1
  rw[show (jU g nm w' fp).B k=g.B k from rfl,hF _ hl]
  exact k2 o
 ·intro k j b hk hb'
  rcases hcase (k,j) b hk hb' with ⟨-,h3⟩|⟨-,h3,h4⟩
  ·obtain⟨h5,h6⟩:=h1 _ _ h3
   exact⟨Nat.le_trans hI.base h5,h6,λ i hi=>by have:=hlt i hi;show _≠g.B i;omega⟩
  ·obtain⟨h5,h6,h7⟩:=hI.fpb k j b h3 h4
   exact⟨h5,Nat.lt_of_lt_of_le h6 hb.size,h7⟩
 ·intro k k' b h3 h4 h5 h6
  rcases hcase k b h3 h5 with ⟨e1,h7⟩|⟨-,h7,h8⟩<;>rcases hcase k' b h4 h6 with ⟨e2,h9⟩|⟨-,h9,h10⟩
  ·have:=h2 _ _ _ h7 h9
   have e3:k.2=k'.2:=by simpa using this
   exact Prod.ext (e1.trans e2.symm) e3
  ·exact absurd (hI.fpb k'.1 k'.2 b h9 h10).2.1 (by have:=(h1 _ _ h7).1;omega)
  ·exact absurd (hI.fpb k.1 k.2 b h7 h8).2.1 (by have:=(h1 _ _ h9).1;omega)
  ·exact hI.fpd k k' b h7 h9 h8 h10
def uM(P:Program)(g:Gh)(a:Act)(o:Oper)(out:Out):Prop:=∀(next:Act->World->Prop) (Q:Exit->Act->World->Prop),(∀v g',Ext g g' out->RepV g' out.av [v]->next (a.put o.dst v) g'.w)->o.wp P a g.w next Q
theorem CalmOk.step{g:Gh}{a:Act}{o:Oper}{out:Out}(h:CalmOk P g a o out):uM P g a o out:=by
 obtain⟨v,g',h1,h2,h3⟩:=h
 intro next Q hn
 unfold Oper.wp
 rw[h1]
 exact hn v g' h2 h3
def eR:AV->Option (Nat×AV×AV)
 | .v (.func (.func f) ⟨x⟩ ⟨y⟩)=>some (f,AV.list (x.map .v),AV.list (y.map .v))
 | .fn (.func f) x y=>some (f,x,y)
 | _=>none
theorem OG{g:Gh}(hI:Inv g)(hG:G g.w){a:Act}{ρ:Operand->AV}(hρ:∀x,RepV g (ρ x) [a.eval x]){o:Oper}{fo:Operand}{xs:Array Operand}{ts:Array TypeId}(ho:o.op=.call { callee:=.value fo,args:=xs,argTypes:=ts })
  {f:Nat} {x y:AV} (hf:eR (ρ fo)=some (f,x,y)) (hx:x.isLL=true) (hy:y.isLL=true) {avs r:AV} (hH:Holds P G f avs r) (ha:(x.app ((AV.list (xs.toList.map ρ)).app y)).arg g.st.bx avs) {nm:Nat} (hn:g.st.τ nm=none) :
  uM P g a o { av:=r.ren nm,tu:=some (nm,0) }:=by
 obtain⟨⟨fn,k1,k2,k3⟩,hp,hC⟩:=hH
 have hfo:=hρ fo
 obtain⟨v1,v2,e1,hv1,hv2⟩:∃v1 v2:List Value,a.eval fo=.func (.func f) v1.toArray v2.toArray/\RepV g x v1/\RepV g y v2:=by
  unfold eR at hf
  split at hf
  ·rename_i f' x' y' hq
   cases hf
   rw[hq] at hfo
   have hl:∀l:List Value,RepV g (AV.list (l.map .v)) l:=λ l=>by
    induction l with
    | nil=>rfl
    | cons u l ih=>exact⟨u,l,rfl,rfl,ih⟩
   exact⟨x',y',by simpa[RepV] using hfo,hl x',hl y'⟩
  ·rename_i f' x' y' hq
   cases hf
   rw[hq] at hfo
   obtain⟨ys,zs,e,h1,h2⟩:=hfo
   exact⟨ys,zs,by simpa using e,h1,h2⟩
  ·cases hf
 have hargs:RepV g (x.app ((AV.list (xs.toList.map ρ)).app y)) (v1++(xs.toList.map a.eval++v2)):=RepV.app (RepV.app hv2 (RepV.list hρ xs.toList) (U6 _)) hv1 hx
 have hrep:=LX hI hargs ha
 have hcall:=hC g.F g.w _ hI.F hG hrep
 have hrun:(execOp a.eval o).run P g.w=.ok (.enter f (v1++(xs.toList.map a.eval++v2)).toArray) g.w:=by
  obtain⟨dst,op,ty,pos,after,guard⟩:=o
  simp only at ho
  subst ho
  have ea:(v1++(xs.toList.map a.eval++v2)).toArray=v1.toArray++xs.map a.eval++v2.toArray:=by
   apply Array.ext';simp
  rw[ea]
  simp[execOp,resolve,e1,Deferred.ofValue,invoke,callFunc,k1,k2,k3]
 intro next Q hnext
 unfold Oper.wp
 rw[hrun]
 refine hcall.mono ?_
 rintro e w' ⟨v,fp,rfl,hb,hr,h1,h2⟩
 exact hnext v (jU g nm w' fp) (OI hI hn hb h1 h2 _) (hr.ren hI.base hp)
def oJ(tb:TB)(ρ:Operand->AV)(cont:Option (Nat×Dc)):Op->Option (Prop×Out)
 | .store T ad x=>match ρ ad,cont,asC tb T (ρ x),tb T with
  | .bx k off,some (T0,d),some (c,p),some y=>match d.over off p with
   | some d'=>some (c/\p.ln=y.size,{ av:=.v undef,bu:=some (k,T0,d') })
   | none=>none
  | _,_,_,_=>none
 | _=>none
theorem FP{g:Gh}(hT:jE P tb)(hI:Inv g){a:Act}{ρ:Operand->AV}(hρ:∀x,RepV g (ρ x) [a.eval x]){o:Oper}{cont:Option (Nat×Dc)}(hc:∀T ad x k off,o.op=.store T ad x->ρ ad=.bx k off->cont=g.st.bx k)
  {c:Prop} {out:Out} (h:oJ tb ρ cont o.op=some (c,out)) (hcc:c):uM P g a o out:=by
 obtain⟨dst,op,ty,pos,after,guard⟩:=o
 cases op<;>simp only[oJ] at h<;>try (cases h;done)
 case store T ad x =>
  split at h
  ·rename_i k off T0 d c0 p y hk hx hy
   split at h
   ·rename_i d' hd'
    cases h
    obtain⟨hc0,hpl⟩:=hcc
    have hbx:g.st.bx k=some (T0,d):=(hc T ad x k off rfl hk).symm
    obtain⟨k1,k2,xs,k3,k4⟩:=hI.box k T0 d hbx
    have hv:=yS (hρ x) hx hc0
    have hr:=CU k4 hv hd'
    have hle:off+p.ln<=xs.length:=by
     unfold Dc.over at hd'
     split at hd'
     ·rename_i h3
      have:=zF _ h3
      rw[k4.len];exact this
     ·cases hd'
    have hln:(a.eval x).cells.toList.length=p.ln:=hv.len
    have hp:=hρ ad
    rw[hk] at hp
    have ea:a.eval ad=.pointer (some ⟨g.B k,off,none⟩):=by simpa using hp.1
    obtain⟨i,dd,i1,-,-,-,i5,-⟩:=dU hT hy
    have hst:=run_storeCells_at P (g.B k) off T0 (a.eval x).cells.toList 0 xs.toArray g.w k3 (by simp at hln ⊢;omega) hv.one
    obtain⟨W,hW⟩:∃W,g.w.setRow (g.B k) (xs.toArray.toList.take (off+0)++(a.eval x).cells.toList++xs.toArray.toList.drop (off+0+(a.eval x).cells.toList.length)).toArray=W:=⟨_,rfl⟩
    rw[hW] at hst
    have hcs:xs.toArray.toList.take (off+0)++(a.eval x).cells.toList++xs.toArray.toList.drop (off+0+(a.eval x).cells.toList.length)=xs.take off++((a.eval x).cells.toList++xs.drop (off+(a.eval x).cells.toList.length)):=by simp
    rw[hcs] at hW
    have hblk:W.heap[g.B k]? = some (.cells (xs.take off++((a.eval x).cells.toList++xs.drop (off+(a.eval x).cells.toList.length))).toArray T0 (0,0)):=by rw[<-hW];exact setRow_heap g.w (g.B k) _ _ T0 _ k3
    have hoth:∀b,b≠g.B k->W.heap[b]? = g.w.heap[b]?:=λ b hb=>by rw[<-hW];exact setRow_other g.w (g.B k) b _ hb
    have hsz:W.heap.size=g.w.heap.size:=by rw[<-hW];simp
    have hrun:(execOp a.eval { dst:=dst,op:=Op.store T ad x,type:=ty,pos:=pos,after:=after,guard:=guard }).run P g.w=.ok .skip W:=by
     have hsize:(a.eval x).cells.size=i.size:=by rw[i5,<-hpl,<-hln];simp
     simp[execOp,ea,Instr.storeAt,Instr.sureAddr,storeVar,sizeOf,typeInfo,i1,hsize,hst]
    intro next Q hn
    unfold Oper.wp
    rw[hrun]
    let g':Gh:={ g with st:={ g.st with bx:=upd g.st.bx k (T0,d') },w:=W }
    have hbk:∀j,g.st.bx j≠none->g'.st.bx j≠none:=λ j hj=>by
     show upd g.st.bx k (T0,d') j≠none
     unfold upd;split
     ·simp
     ·exact hj
    have hkb:∀j,g'.st.bx j≠none->g.st.bx j≠none:=λ j hj=>by
     by_cases e:j=k
     ·rw[e,hbx];simp
     ·have:g'.st.bx j=g.st.bx j:=if_neg e
      rwa [this] at hj
    have hFU:∀b o v,g.F b o=some v->b≠g.B k:=λ b o v h e=>by rw[e,k2 o] at h;cases h
    have ht:Tr g g':=⟨fun _ _ _ _ h=>h,by rw[show g'.w=W from rfl,hsz];exact Nat.le_refl _,rfl,λ b hb=>hoth b (by omega),λ _ _ _=>rfl,λ j hj=>⟨hbk j hj,rfl⟩,
     fun j ver hv=>.inl ⟨hv,λ i b hb=>⟨hb,hoth b ((hI.fpb j i b (by rw[hv];simp) hb).2.2 k (by rw[hbx];simp)),λ _ h=>h⟩⟩⟩
    refine hn undef g' ⟨⟨?_,?_,?_,?_,?_,hI.fpd⟩,ht,⟨?_,?_,?_,?_,?_⟩,rfl,rfl⟩ rfl
    ·intro b o v h
     exact (eW (hoth b (hFU b o v h)) o).trans (hI.F b o v h)
    ·rw[show g'.w=W from rfl,hsz];exact hI.base
    ·intro j T' d'' e
     by_cases ej:j=k
     ·subst ej
      have:g'.st.bx j=some (T0,d'):=if_pos rfl
      rw[this] at e
      cases e
      exact⟨k1,k2,_,hblk,hr.tr ht⟩
     ·have:g'.st.bx j=g.st.bx j:=if_neg ej
      rw[this] at e
      obtain⟨j1,j2,xs',j3,j4⟩:=hI.box j T' d'' e
      refine⟨j1,j2,xs',(hoth _ (λ e2=>ej (hI.inj j k (by rw[e];simp) (by rw[hbx];simp) e2))).trans j3,j4.tr ht⟩
    ·exact λ i j hi hj e=>hI.inj i j (hkb i hi) (hkb j hj) e
    ·intro j i b hj hb
     obtain⟨m1,m2,m3⟩:=hI.fpb j i b hj hb
     exact⟨m1,by rw[show g'.w=W from rfl,hsz];exact m2,λ q hq=>m3 q (hkb q hq)⟩
    ·rw[show g'.w=W from rfl,<-hW];rfl
    ·rw[show g'.w=W from rfl,<-hW];rfl
    ·rw[show g'.w=W from rfl,<-hW];rfl
    ·rw[show g'.w=W from rfl,hsz];exact Nat.le_refl _
    ·exact λ b hb=>hoth b (by omega)
   ·cases h
  ·cases h
end
section
variable {P:Program} {tb:TB}
theorem M5(w:World)(base:Nat)(t ty e:TypeId)(i:TypeInfo)(z:Value)(size:Nat)(ht:P.underlying t=some (.slice e))(hi:P.info? e=some i)(hz:i.zero=some z)
  (hsize:i.size=size) (hzs:z.cells.size=size) (hsz:0<size) (v:Value) (n:Nat) (xs:List Value) (hown:w.ownsRow base e size v n xs)
  (x:Value) (m:Nat) (news:List Value) (hx:(x=.slice none 0 0/\m=0)∨∃a c,x=.slice (some a) m c/\∀j u,news[j]? = some u->w.cell? (a.add j)=some u) (hl:news.length=m*size) (h1:∀u∈news,u.oneCell'=true)
  (h63:n+m<=100000000000) (hby:i.bytes<=1000) (hbase:base<=w.heap.size) :
  ∃v' w',(Builtin.append_ #[t,t] ty #[v,x]).run P w=.ok v' w'/\w'.ownsRow base e size v' (n+m) (xs++news) /\
   ((v'.ownBlock=v.ownBlock/\w.grownBy w' v.ownBlock)∨(v'.ownBlock=some w.heap.size/\Below w.heap.size w w')):=by
 subst hsize
 have hlen:(xs++news).length=(n+m)*i.size:=by rw[List.length_append,hown.1,hl,Nat.add_mul]
 have hmb:(n+m)*i.bytes<=100000000000*1000:=Nat.mul_le_mul h63 hby
 have hmm:n+m<=maxLen:=by unfold maxLen;omega
 rcases hx with ⟨rfl,rfl⟩|⟨a,c,rfl,hnews⟩
 ·have hn:news=[]:=List.eq_nil_of_length_eq_zero (by simpa using hl)
  subst hn
  refine⟨v,w,?_,by simpa using hown,.inl ⟨rfl,⟨rfl,rfl,rfl,Nat.le_refl _,λ _ _ _=>rfl⟩⟩⟩
  exact run_append_owned_none w base t ty e i i.size ht hi v n xs hown
 ·have grown:∀(old:Nat),old<n+m ->
    (w.drew.alloc (.cells (xs.toArray++news.toArray++Builtin.zeroCells z.cells (grownCap w (n+m) old e-(n+m))) e)).ownsRow base e i.size
     (.slice (some ⟨w.heap.size,0,none⟩) (n+m) (grownCap w (n+m) old e)) (n+m) (xs++news):=by
   intro old ho
   have hge:=grownCap_ge w (n+m) old e
   have hcm:grownCap w (n+m) old e<=maxLen:=grownCap_le_maxLen w (n+m) old e hmm
   refine⟨hlen,.inr ⟨w.heap.size,_,_,rfl,hbase,heap_alloc_new w.drew _,hge,hcm,?_,?_⟩⟩
   ·simp only[Array.size_append,List.size_toArray,size_zeroCells,hzs,hown.1,hl,<-Nat.add_mul]
    congr 1
    omega
   ·simp only[Array.toList_append,List.append_assoc]
    rw[<-List.append_assoc,<-hlen]
    exact List.take_left
  have hbel:∀o,Below w.heap.size w (w.drew.alloc o):=λ o=>aB (aZ w) (aA w.drew o)
  rcases hown.2 with ⟨rfl,rfl⟩|⟨g,cap,cur,rfl,hbg,hg,hnc,hcm,hcs,htake⟩
  ·have hx:xs=[]:=List.eq_nil_of_length_eq_zero (by simpa using hown.1)
   subst hx
   by_cases hm:m=0
   ·subst hm
    have hn:news=[]:=List.eq_nil_of_length_eq_zero (by simpa using hl)
    subst hn
    refine⟨.slice none 0 0,w,?_,World.ownsRow_nil w base e i.size,.inl ⟨rfl,⟨rfl,rfl,rfl,Nat.le_refl _,λ _ _ _=>rfl⟩⟩⟩
    simp[Builtin.append_,run_underlying ht,sizeOf,typeInfo,hi,Builtin.lenOf,Builtin.firstCells,loadCells,loadCellsFrom]
   ·have hr:=run_append_nil (P:=P) w t ty e i z ht hi hz a m c news hl hnews (by omega) (by omega) (by have:=Nat.le_trans (Nat.mul_le_mul_right i.bytes (by omega:m<=0+m)) hmb;omega)
    have hgr:=grown 0 (by omega)
    simp only[Nat.zero_add,List.nil_append,Array.empty_append] at hgr ⊢
    exact⟨_,_,hr,hgr,.inr ⟨rfl,hbel _⟩⟩
  ·by_cases hroom:n+m<=cap
   ·have hfit:n*i.size+news.length<=cur.size:=by rw[hl,hcs,<-Nat.add_mul];exact Nat.mul_le_mul_right _ hroom
    have hr:=run_append_room (P:=P) w t ty e i ht hi g n cap cur hg a m c news hl hnews h1 hroom hfit
    refine⟨_,_,hr,⟨hlen,.inr ⟨g,cap,_,rfl,hbg,setRow_heap w g cur _ e _ hg,hroom,hcm,?_,?_⟩⟩,.inl ⟨rfl,⟨rfl,rfl,rfl,by simp,λ k _ hk=>setRow_other w g k _ (λ e=>hk (by simp[Value.ownBlock,e]))⟩⟩⟩
    ·simp only[List.size_toArray,List.length_append,List.length_take,List.length_drop,Array.length_toList]
     omega
    ·rw[htake,<-hlen]
     exact List.take_left
   ·have holds:∀j u,xs[j]? = some u->w.cell? ((⟨g,0,none⟩:Addr).add j)=some u:=hown.cells (g:=g) rfl
    have hr:=run_append_grow (P:=P) w t ty e i z ht hi hz ⟨g,0,none⟩ n cap xs hown.1 holds a m c news hl hnews (by omega) (by omega) (growslice_fits (by omega) (by omega))
    exact⟨_,_,hr,grown cap (by omega),.inr ⟨rfl,hbel _⟩⟩
theorem LG{x:Ds}(h:x.len=0):x=.nil:=by cases x<;>simp[Ds.len] at h ⊢
theorem MJ{g:Gh}(hI:Inv g){k:Option Tk}{sz e:Nat}{d:Ds}{v:Value}(h:RepC g (.row k sz e d .nil) [v]):∃m ys,m*sz=d.len/\RepC g (.seg k d .nil) ys/\((v=.slice none 0 0/\m=0)∨∃a c,v=.slice (some a) m c/\∀j u,ys[j]? = some u->g.w.cell? (a.add j)=some u):=by
 obtain⟨h0,v',ys',e1,⟨p,m,c,rfl,h2,h3,h4,-,h5⟩,how,-⟩:=h
 cases e1
 by_cases hd:d.len=0
 ·have:=LG hd
  subst this
  refine⟨m,[],h2,⟨trivial,[],[],rfl,rfl,λ j e=>?_,rfl⟩,?_⟩
  ·obtain⟨h6,-⟩:=how j e
   exact⟨h6,[],⟨rfl,rfl⟩,by simp,λ b hb=>by cases hb⟩
  ·rcases h5 with ⟨rfl,rfl⟩|⟨rfl,-,hp⟩|⟨b,o,rfl,-⟩
   ·left;exact⟨by rw[show m=0 by omega],by omega⟩
   ·obtain⟨a,rfl⟩:=Option.ne_none_iff_exists'.1 hp
    exact .inr ⟨a,c,rfl,λ j u hu=>by simp at hu⟩
   ·exact .inr ⟨_,c,rfl,λ j u hu=>by simp at hu⟩
 ·rcases h5 with ⟨rfl,rfl⟩|⟨rfl,-⟩|⟨b,o,rfl,hb,hat,-⟩
  ·obtain rfl:m=0:=by omega
   omega
  ·omega
  ·obtain⟨ys,h6,h7⟩:=At.vsx hat
   refine⟨m,ys,h2,⟨h0,ys,[],by simp,h6,λ j e=>?_,rfl⟩,.inr ⟨_,c,rfl,λ j u hu=>?_⟩⟩
   ·obtain⟨h8,S,h9,h10,h11⟩:=how j e
    obtain⟨v2,us,zs,us',B,S1,S2,S3,e2,hr,ho1,ho2,ho3,rfl⟩:=h9
    cases e2
    refine⟨h8,S1,?_,(List.nodup_append.1 (List.nodup_append.1 h10).2.1).1,λ b hb=>h11 b (by simp[hb])⟩
    have hzl:=ho1.len
    have hzs:zs=ys:=by
     rcases hr with ⟨p,e3,h12,-⟩|⟨g0,n',cap',cur',-,e3,-,hg0,-,-,-,-,-,-,htk⟩
     ·exact absurd h12 hd
     ·cases e3
      apply List.ext_getElem?
      intro j
      cases hj:ys[j]? with
      | none =>
       have:ys.length<=j:=by simpa using hj
       rw[h6.len] at this
       simp;omega
      | some u =>
       have h13:=hI.F _ _ _ (h7 j u hj)
       have hjl:j<zs.length:=by
        have:=(List.getElem?_eq_some_iff.1 hj).1
        rw[h6.len] at this
        omega
       have h14:=iK hg0 htk j zs[j] (by rw[List.getElem?_append_left hjl];simp)
       rw[h13] at h14
       cases h14
       simp
    rw[<-hzs];exact ho1
   ·rw[Addr.add_mid];exact aD (hI.F _ _ _ (h7 j u hu))
def uR:AV->Option (Option (Nat×Nat×Nat×Nat)×Dc)
 | .v (.slice none 0 0)=>some (none,.nil)
 | .c (.nilr _ _ .nil)=>some (none,.nil)
 | .c (.blk k ver sz e x .nil)=>some (some (k,ver,sz,e),x)
 | _=>none
def tU(τ:Nat->Option Nat)(sz:Nat):AV->Option (Prop×Dc)
 | .v (.slice none 0 0)=>some (True,.nil)
 | .c (.nilr _ _ .nil)=>some (True,.nil)
 | .c (.row k s _ d .nil)=>some (s=sz,.seg k d .nil)
 | .c (.blk k ver s _ x .nil)=>some (s=sz/\τ k=some ver,x)
 | _=>none
def xE(tb:TB)(ρ:Operand->AV)(τ:Nat->Option Nat)(nm:Nat)(c:Call):Option (Prop×Out) :=
 match c.args.toList,c.argTypes.toList with
 | [s,x],[T,T']=>match tb T with
  | some { sh:=.sl e,.. }=>match tb e with
   | some y=>match uR (ρ s),tU τ y.size (ρ x) with
    | some (none,d),some (c,p)=>some (T=T'/\0<y.size/\c/\d.ln+p.ln<=100000000000/\τ nm=none,{ av:=.c (.blk nm 1 y.size e (d.app p) .nil),tu:=some (nm,1) })
    | some (some (k,ver,sz,e'),d),some (c,p)=>some (T=T'/\0<y.size/\c/\d.ln+p.ln<=100000000000/\τ k=some ver/\sz=y.size/\e'=e/\ver≠0,{ av:=.c (.blk k (ver+1) y.size e (d.app p) .nil),tu:=some (k,ver+1) })
    | _,_=>none
   | none=>none
  | _=>none
 | _,_=>none
theorem JF{g:Gh}{k ver sz e:Nat}{x:Dc}{v:Value}(h:RepC g (.blk k ver sz e x .nil) [v])(hτ:g.st.τ k=some ver):x.ds.good/\ver≠0/\∃n zs,g.w.ownsRow g.base e sz v n zs/\RepC g x zs/\∀b,v.ownBlock=some b->b∈g.fp (k,0)/\∀o,zs.length<=o->g.F b o=none:=by
 obtain⟨h0,h9,v',ys,e1,-,⟨cur,h2,-,h4⟩,-⟩:=h
 cases e1
 rw[hτ] at h2
 cases h2
 exact⟨h0,h9,h4 rfl⟩
theorem els_rep{g:Gh}(hI:Inv g){x:AV}{v:Value}{c:Prop}{p:Dc}{sz:Nat}(hx:RepV g x [v])(h:tU g.st.τ sz x=some (c,p))(hc:c):∃m ys,RepC g p ys/\ys.length=m*sz /\
  ((v=.slice none 0 0/\m=0)∨∃a k,v=.slice (some a) m k/\∀j u,ys[j]? = some u->g.w.cell? (a.add j)=some u):=by
 unfold tU at h
 split at h
 ·cases h
  have e:v=.slice none 0 0:=by simpa[RepV] using hx
  exact⟨0,[],rfl,by simp,.inl ⟨e,rfl⟩⟩
 ·cases h
  obtain⟨ys,e,-⟩:=hx
  cases e
  exact⟨0,[],rfl,by simp,.inl ⟨rfl,rfl⟩⟩
 ·cases h
  obtain⟨m,ys,h1,h2,h3⟩:=MJ hI (hx:RepC g _ _)
  refine⟨m,ys,h2,?_,h3⟩
  rw[h2.len,<-hc,h1];rfl
 ·cases h
  obtain⟨-,-,n,zs,h1,h2,-⟩:=JF (hx:RepC g _ _) hc.2
  refine⟨n,zs,h2,by rw[h1.1,hc.1],?_⟩
  rcases h1.2 with ⟨rfl,rfl⟩|⟨g0,cap,cur,rfl,-⟩
  ·exact .inl ⟨rfl,rfl⟩
  ·exact .inr ⟨_,cap,rfl,λ j u hu=>h1.cells (g:=g0) rfl j u hu⟩
 ·cases h
theorem src_rep{g:Gh}{s:AV}{v:Value}{q:Option (Nat×Nat×Nat×Nat)}{d:Dc}{sz e:Nat}(hs:RepV g s [v])(h:uR s=some (q,d))(hq:∀k ver sz' e',q=some (k,ver,sz',e')->g.st.τ k=some ver/\sz'=sz/\e'=e) :
  ∃n zs,g.w.ownsRow g.base e sz v n zs/\RepC g d zs/\∀b,v.ownBlock=some b->∃k ver sz' e',q=some (k,ver,sz',e')/\b∈g.fp (k,0)/\ver≠0/\∀o,zs.length<=o->g.F b o=none:=by
 unfold uR at h
 split at h
 ·cases h
  have e:v=.slice none 0 0:=by simpa[RepV] using hs
  subst e
  exact⟨0,[],World.ownsRow_nil _ _ _ _,rfl,λ b hb=>by cases hb⟩
 ·cases h
  obtain⟨ys,e,-⟩:=hs
  cases e
  exact⟨0,[],World.ownsRow_nil _ _ _ _,rfl,λ b hb=>by cases hb⟩
 ·rename_i k ver sz' e' x
  cases h
  obtain⟨h1,rfl,rfl⟩:=hq _ _ _ _ rfl
  obtain⟨-,h9,n,zs,h2,h3,h4⟩:=JF (hs:RepC g _ _) h1
  exact⟨n,zs,h2,h3,λ b hb=>⟨_,_,_,_,rfl,(h4 b hb).1,h9,(h4 b hb).2⟩⟩
 ·cases h
def UW(g:Gh)(k ver:Nat)(w':World)(ob:Option Nat)(cs:List Value):Gh :=
 { st:={ g.st with τ:=upd g.st.τ k ver },F:=λ b o=>if some b=ob then cs[o]? else g.F b o,w:=w',base:=g.base,fp:=λ q=>if q.1=k then (if q.2=0 then ob.toList else []) else g.fp q,B:=g.B }
theorem EZ{g:Gh}(hI:Inv g){k ver sz e:Nat}{n:Nat}{v v':Value}{w':World}{zs ys:List Value}{d p:Dc}(hd:RepC g d zs)(hp:RepC g p ys)(hzs:g.w.ownsRow g.base e sz v n zs){m:Nat}
  (hown:w'.ownsRow g.base e sz v' m (zs++ys)) (hv0:ver≠0)
  (hold:(g.st.τ k=none/\v.ownBlock=none)∨∃v0,g.st.τ k=some v0/\v0≠0/\v0<ver/\∀b,v.ownBlock=some b->b∈g.fp (k,0)/\∀o,zs.length<=o->g.F b o=none)
  (hcase:(v'.ownBlock=v.ownBlock/\g.w.grownBy w' v.ownBlock)∨((∀b,v'.ownBlock=some b->g.w.heap.size<=b)/\Below g.w.heap.size g.w w')) (av:AV) :
  Ext g (UW g k ver w' v'.ownBlock (zs++ys)) { av:=av,tu:=some (k,ver) }/\RepC (UW g k ver w' v'.ownBlock (zs++ys)) (.blk k ver sz e (d.app p) .nil) [v']:=by
 obtain⟨ob,hob⟩:∃ob,v'.ownBlock=ob:=⟨_,rfl⟩
 rw[hob] at hcase ⊢
 obtain⟨g',hg'⟩:∃g',UW g k ver w' ob (zs++ys)=g':=⟨_,rfl⟩
 have hF1:∀b o,ob=some b->g'.F b o=(zs++ys)[o]?:=λ b o e=>by rw[<-hg'];exact if_pos e.symm
 have hF2:∀b o,ob≠some b->g'.F b o=g.F b o:=λ b o e=>by rw[<-hg'];exact if_neg λ h=>e h.symm
 have hw:g'.w=w':=by rw[<-hg'];rfl
 have hbase:g'.base=g.base:=by rw[<-hg'];rfl
 have hB:g'.B=g.B:=by rw[<-hg'];rfl
 have hbx:g'.st.bx=g.st.bx:=by rw[<-hg'];rfl
 have hτ:g'.st.τ=upd g.st.τ k ver:=by rw[<-hg'];rfl
 have hτ1:∀j,j≠k->g'.st.τ j=g.st.τ j:=λ j hj=>by rw[hτ];exact if_neg hj
 have hf1:∀q:Tk,q.1≠k->g'.fp q=g.fp q:=λ q hq=>by rw[<-hg'];exact if_neg hq
 have hf2:g'.fp (k,0)=ob.toList:=by rw[<-hg'];show (if k=k then _ else _)=_;rw[if_pos rfl,if_pos rfl]
 have hf3:∀i,i≠0->g'.fp (k,i)=[]:=λ i hi=>by rw[<-hg'];show (if k=k then _ else _)=_;rw[if_pos rfl,if_neg hi]
 rw[hg']
 clear hg'
 have hvo:∀b,v.ownBlock=some b->b∈g.fp (k,0)/\g.st.τ k≠none/\∀o,zs.length<=o->g.F b o=none:=λ b e=>by
  rcases hold with ⟨-,h⟩|⟨v0,h1,-,-,h2⟩
  ·rw[h] at e;cases e
  ·exact⟨(h2 b e).1,by rw[h1];simp,(h2 b e).2⟩
 have hsz:g.w.heap.size<=w'.heap.size:=by
  rcases hcase with ⟨-,h⟩|⟨-,h⟩
  ·exact h.size
  ·exact h.size
 have hlt:∀i,g.st.bx i≠none->g.B i<g.w.heap.size:=λ i hi=>by
  obtain⟨⟨T',d'⟩,e⟩:=Option.ne_none_iff_exists'.1 hi
  obtain⟨-,-,xs',h1,-⟩:=hI.box i T' d' e
  exact (Array.getElem?_eq_some_iff.1 h1).1
 have hobs:∀b,ob=some b->b<g.w.heap.size->v.ownBlock=some b:=λ b e hb=>by
  rcases hcase with ⟨h,-⟩|⟨h,-⟩
  ·rw[<-h];exact e
  ·have:=h b e;omega
 have hkeep:∀b,b<g.w.heap.size->ob≠some b->w'.heap[b]? = g.w.heap[b]?:=λ b hb e=>by
  rcases hcase with ⟨h,h2⟩|⟨-,h⟩
  ·exact h2.block b hb (λ e2=>e (by rw[h,<-e2]))
  ·exact h.block b hb
 have hcell:∀b,ob=some b->∀o u,(zs++ys)[o]? = some u->U w' b o=some u:=λ b e o u hu=>by
  rcases hown.2 with ⟨h1,-⟩|⟨g0,cap,cur,h1,-,h2,-,-,-,h3⟩
  ·rw[h1] at hob;rw[<-hob] at e;cases e
  ·have:b=g0:=by
    rw[h1] at hob
    rw[<-hob] at e
    simpa[Value.ownBlock] using e.symm
   subst this
   have:=iK h2 (by rw[hown.1];exact h3) o u hu
   rwa [Nat.zero_add] at this
 have hzcell:∀b,v.ownBlock=some b->∀o u,zs[o]? = some u->U g.w b o=some u:=λ b e o u hu=>by
  rcases hzs.2 with ⟨h1,-⟩|⟨g0,cap,cur,h1,-,h2,-,-,-,h3⟩
  ·rw[h1] at e;cases e
  ·have:b=g0:=by rw[h1] at e;simpa[Value.ownBlock] using e.symm
   subst this
   have:=iK h2 (by rw[hzs.1];exact h3) o u hu
   rwa [Nat.zero_add] at this
 have hobB:∀i,g.st.bx i≠none->ob≠some (g.B i):=λ i hi e=>by
  have h1:=hobs _ e (hlt i hi)
  obtain⟨h2,h3,-⟩:=hvo _ h1
  exact (hI.fpb k 0 _ h3 h2).2.2 i hi rfl
 have hobj:∀j i b,j≠k->g.st.τ j≠none->b∈g.fp (j,i)->ob≠some b:=λ j i b hj hτj hb e=>by
  have h1:=hobs _ e (hI.fpb j i b hτj hb).2.1
  obtain⟨h2,h3,-⟩:=hvo _ h1
  have:=hI.fpd (j,i) (k,0) b hτj h3 hb h2
  exact hj (by simpa using congrArg Prod.fst this)
 have ht:Tr g g':=by
  refine⟨fun b o u hb h=>?_,by rw[hw];exact hsz,hbase,λ b hb=>?_,λ b o hb=>hF2 b o λ e=>?_,λ j hj=>⟨by rw[hbx];exact hj,by rw[hB]⟩,λ j v0 hj=>?_⟩
  ·by_cases e:ob=some b
   ·rw[hF1 b o e]
    have h1:=hobs b e hb
    have h2:o<zs.length:=by
     apply Nat.lt_of_not_le
     intro hle
     rw[(hvo b h1).2.2 o hle] at h
     cases h
    have h3:=hzcell b h1 o zs[o] (by simp[h2])
    rw[hI.F b o u h] at h3
    cases h3
    rw[List.getElem?_append_left h2]
    simp[h2]
   ·rw[hF2 b o e];exact h
  ·rw[hw]
   refine hkeep b (Nat.lt_of_lt_of_le hb hI.base) λ e=>?_
   have h1:=hobs b e (Nat.lt_of_lt_of_le hb hI.base)
   have:=(hzs.lt b h1).1
   omega
  ·have:=(hzs.lt b (hobs b e (Nat.lt_of_lt_of_le hb hI.base))).1
   omega
  ·by_cases e:j=k
   ·subst e
    rcases hold with ⟨h1,-⟩|⟨v1,h1,h2,h3,-⟩
    ·rw[h1] at hj;cases hj
    ·rw[h1] at hj
     cases hj
     exact .inr ⟨h2,ver,by rw[hτ];exact if_pos rfl,h3⟩
   ·refine .inl ⟨(hτ1 j e).trans hj,λ i b hb=>?_⟩
    have hn:=hobj j i b e (by rw[hj];simp) hb
    refine⟨by rw[hf1 (j,i) e];exact hb,by rw[hw];exact hkeep b (hI.fpb j i b (by rw[hj];simp) hb).2.1 hn,λ o ho=>by rw[hF2 b o hn];exact ho⟩
 have hcasef:∀(q:Tk) b,g'.st.τ q.1≠none->b∈g'.fp q->(q=(k,0)/\ob=some b)∨(q.1≠k/\g.st.τ q.1≠none/\b∈g.fp q):=λ q b hq hb=>by
  by_cases e:q.1=k
  ·obtain⟨q1,q2⟩:=q
   simp only at e
   subst e
   by_cases e2:q2=0
   ·subst e2
    rw[hf2] at hb
    exact .inl ⟨rfl,by simpa using hb⟩
   ·rw[hf3 _ e2] at hb;cases hb
  ·exact .inr ⟨e,by rw[<-hτ1 _ e];exact hq,by rw[<-hf1 q e];exact hb⟩
 have hdp:RepC g' (d.app p) (zs++ys):=(RepC.app hp hd).tr ht
 refine⟨⟨⟨?_,?_,?_,?_,?_,?_⟩,ht,?_,hbx,hτ⟩,?_⟩
 ·intro b o u h
  rw[hw]
  by_cases e:ob=some b
  ·rw[hF1 b o e] at h
   exact hcell b e o u h
  ·rw[hF2 b o e] at h
   exact (eW (hkeep b (hI.lt _ _ _ h) e) o).trans (hI.F b o u h)
 ·rw[hbase,hw];exact Nat.le_trans hI.base hsz
 ·intro i T' d' e
  rw[hbx] at e
  obtain⟨h1,h2,xs',h3,h4⟩:=hI.box i T' d' e
  have hn:=hobB i (by rw[e];simp)
  rw[hB,hbase,hw]
  exact⟨h1,λ o=>by rw[hF2 _ o hn];exact h2 o,xs',(hkeep _ (hlt i (by rw[e];simp)) hn).trans h3,h4.tr ht⟩
 ·rw[hbx,hB];exact hI.inj
 ·intro j i b hj hb
  rw[hbase,hw,hbx,hB]
  rcases hcasef (j,i) b hj hb with ⟨-,e⟩|⟨-,h1,h2⟩
  ·have hb2:b<w'.heap.size:=by
    rcases hown.2 with ⟨h1,-⟩|⟨g0,cap,cur,h1,-,h2,-⟩
    ·rw[h1] at hob;rw[<-hob] at e;cases e
    ·have:b=g0:=by
      rw[h1] at hob
      rw[<-hob] at e
      simpa[Value.ownBlock] using e.symm
     subst this
     exact (Array.getElem?_eq_some_iff.1 h2).1
   exact⟨(hown.lt b (by rw[hob];exact e)).1,hb2,λ q hq e2=>hobB q hq (by rw[<-e2];exact e)⟩
  ·obtain⟨h3,h4,h5⟩:=hI.fpb j i b h1 h2
   exact⟨h3,Nat.lt_of_lt_of_le h4 hsz,h5⟩
 ·intro q q' b h1 h2 h3 h4
  rcases hcasef q b h1 h3 with ⟨rfl,e⟩|⟨n1,h5,h6⟩<;>rcases hcasef q' b h2 h4 with ⟨rfl,e'⟩|⟨n2,h7,h8⟩
  ·rfl
  ·exact absurd e (hobj q'.1 q'.2 b n2 h7 h8)
  ·exact absurd e' (hobj q.1 q.2 b n1 h5 h6)
  ·exact hI.fpd q q' b h5 h7 h6 h8
 ·rw[hw]
  rcases hcase with ⟨-,h2⟩|⟨-,h⟩
  ·exact⟨h2.os,h2.tape,h2.output,h2.size,λ b hb=>h2.block b (Nat.lt_of_lt_of_le hb hI.base) (λ e2=>by have:=(hzs.lt b e2.symm).1;omega)⟩
  ·exact h.mono hI.base
 ·refine⟨hdp.good,hv0,v',[],rfl,?_,⟨ver,by rw[hτ];exact if_pos rfl,Nat.le_refl _,λ _=>⟨m,zs++ys,by rw[hw,hbase];exact hown,hdp,λ b e=>?_⟩⟩,rfl⟩
  ·have hln:(zs++ys).length=(d.app p).ds.len:=by rw[Dc.ds_len,hdp.len]
   rw[hw]
   rcases hown.2 with ⟨h1,h2⟩|⟨g0,cap,cur,h1,-,h2,h3,h4,h5,h6⟩
   ·subst h1
    have:(d.app p).ds=.nil:=LG (by rw[<-hln,hown.1,h2,Nat.zero_mul])
    rw[this]
    exact Rd.none_ _ _ _
   ·have e:ob=some g0:=by rw[<-hob,h1];rfl
    refine⟨_,m,cap,h1,by rw[<-hln];exact hown.1.symm,h3,h4,by rw[<-hln,hown.1];simp only[Ds.len,Nat.add_zero];exact Nat.mul_le_mul_right _ h3,.inr (.inr ⟨g0,0,rfl,(Array.getElem?_eq_some_iff.1 h2).1,?_,trivial⟩)⟩
    have hvs:=hdp.vs
    rw[hw] at hvs
    exact hvs.at_ λ j u hu=>by rw[Nat.zero_add,hF1 g0 j e];exact hu
  ·rw[hob] at e
   exact⟨by rw[hf2,e];simp,λ o ho=>by rw[hF1 b o e];simpa using ho⟩
theorem UV{g:Gh}(hT:jE P tb)(hI:Inv g){a:Act}{ρ:Operand->AV}(hρ:∀x,RepV g (ρ x) [a.eval x]){o:Oper}{cl:Call}(ho:o.op=.call cl)(hb:cl.callee=.builtin .append){nm:Nat}
  {c:Prop} {out:Out} (h:xE tb ρ g.st.τ nm cl=some (c,out)) (hcc:c):uM P g a o out:=by
 obtain⟨dst,op,ty,pos,after,guard⟩:=o
 obtain⟨callee,xs,ts⟩:=cl
 simp only at ho hb
 subst ho hb
 unfold xE at h
 simp only at h
 split at h
 ·rename_i s x T T' hxs hts
  split at h
  ·rename_i e sz by_ zv z hy
   split at h
   ·rename_i y hye
    obtain⟨ii,dd,-,u2,u3,-⟩:=dU hT hy
    obtain rfl:=A9 u3
    obtain⟨ie,de,v1,-,-,v4,v5,v6,-,v8,v9⟩:=dU hT hye
    have exs:xs=#[s,x]:=by apply Array.ext';simpa using hxs
    have ets:ts=#[T,T']:=by apply Array.ext';simpa using hts
    subst exs ets
    have key:∀(q:Option (Nat×Nat×Nat×Nat)) (d p:Dc) (c0:Prop) (k ver:Nat),uR (ρ s)=some (q,d)->tU g.st.τ y.size (ρ x)=some (c0,p)->c0->T=T'->0<y.size->d.ln+p.ln<=100000000000->ver≠0 ->
      (∀k' ver' sz' e',q=some (k',ver',sz',e')->(g.st.τ k'=some ver'/\sz'=y.size/\e'=e)/\k'=k/\ver'<ver)->(q=none->g.st.τ k=none) ->
      uM P g a { dst:=dst,op:=Op.call { callee:=.builtin .append,args:=#[s,x],argTypes:=#[T,T'] },type:=ty,pos:=pos,after:=after,guard:=guard } { av:=.c (.blk k ver y.size e (d.app p) .nil),tu:=some (k,ver) }:=by
     intro q d p c0 k ver hs hx hc0 hTT h0 hbd hv0 hq hqn
     subst hTT
     obtain⟨n,zs,r1,r2,r3⟩:=src_rep (sz:=y.size) (e:=e) (hρ s) hs (λ k' ver' sz' e' he=>(hq k' ver' sz' e' he).1)
     obtain⟨m,ys,q1,q2,q3⟩:=els_rep hI (hρ x) hx hc0
     have hln:zs.length=d.ln:=r2.len
     have hlp:ys.length=p.ln:=q1.len
     have hnm:n+m<=100000000000:=by
      have h1:=Nat.le_mul_of_pos_right n h0
      have h2:=Nat.le_mul_of_pos_right m h0
      have h3:=r1.1
      omega
     obtain⟨v',w',hr,hown,hcase⟩:=M5 (P:=P) g.w g.base T ty e ie y.zval y.size u2 v1 v4 v5 v8 h0 (a.eval s) n zs r1 (a.eval x) m ys q3 q2 q1.one hnm (by omega) hI.base
     have hrun:(execOp a.eval { dst:=dst,op:=Op.call { callee:=.builtin .append,args:=#[s,x],argTypes:=#[T,T] },type:=ty,pos:=pos,after:=after,guard:=guard }).run P g.w=.ok (.value v') w':=by
      simp[execOp,resolve,invoke,builtin,hr]
     have hold:(g.st.τ k=none/\(a.eval s).ownBlock=none)∨∃v0,g.st.τ k=some v0/\v0≠0/\v0<ver/\∀b,(a.eval s).ownBlock=some b->b∈g.fp (k,0)/\∀o,zs.length<=o->g.F b o=none:=by
      cases q with
      | none =>
       refine .inl ⟨hqn rfl,?_⟩
       cases hob:(a.eval s).ownBlock with
       | none=>rfl
       | some b =>
        obtain⟨k',ver',sz',e',h1,-⟩:=r3 b hob
        cases h1
      | some q =>
       obtain⟨k',ver',sz',e'⟩:=q
       obtain⟨⟨h1,-,-⟩,rfl,h3⟩:=hq _ _ _ _ rfl
       have hv':ver'≠0:=by
        have hs':=hρ s
        unfold uR at hs
        split at hs<;>cases hs
        rename_i hk
        rw[hk] at hs'
        exact (JF (hs':RepC g _ _) h1).2.1
       refine .inr ⟨ver',h1,hv',h3,λ b hb=>?_⟩
       obtain⟨k2,ver2,sz2,e2,h4,h5,-,h6⟩:=r3 b hb
       cases h4
       exact⟨h5,h6⟩
     obtain⟨hext,hrep⟩:=EZ hI (k:=k) (ver:=ver) r2 q1 r1 hown hv0 hold (hcase.imp id λ h=>⟨fun b hb=>by rw[h.1] at hb;cases hb;exact Nat.le_refl _,h.2⟩) (.c (.blk k ver y.size e (d.app p) .nil))
     intro next Q hn
     unfold Oper.wp
     rw[hrun]
     exact hn v' _ hext hrep
    split at h
    ·rename_i d c0 p hs hx
     cases h
     obtain⟨h1,h2,h3,h4,h5⟩:=hcc
     exact key none d p c0 nm 1 hs hx h3 h1 h2 h4 (by decide) (λ _ _ _ _ e=>by cases e) (λ _=>h5)
    ·rename_i k ver sz' e' d c0 p hs hx
     cases h
     obtain⟨h1,h2,h3,h4,h5,h6,h7,-⟩:=hcc
     exact key _ d p c0 k (ver+1) hs hx h3 h1 h2 h4 (by omega) (λ _ _ _ _ e=>by cases e;exact⟨⟨h5,h6,h7⟩,rfl,by omega⟩) (λ e=>by cases e)
    ·cases h
   ·cases h
  ·cases h
 ·cases h
def N0(P:Program)(G:World->Prop)(f:Nat)(avs:AV)(sz e:Nat)(d:Ds):Prop:=rX P f/\d.good/\∀(F:Mem) (w:World) (vs:List Value),(∀b o v,F b o=some v->U w b o=some v)->G w->RepV (bJ F w) avs vs ->
 Calls P f vs.toArray w λ e' w'=>∃v n zs,e'=.returned v/\Below w.heap.size w w'/\w'.ownsRow w.heap.size e sz v n zs/\Vs F w.heap.size d zs
def HoldsR(P:Program)(G:World->Prop)(f:Nat)(avs:AV)(nm:Nat)(r:Out):Prop :=
 (∃res,Holds P G f avs res/\r = { av:=res.ren nm,tu:=some (nm,0) })∨∃sz e d,N0 P G f avs sz e d/\r = { av:=.c (.blk nm 1 sz e (.seg none d .nil) .nil),tu:=some (nm,1) }
theorem HoldsR.outs{P:Program}{G:World->Prop}{f:Nat}{avs:AV}{nm:Nat}{r:Out}(h:HoldsR P G f avs nm r):r.bu=none/\∃v,v<=1/\r.tu=some (nm,v):=by
 rcases h with ⟨res,-,rfl⟩|⟨sz,e,d,-,rfl⟩
 ·exact⟨rfl,0,by decide,rfl⟩
 ·exact⟨rfl,1,by decide,rfl⟩
theorem CR{w:World}{base base' e size n:Nat}{v:Value}{xs:List Value}(h:w.ownsRow base e size v n xs)(hb:base'<=base):w.ownsRow base' e size v n xs:=by
 rcases h with ⟨h1,h2|⟨g,cap,cur,h3,h4,h5⟩⟩
 ·exact⟨h1,.inl h2⟩
 ·exact⟨h1,.inr ⟨g,cap,cur,h3,Nat.le_trans hb h4,h5⟩⟩
theorem JC{G:World->Prop}{g:Gh}(hI:Inv g)(hG:G g.w){a:Act}{ρ:Operand->AV}(hρ:∀x,RepV g (ρ x) [a.eval x]){o:Oper}{fo:Operand}{xs:Array Operand}{ts:Array TypeId}(ho:o.op=.call { callee:=.value fo,args:=xs,argTypes:=ts })
  {f:Nat} {x y:AV} (hf:eR (ρ fo)=some (f,x,y)) (hx:x.isLL=true) (hy:y.isLL=true) {avs:AV} {sz e:Nat} {d:Ds} (hH:N0 P G f avs sz e d) (ha:(x.app ((AV.list (xs.toList.map ρ)).app y)).arg g.st.bx avs) {nm:Nat} (hn:g.st.τ nm=none) :
  uM P g a o { av:=.c (.blk nm 1 sz e (.seg none d .nil) .nil),tu:=some (nm,1) }:=by
 obtain⟨⟨fn,k1,k2,k3⟩,hgd,hC⟩:=hH
 have hfo:=hρ fo
 obtain⟨v1,v2,e1,hv1,hv2⟩:∃v1 v2:List Value,a.eval fo=.func (.func f) v1.toArray v2.toArray/\RepV g x v1/\RepV g y v2:=by
  unfold eR at hf
  split at hf
  ·rename_i f' x' y' hq
   cases hf
   rw[hq] at hfo
   have hl:∀l:List Value,RepV g (AV.list (l.map .v)) l:=λ l=>by
    induction l with
    | nil=>rfl
    | cons u l ih=>exact⟨u,l,rfl,rfl,ih⟩
   exact⟨x',y',by simpa[RepV] using hfo,hl x',hl y'⟩
  ·rename_i f' x' y' hq
   cases hf
   rw[hq] at hfo
   obtain⟨ys,zs,e,h1,h2⟩:=hfo
   exact⟨ys,zs,by simpa using e,h1,h2⟩
  ·cases hf
 have hargs:RepV g (x.app ((AV.list (xs.toList.map ρ)).app y)) (v1++(xs.toList.map a.eval++v2)):=RepV.app (RepV.app hv2 (RepV.list hρ xs.toList) (U6 _)) hv1 hx
 have hrep:=LX hI hargs ha
 have hcall:=hC g.F g.w _ hI.F hG hrep
 have hrun:(execOp a.eval o).run P g.w=.ok (.enter f (v1++(xs.toList.map a.eval++v2)).toArray) g.w:=by
  obtain⟨dst,op,ty,pos,after,guard⟩:=o
  simp only at ho
  subst ho
  have ea:(v1++(xs.toList.map a.eval++v2)).toArray=v1.toArray++xs.map a.eval++v2.toArray:=by
   apply Array.ext';simp
  rw[ea]
  simp[execOp,resolve,e1,Deferred.ofValue,invoke,callFunc,k1,k2,k3]
 intro next Q hnext
 unfold Oper.wp
 rw[hrun]
 refine hcall.mono ?_
 rintro e' w' ⟨v,n,zs,rfl,hb,how,hvs⟩
 have hq:=EZ (v:=.slice none 0 0) (zs:=[]) (n:=0) (d:=.nil) hI (k:=nm) (ver:=1) (rfl:RepC g .nil []) (p:=.seg none d .nil) (ys:=zs) ⟨hgd,zs,[],by simp,hvs,(λ _ e=>by cases e),rfl⟩ ⟨by simp,.inl ⟨rfl,rfl⟩⟩ (by simpa using CR how hI.base) (by decide) (.inl ⟨hn,rfl⟩) (.inr ⟨fun b hb'=>(how.lt b hb').1,hb⟩) (.c (.blk nm 1 sz e (.seg none d .nil) .nil))
 exact hnext v _ hq.1 hq.2
end
section
def Dc.ok(τ:Nat->Option Nat):Dc->Prop
 | .nil=>True
 | .lit _ r=>r.ok τ
 | .nilr _ _ r=>r.ok τ
 | .row _ _ _ _ r=>r.ok τ
 | .seg _ _ r=>r.ok τ
 | .blk k _ _ _ x r=>τ k≠none/\x.ok τ/\r.ok τ
def AV.ok(bx:Nat->Option (Nat×Dc))(τ:Nat->Option Nat):AV->Prop
 | .c d=>d.ok τ
 | .agg d=>d.ok τ
 | .bx k _=>bx k≠none
 | .cons a r=>a.ok bx τ/\r.ok bx τ
 | .tup l=>l.ok bx τ
 | .fn _ a b=>a.ok bx τ/\b.ok bx τ
 | _=>True
structure St.ok (st:St):Prop where
 env:∀t,(st.env t).ok st.bx st.τ
 bx:∀k T d,st.bx k=some (T,d)->d.ok st.τ
theorem Dc.ok_mono{τ τ':Nat->Option Nat}(h:∀k,τ k≠none->τ' k≠none){d:Dc}:d.ok τ->d.ok τ':=by
 induction d with
 | nil=>exact id
 | lit v r ih=>exact ih
 | nilr sz e r ih=>exact ih
 | row k sz e x r ih=>exact ih
 | seg k d r ih=>exact ih
 | blk k v sz e x r ihx ih=>exact λ ⟨h1,h2,h3⟩=>⟨h k h1,ihx h2,ih h3⟩
theorem AV.ok_mono{bx bx':Nat->Option (Nat×Dc)}{τ τ':Nat->Option Nat}(hb:∀k,bx k≠none->bx' k≠none)(h:∀k,τ k≠none->τ' k≠none){a:AV}:a.ok bx τ->a.ok bx' τ':=by
 induction a with
 | c d=>exact Dc.ok_mono h
 | agg d=>exact Dc.ok_mono h
 | bx k o=>exact hb k
 | cons a r iha ihr=>exact λ ⟨h1,h2⟩=>⟨iha h1,ihr h2⟩
 | tup l ih=>exact ih
 | fn f a b iha ihb=>exact λ ⟨h1,h2⟩=>⟨iha h1,ihb h2⟩
 | _=>exact id
section
variable {τ:Nat->Option Nat} {bx:Nat->Option (Nat×Dc)} {tb:TB} {ρ:Operand->AV}
theorem Dc.ok_app{x y:Dc}(hx:x.ok τ)(hy:y.ok τ):(x.app y).ok τ:=by
 induction x with
 | nil=>exact hy
 | lit v r ih=>exact ih hx
 | nilr sz e r ih=>exact ih hx
 | row k sz e x r ih=>exact ih hx
 | seg k d r ih=>exact ih hx
 | blk k v sz e x r _ ih=>exact⟨hx.1,hx.2.1,ih hx.2.2⟩
theorem Dc.ok_tk:∀(n:Nat) {d d':Dc},d.ok τ->d.tk n=some d'->d'.ok τ
 | 0,d,_,_,h=>by cases d<;>(simp[Dc.tk] at h;subst h;trivial)
 | n+1,.nil,_,_,h=>by simp[Dc.tk] at h
 | n+1,.seg _ _ r,_,ho,h=>by
  simp only[Dc.tk] at h
  split at h
  ·obtain⟨x,h1,rfl⟩:=Option.map_eq_some_iff.1 h;exact (Dc.ok_tk n (d:=r) ho h1:x.ok τ)
  ·cases h
 | n+1,.lit _ r,_,ho,h=>by simp[Dc.tk] at h;obtain⟨x,h1,rfl⟩:=h;exact (Dc.ok_tk n (d:=r) ho h1:x.ok τ)
 | n+1,.nilr _ _ r,_,ho,h=>by simp[Dc.tk] at h;obtain⟨x,h1,rfl⟩:=h;exact (Dc.ok_tk n (d:=r) ho h1:x.ok τ)
 | n+1,.row _ _ _ _ r,_,ho,h=>by simp[Dc.tk] at h;obtain⟨x,h1,rfl⟩:=h;exact (Dc.ok_tk n (d:=r) ho h1:x.ok τ)
 | n+1,.blk _ _ _ _ _ r,_,ho,h=>by simp[Dc.tk] at h;obtain⟨x,h1,rfl⟩:=h;exact⟨ho.1,ho.2.1,Dc.ok_tk n ho.2.2 h1⟩
theorem Dc.ok_dp:∀(n:Nat) {d d':Dc},d.ok τ->d.dp n=some d'->d'.ok τ
 | 0,d,_,ho,h=>by cases d<;>(simp[Dc.dp] at h;subst h;exact ho)
 | n+1,.nil,_,_,h=>by simp[Dc.dp] at h
 | n+1,.seg _ _ r,_,ho,h=>by
  simp only[Dc.dp] at h
  split at h
  ·exact Dc.ok_dp n (d:=r) ho h
  ·cases h
 | n+1,.lit _ r,_,ho,h=>Dc.ok_dp n (d:=r) ho (by simpa[Dc.dp] using h)
 | n+1,.nilr _ _ r,_,ho,h=>Dc.ok_dp n (d:=r) ho (by simpa[Dc.dp] using h)
 | n+1,.row _ _ _ _ r,_,ho,h=>Dc.ok_dp n (d:=r) ho (by simpa[Dc.dp] using h)
 | n+1,.blk _ _ _ _ _ r,_,ho,h=>Dc.ok_dp n ho.2.2 (by simpa[Dc.dp] using h)
theorem Ds.ok_hd:∀(n:Nat) {x:Ds} {d:Dc},x.hd n=some d->d.ok τ
 | 0,x,d,h=>by cases x<;>(simp[Ds.hd] at h;subst h;trivial)
 | n+1,.nil,_,h=>by simp[Ds.hd] at h
 | n+1,.lit _ r,_,h=>by simp[Ds.hd] at h;obtain⟨x,h1,rfl⟩:=h;exact (Ds.ok_hd n h1:x.ok τ)
 | n+1,.row _ _ _ _ r,_,h=>by
  simp only[Ds.hd] at h
  split at h
  ·obtain⟨x,h1,rfl⟩:=Option.map_eq_some_iff.1 h;exact (Ds.ok_hd n h1:x.ok τ)
  ·obtain⟨x,h1,rfl⟩:=Option.map_eq_some_iff.1 h;exact (Ds.ok_hd n h1:x.ok τ)
theorem Dc.ok_over{d p d':Dc}{o:Nat}(hd:d.ok τ)(hp:p.ok τ)(h:d.over o p=some d'):d'.ok τ:=by
 unfold Dc.over at h
 split at h
 ·rename_i h1 h2
  cases h
  exact Dc.ok_app (Dc.ok_tk _ hd h1) (Dc.ok_app hp (Dc.ok_dp _ hd h2))
 ·cases h
theorem Dc.ok_sing{d:Dc}(h:d.ok τ):d.sing.ok bx τ:=by
 unfold Dc.sing
 split
 ·trivial
 ·exact h
theorem Dc.ok_zs:∀ {d:Dc} {xs:List Value},d.zs=some xs->d.ok τ:=by
 intro d
 induction d with
 | nil=>intros;trivial
 | lit v r ih =>
  intro xs h
  simp only[Dc.zs] at h
  split at h
  ·simp at h
   obtain⟨ys,h1,-⟩:=h
   exact ih h1
  ·cases h
 | nilr sz e r ih =>
  intro xs h
  simp[Dc.zs] at h
  obtain⟨ys,h1,-⟩:=h
  exact ih h1
 | row k sz e x r _=>intro xs h;simp[Dc.zs] at h
 | seg k d r _=>intro xs h;simp[Dc.zs] at h
 | blk k v sz e x r _ _=>intro xs h;simp[Dc.zs] at h
theorem BR{T:Nat}{a:AV}{c:Prop}{d:Dc}(ha:a.ok bx τ)(h:asC tb T a=some (c,d)):d.ok τ:=by
 unfold asC at h
 split at h
 ·split at h
  ·split at h
   ·split at h
    ·cases h;trivial
    ·cases h;trivial
    ·cases h
   ·cases h
  ·cases h;trivial
 ·cases h;exact ha
 ·cases h;exact ha
 ·split at h
  ·cases h;trivial
  ·cases h
 ·cases h
theorem EI{S:Nat}(hρ:∀x,(ρ x).ok bx τ):∀(ps:List (Nat×Operand)) {d d':Dc} {c:Prop},d.ok τ->rO tb S ρ ps d=some (c,d')->d'.ok τ
 | [],_,_,_,hd,h=>by cases h;exact hd
 | (f,x) :: ps,d,d',c,hd,h=>by
  simp only[rO] at h
  split at h
  ·split at h
   ·rename_i ha
    split at h
    ·rename_i ho
     obtain⟨⟨c2,d2⟩,h1,h2⟩:=Option.map_eq_some_iff.1 h
     cases h2
     exact EI hρ ps (Dc.ok_over hd (BR (hρ x) ha) ho) h1
    ·cases h
   ·cases h
  ·cases h
theorem KR{e sz:Nat}(hρ:∀x,(ρ x).ok bx τ):∀(ps:List (Nat×Operand)) {i:Nat} {d:Dc} {c:Prop},yF tb e sz ρ i ps=some (c,d)->d.ok τ
 | [],_,_,_,h=>by cases h;trivial
 | (j,x) :: ps,i,d,c,h=>by
  simp only[yF] at h
  split at h
  ·split at h
   ·rename_i ha
    obtain⟨⟨c2,d2⟩,h1,h2⟩:=Option.map_eq_some_iff.1 h
    cases h2
    exact Dc.ok_app (BR (hρ x) ha) (KR hρ ps h1)
   ·cases h
  ·cases h
theorem nth_ok{l:AV}:∀ {i:Nat} {x:AV},l.ok bx τ->l.nth i=some x->x.ok bx τ:=by
 induction l with
 | cons b r _ ih =>
  intro i x ho h
  cases i with
  | zero=>cases h;exact ho.1
  | succ i=>exact ih ho.2 h
 | _=>intro i x _ h;cases h
theorem AI(hρ:∀x,(ρ x).ok bx τ):∀l:List Operand,(AV.list (l.map ρ)).ok bx τ
 | []=>trivial
 | x :: l=>⟨hρ x,AI hρ l⟩
end
def ev(st:St)(N:Nat):Operand->AV
 | .tmp t=>if t<N then st.env t else .junk
 | .const v=>.v v
 | .global g=>.v (.pointer (some ⟨g,0,none⟩))
 | .func f=>.v (.func (.func f) #[] #[])
def gF(o:Oper):Nat:=match o.dst with
 | some d=>d+1
 | none=>0
def Z5(dst:Option Tmp)(a:AV)(env:Nat->AV):Nat->AV:=match dst with
 | some d=>λ t=>if t=d then a else env t
 | none=>env
def fxE(dst:Option Tmp)(fx:Nat->Option Value):Nat->Option Value:=λ t=>if dst=some t then none else fx t
def St.out(st:St)(o:Oper)(r:Out):St:={ env:=Z5 o.dst r.av st.env,bx:=oC st.bx r.bu,τ:=oC st.τ r.tu,fx:=fxE o.dst st.fx }
def eD(st:St)(N:Nat):Op->Option (Nat×Dc)
 | .load _ ad=>match ev st N ad with
  | .bx k _=>st.bx k
  | _=>none
 | .store _ ad _=>match ev st N ad with
  | .bx k _=>st.bx k
  | _=>none
 | _=>none
def rK(st:St)(r:Out):Prop:=(∀k x,r.bu=some (k,x)->st.bx k=none/\k<K0)/\∀k x,r.tu=some (k,x)->st.τ k=none
def uN(P:Program)(G:World->Prop)(tb:TB)(N:Nat)(o:Oper)(st:St)(r:Out):Prop :=
 match o.op with
 | .store _ _ _=>∃c,oJ tb (ev st N) (eD st N o.op) o.op=some (c,r)/\c
 | .call cl=>match cl.callee with
  | .builtin .append=>∃c,xE tb (ev st N) st.τ (gF o) cl=some (c,r)/\c
  | .value fo=>∃f x y avs,eR (ev st N fo)=some (f,x,y)/\(x.isLL=true/\y.isLL=true)/\HoldsR P G f avs (gF o) r/\(x.app ((AV.list (cl.args.toList.map (ev st N))).app y)).arg st.bx avs/\st.τ (gF o)=none
  | _=>∃c,jO tb (ev st N) (eD st N o.op) (gF o) o.op=some (c,r)/\c/\rK st r
 | _=>∃c,jO tb (ev st N) (eD st N o.op) (gF o) o.op=some (c,r)/\c/\rK st r
def kO(P:Program)(G:World->Prop)(tb:TB)(N:Nat)(ops:Array Oper)(o:Oper)(st:St)(r:Out):Prop :=
 match o.guard with
 | none=>uN P G tb N o st r
 | some (j,want)=>∃d b,(ops[j]?).bind (·.dst)=some d/\ev st N (.tmp d)=.v (.bool b)/\((b=want/\uN P G tb N o st r)∨(b≠want/\r = { av:=.v undef }))
def Run(P:Program)(G:World->Prop)(tb:TB)(N:Nat)(ops:Array Oper):List Nat->St->St->Prop
 | [],st,st'=>st=st'
 | i :: is,st,st'=>∃o r,ops[i]? = some o/\kO P G tb N ops o st r/\Run P G tb N ops is (st.out o r) st'
theorem EL{st:St}(h:st.ok)(N:Nat)(x:Operand):(ev st N x).ok st.bx st.τ:=by
 cases x with
 | tmp t =>
  show (if t<N then st.env t else .junk:AV).ok _ _
  split
  ·exact h.env t
  ·trivial
 | _=>trivial
variable {P:Program} {G:World->Prop} {tb:TB} {N:Nat} {ops:Array Oper}
theorem jI{α:Type}(f:Nat->Option α)(k:Nat)(x:α):upd f k x k=some x:=if_pos rfl
theorem zA{α:Type}(f:Nat->Option α){k n:Nat}(x:α)(h:n≠k):upd f k x n=f n:=if_neg h
theorem rY{α:Type}{f:Nat->Option α}{r:Option (Nat×α)}{k:Nat}(h:f k≠none):oC f r k≠none:=by
 cases r with
 | none=>exact h
 | some q =>
  show upd f q.1 q.2 k≠none
  unfold upd
  split
  ·simp
  ·exact h
theorem uU(st:St)(o:Oper)(r:Out):(∀k,st.bx k≠none->(st.out o r).bx k≠none)/\∀k,st.τ k≠none->(st.out o r).τ k≠none:=⟨fun _ h=>rY h,λ _ h=>rY h⟩
theorem yN(st:St)(o:Oper)(r:Out)(t:Nat):(st.out o r).env t=if o.dst=some t then r.av else st.env t:=by
 unfold St.out Z5
 cases h:o.dst with
 | none=>simp
 | some d =>
  simp only[Option.some.injEq]
  by_cases e:t=d
  ·subst e;simp
  ·rw[if_neg e,if_neg (λ h=>e h.symm)]
structure OutOk (st:St) (r:Out):Prop where
 av:r.av.ok (oC st.bx r.bu) (oC st.τ r.tu)
 bu:∀k T d,r.bu=some (k,T,d)->d.ok (oC st.τ r.tu)
theorem St.ok_out{st:St}(h:st.ok){o:Oper}{r:Out}(hr:OutOk st r):(st.out o r).ok:=by
 have hm:=uU st o r
 constructor
 ·intro t
  rw[yN]
  split
  ·exact hr.av
  ·exact AV.ok_mono hm.1 hm.2 (h.env t)
 ·intro k T d e
  change oC st.bx r.bu k=some (T,d) at e
  show d.ok (oC st.τ r.tu)
  cases hb:r.bu with
  | none =>
   rw[hb] at e
   exact Dc.ok_mono hm.2 (h.bx k T d e)
  | some q =>
   obtain⟨k',T',d'⟩:=q
   rw[hb] at e
   change upd st.bx k' (T',d') k=some (T,d) at e
   by_cases hk:k=k'
   ·subst hk
    rw[jI] at e
    cases e
    exact hr.bu _ _ _ hb
   ·rw[zA _ _ hk] at e
    exact Dc.ok_mono hm.2 (h.bx k T d e)
theorem aout_ok{st:St}(hs:st.ok){cont:Option (Nat×Dc)}(hc:∀T d,cont=some (T,d)->d.ok st.τ){nm:Nat}{op:Op}{c:Prop}{r:Out}(h:jO tb (ev st N) cont nm op=some (c,r))(hT:∀T y,tb T=some y->∃xs,y.zero.zs=some xs):OutOk st r:=by
 have hρ:=EL hs N
 have plain:∀a:AV,a.ok st.bx st.τ->OutOk st { av:=a }:=λ a ha=>⟨ha,λ k T d e=>by cases e⟩
 cases op<;>simp only[jO] at h<;>try (cases h;done)
 case move x=>cases h;exact plain _ (hρ x)
 case assign x=>cases h;exact plain _ (hρ x)
 case pick c' x y =>
  split at h
  ·rename_i t _
   cases h
   refine plain _ ?_
   cases t
   ·exact hρ y
   ·exact hρ x
  ·cases h
 case alloc T =>
  obtain⟨y,hy,e⟩:=Option.map_eq_some_iff.1 h
  cases e
  obtain⟨xs,hz⟩:=hT T y hy
  exact⟨by show upd st.bx nm _ nm≠none;rw[jI];simp,λ k T d e=>by cases e;exact Dc.ok_zs hz⟩
 case box T x =>
  obtain⟨⟨c',d⟩,hd,e⟩:=Option.map_eq_some_iff.1 h
  cases e
  exact⟨by show upd st.bx nm _ nm≠none;rw[jI];simp,λ k T d' e=>by cases e;exact BR (hρ x) hd⟩
 case build T ps =>
  split at h
  ·rename_i hy
   obtain⟨⟨c',d⟩,hd,e⟩:=Option.map_eq_some_iff.1 h
   cases e
   obtain⟨xs,hz⟩:=hT T _ hy
   exact plain _ (EI hρ _ (Dc.ok_zs hz) hd)
  ·cases h
 case buildSlice T n ps =>
  split at h
  ·split at h
   ·obtain⟨⟨c',d⟩,hd,e1⟩:=Option.map_eq_some_iff.1 h
    cases e1
    have hd':=KR hρ _ hd
    refine⟨⟨?_,?_,trivial⟩,λ k T d e=>by cases e⟩
    ·show upd st.τ nm 1 nm≠none;rw[jI];simp
    ·exact Dc.ok_mono (λ k hk=>rY (r:=some (nm,1)) hk) hd'
   ·cases h
  ·cases h
 case load T ad =>
  split at h
  ·split at h
   ·split at h
    ·rename_i T0 d
     split at h
     ·rename_i hd1
      split at h
      ·rename_i hd2
       have hok:=Dc.ok_tk _ (Dc.ok_dp _ (hc _ _ rfl) hd1) hd2
       split at h
       ·cases h;exact plain _ hok
       ·cases h
       ·cases h;exact plain _ (Dc.ok_sing hok)
      ·cases h
     ·cases h
    ·cases h
   ·split at h
    ·rename_i hd2
     have hok:Dc.ok st.τ _:=Ds.ok_hd _ hd2
     split at h
     ·cases h;exact plain _ hok
     ·cases h
     ·cases h;exact plain _ (Dc.ok_sing hok)
    ·cases h
   ·split at h
    ·rename_i hd2
     have hok:Dc.ok st.τ _:=Ds.ok_hd _ hd2
     split at h
     ·cases h;exact plain _ hok
     ·cases h
     ·cases h;exact plain _ (Dc.ok_sing hok)
    ·cases h
   ·cases h
  ·cases h
 case nilCheck x =>
  have hx:=hρ x
  split at h
  ·rename_i hk
   cases h
   rw[hk] at hx
   exact plain _ hx
  ·cases h;exact plain _ trivial
  ·cases h;exact plain _ trivial
  ·cases h
 case fieldAddr S x f =>
  have hx:=hρ x
  split at h
  ·split at h
   ·rename_i hk
    cases h
    rw[hk] at hx
    exact plain _ hx
   ·cases h;exact plain _ trivial
   ·cases h;exact plain _ trivial
   ·cases h
  ·cases h
 case field S x f =>
  have hx:=hρ x
  split at h
  ·split at h
   ·rename_i hk
    rw[hk] at hx
    split at h
    ·rename_i hd1
     split at h
     ·rename_i hd2
      have hok:=Dc.ok_tk _ (Dc.ok_dp _ hx hd1) hd2
      split at h
      ·cases h;exact plain _ hok
      ·cases h
      ·cases h;exact plain _ (Dc.ok_sing hok)
     ·cases h
    ·cases h
   ·cases h
  ·cases h
 case indexAddr T x i =>
  split at h
  ·split at h
   ·split at h
    ·cases h;exact plain _ trivial
    ·cases h
   ·cases h
  ·cases h
 case extract t i =>
  have ht:=hρ t
  split at h
  ·rename_i l hl
   obtain⟨x,hx,e⟩:=Option.map_eq_some_iff.1 h
   cases e
   rw[hl] at ht
   exact plain _ (nth_ok (l:=l) ht hx)
  ·cases h
 case binOp op T x y T2 =>
  split at h
  ·split at h
   ·cases h;exact plain _ trivial
   ·unfold abool at h
    split at h
    ·cases h;exact plain _ trivial
    ·cases h
  ·cases h
 case unOp op T x =>
  split at h
  ·cases h;exact plain _ trivial
  ·cases h;exact plain _ trivial
  ·cases h
 case convert s t x =>
  split at h
  ·split at h
   ·cases h;exact plain _ trivial
   ·cases h
  ·cases h
 case makeFunc f x y =>
  cases h
  exact plain _ ⟨AI hρ _,AI hρ _⟩
 case slice T x lo hi mx =>
  unfold oK at h
  repeat' (split at h)
  all_goals first|(cases h;done)|(cases h;exact plain _ trivial)
 case makeSlice T x y =>
  unfold FB at h
  repeat' (split at h)
  all_goals first|(cases h;done)|(cases h;refine⟨⟨by show upd st.τ nm 1 nm≠none;rw[jI];simp,trivial,trivial⟩,λ k T d e=>by cases e⟩)
 case call cl =>
  unfold jP at h
  split at h
  ·split at h
   ·split at h
    ·split at h
     ·cases h;exact plain _ trivial
     ·cases h;exact plain _ trivial
     ·split at h
      ·cases h;exact plain _ trivial
      ·cases h
     ·cases h
    ·cases h
   ·cases h
  ·split at h
   ·split at h
    ·cases h;exact plain _ trivial
    ·cases h
   ·cases h
  ·cases h
theorem LD{x:AV}{d:Dc}{st:St}(hx:x.ok st.bx st.τ){q:Option (Nat×Nat×Nat×Nat)}(h:uR x=some (q,d)):d.ok st.τ/\∀k v s e,q=some (k,v,s,e)->st.τ k≠none:=by
 unfold uR at h
 split at h
 ·cases h;exact⟨trivial,λ _ _ _ _ e=>by cases e⟩
 ·cases h;exact⟨trivial,λ _ _ _ _ e=>by cases e⟩
 ·cases h
  exact⟨hx.2.1,λ _ _ _ _ e=>by cases e;exact hx.1⟩
 ·cases h
theorem TV{x:AV}{d:Dc}{st:St}{sz:Nat}{c:Prop}(hx:x.ok st.bx st.τ)(h:tU st.τ sz x=some (c,d)):d.ok st.τ:=by
 unfold tU at h
 split at h
 ·cases h;trivial
 ·cases h;trivial
 ·cases h;trivial
 ·cases h;exact hx.2.1
 ·cases h
theorem aapp_ok{st:St}(hs:st.ok){nm:Nat}{cl:Call}{c:Prop}{r:Out}(h:xE tb (ev st N) st.τ nm cl=some (c,r)):OutOk st r:=by
 have hρ:=EL hs N
 unfold xE at h
 split at h
 ·split at h
  ·split at h
   ·have key:∀(k v sz e:Nat) (d p:Dc),d.ok st.τ->p.ok st.τ->OutOk st { av:=.c (.blk k v sz e (d.app p) .nil),tu:=some (k,v) }:=λ k v sz e d p hd hp=>by
     refine⟨⟨?_,?_,trivial⟩,λ k T d e=>by cases e⟩
     ·show upd st.τ k v k≠none;rw[jI];simp
     ·exact Dc.ok_mono (λ j hj=>rY (r:=some (k,v)) hj) (Dc.ok_app hd hp)
    split at h
    ·rename_i h1 h2
     cases h
     exact key _ _ _ _ _ _ (LD (hρ _) h1).1 (TV (hρ _) h2)
    ·rename_i h1 h2
     cases h
     exact key _ _ _ _ _ _ (LD (hρ _) h1).1 (TV (hρ _) h2)
    ·cases h
   ·cases h
  ·cases h
 ·cases h
theorem DC{τ:Nat->Option Nat}{n:Nat}{d:Dc}(h:d.noblk=true):(d.ren n).ok τ:=by
 induction d with
 | nil=>trivial
 | lit v r ih=>exact ih h
 | nilr sz e r ih=>exact ih h
 | row k sz e x r ih=>exact ih h
 | seg k d r ih=>exact ih h
 | blk k v sz e x r _ _=>cases h
theorem ren_ok{τ:Nat->Option Nat}{bx:Nat->Option (Nat×Dc)}{n:Nat}{r:AV}(h:r.plain=true):(r.ren n).ok bx τ:=by
 induction r with
 | c d=>exact DC h
 | agg d=>exact DC h
 | bx k o=>cases h
 | el x=>cases h
 | cons a r iha ihr =>
  simp only[AV.plain,Bool.and_eq_true] at h
  exact⟨iha h.1,ihr h.2⟩
 | tup l ih=>exact ih h
 | fn f a b iha ihb =>
  simp only[AV.plain,Bool.and_eq_true] at h
  exact⟨iha h.1,ihb h.2⟩
 | _=>trivial
theorem W5{st:St}(hs:st.ok){op:Op}{T:Nat}{d:Dc}(h:eD st N op=some (T,d)):d.ok st.τ:=by
 unfold eD at h
 split at h
 ·split at h
  ·exact hs.bx _ _ _ h
  ·cases h
 ·split at h
  ·exact hs.bx _ _ _ h
  ·cases h
 ·cases h
theorem OO{st:St}(hs:st.ok){op:Op}{c:Prop}{r:Out}(h:oJ tb (ev st N) (eD st N op) op=some (c,r)):OutOk st r:=by
 cases op<;>simp only[oJ] at h<;>try (cases h;done)
 case store T ad x =>
  split at h
  ·rename_i k off T0 d c0 p y hk hcn hx hy
   split at h
   ·rename_i d' hd'
    cases h
    exact⟨trivial,λ k T d e=>by cases e;exact Dc.ok_over (W5 hs hcn) (BR (EL hs N x) hx) hd'⟩
   ·cases h
  ·cases h
theorem BG(hT:jE P tb){st:St}(hs:st.ok){o:Oper}{r:Out}(h:uN P G tb N o st r):OutOk st r:=by
 have hz:∀T y,tb T=some y->∃xs,y.zero.zs=some xs:=λ T y hy=>⟨_,(hT T y hy).2.2.1⟩
 have calm:(∃c,jO tb (ev st N) (eD st N o.op) (gF o) o.op=some (c,r)/\c/\rK st r)->OutOk st r:=λ ⟨_,h1,_⟩=>aout_ok hs (λ T d e=>W5 hs e) h1 hz
 unfold uN at h
 split at h
 ·obtain⟨c,h1,-⟩:=h
  exact OO hs h1
 ·split at h
  ·obtain⟨c,h1,-⟩:=h
   exact aapp_ok hs h1
  ·obtain⟨f,x,y,avs,-,-,hR,-,-⟩:=h
   rcases hR with ⟨res,hH,rfl⟩|⟨sz,e,d,-,rfl⟩
   ·exact⟨ren_ok hH.2.1,λ k T d e=>by cases e⟩
   ·exact⟨⟨by show upd st.τ (gF o) 1 (gF o)≠none;rw[jI];simp,trivial,trivial⟩,λ k T d e=>by cases e⟩
  ·exact calm h
 ·exact calm h
theorem UB(hT:jE P tb){st:St}(hs:st.ok){o:Oper}{r:Out}(h:kO P G tb N ops o st r):OutOk st r:=by
 unfold kO at h
 split at h
 ·exact BG hT hs h
 ·obtain⟨d,b,-,-,⟨-,h⟩|⟨-,rfl⟩⟩:=h
  ·exact BG hT hs h
  ·exact⟨trivial,λ k T d e=>by cases e⟩
/-! ### What a step hangs on -/
theorem xX{ρ ρ':Operand->AV}{S:Nat}:∀(ps:List (Nat×Operand)) (d:Dc),(∀p∈ps,ρ p.2=ρ' p.2)->rO tb S ρ ps d=rO tb S ρ' ps d
 | [],_,_=>rfl
 | (f,x) :: ps,d,h=>by
  have h1:=h (f,x) (by simp)
  simp only at h1
  simp only[rO,h1,xX ps _ (λ p hp=>h p (by simp[hp]))]
theorem C7{ρ ρ':Operand->AV}{e sz:Nat}:∀(ps:List (Nat×Operand)) (i:Nat),(∀p∈ps,ρ p.2=ρ' p.2)->yF tb e sz ρ i ps=yF tb e sz ρ' i ps
 | [],_,_=>rfl
 | (j,x) :: ps,i,h=>by
  have h1:=h (j,x) (by simp)
  simp only at h1
  simp only[yF,h1,C7 ps _ (λ p hp=>h p (by simp[hp]))]
theorem JM{ρ ρ':Operand->AV}{cont:Option (Nat×Dc)}{nm:Nat}{op:Op}(h:∀x∈op.operands,ρ x=ρ' x):jO tb ρ cont nm op=jO tb ρ' cont nm op:=by
 cases op<;>simp only[Op.operands] at h<;>simp only[jO]
 case move x=>rw[h x (by simp)]
 case assign x=>rw[h x (by simp)]
 case pick c x y=>rw[h c (by simp),h x (by simp),h y (by simp)]
 case box T x=>rw[h x (by simp)]
 case build T ps =>
  have:=xX (tb:=tb) (ρ:=ρ) (ρ':=ρ') (S:=T) ps.toList
  split
  ·rw[this _ λ p hp=>h p.2 (by simp;exact⟨p.1,by simpa using hp⟩)]
  ·rfl
 case buildSlice T n ps =>
  split
  ·split
   ·rw[C7 (ρ:=ρ) (ρ':=ρ') ps.toList _ λ p hp=>h p.2 (by simp;exact⟨p.1,by simpa using hp⟩)]
   ·rfl
  ·rfl
 case load T x=>rw[h x (by simp)]
 case nilCheck x=>rw[h x (by simp)]
 case fieldAddr S x f=>rw[h x (by simp)]
 case field S x f=>rw[h x (by simp)]
 case indexAddr T x i=>rw[h x (by simp),h i (by simp)]
 case extract t i=>rw[h t (by simp)]
 case binOp op T x y T2=>rw[h x (by simp),h y (by simp)]
 case unOp op T x=>rw[h x (by simp)]
 case convert s t x=>rw[h x (by simp)]
 case makeFunc f x y =>
  have e1:x.toList.map ρ=x.toList.map ρ':=List.map_congr_left λ z hz=>h z (by rw[Array.mem_append];exact .inl (by simpa using hz))
  have e2:y.toList.map ρ=y.toList.map ρ':=List.map_congr_left λ z hz=>h z (by rw[Array.mem_append];exact .inr (by simpa using hz))
  rw[e1,e2]
 case slice T x lo hi mx =>
  unfold oK
  have e1:lo.map ρ=lo.map ρ':=by cases lo with
   | none=>rfl
   | some l=>simp[h l (by simp)]
  have e2:hi.map ρ=hi.map ρ':=by cases hi with
   | none=>rfl
   | some l=>simp[h l (by simp)]
  cases lo with
  | none =>
   rw[h x (by simp),e2]
   cases hr:(ρ' x).room with
   | none=>simp only[Option.map_none]
   | some r=>obtain⟨sz,d,s⟩:=r;simp only
  | some l=>simp only[e1,e2,h x (by simp)]
 case makeSlice T x y=>simp only[FB,h x (by simp),h y (by simp)]
 case call cl =>
  unfold jP
  split
  ·split
   ·rename_i x T hx _
    have hm:x∈cl.args.toList:=by rw[hx];simp
    rw[h x (by simp[Call.operands];exact .inr (by simpa using hm))]
   ·rfl
  ·split
   ·rename_i x y hx
    have hm:x∈cl.args.toList/\y∈cl.args.toList:=by rw[hx];simp
    rw[h x (by simp[Call.operands];exact .inr (by simpa using hm.1)),h y (by simp[Call.operands];exact .inr (by simpa using hm.2))]
   ·rfl
  ·rfl
theorem OR{bx bx' bx0:Nat->Option (Nat×Dc)}{τ:Nat->Option Nat}(hb:∀k,bx0 k≠none->bx' k=bx k){a:AV}:∀ {b:AV},a.ok bx0 τ->a.arg bx b->a.arg bx' b:=by
 induction a with
 | bx k off =>
  intro b ho h
  cases b<;>simp only[AV.arg] at h ⊢
  rw[hb k ho];exact h
 | cons a r iha ihr =>
  intro b ho h
  cases b<;>simp only[AV.arg] at h ⊢
  exact⟨iha ho.1 h.1,h.2.1,ihr ho.2 h.2.2⟩
 | tup l ih =>
  intro b ho h
  cases b<;>simp only[AV.arg] at h ⊢
  exact⟨h.1,ih ho h.2⟩
 | fn f x y ihx ihy =>
  intro b ho h
  cases b<;>simp only[AV.arg] at h ⊢
  exact⟨h.1,⟨h.2.1.1,ihx ho.1 h.2.1.2⟩,h.2.2.1,ihy ho.2 h.2.2.2⟩
 | _ =>
  intro b _ h
  cases b<;>simp only[AV.arg] at h ⊢<;>exact h
def iS:Op->Bool
 | .store _ _ _=>true
 | _=>false
def pD:Op->Bool
 | .call cl=>match cl.callee with
  | .builtin .append=>true
  | _=>false
 | _=>false
def nX:Op->Bool
 | .store _ _ _=>true
 | .load _ _=>true
 | .call cl=>match cl.callee with
  | .value _=>true
  | _=>false
 | _=>false
theorem BM{st st' st0:St}{op:Op}(h0:∀x∈op.operands,(ev st N x).ok st0.bx st0.τ)(hev:∀x∈op.operands,ev st N x=ev st' N x)(hbx:nX op=true->∀k,st0.bx k≠none->st'.bx k=st.bx k):eD st N op=eD st' N op:=by
 cases op<;>simp only[Op.operands] at hev h0<;>simp only[eD]
 case load T x =>
  rw[<-hev x (by simp)]
  have h1:=h0 x (by simp)
  split
  ·rename_i k off hk
   rw[hk] at h1
   exact (hbx rfl k h1).symm
  ·rfl
 case store T x y =>
  rw[<-hev x (by simp)]
  have h1:=h0 x (by simp)
  split
  ·rename_i k off hk
   rw[hk] at h1
   exact (hbx rfl k h1).symm
  ·rfl
theorem xY{τ τ' τ0:Nat->Option Nat}{bx0:Nat->Option (Nat×Dc)}(h:∀k,τ0 k≠none->τ' k=τ k){a:AV}(ha:a.ok bx0 τ0)(sz:Nat):tU τ sz a=tU τ' sz a:=by
 unfold tU
 split
 ·rfl
 ·rfl
 ·rfl
 ·rename_i k ver s t x
  rw[h k ha.1]
 ·rfl
theorem JO{ρ ρ':Operand->AV}{τ τ' τ0:Nat->Option Nat}{bx0:Nat->Option (Nat×Dc)}{nm:Nat}{cl:Call}{c:Prop}{r:Out}(hρ:∀x∈cl.args,(ρ x).ok bx0 τ0)(hev:∀x∈cl.args,ρ x=ρ' x)(hτ:∀k,τ0 k≠none->τ' k=τ k)(hf:∀v,r.tu=some (nm,v)->τ nm=none->τ' nm=none)
  (h:xE tb ρ τ nm cl=some (c,r)) (hc:c):∃c',xE tb ρ' τ' nm cl=some (c',r)/\c':=by
 unfold xE at h ⊢
 split at h
 ·rename_i s x T T' hxs hts
  have ms:s∈cl.args:=by
   have:s∈cl.args.toList:=by rw[hxs];simp
   simpa using this
  have mx:x∈cl.args:=by
   have:x∈cl.args.toList:=by rw[hxs];simp
   simpa using this
  have es:=hev s ms
  have ex:=hev x mx
  split at h
  ·rename_i hy
   split at h
   ·rename_i y hye
    split at h
    ·rename_i h1 h2
     cases h
     obtain⟨k1,k2,k3,k4,k5⟩:=hc
     simp only[<-es,<-ex,h1,<-xY hτ (hρ x mx),h2]
     exact⟨_,rfl,k1,k2,k3,k4,hf _ rfl k5⟩
    ·rename_i k ver sz e' d c0 p h1 h2
     cases h
     obtain⟨k1,k2,k3,k4,k5,k6⟩:=hc
     have hk:τ0 k≠none:=by
      have:=hρ s ms
      unfold uR at h1
      split at h1<;>cases h1
      rename_i hq
      rw[hq] at this
      exact this.1
     simp only[<-es,<-ex,h1,<-xY hτ (hρ x mx),h2]
     exact⟨_,rfl,k1,k2,k3,k4,by rw[hτ k hk];exact k5,k6⟩
    ·cases h
   ·cases h
  ·cases h
 ·cases h
theorem DG{bx:Nat->Option (Nat×Dc)}{τ:Nat->Option Nat}{ρ:Operand->AV}:∀l:List Operand,(∀x∈l,(ρ x).ok bx τ)->(AV.list (l.map ρ)).ok bx τ
 | [],_=>trivial
 | x :: l,h=>⟨h x (by simp),DG l λ y hy=>h y (by simp[hy])⟩
theorem L2{st st' st0:St}{o:Oper}{r:Out}(h0:∀x∈o.op.operands,(ev st N x).ok st0.bx st0.τ)(hev:∀x∈o.op.operands,ev st N x=ev st' N x)(hbx:nX o.op=true->∀k,st0.bx k≠none->st'.bx k=st.bx k)(hτ:pD o.op=true->∀k,st0.τ k≠none->st'.τ k=st.τ k)
  (hf:∀k x,r.bu=some (k,x)->st.bx k=none->st'.bx k=none) (hg:∀k x,r.tu=some (k,x)->st.τ k=none->st'.τ k=none) (h:uN P G tb N o st r):uN P G tb N o st' r:=by
 have hcont:=BM (N:=N) h0 hev hbx
 have calm:(∃c,jO tb (ev st N) (eD st N o.op) (gF o) o.op=some (c,r)/\c/\rK st r)->∃c,jO tb (ev st' N) (eD st' N o.op) (gF o) o.op=some (c,r)/\c/\rK st' r:=λ ⟨c,h1,h2,h3⟩ =>
  ⟨c,by rw[<-hcont,<-JM (ρ:=ev st N) hev];exact h1,h2,λ k x e=>⟨hf k x e (h3.1 k x e).1,(h3.1 k x e).2⟩,λ k x e=>hg k x e (h3.2 k x e)⟩
 obtain⟨dst,op,ty,pos,after,guard⟩:=o
 unfold uN at h ⊢
 cases op<;>simp only at h hev h0 hbx hτ hcont calm ⊢<;>try (exact calm h)
 case store T ad x =>
  obtain⟨c,h1,h2⟩:=h
  refine⟨c,?_,h2⟩
  rw[<-hcont]
  simp only[oJ] at h1 ⊢
  rw[<-hev ad (by simp[Op.operands]),<-hev x (by simp[Op.operands])]
  exact h1
 case call cl =>
  obtain⟨callee,xs,ts⟩:=cl
  cases callee with
  | invoke r m=>exact calm h
  | value fo =>
   simp only at h ⊢
   obtain⟨f,x,y,avs,k1,k2,k3,k4,k5⟩:=h
   obtain⟨-,ver,-,k6⟩:=k3.outs
   have el:(xs.toList.map (ev st' N))=xs.toList.map (ev st N):=List.map_congr_left λ z hz=>(hev z (by simp[Op.operands,Call.operands];exact .inr (by simpa using hz))).symm
   refine⟨f,x,y,avs,by rw[<-hev fo (by simp[Op.operands,Call.operands])];exact k1,k2,k3,?_,hg _ _ k6 k5⟩
   rw[el]
   refine OR (τ:=st0.τ) (hbx rfl) ?_ k4
   have hfo:=h0 fo (by simp[Op.operands,Call.operands])
   have hx:x.ok st0.bx st0.τ/\y.ok st0.bx st0.τ:=by
    unfold eR at k1
    split at k1
    ·cases k1
     have hv:∀l:List Value,(AV.list (l.map .v)).ok st0.bx st0.τ:=λ l=>by
      induction l with
      | nil=>trivial
      | cons u l ih=>exact⟨trivial,ih⟩
     exact⟨hv _,hv _⟩
    ·rename_i hq
     cases k1
     rw[hq] at hfo
     exact hfo
    ·cases k1
   have app_ok:∀a b:AV,a.ok st0.bx st0.τ->b.ok st0.bx st0.τ->(a.app b).ok st0.bx st0.τ:=by
    intro a b ha hb
    induction a with
    | cons u v _ ih=>exact⟨ha.1,ih ha.2⟩
    | _=>exact hb
   exact app_ok _ _ hx.1 (app_ok _ _ (DG _ λ z hz=>h0 z (by simp[Op.operands,Call.operands];exact .inr (by simpa using hz))) hx.2)
  | builtin b =>
   cases b<;>simp only at h ⊢<;>try (exact calm h)
   case append =>
    obtain⟨c,h1,h2⟩:=h
    exact JO (λ x hx=>h0 x (by simpa[Op.operands,Call.operands] using hx)) (λ x hx=>hev x (by simpa[Op.operands,Call.operands] using hx)) (hτ rfl) (λ v e h=>hg _ _ e h) h1 h2
theorem UX{ρ:Operand->AV}{cont:Option (Nat×Dc)}{nm:Nat}{op:Op}{c:Prop}{r:Out}(h:jO tb ρ cont nm op=some (c,r)):∀k v,r.tu=some (k,v)->v<=1:=by
 cases op<;>simp only[jO] at h<;>try (cases h;done)
 case buildSlice T n ps =>
  split at h
  ·split at h
   ·obtain⟨⟨c',d⟩,hd,e1⟩:=Option.map_eq_some_iff.1 h
    cases e1
    intro k v e
    cases e
    exact Nat.le_refl _
   ·cases h
  ·cases h
 case slice T x lo hi mx =>
  unfold oK at h
  repeat' (split at h)
  all_goals first|(cases h;done)|(cases h;intro k v e;cases e)
 case binOp op T x y T2 =>
  simp only[abool] at h
  repeat' (split at h)
  all_goals first|(cases h;done)|(cases h;intro k v e;cases e)
 case makeSlice T x y =>
  unfold FB at h
  repeat' (split at h)
  all_goals first|(cases h;done)|(cases h;intro k v e;cases e;exact Nat.le_refl _)
 case call cl =>
  unfold jP at h
  repeat' (split at h)
  all_goals first|(cases h;done)|(cases h;intro k v e;cases e)
 all_goals (repeat' (first|split at h|(rw[Option.map_eq_some_iff] at h;obtain⟨y,hy,h⟩:=h)))
 all_goals first|(cases h;done)|(cases h;intro k v e;cases e)
theorem L1{st:St}{o:Oper}{r:Out}(h:uN P G tb N o st r):(∀k c,r.bu=some (k,c)->(iS o.op=true/\st.bx k≠none)∨(iS o.op=false/\st.bx k=none))/\∀k v,r.tu=some (k,v)->(pD o.op=true/\∃old,st.τ k=some old/\old≠0/\v=old+1)∨(st.τ k=none/\v<=1):=by
 have calm:iS o.op=false->(∃c,jO tb (ev st N) (eD st N o.op) (gF o) o.op=some (c,r)/\c/\rK st r)->(∀k c,r.bu=some (k,c)->(iS o.op=true/\st.bx k≠none)∨(iS o.op=false/\st.bx k=none))/\∀k v,r.tu=some (k,v)->(pD o.op=true/\∃old,st.τ k=some old/\old≠0/\v=old+1)∨(st.τ k=none/\v<=1):=λ hs ⟨_,h1,_,h3⟩ =>
  ⟨fun k c e=>.inr ⟨hs,(h3.1 k c e).1⟩,λ k v e=>.inr ⟨h3.2 k v e,UX h1 k v e⟩⟩
 obtain⟨dst,op,ty,pos,after,guard⟩:=o
 unfold uN at h
 cases op<;>simp only at h calm ⊢<;>try (exact calm rfl h)
 case store T ad x =>
  obtain⟨c,h1,-⟩:=h
  simp only[oJ,eD] at h1
  split at h1
  ·rename_i k off T0 d c0 p y hk hcn hx hy
   split at h1
   ·cases h1
    rw[hk] at hcn
    have hcn:st.bx k=some (T0,d):=hcn
    exact⟨(λ k' c' e=>by cases e;exact .inl ⟨rfl,by rw[hcn];simp⟩),(λ _ _ e=>by cases e)⟩
   ·cases h1
  ·cases h1
 case call cl =>
  obtain⟨callee,xs,ts⟩:=cl
  cases callee with
  | invoke r m=>exact calm rfl h
  | value fo =>
   obtain⟨f,x,y,avs,-,-,hR,-,h5⟩:=h
   obtain⟨k5,ver,k6,k7⟩:=hR.outs
   exact⟨(λ _ _ e=>by rw[k5] at e;cases e),(λ _ _ e=>by rw[k7] at e;cases e;exact .inr ⟨h5,k6⟩)⟩
  | builtin b =>
   cases b<;>simp only at h ⊢<;>try (exact calm rfl h)
   case append =>
    obtain⟨c,h1,h2⟩:=h
    unfold xE at h1
    split at h1
    ·split at h1
     ·split at h1
      ·split at h1
       ·cases h1
        exact⟨(λ _ _ e=>by cases e),(λ _ _ e=>by cases e;exact .inr ⟨h2.2.2.2.2,by decide⟩)⟩
       ·cases h1
        exact⟨(λ _ _ e=>by cases e),(λ _ _ e=>by cases e;exact .inl ⟨rfl,_,h2.2.2.2.2.1,h2.2.2.2.2.2.2.2,rfl⟩)⟩
       ·cases h1
      ·cases h1
     ·cases h1
    ·cases h1
theorem rP{st:St}{o:Oper}{r:Out}(h:kO P G tb N ops o st r):(∀k c,r.bu=some (k,c)->(iS o.op=true/\st.bx k≠none)∨(iS o.op=false/\st.bx k=none))/\∀k v,r.tu=some (k,v)->(pD o.op=true/\∃old,st.τ k=some old/\old≠0/\v=old+1)∨(st.τ k=none/\v<=1):=by
 unfold kO at h
 split at h
 ·exact L1 h
 ·obtain⟨d,b,-,-,⟨-,h⟩|⟨-,rfl⟩⟩:=h
  ·exact L1 h
  ·exact⟨(λ _ _ e=>by cases e),(λ _ _ e=>by cases e)⟩
theorem xZ{st st' st0:St}{o:Oper}{r:Out}(h0:∀x,(∀d,x=.tmp d->d∈o.looksAt ops)->(ev st N x).ok st0.bx st0.τ)(hev:∀x,(∀d,x=.tmp d->d∈o.looksAt ops)->ev st N x=ev st' N x)(hbx:nX o.op=true->∀k,st0.bx k≠none->st'.bx k=st.bx k)(hτ:pD o.op=true->∀k,st0.τ k≠none->st'.τ k=st.τ k)
  (hf:∀k x,r.bu=some (k,x)->st.bx k=none->st'.bx k=none) (hg:∀k x,r.tu=some (k,x)->st.τ k=none->st'.τ k=none) (h:kO P G tb N ops o st r):kO P G tb N ops o st' r:=by
 have hop:∀x∈o.op.operands,ev st N x=ev st' N x:=λ x hx=>hev x λ d e=>by
  subst e
  exact List.mem_append_left _ (List.mem_filterMap.2 ⟨.tmp d,by simpa using hx,rfl⟩)
 have hop0:∀x∈o.op.operands,(ev st N x).ok st0.bx st0.τ:=λ x hx=>h0 x λ d e=>by
  subst e
  exact List.mem_append_left _ (List.mem_filterMap.2 ⟨.tmp d,by simpa using hx,rfl⟩)
 unfold kO at h ⊢
 cases hgd:o.guard with
 | none =>
  rw[hgd] at h
  exact L2 hop0 hop hbx hτ hf hg h
 | some q =>
  obtain⟨j,want⟩:=q
  rw[hgd] at h
  obtain⟨d,b,h1,h2,h3⟩:=h
  refine⟨d,b,h1,?_,?_⟩
  ·rw[<-hev (.tmp d) λ d' e=>by
    cases e
    exact List.mem_append_right _ (by simp[hgd,h1])]
   exact h2
  ·rcases h3 with ⟨h3,h4⟩|h3
   ·exact .inl ⟨h3,L2 hop0 hop hbx hτ hf hg h4⟩
   ·exact .inr h3
def SG(a b:Op):Bool:=!(iS a && nX b) && !(pD a && pD b)
def I9(ops:Array Oper)(x y:Oper):Bool:=x.apart ops y && SG x.op y.op && SG y.op x.op
theorem Q8{α:Type}(f:Nat->Option α){a b:Option (Nat×α)}(h:∀k x k' x',a=some (k,x)->b=some (k',x')->k≠k'):oC (oC f a) b=oC (oC f b) a:=by
 cases a with
 | none=>rfl
 | some a =>
  cases b with
  | none=>rfl
  | some b =>
   have hn:=h a.1 a.2 b.1 b.2 rfl rfl
   funext n
   show upd (upd f a.1 a.2) b.1 b.2 n=upd (upd f b.1 b.2) a.1 a.2 n
   unfold upd
   by_cases h1:n=b.1
   ·rw[if_pos h1,if_neg (λ e=>hn (by omega)),if_pos h1]
   ·rw[if_neg h1]
    by_cases h2:n=a.1
    ·rw[if_pos h2,if_pos h2]
    ·rw[if_neg h2,if_neg h2,if_neg h1]
theorem TU{st:St}{o:Oper}{r:Out}{z:Operand}(h:∀d,o.dst=some d->z≠.tmp d):ev (st.out o r) N z=ev st N z:=by
 cases z with
 | tmp t =>
  show (if t<N then (st.out o r).env t else .junk)=if t<N then st.env t else .junk
  rw[yN,if_neg (λ e=>h t e rfl)]
 | _=>rfl
theorem swap{st:St}(hs:st.ok){x y:Oper}{r r':Out}(hi:I9 ops x y=true)(h1:kO P G tb N ops x st r)(h2:kO P G tb N ops y (st.out x r) r') :
  kO P G tb N ops y st r'/\kO P G tb N ops x (st.out y r') r/\(st.out x r).out y r'=(st.out y r').out x r:=by
 simp only[I9,Bool.and_eq_true] at hi
 obtain⟨⟨hap,hm1⟩,hm2⟩:=hi
 obtain⟨a1,a2,a3⟩:=Oper.apart_spec hap
 simp only[SG,Bool.and_eq_true,Bool.not_eq_true',Bool.and_eq_false_iff] at hm1 hm2
 have n1:=rP h1
 have n2:=rP h2
 have hout:=uU st x r
 have ey:∀z,(∀d,z=.tmp d->d∈y.looksAt ops)->ev (st.out x r) N z=ev st N z:=λ z hz=>TU λ d e e2=>a1 d e (hz d e2)
 have ex:∀z,(∀d,z=.tmp d->d∈x.looksAt ops)->ev st N z=ev (st.out y r') N z:=λ z hz=>(TU λ d e e2=>a3 d e (hz d e2)).symm
 have keep:∀(o:Oper) (q:Out),((∀k c,q.bu=some (k,c)->(iS o.op=true/\st.bx k≠none)∨(iS o.op=false/\st.bx k=none)))->iS o.op=false->∀k,st.bx k≠none->(st.out o q).bx k=st.bx k:=by
  intro o q hn hst k hk
  show oC st.bx q.bu k=_
  cases hb:q.bu with
  | none=>rfl
  | some c =>
   rcases hn c.1 c.2 hb with ⟨e,-⟩|⟨-,e⟩
   ·rw[hst] at e;cases e
   ·exact zA _ _ λ e2=>hk (by rw[e2];exact e)
 have keepτ:∀(o:Oper) (q:Out),((∀k v,q.tu=some (k,v)->(pD o.op=true/\∃old,st.τ k=some old/\old≠0/\v=old+1)∨(st.τ k=none/\v<=1)))->pD o.op=false->∀k,st.τ k≠none->(st.out o q).τ k=st.τ k:=by
  intro o q hn hst k hk
  show oC st.τ q.tu k=_
  cases hb:q.tu with
  | none=>rfl
  | some c =>
   rcases hn c.1 c.2 hb with ⟨e,-⟩|⟨e,-⟩
   ·rw[hst] at e;cases e
   ·exact zA _ _ λ e2=>hk (by rw[e2];exact e)
 have hsx:nX y.op=true->iS x.op=false:=λ h=>by
  rcases hm1.1 with h1|h1
  ·exact h1
  ·rw[h] at h1;cases h1
 have hsy:nX x.op=true->iS y.op=false:=λ h=>by
  rcases hm2.1 with h1|h1
  ·exact h1
  ·rw[h] at h1;cases h1
 have hax:pD y.op=true->pD x.op=false:=λ h=>by
  rcases hm1.2 with h1|h1
  ·exact h1
  ·rw[h] at h1;cases h1
 have hay:pD x.op=true->pD y.op=false:=λ h=>by
  rcases hm2.2 with h1|h1
  ·exact h1
  ·rw[h] at h1;cases h1
 have none_of:∀(o:Oper) (q:Out) k,(st.out o q).bx k=none->st.bx k=none:=λ o q k h=>by
  cases hk:st.bx k with
  | none=>rfl
  | some c=>exact absurd h ((uU st o q).1 k (by rw[hk];simp))
 have none_ofτ:∀(o:Oper) (q:Out) k,(st.out o q).τ k=none->st.τ k=none:=λ o q k h=>by
  cases hk:st.τ k with
  | none=>rfl
  | some c=>exact absurd h ((uU st o q).2 k (by rw[hk];simp))
 have hyst:kO P G tb N ops y st r' :=
  xZ (st:=st.out x r) (st':=st) (st0:=st) (λ z hz=>by rw[ey z hz];exact EL hs N z) ey (λ h k hk=>(keep x r n1.1 (hsx h) k hk).symm) (λ h k hk=>(keepτ x r n1.2 (hax h) k hk).symm)
   (λ k c _ h=>none_of x r k h) (λ k v _ h=>none_ofτ x r k h) h2
 have n3:=rP hyst
 have hbb:∀k c k' c',r.bu=some (k,c)->r'.bu=some (k',c')->k≠k':=λ k c k' c' e e' hk=>by
  subst hk
  have hsome:(st.out x r).bx k≠none:=by
   show oC st.bx r.bu k≠none
   rw[e]
   show upd st.bx k c k≠none
   rw[jI];simp
  rcases n2.1 k c' e' with ⟨h3,-⟩|⟨-,h3⟩
  ·rcases n1.1 k c e with ⟨h4,-⟩|⟨-,h4⟩
   ·have:nX y.op=true:=by
     revert h3
     cases y.op<;>simp[iS,nX]
    rw[hsx this] at h4;cases h4
   ·rcases n3.1 k c' e' with ⟨-,h5⟩|⟨h5,-⟩
    ·exact h5 h4
    ·rw[h3] at h5;cases h5
  ·exact hsome h3
 have htt:∀k c k' c',r.tu=some (k,c)->r'.tu=some (k',c')->k≠k':=λ k c k' c' e e' hk=>by
  subst hk
  have hsome:(st.out x r).τ k≠none:=by
   show oC st.τ r.tu k≠none
   rw[e]
   show upd st.τ k c k≠none
   rw[jI];simp
  rcases n2.2 k c' e' with ⟨h3,old,h6,h7,h8⟩|⟨h3,-⟩
  ·have hcv:(st.out x r).τ k=some c:=by
    show oC st.τ r.tu k=some c
    rw[e]
    exact jI _ _ _
   rw[hcv] at h6
   cases h6
   rcases n1.2 k c e with ⟨h4,-⟩|⟨h4,h5⟩
   ·rw[hax h3] at h4;cases h4
   ·rcases n3.2 k c' e' with ⟨-,old',h9,-⟩|⟨-,h9⟩
    ·rw[h4] at h9;cases h9
    ·omega
  ·exact hsome h3
 refine⟨hyst,?_,?_⟩
 ·refine xZ (st:=st) (st':=st.out y r') (st0:=st) (λ z _=>EL hs N z) ex (λ h k hk=>keep y r' n3.1 (hsy h) k hk) (λ h k hk=>keepτ y r' n3.2 (hay h) k hk) (λ k c e h=>?_) (λ k v e h=>?_) h1
  ·show oC st.bx r'.bu k=none
   cases hb:r'.bu with
   | none=>exact h
   | some c'=>exact (zA _ _ (hbb k c c'.1 c'.2 e hb)).trans h
  ·show oC st.τ r'.tu k=none
   cases hb:r'.tu with
   | none=>exact h
   | some c'=>exact (zA _ _ (htt k v c'.1 c'.2 e hb)).trans h
 ·have e1:Z5 y.dst r'.av (Z5 x.dst r.av st.env)=Z5 x.dst r.av (Z5 y.dst r'.av st.env):=by
   unfold Z5
   cases hx:x.dst with
   | none=>cases y.dst<;>rfl
   | some d =>
    cases hy:y.dst with
    | none=>rfl
    | some d' =>
     have hne:d≠d':=λ e=>a2 d hx (by rw[hy,e])
     funext t
     by_cases h1:t=d'
     ·subst h1
      simp[Ne.symm hne]
     ·simp[h1]
  show St.mk _ _ _ _=St.mk _ _ _ _
  rw[show (st.out x r).env=Z5 x.dst r.av st.env from rfl,show (st.out y r').env=Z5 y.dst r'.av st.env from rfl,e1]
  congr 1
  ·exact Q8 st.bx hbb
  ·exact Q8 st.τ htt
  ·funext t
   show fxE y.dst (fxE x.dst st.fx) t=fxE x.dst (fxE y.dst st.fx) t
   unfold fxE
   by_cases h1:y.dst=some t<;>by_cases h2:x.dst=some t<;>simp[h1,h2]
end
section
variable {P:Program} {G:World->Prop} {tb:TB} {N:Nat} {ops:Array Oper}
structure Sat (G:World->Prop) (F0:Mem) (w0:World) (N:Nat) (st:St) (a:Act) (w:World):Prop where
 ok:st.ok
 gh:∃g:Gh,g.w=w/\Inv g/\g.st.bx=st.bx/\g.st.τ=st.τ/\g.base=w0.heap.size/\(∀b o,b<g.base->g.F b o=F0 b o)/\∀t,t<N->RepV g (st.env t) [a.tmps.getD t undef]
 below:Below w0.heap.size w0 w
 G:G w0
 size:a.tmps.size=N
 defers:a.defers=[]
 fix:∀t x,st.fx t=some x->a.tmps.getD t undef=x
variable {F0:Mem} {w0:World}
def iU(G:World->Prop):Prop:=∀w w',Below w.heap.size w w'->G w->G w'
theorem K7{g:Gh}{st:St}{a:Act}(h:∀t,t<N->RepV g (st.env t) [a.tmps.getD t undef])(x:Operand):RepV g (ev st N x) [a.eval x]:=by
 cases x with
 | tmp t =>
  show RepV g (if t<N then st.env t else .junk) _
  split
  ·rename_i ht;exact h t ht
  ·trivial
 | const v=>rfl
 | global q=>rfl
 | func f=>rfl
theorem LM{a:Act}{fx:Nat->Option Value}{dst:Option Tmp}{v:Value}(h:∀t x,fx t=some x->a.tmps.getD t undef=x):∀t x,fxE dst fx t=some x->(a.put dst v).tmps.getD t undef=x:=by
 intro t x hx3
 unfold fxE at hx3
 split at hx3
 ·cases hx3
 ·rename_i hne
  cases dst with
  | none=>exact h t x hx3
  | some d =>
   have hd2:d≠t:=λ e=>hne (by rw[e])
   have:(a.tmps.setIfInBounds d v).getD t undef=a.tmps.getD t undef:=by simp[hd2]
   show (a.tmps.setIfInBounds d v).getD t undef=x
   rw[this]
   exact h t x hx3
theorem W4(hT:jE P tb)(hS:iU G){st:St}{a:Act}{w:World}(hs:Sat G F0 w0 N st a w){o:Oper}{r:Out}(h:uN P G tb N o st r){next:Act->World->Prop}{Q:Exit->Act->World->Prop}(hn:∀a' w',Sat G F0 w0 N (st.out o r) a' w'->next a' w'):o.wp P a w next Q:=by
 obtain⟨g,rfl,hI,hbx,hτ,hbase,hF0,hsl⟩:=hs.gh
 have hρ:=K7 (N:=N) hsl
 have hok:=BG hT hs.ok h
 have fin:uM P g a o r->o.wp P a g.w next Q:=λ hk=>hk next Q λ v g' hx hv=>by
  refine hn _ _ ⟨St.ok_out hs.ok hok,⟨g',rfl,hx.inv,by rw[hx.bx,hbx];rfl,by rw[hx.τ,hτ];rfl,by rw[hx.tr.base,hbase],λ b o hb=>?_,λ t ht=>?_⟩,?_,?_,?_,?_,?_⟩
  ·rw[hx.tr.base] at hb
   rw[hx.tr.Fo b o hb]
   exact hF0 b o hb
  ·rw[yN]
   have hsz:=hs.size
   cases hd:o.dst with
   | none =>
    simp only[Act.put,reduceCtorEq,if_false]
    exact (hsl t ht).tr hx.tr
   | some d =>
    simp only[Option.some.injEq,Act.put]
    by_cases e:d=t
    ·subst e
     rw[if_pos rfl]
     have:(a.tmps.setIfInBounds d v).getD d undef=v:=by simp[hsz,ht]
     rw[this]
     exact hv
    ·rw[if_neg e]
     have:(a.tmps.setIfInBounds d v).getD t undef=a.tmps.getD t undef:=by simp[e]
     rw[this]
     exact (hsl t ht).tr hx.tr
  ·have hb:=hx.below
   rw[hbase] at hb
   exact hs.below.trans hb
  ·exact hs.G
  ·cases hd:o.dst<;>simp[Act.put,hs.size]
  ·cases hd:o.dst<;>simp[Act.put,hs.defers]
  ·exact LM hs.fix
 have hGw:G g.w:=hS w0 g.w hs.below hs.G
 have hcont:∀T ad k off,o.op=.load T ad->ev st N ad=.bx k off->eD st N o.op=g.st.bx k:=λ T ad k off e1 e2=>by
  rw[e1,hbx]
  simp only[eD,e2]
 have hcont2:∀T ad x k off,o.op=.store T ad x->ev st N ad=.bx k off->eD st N o.op=g.st.bx k:=λ T ad x k off e1 e2=>by
  rw[e1,hbx]
  simp only[eD,e2]
 have calm:(∃c,jO tb (ev st N) (eD st N o.op) (gF o) o.op=some (c,r)/\c/\rK st r)->o.wp P a g.w next Q:=λ ⟨c,h1,h2,h3⟩ =>
  fin (JL hT hI hρ hcont h1 h2 (by rw[hbx];exact λ k x e=>(h3.1 k x e).1) (by rw[hτ];exact h3.2)).step
 have h':=h
 unfold uN at h
 split at h
 ·obtain⟨c,h1,h2⟩:=h
  exact fin (FP hT hI hρ hcont2 h1 h2)
 ·rename_i cl hop
  split at h
  ·rename_i hcl
   obtain⟨c,h1,h2⟩:=h
   rw[<-hτ] at h1
   exact fin (UV hT hI hρ hop hcl h1 h2)
  ·rename_i fo hcl
   obtain⟨f,x,y,avs,k1,k2,kR,k4,k5⟩:=h
   obtain⟨callee,xs,ts⟩:=cl
   simp only at hcl k4
   subst hcl
   rcases kR with ⟨res,k3,rfl⟩|⟨sz,e,d,k3,rfl⟩
   ·exact fin (OG hI hGw hρ hop k1 k2.1 k2.2 k3 (by rw[hbx];exact k4) (by rw[hτ];exact k5))
   ·exact fin (JC hI hGw hρ hop k1 k2.1 k2.2 k3 (by rw[hbx];exact k4) (by rw[hτ];exact k5))
  ·exact calm h
 ·exact calm h
theorem uJ(hT:jE P tb)(hS:iU G){st:St}{a:Act}{w:World}(hs:Sat G F0 w0 N st a w){i:Nat}{o:Oper}(hi:ops[i]? = some o){r:Out}(h:kO P G tb N ops o st r){K:Act->World->Prop}{Q:Exit->Act->World->Prop}(hn:∀a' w',Sat G F0 w0 N (st.out o r) a' w'->K a' w'):wpOp P ops Q i K a w:=by
 unfold wpOp
 rw[hi]
 simp only
 unfold kO at h
 cases hg:o.guard with
 | none =>
  rw[hg] at h
  have hw:Region.wanted o (yielded ops a.tmps)=true:=by unfold Region.wanted;rw[hg]
  rw[if_pos hw]
  exact .inl (W4 hT hS hs h hn)
 | some q =>
  obtain⟨j,want⟩:=q
  rw[hg] at h
  obtain⟨d,b,h1,h2,h3⟩:=h
  obtain⟨g,rfl,hI,hbx,hτ,hbase,hF0,hsl⟩:=hs.gh
  have hrd:=K7 (N:=N) hsl (.tmp d)
  rw[h2] at hrd
  have hd:a.tmps.getD d undef=.bool b:=by simpa[RepV,Act.eval] using hrd
  have hdn:d<a.tmps.size:=by
   apply Nat.lt_of_not_le
   intro hle
   have:a.tmps.getD d undef=undef:=by simp[Array.getD,Nat.not_lt.2 hle]
   rw[this] at hd
   cases hd
  have hy:yielded ops a.tmps j=some b:=by
   unfold yielded
   rw[h1]
   have:a.tmps[d]? = some (.bool b):=by
    rw[<-hd]
    simp[Array.getD,hdn]
   simp[this]
  have hw:Region.wanted o (yielded ops a.tmps)=(some b == some want):=by unfold Region.wanted;rw[hg];simp only[hy]
  rcases h3 with ⟨rfl,h3⟩|⟨h3,rfl⟩
  ·rw[if_pos (by rw[hw];simp)]
   exact .inl (W4 hT hS hs h3 hn)
  ·rw[if_neg (by rw[hw];simpa using h3)]
   refine hn _ _ ⟨St.ok_out hs.ok ⟨trivial,λ k T d e=>by cases e⟩,⟨g,rfl,hI,hbx,hτ,hbase,hF0,λ t ht=>?_⟩,hs.below,hs.G,by cases hd:o.dst<;>simp[Act.put,hs.size],by cases hd:o.dst<;>simp[Act.put,hs.defers],LM hs.fix⟩
   rw[yN]
   have hsz:=hs.size
   cases hd:o.dst with
   | none =>
    simp only[Act.put,reduceCtorEq,if_false]
    exact hsl t ht
   | some d =>
    simp only[Option.some.injEq,Act.put]
    by_cases e:d=t
    ·subst e
     rw[if_pos rfl]
     have:(a.tmps.setIfInBounds d undef).getD d undef=undef:=by simp[hsz,ht]
     rw[this]
     rfl
    ·rw[if_neg e]
     have:(a.tmps.setIfInBounds d undef).getD t undef=a.tmps.getD t undef:=by simp[e]
     rw[this]
     exact hsl t ht
theorem KO(hT:jE P tb)(hS:iU G){st':St}{Q:Exit->Act->World->Prop}(hQ:∀a w,Sat G F0 w0 N st' a w->Q .normal a w):∀ {l:List Nat} {st:St} {a:Act} {w:World},Run P G tb N ops l st st'->Sat G F0 w0 N st a w->wpOps P ops Q l a w
 | [],st,a,w,h,hs=>by
  cases h
  exact hQ a w hs
 | i :: l,st,a,w,⟨o,r,h1,h2,h3⟩,hs=>by
  rw[wpOps_cons]
  exact uJ hT hS hs h1 h2 λ a' w' hs'=>KO hT hS hQ h3 hs'
/-! ### In any order -/
theorem C0(hT:jE P tb){st':St}{i:Nat}{oi:Oper}(hi:ops[i]? = some oi):∀ {pre post:List Nat} {st:St},st.ok->(∀j∈pre,∀oj,ops[j]? = some oj->I9 ops oj oi=true)->Run P G tb N ops (pre++i :: post) st st' ->
  ∃r,kO P G tb N ops oi st r/\Run P G tb N ops (pre++post) (st.out oi r) st'
 | [],post,st,_,_,⟨o,r,h1,h2,h3⟩=>by
  rw[hi] at h1
  cases h1
  exact⟨r,h2,h3⟩
 | j :: pre,post,st,hs,hind,⟨oj,rj,h1,h2,h3⟩=>by
  obtain⟨r,h4,h5⟩:=C0 hT hi (St.ok_out hs (UB hT hs h2)) (λ k hk=>hind k (by simp[hk])) h3
  obtain⟨h6,h7,h8⟩:=swap hs (hind j (by simp) oj h1) h2 h4
  refine⟨r,h6,oj,rj,h1,h7,?_⟩
  rw[<-h8]
  exact h5
def tP(ops:Array Oper):Bool :=
 let M:=Region.before ops
 (List.range ops.size).all λ i=>match ops[i]? with
  | some o=>(o.after.all λ e=>!Region.binds .any e || decide (e.on<i)) && (List.range i).all λ j =>
    if (M.getD i 0).testBit j then o.after.toList.any λ e=>Region.binds .any e && (e.on == j || (decide (j<e.on) && (M.getD e.on 0).testBit j))
    else match ops[j]? with
     | some oj=>I9 ops oj o
     | none=>false
  | none=>false
structure OrdOk (ops:Array Oper) (M:Array Nat):Prop where
 on:∀i o,ops[i]? = some o->∀e∈o.after,Region.binds .any e=true->e.on<i
 bit:∀i o j,ops[i]? = some o->j<i->(M.getD i 0).testBit j=true->∃e∈o.after,Region.binds .any e=true/\(e.on=j∨j<e.on/\(M.getD e.on 0).testBit j=true)
 ind:∀i o j oj,ops[i]? = some o->j<i->ops[j]? = some oj->(M.getD i 0).testBit j=false->I9 ops oj o=true
theorem uC(h:tP ops=true):OrdOk ops (Region.before ops):=by
 unfold tP at h
 simp only[List.all_eq_true,List.mem_range] at h
 have key:∀i o,ops[i]? = some o->_:=λ i o hi=>by
  have hlt:i<ops.size:=(Array.getElem?_eq_some_iff.1 hi).1
  have:=h i hlt
  rw[hi] at this
  exact this
 refine⟨fun i o hi e he hb=>?_,λ i o j hi hj hbit=>?_,λ i o j oj hi hj hoj hbit=>?_⟩
 ·have:=key i o hi
  simp only[Bool.and_eq_true,Array.all_eq_true_iff_forall_mem] at this
  have:=this.1 e he
  simpa[hb] using this
 ·have:=key i o hi
  simp only[Bool.and_eq_true,List.all_eq_true,List.mem_range] at this
  have:=this.2 j hj
  rw[if_pos hbit] at this
  simp only[List.any_eq_true,Bool.and_eq_true,Bool.or_eq_true,beq_iff_eq,decide_eq_true_eq] at this
  obtain⟨e,he,h1,h2⟩:=this
  exact⟨e,by simpa using he,h1,h2⟩
 ·have:=key i o hi
  simp only[Bool.and_eq_true,List.all_eq_true,List.mem_range] at this
  have:=this.2 j hj
  rw[if_neg (by rw[hbit];simp),hoj] at this
  exact this
theorem L5{M:Array Nat}(hO:OrdOk ops M){D:Nat->Prop}(hD:∀i o,D i->ops[i]? = some o->∀e∈o.after,Region.binds .any e=true->D e.on):∀(i:Nat) (o:Oper) (j:Nat),ops[i]? = some o->(∀e∈o.after,Region.binds .any e=true->D e.on)->j<i->(M.getD i 0).testBit j=true->D j:=by
 intro i
 induction i using Nat.strongRecOn with
 | _ i ih =>
  intro o j hi hpre hj hbit
  obtain⟨e,he,hb,h⟩:=hO.bit i o j hi hj hbit
  have hon:=hO.on i o hi e he hb
  rcases h with rfl|⟨hje,h⟩
  ·exact hpre e he hb
  ·have hDe:=hpre e he hb
   have hlt:i<ops.size:=(Array.getElem?_eq_some_iff.1 hi).1
   have hoe:ops[e.on]? = some ops[e.on]:=by simp
   exact ih e.on hon _ j hoe (hD e.on _ hDe hoe) hje h
def left(ops:Array Oper)(listed:Array Bool):List Nat:=(List.range ops.size).filter λ i=>!listed.getD i true
theorem mem_left{listed:Array Bool}{i:Nat}:i∈left ops listed↔i<ops.size/\listed.getD i true=false:=by
 unfold left
 simp[List.mem_filter]
theorem J9{l:Array Bool}{i k:Nat}(hi:i<l.size):(l.setIfInBounds i true).getD k true=if k=i then true else l.getD k true:=by
 by_cases h:k=i
 ·subst h;simp[hi]
 ·simp[Array.getD_eq_getD_getElem?,Array.getElem?_setIfInBounds_ne (Ne.symm h),h]
theorem uA{listed:Array Bool}{i:Nat}(h:i∈Region.ready .any ops listed):i∈left ops listed/\∀o,ops[i]? = some o->∀e∈o.after,Region.binds .any e=true->listed.getD e.on false=true:=by
 unfold Region.ready at h
 simp only[List.mem_filter,List.mem_range,Bool.and_eq_true,Bool.not_eq_true'] at h
 obtain⟨h1,h2,h3⟩:=h
 refine⟨mem_left.2 ⟨h1,h2⟩,λ o ho e he hb=>?_⟩
 rw[ho] at h3
 simp only[Option.map_some,Option.getD_some,Array.all_eq_true_iff_forall_mem] at h3
 have:=h3 e he
 simpa[hb] using this
theorem CJ{listed:Array Bool}{i:Nat}(h:i∈left ops listed)(h2:∀o,ops[i]? = some o->∀e∈o.after,Region.binds .any e=true->listed.getD e.on false=true):i∈Region.ready .any ops listed:=by
 obtain⟨h1,h3⟩:=mem_left.1 h
 unfold Region.ready
 simp only[List.mem_filter,List.mem_range,Bool.and_eq_true,Bool.not_eq_true']
 refine⟨h1,h3,?_⟩
 have ho:ops[i]? = some ops[i]:=by simp[h1]
 rw[ho]
 simp only[Option.map_some,Option.getD_some,Array.all_eq_true_iff_forall_mem]
 intro e he
 by_cases hb:Region.binds .any e=true
 ·simp[h2 _ ho e he hb]
 ·simp[hb]
theorem DK{listed:Array Bool}{i:Nat}(hi:i<listed.size):left ops (listed.setIfInBounds i true)=(left ops listed).filter λ k=>decide (k≠i):=by
 unfold left
 rw[List.filter_filter]
 apply List.filter_congr
 intro k _
 rw[J9 hi]
 by_cases h:k=i<;>simp[h]
theorem xS(listed:Array Bool):(left ops listed).Pairwise (· < ·):=List.Pairwise.filter _ List.pairwise_lt_range
theorem pE{l:Array Bool}{i:Nat}(h:i<l.size):l.getD i true=l.getD i false:=by simp[Array.getD,h]
theorem KQ(hT:jE P tb)(hS:iU G)(hO:OrdOk ops (Region.before ops)){st':St}{Q:Exit->Act->World->Prop}(hQ:∀a w,Sat G F0 w0 N st' a w->Q .normal a w) :
  ∀(fuel:Nat) (listed:Array Bool) {st:St} {a:Act} {w:World},listed.size=ops.size->(left ops listed).length<=fuel ->
   (∀i o,listed.getD i true=true->ops[i]? = some o->∀e∈o.after,Region.binds .any e=true->listed.getD e.on true=true) ->
   Run P G tb N ops (left ops listed) st st'->Sat G F0 w0 N st a w->wpAny P .any ops Q fuel listed a w:=by
 intro fuel
 induction fuel with
 | zero =>
  intro listed st a w _ hlen _ hrun hs
  have hl:left ops listed=[]:=List.eq_nil_of_length_eq_zero (Nat.le_zero.1 hlen)
  rw[hl] at hrun
  cases hrun
  refine⟨List.eq_nil_iff_forall_not_mem.2 λ i hi=>?_,hQ a w hs⟩
  have:=(uA hi).1
  rw[hl] at this
  cases this
 | succ fuel ih =>
  intro listed st a w hsz hlen hcl hrun hs
  refine⟨fun hr=>?_,λ i hi=>?_⟩
  ·have hl:left ops listed=[]:=by
    refine List.eq_nil_iff_forall_not_mem.2 λ i=>?_
    induction i using Nat.strongRecOn with
    | _ i ih =>
     intro hi
     have:i∈Region.ready .any ops listed:=CJ hi λ o ho e he hb=>by
      have hon:=hO.on i o ho e he hb
      have hi2:=(mem_left.1 hi).1
      have hnot:=ih e.on hon
      rw[<-pE (by omega)]
      cases hg:listed.getD e.on true with
      | true=>rfl
      | false=>exact absurd (mem_left.2 ⟨by omega,hg⟩) hnot
     rw[hr] at this
     cases this
   rw[hl] at hrun
   cases hrun
   exact hQ a w hs
  ·obtain⟨hil,hpre⟩:=uA hi
   have hisz:=(mem_left.1 hil).1
   have hoi:ops[i]? = some ops[i]:=by simp[hisz]
   obtain⟨pre,post,hpp⟩:=List.append_of_mem hil
   have hsorted:=xS (ops:=ops) listed
   rw[hpp] at hsorted
   have hlt:∀j∈pre,j<i:=λ j hj=>(List.pairwise_append.1 hsorted).2.2 j hj i (by simp)
   have hgt:∀j∈post,i<j:=λ j hj=>(List.pairwise_cons.1 (List.pairwise_append.1 hsorted).2.1).1 j hj
   have hind:∀j∈pre,∀oj,ops[j]? = some oj->I9 ops oj ops[i]=true:=λ j hj oj hoj=>by
    have hjl:j∈left ops listed:=by rw[hpp];simp[hj]
    have hjn:=(mem_left.1 hjl).2
    cases hb:((Region.before ops).getD i 0).testBit j with
    | false=>exact hO.ind i _ j oj hoi (hlt j hj) hoj hb
    | true =>
     have:=L5 hO (D:=λ k=>listed.getD k true=true) hcl i ops[i] j hoi (λ e he hbd=>by
      have hon:=hO.on i _ hoi e he hbd
      rw[pE (by omega)]
      exact hpre _ hoi e he hbd) (hlt j hj) hb
     skip
     rw[this] at hjn
     cases hjn
   rw[hpp] at hrun
   obtain⟨r,hd,hrun'⟩:=C0 hT hoi hs.ok hind hrun
   have hleft:left ops (listed.setIfInBounds i true)=pre++post:=by
    rw[DK (by omega),hpp]
    rw[List.filter_append,List.filter_cons_of_neg (by simp)]
    congr 1
    ·exact List.filter_eq_self.2 λ j hj=>by have:=hlt j hj;simp;omega
    ·exact List.filter_eq_self.2 λ j hj=>by have:=hgt j hj;simp;omega
   refine uJ hT hS hs hoi hd λ a' w' hs'=>ih _ (by simp[hsz]) ?_ ?_ (by rw[hleft];exact hrun') hs'
   ·rw[hleft]
    rw[hpp] at hlen
    simp at hlen ⊢
    omega
   ·intro k o hk ho e he hb
    have hks:k<ops.size:=(Array.getElem?_eq_some_iff.1 ho).1
    have hon:=hO.on k o ho e he hb
    rw[J9 (by omega)] at hk ⊢
    split
    ·rfl
    ·by_cases hki:k=i
     ·subst hki
      rw[pE (by omega)]
      exact hpre o ho e he hb
     ·rw[if_neg hki] at hk
      exact hcl k o hk ho e he hb
theorem DN:left ops (Array.replicate ops.size false)=List.range ops.size:=by
 unfold left
 refine List.filter_eq_self.2 λ i hi=>?_
 have:=List.mem_range.1 hi
 simp[this]
theorem N6(hT:jE P tb)(hS:iU G)(hm:P.follows .mixedOrders=true){id:Nat}{draw:Bool}{st st':St}{a:Act}{w:World}{Q:Exit->Act->World->Prop}(hQ:∀a w,Sat G F0 w0 N st' a w->Q .normal a w)
  (hO:draw=true->tP ops=true) (hr:Run P G tb N ops (List.range ops.size) st st') (hs:Sat G F0 w0 N st a w):(Code.region id ops draw).wp P Q a w:=by
 cases draw with
 | false=>exact wp_region (KO hT hS hQ hr hs)
 | true =>
  refine wp_region_any hm (KQ hT hS (uC (hO rfl)) hQ ops.size _ (by simp) (by rw[DN];simp) ?_ (by rw[DN];exact hr) ?_)
  ·intro i o hi ho
   have hlt:i<ops.size:=(Array.getElem?_eq_some_iff.1 ho).1
   simp[hlt] at hi
  ·obtain⟨g,rfl,hI,hbx,hτ,hbase,hF0,hsl⟩:=hs.gh
   refine⟨hs.ok,⟨{ g with w:={ g.w with drawn:=g.w.drawn+1 } },rfl,?_,hbx,hτ,hbase,hF0,?_⟩,hs.below.drew,hs.G,hs.size,hs.defers,hs.fix⟩
   ·have ht:Tr g { g with w:={ g.w with drawn:=g.w.drawn+1 } }:=⟨fun _ _ _ _ h=>h,Nat.le_refl _,rfl,λ _ _=>rfl,λ _ _ _=>rfl,λ k hk=>⟨hk,rfl⟩,λ k ver hv=>.inl ⟨hv,λ j b hb=>⟨hb,rfl,λ _ h=>h⟩⟩⟩
    exact⟨hI.F,hI.base,λ k T d e=>⟨(hI.box k T d e).1,(hI.box k T d e).2.1,(hI.box k T d e).2.2.imp λ xs h=>⟨h.1,h.2.tr ht⟩⟩,hI.inj,hI.fpb,hI.fpd⟩
   ·have ht:Tr g { g with w:={ g.w with drawn:=g.w.drawn+1 } }:=⟨fun _ _ _ _ h=>h,Nat.le_refl _,rfl,λ _ _=>rfl,λ _ _ _=>rfl,λ k hk=>⟨hk,rfl⟩,λ k ver hv=>.inl ⟨hv,λ j b hb=>⟨hb,rfl,λ _ h=>h⟩⟩⟩
    exact λ t ht'=>(hsl t ht').tr ht
end
section
def Dc.own(τ:Nat->Option Nat):Dc->Prop
 | .nil=>True
 | .lit _ r=>r.own τ
 | .nilr _ _ r=>r.own τ
 | .row k _ _ _ r=>k.isSome=true/\r.own τ
 | .seg k _ r=>k.isSome=true/\r.own τ
 | .blk k ver _ _ x r=>τ k=some ver/\x.own τ/\r.own τ
def Dc.toks:Dc->List Tk
 | .nil=>[]
 | .lit _ r=>r.toks
 | .nilr _ _ r=>r.toks
 | .row k _ _ _ r=>k.toList++r.toks
 | .seg k _ r=>k.toList++r.toks
 | .blk k _ _ _ x r=>(k,0) :: (x.toks++r.toks)
theorem uT{g:Gh}(hI:Inv g){T1 T2:List Tk}{S1 S2:List Nat}(h1:S1.Nodup)(h2:S2.Nodup)(hS1:∀b∈S1,∃t∈T1,g.st.τ t.1≠none/\b∈g.fp t)(hS2:∀b∈S2,∃t∈T2,g.st.τ t.1≠none/\b∈g.fp t)(hT:(T1++T2).Nodup):(S1++S2).Nodup :=
 List.nodup_append.2 ⟨h1,h2,λ a ha b hb e=>by
  subst e
  obtain⟨t,ht,k1,k2⟩:=hS1 a ha
  obtain⟨t',ht',k3,k4⟩:=hS2 a hb
  have:=hI.fpd t t' a k1 k3 k2 k4
  exact (List.nodup_append.1 hT).2.2 t ht t' ht' this⟩
theorem Z8{g:Gh}(hI:Inv g){d:Dc}:∀ {xs:List Value},RepC g d xs->d.own g.st.τ->d.toks.Nodup->∃S,Own g.w g.base d.ds xs S/\S.Nodup/\∀b∈S,∃t∈d.toks,g.st.τ t.1≠none/\b∈g.fp t:=by
 induction d with
 | nil=>rintro xs rfl _ _;exact⟨[],⟨rfl,rfl⟩,by simp,λ b hb=>by cases hb⟩
 | lit v r ih =>
  rintro xs ⟨-,ys,rfl,h⟩ ho hn
  obtain⟨S,h1,h2,h3⟩:=ih h ho hn
  exact⟨S,⟨ys,rfl,h1⟩,h2,h3⟩
 | nilr sz e r ih =>
  rintro xs ⟨ys,rfl,h⟩ ho hn
  obtain⟨S,h1,h2,h3⟩:=ih h ho hn
  exact⟨S,⟨_,ys,[],[],[],[],[],S,rfl,.inl ⟨none,rfl,rfl,rfl,rfl⟩,⟨rfl,rfl⟩,⟨rfl,rfl⟩,h1,rfl⟩,h2,h3⟩
 | row k sz e x r ih =>
  rintro xs ⟨-,v,ys,rfl,-,how,h⟩ ho hn
  cases k with
  | none=>cases ho.1
  | some k =>
   obtain⟨S,h1,h2,h3⟩:=ih h ho.2 (List.nodup_append.1 hn).2.1
   obtain⟨k0,S0,k1,k2,k3⟩:=how k rfl
   have hS0:∀b∈S0,∃t∈[k],g.st.τ t.1≠none/\b∈g.fp t:=λ b hb=>⟨k,by simp,by rw[k0];simp,k3 b hb⟩
   refine⟨S0++S,Own.app h1 k1,uT hI k2 h2 hS0 h3 hn,λ b hb=>?_⟩
   rcases List.mem_append.1 hb with hb|hb
   ·obtain⟨t,ht,h⟩:=hS0 b hb
    exact⟨t,List.mem_append_left _ ht,h⟩
   ·obtain⟨t,ht,h⟩:=h3 b hb
    exact⟨t,List.mem_append_right _ ht,h⟩
 | seg k d r ih =>
  rintro xs ⟨-,ys,zs,rfl,-,how,h⟩ ho hn
  cases k with
  | none=>cases ho.1
  | some k =>
   obtain⟨S,h1,h2,h3⟩:=ih h ho.2 (List.nodup_append.1 hn).2.1
   obtain⟨k0,S0,k1,k2,k3⟩:=how k rfl
   have hS0:∀b∈S0,∃t∈[k],g.st.τ t.1≠none/\b∈g.fp t:=λ b hb=>⟨k,by simp,by rw[k0];simp,k3 b hb⟩
   refine⟨S0++S,Own.app h1 k1,uT hI k2 h2 hS0 h3 hn,λ b hb=>?_⟩
   rcases List.mem_append.1 hb with hb|hb
   ·obtain⟨t,ht,h⟩:=hS0 b hb
    exact⟨t,List.mem_append_left _ ht,h⟩
   ·obtain⟨t,ht,h⟩:=h3 b hb
    exact⟨t,List.mem_append_right _ ht,h⟩
 | blk k ver sz e x r ihx ih =>
  rintro xs ⟨-,-,v,ys,rfl,-,⟨cur,c1,-,c3⟩,h⟩ ho hn
  obtain⟨o1,o2,o3⟩:=ho
  rw[o1] at c1
  cases c1
  obtain⟨n,zs,r1,r2,r3⟩:=c3 rfl
  have hn':([((k,0):Tk)]++(x.toks++r.toks)).Nodup:=hn
  have hnx:=List.nodup_append.1 (List.nodup_append.1 hn').2.1
  obtain⟨S,h1,h2,h3⟩:=ih h o3 hnx.2.1
  obtain⟨S0,k1,k2,k3⟩:=ihx r2 o2 hnx.1
  have hB:∀b∈v.ownBlock.toList,∃t∈[((k,0):Tk)],g.st.τ t.1≠none/\b∈g.fp t:=λ b hb=>⟨(k,0),by simp,by show g.st.τ k≠none;rw[o1];simp,(r3 b (by simpa using hb)).1⟩
  have hnB:v.ownBlock.toList.Nodup:=by cases v.ownBlock<;>simp
  have h4:=uT hI hnB k2 hB k3 (List.nodup_append.2 ⟨by simp,hnx.1,λ a ha b hb=>(List.nodup_append.1 hn').2.2 a ha b (List.mem_append_left _ hb)⟩)
  have hBx:∀b∈v.ownBlock.toList++S0,∃t∈((k,0):Tk) :: x.toks,g.st.τ t.1≠none/\b∈g.fp t:=λ b hb=>by
   rcases List.mem_append.1 hb with hb|hb
   ·obtain⟨t,ht,h⟩:=hB b hb
    exact⟨t,by simp at ht;simp[ht],h⟩
   ·obtain⟨t,ht,h⟩:=k3 b hb
    exact⟨t,List.mem_cons_of_mem _ ht,h⟩
  refine⟨v.ownBlock.toList++(S0++([]++S)),⟨v,ys,zs,[],v.ownBlock.toList,S0,[],S,rfl,?_,k1,⟨rfl,rfl⟩,h1,rfl⟩,?_,λ b hb=>?_⟩
  ·rw[List.append_nil,<-k1.len,r1.1]
   exact RowO.of r1
  ·have:=uT hI h4 h2 hBx h3 (by simpa[Dc.toks] using hn)
   simpa using this
  ·rw[List.nil_append,<-List.append_assoc] at hb
   rcases List.mem_append.1 hb with hb|hb
   ·obtain⟨t,ht,h⟩:=hBx b hb
    exact⟨t,by show t∈(k,0) :: (x.toks++r.toks);rw[<-List.cons_append];exact List.mem_append_left _ ht,h⟩
   ·obtain⟨t,ht,h⟩:=h3 b hb
    exact⟨t,by show t∈(k,0) :: (x.toks++r.toks);rw[<-List.cons_append];exact List.mem_append_right _ ht,h⟩
@[simp] def Dc.emp (τ':Nat->Option Nat):Dc->Prop
 | .nil=>True
 | .seg k x r=>x=.nil/\r=.nil/\∀j,k=some j->τ' j.1=some 0
 | _=>False
theorem Dc.emp_rep{g:Gh}{x:Dc}(h:x.emp g.st.τ):x.ds=.nil/\RepC g x []:=by
 cases x with
 | nil=>exact⟨rfl,rfl⟩
 | seg k x r =>
  obtain⟨rfl,rfl,h⟩:=h
  exact⟨rfl,trivial,[],[],rfl,rfl,λ j e=>⟨h j e,[],⟨rfl,rfl⟩,by simp,λ b hb=>by cases hb⟩,rfl⟩
 | _=>exact h.elim
@[simp] def Dc.isNil:Dc->Bool
 | .nil=>true
 | _=>false
def Dc.imp(τ:Nat->Option Nat)(φ:Tk->List Tk)(τ':Nat->Option Nat):Dc->Dc->Prop
 | .nil,d=>d=.nil
 | .lit v r,d=>match d with
  | .lit v0 r0=>v0=v/\Dc.imp τ φ τ' r r0
  | _=>False
 | .nilr _ _ r,d=>match d with
  | .nilr _ _ r0=>Dc.imp τ φ τ' r r0
  | _=>False
 | .row none sz _ x r,d=>match d with
  | .nilr _ _ r0=>x=.nil/\Dc.imp τ φ τ' r r0
  | .row _ sz0 _ x0 r0=>(sz0=sz/\x0=x)/\Dc.imp τ φ τ' r r0
  | .blk _ _ sz0 _ x0 r0=>(sz0=sz/\x0.ds=x)/\Dc.imp τ φ τ' r r0
  | .seg none (.row sz0 _ x0 _ .nil) r0=>(sz0=sz/\x0=x)/\Dc.imp τ φ τ' r r0
  | _=>False
 | .row (some k) sz e x r,d=>τ' k.1=some 0/\match d with
  | .nilr _ _ r0=>x=.nil/\Dc.imp τ φ τ' r r0
  | .row (some k0) sz0 e0 x0 r0=>(sz0=sz/\e0=e/\x0=x/\k0∈φ k)/\Dc.imp τ φ τ' r r0
  | .blk k0 ver sz0 e0 x0 r0=>(sz0=sz/\e0=e/\x0.ds=x/\τ k0=some ver/\x0.own τ/\((k0,0) :: x0.toks).Nodup/\∀t∈(k0,0) :: x0.toks,t∈φ k)/\Dc.imp τ φ τ' r r0
  | _=>False
 | .seg none x r,d=>if r.isNil then d.ds=x else match d with
  | .seg none x0 r0=>x0=x/\Dc.imp τ φ τ' r r0
  | _=>False
 | .seg (some k) x r,d=>r=.nil/\d.ds=x/\τ' k.1=some 0/\d.own τ/\d.toks.Nodup/\∀t∈d.toks,t∈φ k
 | .blk k ver sz e x r,d=>(τ' k=some ver/\ver≠0)/\match d with
  | .nilr _ _ r0=>x.emp τ'/\Dc.imp τ φ τ' r r0
  | .blk k0 ver0 sz0 e0 x0 r0=>(sz0=sz/\e0=e/\τ k0=some ver0/\(k0,0)∈φ (k,0)/\Dc.imp τ φ τ' x x0)/\Dc.imp τ φ τ' r r0
  | _=>False
structure Weak (g g':Gh) (φ:Tk->List Tk):Prop where
 F:∀b o v,g.F b o=some v->g'.F b o=some v
 w:g'.w=g.w
 base:g'.base=g.base
 fp:∀k b,(∃t∈φ k,g.st.τ t.1≠none/\b∈g.fp t)->b∈g'.fp k
def Dc.still:Dc->Bool
 | .blk _ _ _ _ _ _=>false
 | .nil=>true
 | .lit _ r=>r.still
 | .nilr _ _ r=>r.still
 | .row _ _ _ _ r=>r.still
 | .seg _ _ r=>r.still
theorem Rd.to{g g':Gh}{φ:Tk->List Tk}(hw:Weak g g' φ){v:Value}{sz:Nat}{x:Ds}(h:Rd g.F g.w.heap.size v sz x .nil):Rd g'.F g'.w.heap.size v sz x .nil:=by
 rw[hw.w]
 exact h.mono (λ b o v _ hv=>hw.F b o v hv) (Nat.le_refl _)
theorem RepC.imp{g g':Gh}{φ:Tk->List Tk}(hI:Inv g)(hw:Weak g g' φ){d':Dc}(hn:d'.still=true∨∀b o,g.F b o=none->g'.F b o=none):∀ {d:Dc} {xs:List Value},Dc.imp g.st.τ φ g'.st.τ d' d->RepC g d xs->RepC g' d' xs:=by
 induction d' with
 | nil=>intro d xs h hd;subst h;exact hd
 | lit v r ih =>
  intro d xs h hd
  cases d<;>simp only[Dc.imp] at h
  obtain⟨h0,ys,rfl,hd⟩:=hd
  obtain⟨rfl,h⟩:=h
  exact⟨h0,ys,rfl,ih hn h hd⟩
 | nilr sz e r ih =>
  intro d xs h hd
  cases d<;>simp only[Dc.imp] at h
  obtain⟨ys,rfl,hd⟩:=hd
  exact⟨ys,rfl,ih hn h hd⟩
 | row k sz e x r ih =>
  intro d xs h hd
  cases k with
  | none =>
   cases d with
   | nil=>exact h.elim
   | lit _ _=>exact h.elim
   | nilr _ _ _ =>
    obtain⟨rfl,h⟩:=h
    obtain⟨ys,rfl,hd⟩:=hd
    exact⟨trivial,_,ys,rfl,Rd.none_ _ _ _,(λ _ e=>by cases e),ih hn h hd⟩
   | row _ _ _ _ _ =>
    obtain⟨⟨rfl,rfl⟩,h⟩:=h
    obtain⟨h0,v,ys,rfl,h1,-,hd⟩:=hd
    exact⟨h0,v,ys,rfl,h1.to hw,(λ _ e=>by cases e),ih hn h hd⟩
   | blk _ _ _ _ _ _ =>
    obtain⟨⟨rfl,rfl⟩,h⟩:=h
    obtain⟨h0,-,v,ys,rfl,h1,-,hd⟩:=hd
    exact⟨h0,v,ys,rfl,h1.to hw,(λ _ e=>by cases e),ih hn h hd⟩
   | seg k0 d0 r0 =>
    cases k0 with
    | some _=>exact h.elim
    | none =>
     cases d0 with
     | row sz0 e0 x0 s0 t0 =>
      cases t0 with
      | nil =>
       obtain⟨⟨rfl,rfl⟩,h⟩:=h
       obtain⟨h0,ys,zs,rfl,⟨v,us,rfl,h1,e9⟩,-,hd⟩:=hd
       cases e9
       exact⟨h0.1,v,zs,rfl,h1.noRoom.to hw,(λ _ e=>by cases e),ih hn h hd⟩
      | _=>exact h.elim
     | _=>exact h.elim
  | some k =>
   obtain⟨hτ,h⟩:=h
   cases d with
   | nilr sz0 e0 r0 =>
    obtain⟨rfl,h⟩:=h
    obtain⟨ys,rfl,hd⟩:=hd
    refine⟨trivial,_,ys,rfl,Rd.none_ _ _ _,λ j e=>?_,ih hn h hd⟩
    cases e
    exact⟨hτ,[],⟨_,[],[],[],[],[],[],[],rfl,.inl ⟨none,rfl,rfl,rfl,rfl⟩,⟨rfl,rfl⟩,⟨rfl,rfl⟩,⟨rfl,rfl⟩,rfl⟩,by simp,λ b hb=>by cases hb⟩
   | row k0 sz0 e0 x0 r0 =>
    cases k0 with
    | none=>exact h.elim
    | some k0 =>
     obtain⟨⟨rfl,rfl,rfl,hk⟩,h⟩:=h
     obtain⟨h0,v,ys,rfl,h1,how,hd⟩:=hd
     obtain⟨q1,S,q2,q3,q4⟩:=how k0 rfl
     refine⟨h0,v,ys,rfl,h1.to hw,λ j e=>?_,ih hn h hd⟩
     cases e
     exact⟨hτ,S,by rw[hw.w,hw.base];exact q2,q3,λ b hb=>hw.fp k b ⟨k0,hk,by rw[q1];simp,q4 b hb⟩⟩
   | blk k0 ver sz0 e0 x0 r0 =>
    obtain⟨⟨rfl,rfl,rfl,hc,hown,hnd,hk⟩,h⟩:=h
    obtain⟨h0,h9,v,ys,rfl,h1,h2,hd⟩:=hd
    refine⟨h0,v,ys,rfl,h1.to hw,λ j e=>?_,ih hn h hd⟩
    cases e
    obtain⟨S,q1,q2,q3⟩:=Z8 hI (d:=.blk k0 ver sz0 e0 x0 .nil) (xs:=[v]) ⟨h0,h9,v,[],rfl,h1,h2,rfl⟩ ⟨hc,hown,trivial⟩ (by simpa[Dc.toks] using hnd)
    refine⟨hτ,S,by rw[hw.w,hw.base];exact q1,q2,λ b hb=>?_⟩
    obtain⟨t,ht,q⟩:=q3 b hb
    exact hw.fp k b ⟨t,hk t (by simpa[Dc.toks] using ht),q⟩
   | nil=>exact h.elim
   | lit _ _=>exact h.elim
   | seg _ _ _=>exact h.elim
 | seg k x r ih =>
  intro d xs h hd
  have hvs:Vs g'.F g'.w.heap.size d.ds xs:=by
   rw[hw.w]
   exact hd.vs.mono (λ b o v _ hv=>hw.F b o v hv) (Nat.le_refl _)
  cases k with
  | none =>
   simp only[Dc.imp] at h
   split at h
   ·rename_i h9
    subst h
    cases r<;>simp at h9
    exact⟨hd.good,xs,[],by simp,hvs,(λ _ e=>by cases e),rfl⟩
   ·split at h
    ·obtain⟨rfl,h⟩:=h
     obtain⟨h0,ys,zs,rfl,h1,-,hd⟩:=hd
     exact⟨h0,ys,zs,rfl,by rw[hw.w];exact h1.mono (λ b o v _ hv=>hw.F b o v hv) (Nat.le_refl _),(λ _ e=>by cases e),ih hn h hd⟩
    ·exact h.elim
  | some k =>
   obtain⟨rfl,rfl,hτ,hown,hnd,hk⟩:=h
   obtain⟨S,q1,q2,q3⟩:=Z8 hI hd hown hnd
   refine⟨hd.good,xs,[],by simp,hvs,λ j e=>?_,rfl⟩
   cases e
   refine⟨hτ,S,by rw[hw.w,hw.base];exact q1,q2,λ b hb=>?_⟩
   obtain⟨t,ht,q⟩:=q3 b hb
   exact hw.fp k b ⟨t,hk t ht,q⟩
 | blk k ver sz e x r ihx ih =>
  intro d xs h hd
  obtain⟨⟨hτ,hv0⟩,h⟩:=h
  have hn':∀b o,g.F b o=none->g'.F b o=none:=hn.resolve_left (by simp[Dc.still])
  cases d with
  | nilr sz0 e0 r0 =>
   obtain⟨hemp,h⟩:=h
   obtain⟨ys,rfl,hd⟩:=hd
   obtain⟨e9,hrep⟩:=Dc.emp_rep hemp
   exact⟨by rw[e9];trivial,hv0,_,ys,rfl,by rw[e9];exact Rd.none_ _ _ _,⟨ver,hτ,Nat.le_refl _,λ _=>⟨0,[],World.ownsRow_nil _ _ _ _,hrep,λ b hb=>by cases hb⟩⟩,ih (.inr hn') h hd⟩
  | blk k0 ver0 sz0 e0 x0 r0 =>
   obtain⟨⟨rfl,rfl,hc,hk,hx⟩,h⟩:=h
   obtain⟨h0,h9,v,ys,rfl,h1,⟨cur,c1,-,c3⟩,hd⟩:=hd
   rw[hc] at c1
   cases c1
   obtain⟨n,zs,r1,r2,r3⟩:=c3 rfl
   have hx':=ihx (.inr hn') hx r2
   refine⟨hx'.good,hv0,v,ys,rfl,?_,⟨ver,hτ,Nat.le_refl _,λ _=>⟨n,zs,by rw[hw.w,hw.base];exact r1,hx',λ b hb=>⟨hw.fp (k,0) b ⟨_,hk,by rw[hc];simp,(r3 b hb).1⟩,λ o ho=>hn' b o ((r3 b hb).2 o ho)⟩⟩⟩,ih (.inr hn') h hd⟩
   have hlen:x.ds.len=x0.ds.len:=by rw[Dc.ds_len,Dc.ds_len,<-hx'.len,<-r2.len]
   obtain⟨p,m,c,e1,k1,k2,k3,k4,k5⟩:=h1
   refine⟨p,m,c,e1,by rw[hlen];exact k1,k2,k3,by rw[hlen];exact k4,?_⟩
   rcases k5 with k5|⟨k5,k6,k7⟩|⟨b,o,rfl,hb,hat,-⟩
   ·exact .inl k5
   ·exact .inr (.inl ⟨k5,rfl,k7⟩)
   ·refine .inr (.inr ⟨b,o,rfl,by rw[hw.w];exact hb,?_,trivial⟩)
    subst e1
    rcases r1.2 with ⟨e2,-⟩|⟨g0,cap,cur,e2,-,e3,-,-,-,e4⟩
    ·cases e2
    ·cases e2
     refine hx'.vs.at_ λ j u hu=>?_
     obtain⟨ys',w1,w2⟩:=At.vsx hat
     have hj:j<ys'.length:=by rw[w1.len,Dc.ds_len,<-r2.len];exact (List.getElem?_eq_some_iff.1 hu).1
     have h5:=w2 j ys'[j] (by simp[hj])
     have h6:=hI.F _ _ _ h5
     have h7:=iK e3 (by rw[r1.1];exact e4) j u hu
     rw[h6] at h7
     cases h7
     exact hw.F _ _ _ h5
  | nil=>exact h.elim
  | lit _ _=>exact h.elim
  | seg _ _ _=>exact h.elim
  | row _ _ _ _ _=>exact h.elim
def AV.imp(bx:Nat->Option (Nat×Dc))(τ:Nat->Option Nat)(φ:Tk->List Tk)(τ':Nat->Option Nat):AV->AV->Prop
 | .junk,_=>True
 | .v x,a=>a=.v x
 | .c d,a=>match a with
  | .c d0=>Dc.imp τ φ τ' d d0
  | .v x=>x=.slice none 0 0/\Dc.imp τ φ τ' d (.nilr 0 0 .nil)
  | _=>False
 | .agg d,a=>match a with
  | .agg d0=>Dc.imp τ φ τ' d d0
  | _=>False
 | .bx k o,a=>a=.bx k o/\bx k≠none
 | .el x,a=>a=.el x
 | .nil,a=>a=.nil
 | .cons x r,a=>match a with
  | .cons y s=>AV.imp bx τ φ τ' x y/\AV.imp bx τ φ τ' r s
  | _=>False
 | .tup l,a=>match a with
  | .tup m=>AV.imp bx τ φ τ' l m
  | _=>False
 | .fn f x y,a=>match a with
  | .fn f' x' y'=>f'=f/\AV.imp bx τ φ τ' x x'/\AV.imp bx τ φ τ' y y'
  | _=>False
 | .ev b o x,a=>a=.ev b o x
def AV.still:AV->Bool
 | .c d=>d.still
 | .agg d=>d.still
 | .cons a r=>a.still && r.still
 | .tup l=>l.still
 | .fn _ a b=>a.still && b.still
 | _=>true
def AV.flat:AV->Bool
 | .el _=>false
 | .bx _ _=>false
 | .cons a r=>a.flat && r.flat
 | .tup l=>l.flat
 | .fn _ a b=>a.flat && b.flat
 | .ev _ _ _=>false
 | _=>true
theorem RepV.imp{g g':Gh}{φ:Tk->List Tk}(hI:Inv g)(hw:Weak g g' φ){b:AV}:∀ {a:AV} {xs:List Value},(b.still=true∨∀b o,g.F b o=none->g'.F b o=none)->(b.flat=true∨g'.B=g.B)->AV.imp g'.st.bx g.st.τ φ g'.st.τ b a->RepV g a xs->RepV g' b xs:=by
 induction b with
 | junk=>intros;trivial
 | v x=>intro a xs _ _ h ha;subst h;exact ha
 | c d =>
  intro a xs hn _ h ha
  cases a<;>simp only[AV.imp] at h
  ·obtain⟨rfl,h⟩:=h
   have e:xs=[.slice none 0 0]:=ha
   subst e
   exact RepC.imp hI hw hn h ⟨[],rfl,rfl⟩
  ·exact RepC.imp hI hw hn h ha
 | agg d =>
  intro a xs hn _ h ha
  cases a<;>simp only[AV.imp] at h
  obtain⟨ys,rfl,ha⟩:=ha
  exact⟨ys,rfl,RepC.imp hI hw hn h ha⟩
 | bx k o =>
  intro a xs _ hf h ha
  obtain⟨rfl,h⟩:=h
  exact⟨by rw[hf.resolve_left (by simp[AV.flat])];exact ha.1,h⟩
 | el x =>
  intro a xs _ hf h ha
  subst h
  obtain⟨h0,b,o,ys,rfl,hb,h1,h2⟩:=ha
  refine⟨h0,b,o,ys,rfl,by rw[hw.w];exact hb,by rw[hw.w];exact h1.mono (λ b o v _ hv=>hw.F b o v hv) (Nat.le_refl _),λ j u hu=>?_⟩
  have h3:=h2 j u hu
  unfold Gh.Fs at h3 ⊢
  rw[hw.base,hw.w]
  split
  ·rename_i hl;rw[if_pos hl] at h3;exact h3
  ·rename_i hl;rw[if_neg hl] at h3;exact hw.F _ _ _ h3
 | nil=>intro a xs _ _ h ha;subst h;exact ha
 | cons x r ihx ihr =>
  intro a xs hn hf h ha
  cases a<;>simp only[AV.imp] at h
  obtain⟨y,ys,rfl,h1,h2⟩:=ha
  simp only[AV.still,AV.flat,Bool.and_eq_true] at hn hf
  exact⟨y,ys,rfl,ihx (hn.imp And.left id) (hf.imp And.left id) h.1 h1,ihr (hn.imp And.right id) (hf.imp And.right id) h.2 h2⟩
 | tup l ih =>
  intro a xs hn hf h ha
  cases a<;>simp only[AV.imp] at h
  obtain⟨ys,rfl,ha⟩:=ha
  exact⟨ys,rfl,ih hn hf h ha⟩
 | fn f x y ihx ihy =>
  intro a xs hn hf h ha
  cases a<;>simp only[AV.imp] at h
  obtain⟨ys,zs,rfl,h1,h2⟩:=ha
  obtain⟨rfl,h3,h4⟩:=h
  simp only[AV.still,AV.flat,Bool.and_eq_true] at hn hf
  exact⟨ys,zs,rfl,ihx (hn.imp And.left id) (hf.imp And.left id) h3 h1,ihy (hn.imp And.right id) (hf.imp And.right id) h4 h2⟩
 | ev b o x =>
  intro a xs _ hf h ha
  subst h
  obtain⟨rfl,h0,hb,ys,h1,h2⟩:=ha
  refine⟨rfl,h0,by rw[hw.w];exact hb,ys,by rw[hw.w];exact h1.mono (λ b o v _ hv=>hw.F b o v hv) (Nat.le_refl _),λ j u hu=>?_⟩
  have h3:=h2 j u hu
  unfold Gh.Fs at h3 ⊢
  rw[hw.base,hw.w]
  split
  ·rename_i hl;rw[if_pos hl] at h3;exact h3
  ·rename_i hl;rw[if_neg hl] at h3;exact hw.F _ _ _ h3
variable {P:Program} {G:World->Prop} {tb:TB} {N:Nat} {F0:Mem} {w0:World}
def Le(G:World->Prop)(N:Nat)(s s':St):Prop:=∀F0 w0 a w,Sat G F0 w0 N s a w->Sat G F0 w0 N s' a w
def pG(l:List (Nat×AV)):Nat->AV:=λ t=>match l.find? (λ p=>p.1 == t) with
 | some p=>p.2
 | none=>.junk
def JD(l:List (Nat×Nat×Dc)):Nat->Option (Nat×Dc):=λ t=>match l.find? (λ p=>p.1 == t) with
 | some p=>some p.2
 | none=>none
def τOf(l:List (Nat×Nat)):Nat->Option Nat:=λ t=>match l.find? (λ p=>p.1 == t) with
 | some p=>some p.2
 | none=>none
def bV(l:List (Nat×AV))(b:List (Nat×Nat×Dc))(t:List (Nat×Nat)):St:=⟨pG l,JD b,τOf t,λ _=>none⟩
def φOf(q:List (Tk×List Tk)):Tk->List Tk:=λ t=>match q.find? (λ p=>p.1 == t) with
 | some p=>p.2
 | none=>[]
theorem kM{α β:Type}[BEq α][LawfulBEq α]{l:List (α×β)}{k:α}{p:α×β}(h:l.find? (λ p=>p.1 == k)=some p):p∈l/\p.1=k:=⟨List.mem_of_find?_eq_some h,by simpa using List.find?_some h⟩
theorem E7{α β:Type}:∀ {q:List (α×List β)},(q.flatMap (·.2)).Nodup->∀ {p p':α×List β} {u:β},p∈q->p'∈q->u∈p.2->u∈p'.2->p=p'
 | [],_,_,_,_,h,_,_,_=>by cases h
 | r :: q,hn,p,p',u,h1,h2,h3,h4=>by
  rw[List.flatMap_cons] at hn
  obtain⟨-,n2,n3⟩:=List.nodup_append.1 hn
  rcases List.mem_cons.1 h1 with e1|m1<;>rcases List.mem_cons.1 h2 with e2|m2
  ·rw[e1,e2]
  ·rw[e1] at h3
   exact absurd rfl (n3 u h3 u (List.mem_flatMap.2 ⟨p',m2,h4⟩))
  ·rw[e2] at h4
   exact absurd rfl (n3 u h4 u (List.mem_flatMap.2 ⟨p,m1,h3⟩))
  ·exact E7 n2 m1 m2 h3 h4
theorem φ_disj{q:List (Tk×List Tk)}(hq:(q.flatMap (·.2)).Nodup){k k' u:Tk}(h1:u∈φOf q k)(h2:u∈φOf q k'):k=k':=by
 unfold φOf at h1 h2
 split at h1
 ·rename_i p hp
  split at h2
  ·rename_i p' hp'
   obtain⟨m1,e1⟩:=kM hp
   obtain⟨m2,e2⟩:=kM hp'
   rw[<-e1,<-e2,E7 hq m1 m2 h1 h2]
  ·cases h2
 ·cases h1
def IW(g:Gh)(φ:Tk->List Tk)(k:Tk):List Nat:=(φ k).flatMap λ u=>if g.st.τ u.1≠none then g.fp u else []
theorem mem_fpOf{g:Gh}{φ:Tk->List Tk}{k:Tk}{x:Nat}:x∈IW g φ k↔∃u∈φ k,g.st.τ u.1≠none/\x∈g.fp u:=by
 constructor
 ·intro hx
  obtain⟨u,hu,hx⟩:=List.mem_flatMap.1 hx
  split at hx
  ·rename_i h;exact⟨u,hu,h,hx⟩
  ·cases hx
 ·rintro⟨u,hu,h1,h2⟩
  exact List.mem_flatMap.2 ⟨u,hu,by rw[if_pos h1];exact h2⟩
theorem aK{s:St}{l:List (Nat×AV)}{b:List (Nat×Nat×Dc)}{t:List (Nat×Nat)}(q:List (Tk×List Tk))
  (hl:∀p∈l,AV.imp (JD b) s.τ (φOf q) (τOf t) p.2 (s.env p.1)/\p.2.ok (JD b) (τOf t)) (hb:∀p∈b,match s.bx p.1 with
   | some (T,d)=>T=p.2.1/\Dc.imp s.τ (φOf q) (τOf t) p.2.2 d/\p.2.2.ok (τOf t)
   | none=>False)
  (hq:(q.flatMap (·.2)).Nodup):Le G N s (bV l b t):=by
 intro F0 w0 a w hs
 obtain⟨g,rfl,hI,hbx,hτ,hbase,hF0,hsl⟩:=hs.gh
 let g':Gh:={ g with st:=bV l b t,fp:=λ k=>(φOf q k).flatMap λ u=>if s.τ u.1≠none then g.fp u else [] }
 have hmem:∀k x,x∈g'.fp k->∃u∈φOf q k,s.τ u.1≠none/\x∈g.fp u:=λ k x hx=>by
  obtain⟨u,hu,hx⟩:=List.mem_flatMap.1 hx
  split at hx
  ·rename_i h;exact⟨u,hu,h,hx⟩
  ·cases hx
 have hw:Weak g g' (φOf q):=⟨fun _ _ _ h=>h,rfl,rfl,λ k x ⟨u,hu,h1,h2⟩=>List.mem_flatMap.2 ⟨u,hu,by rw[if_pos (by rw[<-hτ];exact h1)];exact h2⟩⟩
 have hbm:∀k T d,JD b k=some (T,d)->(k,T,d)∈b:=λ k T d h=>by
  unfold JD at h
  split at h
  ·rename_i p hp
   obtain⟨h1,h2⟩:=kM hp
   obtain⟨p1,p2,p3⟩:=p
   cases h
   simp only at h2
   subst h2
   exact h1
  ·cases h
 have hbn:∀k,JD b k≠none->g.st.bx k≠none:=λ k hk=>by
  obtain⟨⟨T,d⟩,e⟩:=Option.ne_none_iff_exists'.1 hk
  have:=hb _ (hbm k T d e)
  simp only at this
  rw[hbx]
  intro h
  rw[h] at this
  exact this
 have hdis:∀k k' u,u∈φOf q k->u∈φOf q k'->k=k':=λ k k' u h1 h2=>φ_disj hq h1 h2
 have himp:∀p∈l,AV.imp g'.st.bx g.st.τ (φOf q) g'.st.τ p.2 (s.env p.1):=λ p hp=>by rw[hτ];exact (hl p hp).1
 refine⟨⟨fun n=>?_,λ k T d e=>?_⟩,⟨g',rfl,⟨hI.F,hI.base,λ k T d e=>?_,λ k k' h1 h2=>hI.inj k k' (hbn k h1) (hbn k' h2),λ k j x hk hx=>?_,λ k k' x _ _ h1 h2=>?_⟩,rfl,rfl,hbase,hF0,λ n hn=>?_⟩,hs.below,hs.G,hs.size,hs.defers,λ t x e=>by cases e⟩
 ·show (pG l n).ok _ _
  unfold pG
  split
  ·rename_i p hp
   exact (hl p (kM hp).1).2
  ·trivial
 ·have:=hb _ (hbm k T d e)
  simp only at this
  split at this
  ·exact this.2.2
  ·exact this.elim
 ·have h1:=hb _ (hbm k T d e)
  simp only at h1
  split at h1
  ·rename_i T' d' hk
   obtain⟨rfl,h2,-⟩:=h1
   obtain⟨k1,k2,xs,k3,k4⟩:=hI.box k T' d' (by rw[hbx];exact hk)
   exact⟨k1,k2,xs,k3,RepC.imp hI hw (.inr λ _ _ h=>h) (by rw[hτ];exact h2) k4⟩
  ·exact h1.elim
 ·obtain⟨u,hu,h1,h2⟩:=hmem _ _ hx
  obtain⟨h3,h4,h5⟩:=hI.fpb u.1 u.2 x (by rw[hτ];exact h1) h2
  exact⟨h3,h4,λ i hi=>h5 i (hbn i hi)⟩
 ·obtain⟨u,hu,h3,h4⟩:=hmem _ _ h1
  obtain⟨u',hu',h5,h6⟩:=hmem _ _ h2
  have:=hI.fpd u u' x (by rw[hτ];exact h3) (by rw[hτ];exact h5) h4 h6
  subst this
  exact hdis k k' u hu hu'
 ·show RepV g' (pG l n) _
  unfold pG
  split
  ·rename_i p hp
   obtain⟨m1,e1⟩:=kM hp
   have:=himp p m1
   rw[e1] at this
   exact RepV.imp hI hw (.inr λ _ _ h=>h) (.inr rfl) this (hsl n hn)
  ·trivial
end
end Go.Proofs.YtlfnfiihfjggoaaGreatDoor
