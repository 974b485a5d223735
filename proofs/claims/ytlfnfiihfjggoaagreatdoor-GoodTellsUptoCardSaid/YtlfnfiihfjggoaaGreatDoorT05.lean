/-
  Lists of levels that lie apart, written over, grown, looked at: they are found apart, and what follows. Conditions: as each lemma states them.
-/
import Derived.Test.YtlfnfiihfjggoaaGreatDoorT04
import Derived.Test.YtlfnfiihfjggoaaGreatDoorT01
import Derived.Test.YtlfnfiihfjggoaaGreatDoorProg
import Derived.WalkKit
set_option linter.all false
set_option linter.unusedVariables false
set_option linter.unusedSimpArgs false
set_option linter.unnecessarySimpa false
set_option maxHeartbeats 8000000
set_option maxRecDepth 100000
namespace Go.Proofs.YtlfnfiihfjggoaaGreatDoor
open Go.RowKit Go.Proofs.Tryz
section
def KL:Kd:={ e:=30,sz:=1,em:=68,cel:=λ w M xs=>∃pb c,xs=[.slice (some ⟨pb,0,none⟩) 1 c]/\1<=c/\c<=maxLen/\∃cur,w.heap[pb]? = some (Obj.cells cur 68 (0,0))/\cur[0]? = some (.int .i64 0)/\cur[1]? = some (.int .i64 M)/\cur.size=c*2 }
theorem KL_ok:KL.Ok:=⟨by decide,by decide,λ _ _ _ h=>by obtain⟨pb,c,rfl,-⟩:=h;rfl,λ _ _ _ h u hu=>by obtain⟨pb,c,rfl,-⟩:=h;simp at hu;subst hu;rfl,λ _ _ _ _ hk h=>by
 obtain⟨pb,c,e,h1,h2,cur,h3,h4⟩:=h
 exact⟨pb,c,e,h1,h2,cur,hk _ _ _ h3,h4⟩⟩
theorem KL_sty:Sty prog KL 24:=by
 refine⟨underlying24,?_⟩
 have h:=IS
 cases hi:prog.info? 30 with
 | none=>rw[hi] at h;cases h
 | some i =>
  rw[hi] at h
  simp only[Option.map_some,Option.some.injEq,Prod.mk.injEq] at h
  exact⟨i,_,hi,h.1,h.2.1,rfl,by omega⟩
def KLS:Kd:={ e:=24,sz:=1,em:=0,cel:=λ _ _ _=>False }
theorem info24:(prog.info? 24).map (λ i=>(i.zero,i.size,i.bytes))=some (some (.slice none 0 0),1,24):=by kernel_rfl
theorem KLS_sty:Sty prog KLS 132:=by
 refine⟨underlying132,?_⟩
 have h:=info24
 cases hi:prog.info? 24 with
 | none=>rw[hi] at h;cases h
 | some i =>
  rw[hi] at h
  simp only[Option.map_some,Option.some.injEq,Prod.mk.injEq] at h
  exact⟨i,_,hi,h.1,h.2.1,rfl,by omega⟩
theorem KL_mark:BU prog KL 193:=λ k i w hk hi=>(oG k i w hk hi).mono λ _ _ h=>by
 obtain⟨xs,S,rfl,hb,ho,-⟩:=h
 obtain⟨v,ys,zs,us,B,S1,S2,S3,rfl,h1,h2,h3,⟨rfl,-⟩,-⟩:=ho
 obtain⟨rfl,-⟩:=h3
 obtain⟨_,rfl,_,rfl,rfl,-⟩:=h2
 rcases h1 with ⟨p,-,h4,-⟩|⟨g,n,cap,cur,-,rfl,-,h5,h6,h7,h8,h9,h10,h11,h12⟩
 ·cases h4
 ·have h9:2=n*2:=h9
  obtain rfl:n=1:=by omega
  have h11:2<=cap*2:=h11
  have h12:cur.toList.take 2=[.int .i64 0,.int .i64 (jG k i)]:=h12
  refine⟨_,rfl,⟨g,cap,rfl,h6,h7,cur,h5,?_,?_,h8⟩,hb⟩
  ·have:=congrArg (λ l:List Value=>l[0]?) h12
   simpa using this
  ·have:=congrArg (λ l:List Value=>l[1]?) h12
   simp at this
   exact this
theorem KL_same:JP prog KL 164:=λ M w xs ys hx hy=>by
 have rd:∀pb c cur,1<=c->c<=maxLen->w.heap[pb]? = some (Obj.cells cur 68 (0,0))->cur[0]? = some (.int .i64 0)->cur[1]? = some (.int .i64 M)->cur.size=c*2->RP w (.slice (some ⟨pb,0,none⟩) 1 c) [(0,M)]:=λ pb c cur h1 h2 h3 h4 h5 h6 =>
  ⟨_,1,c,rfl,rfl,h1,h2,by show 2+0<=c*2;omega,.inr (.inr ⟨pb,0,rfl,bC h3,⟨nJ (by simp[World.cell?,h3,h4]) (by simp[World.frozen?,h3]),nJ (by simp[World.cell?,h3,h5]) (by simp[World.frozen?,h3]),trivial⟩,trivial⟩)⟩
 obtain⟨pb,c,rfl,h1,h2,cur,h3,h4,h5,h6⟩:=hx
 obtain⟨qb,d,rfl,g1,g2,cur2,g3,g4,g5,g6⟩:=hy
 exact jK [(0,M)] _ _ _ _ _ _ w (rd pb c cur h1 h2 h3 h4 h5 h6) (rd qb d cur2 g1 g2 g3 g4 g5 g6)
theorem EF(vs:List Value)(L:Nat)(ql:Option Addr)(cl:Nat)(w:World)(hvs:vs.length<=1000000000)(hcl:vs.length<=cl)(hcm:cl<=maxLen)(hL:∀(k:Nat) (v:Value),vs[k]? = some v->ql=some ⟨L,0,none⟩/\vn v<=1000000000)
  (hC:¬InV vs L/\∀W,Tn KL.em (InV vs) w W->∀(k:Nat) (v:Value),vs[k]? = some v->U W L k=some v) (hR:RowsG KL 0 w vs (λ _=>0)) (hD:BV vs) :
  Calls prog 182 #[.slice ql vs.length cl] w λ e w'=>e=.returned (.bool true)/\Tn KL.em (InV vs) w w':=by
 obtain⟨m,hm⟩:∃m,vs.length=m:=⟨_,rfl⟩
 have HM:=hid hm
 have HC:=hid hC
 have HL:=hid hL
 have HMK:=hid KL_mark
 have HSM:=hid KL_same
 have HIN:Hid (∀b,InV vs b->b<w.heap.size):=λ b hb=>by obtain⟨-,cur,e⟩:=hR.typed hb;exact bC e
 rw[hm] at hvs hcl ⊢
 clear hm hC hL
 unfold maxLen at hcm
 go_enter func182,ntmps182
 go_wp2_with fail
 go_loopw [3] (λ i wr=>∃k:Nat,k<=m/\i=.int .i64 k/\RowsG KL 0 wr vs (dF vs k 0)/\Tn KL.em (InV vs) w wr) (λ i _=>m-(intOf i).toNat)
 case atStart=>exact⟨0,Nat.zero_le _,rfl,hR.cong λ k v _=>by simp[dF],Tn.refl _ _ _⟩
 case round =>
  obtain⟨k,hk,rfl,hRk,hTk⟩:=hrel
  clear hR
  by_cases hlt:k<m
  ·have r1:decide ((k:Int)<(m:Int))=true:=decide_eq_true (by omega)
   obtain⟨v,hv⟩:∃v,vs[k]? = some v:=⟨_,List.getElem?_eq_getElem (by have:=HM.out;omega)⟩
   obtain⟨p,n,c,rfl,hnc,hcc⟩:=(hRk k v hv).isSlice
   unfold maxLen at hcc
   obtain⟨rfl,hn⟩:=HL.out k _ hv
   replace hn:n<=1000000000:=hn
   have HV:=hid hv
   have HRK:=hid hRk
   have HTK:=hid hTk
   clear hv hRk hTk
   go_wp2_with fail
   go_loopw [4] (λ i wr=>∃j:Nat,i=.int .i64 j/\j<=n/\RowsG KL 0 wr vs (dF vs k j)/\Tn KL.em (InV vs) w wr) (λ i _=>n-(intOf i).toNat)
   case atStart=>exact⟨0,rfl,Nat.zero_le _,HRK.out,HTK.out⟩
   case round =>
    clear HRK HTK
    obtain⟨j,rfl,hj,hRj,hTj⟩:=hrel
    have hu:=HC.out.2 _ hTj k _ HV.out
    have hc:=aD hu
    by_cases hjn:j<n
    ·have r2:decide ((j:Int)<(n:Int))=true:=decide_eq_true (by omega)
     obtain⟨g,rfl,hc0⟩:=(hRj k _ HV.out).lies (by omega)
     have e1:∀n':GrownX (InV vs) wr,n'.it.cell? ⟨L,k,none⟩=some (.slice (some ⟨g,0,none⟩) n c):=GrownX.cell hu HC.out.1
     have HRJ:=hid hRj
     have HTJ:=hid hTj
     clear hu hRj hTj
     go_wp2_with fail
     clear hc
     refine iZ (InV vs) [0,1,2,3,4,5,6] (by decide) (by kernel_rfl) (by kernel_rfl) (by kernel_rfl) (by kernel_rfl) (λ _ _ d _ _ h=>by cases d<;>exact h) ?_
     simp only[List.map_cons,List.map_nil,List.getD_cons_zero,List.getD_cons_succ,bar,bH,List.size_toArray,List.length_cons,List.length_nil,Nat.zero_add,Nat.reduceAdd,if_true,if_false,Bool.false_eq_true]
     repeat (go_big_quiet_step (fail))
     refine wpQuiet_nil ?_
     clear e1
     refine aP (i:=7) (fuel:=2) (by kernel_rfl) rfl (by rfl) (λ K' hK=>?_)
     go_simp
     refine (HMK.out k j _ (by omega) (by omega)).mono ?_
     rintro e wx ⟨xs,rfl,hcel,hbx⟩
     have hAx:Below wr.heap.size wr wx:=aB (aZ wr) hbx
     refine hK.out _ _ ⟨⟨wx,λ b hb _=>hAx.block b hb⟩,rfl⟩ (λ _=>?_)
     clear hK K'
     have hRx:=HRJ.out.below KL_ok hAx
     obtain⟨hth,hR',hT'⟩:=RowsG.setF KL_ok hD hRx HV.out hjn hcel
     rw[show j*KL.sz=j from Nat.mul_one j] at hth hR' hT'
     refine aP (i:=8) (fuel:=1) (by kernel_rfl) rfl (by rfl) (λ K' hK=>?_)
     go_simp
     refine hK.out _ _ ⟨⟨wx,λ b hb _=>hAx.block b hb⟩,rfl⟩ (λ _=>?_)
     clear hK K'
     refine aP (i:=9) (fuel:=0) (by kernel_rfl) rfl (by rfl) (λ K' hK=>?_)
     refine wp_store_mid 30 _ _ rfl g (j) xs.toArray rfl rfl (by rw[List.size_toArray,KL_ok.len _ _ _ hcel];exact hth) (by rw[List.size_toArray,KL_ok.len _ _ _ hcel];exact KL_sty.size) (all_oneCell_toArray (KL_ok.one _ _ _ hcel)) ?_
     refine hK.out _ _ ⟨⟨wx.setCells g (j) xs,λ b hb hx=>(hT'.block b (Nat.lt_of_lt_of_le hb hAx.size) hx).trans (hAx.block b hb)⟩,rfl⟩ (λ _=>?_)
     clear hK K'
     refine wpAnyH_done (by kernel_rfl) ?_ _
     have HR':=hid hR'
     have HT':=hid (HTJ.out.trans ((Tn.of_below hAx).trans hT'))
     clear hth hR' hT' hRx hcel hAx hbx HRJ HTJ
     go_wp2_with fail
     go_roundw
     case rel=>exact⟨j+1,by go_num,by omega,HR'.out,HT'.out⟩
     case measure=>simp[intOf];omega
    ·have r2:decide ((j:Int)<(n:Int))=false:=decide_eq_false (by omega)
     obtain rfl:j=n:=by omega
     have HR':=hid (RowsG.dEnd HV.out hRj)
     have HT':=hid hTj
     clear hRj hTj hu
     go_wp2_with fail
     go_roundw
     case rel=>exact⟨k+1,by omega,by go_num,HR'.out,HT'.out⟩
     case measure=>simp[intOf];omega
  ·have r1:decide ((k:Int)<(m:Int))=false:=decide_eq_false (by omega)
   obtain rfl:k=m:=by omega
   have HF:=hid (RowsG.full HM.out hRk)
   have HT:=hid hTk
   clear hRk hTk
   obtain⟨arr,hmk,harr⟩:=KLS_sty.make k (by omega) wr
   have hmk':(Instr.makeSlice 132 (.int .i64 k) (.int .i64 k)).run prog wr=.ok (.slice (some ⟨wr.heap.size,0,none⟩) k k) (wr.alloc (.cells arr 24)):=hmk
   clear hmk
   go_wp2_with fail
   obtain⟨w1,hw1⟩:∃w1,wr.alloc (.cells arr 24)=w1:=⟨_,rfl⟩
   obtain⟨G,hG⟩:∃G,wr.heap.size=G:=⟨_,rfl⟩
   have HGW:Hid (w.heap.size<=G):=hid (by rw[<-hG];exact HT.out.size)
   have HB1:Below wr.heap.size wr w1:=by rw[<-hw1];exact aA _ _
   have HF1:=hid (HF.out.below KL_ok HB1)
   have HT1:=hid (HT.out.trans (Tn.of_below HB1))
   have HG1:Hid (Gsl KL 24 G w.heap.size w1 vs 64 64 0):=hid (by rw[<-hw1,<-hG];exact Gsl.new wr vs 64 64 (by rw[HM.out,harr];show k*1=k;omega))
   rw[hw1,hG]
   clear HF HT HB1 hw1 hmk' harr
   go_loopw [6] (λ i wr=>∃j:Nat,i=.int .i64 j/\j<=k/\Full KL 0 wr vs/\Gsl KL 24 G w.heap.size wr vs 64 64 j/\Tn KL.em (InV vs) w wr) (λ i _=>k-(intOf i).toNat)
   case atStart=>exact⟨0,rfl,Nat.zero_le _,HF1.out,HG1.out,HT1.out⟩
   case round =>
    clear HF1 HG1 HT1
    obtain⟨j,rfl,hj,hF,hGs,hT⟩:=hrel
    by_cases hlt:j<k
    ·have r1:decide ((j:Int)<(k:Int))=true:=decide_eq_true (by omega)
     obtain⟨v,hv⟩:∃v,vs[j]? = some v:=⟨_,List.getElem?_eq_getElem (by have:=HM.out;omega)⟩
     obtain⟨p,n,c,rfl,hnc,hcc⟩:=(hF j v hv).isSlice
     unfold maxLen at hcc
     obtain⟨rfl,hn⟩:=HL.out j _ hv
     replace hn:n<=1000000000:=hn
     have hc:=aD (HC.out.2 _ hT j _ hv)
     have HV:=hid hv
     have HF:=hid hF
     have HGS:=hid hGs
     have HT:=hid hT
     clear hv hF hGs hT
     go_wp2_with fail
     obtain⟨wk,hwk⟩:∃wk:World,wk=wr:=⟨_,rfl⟩
     subst hwk
     go_loopw [7,8] (λ g i wr=>∃t:Nat,i=.int .i64 t/\t<=64/\RowI KL 0 wr (.slice p n c) n j/\Cur KL wk.heap.size wr (.slice p n c) g t j/\Tn KL.em (λ b=>vb (.slice p n c)=some b) wk wr) (λ _ i _=>64-(intOf i).toNat)
     case atStart=>exact⟨0,rfl,by decide,HF.out j _ HV.out,.inl ⟨rfl,rfl⟩,Tn.refl _ _ _⟩
     case round =>
      obtain⟨t,rfl,ht,hRq,hCq,hTq⟩:=hrel
      have hTv:Tn KL.em (InV vs) w wr:=HT.out.trans (hTq.inV HV.out)
      have hcq:=aD (HC.out.2 _ hTv j _ HV.out)
      have HR:=hid hRq
      have HC1:=hid hCq
      have HTQ:=hid hTq
      have HTV:=hid hTv
      clear hRq hCq hTq hTv hc
      by_cases hlt64:t<64
      ·have r2:decide ((t:Int)<64)=true:=decide_eq_true (by omega)
       have HMJ:Hid (∀W,Calls prog 193 #[.int .i64 j,.int .i64 ((n:Int)+(t:Int))] W λ e w'=>∃xs,e=.returned (.agg xs.toArray)/\KL.cel w' (mk j (n+t)) xs/\Below W.heap.size W w'):=λ W=>by
        have:=HMK.out j (n+t) W (by omega) (by omega)
        rwa [Int.natCast_add] at this
       go_wp2_with fail
       refine (HMJ.out _).mono ?_
       rintro e wx ⟨xs,rfl,hcel,hbx⟩
       obtain⟨pb,pbc,hxs,-⟩:=id hcel
       obtain⟨wy,hwy⟩:∃wy,wx.alloc (.cells xs.toArray 30)=wy:=⟨_,rfl⟩
       have hby:Below wr.heap.size wr wy:=by rw[<-hwy];exact aB hbx (aA _ _)
       have hnc:∀(i:Nat) (u:Value),xs[i]? = some u->wy.cell? ((⟨wx.heap.size,0,none⟩:Addr).add i)=some u:=by rw[<-hwy];exact gK wx xs 30
       obtain⟨g',wz,hrun,hRz,hCz,hTz⟩:=Cur.grow KL_ok KL_sty 24 (HR.out.on KL_ok (Tn.of_below (X:=λ _=>False) hby) λ _ _ _ _=>id) (λ b hb=>Nat.lt_of_lt_of_le (HIN.out b ⟨_,List.mem_of_getElem? HV.out,hb⟩) HT.out.size) (Nat.le_trans HTQ.out.size hby.size)
        (HC1.out.on KL_ok (Tn.of_below (X:=λ _=>False) hby) λ _ _ _ _=>id) (c:=1) (by rw[<-hwy];exact KL_ok.below hcel (aA _ _)) hnc (by show n+t+1<=_;omega)
       have HRZ:=hid hRz
       have HCZ:=hid hCz
       have HTZ:=hid (HTQ.out.trans' ((Tn.of_below hby).trans hTz) λ b hb h=>by
        rcases h with h|h
        ·exact h
        ·omega)
       clear hRz hCz hTz hcel hbx hby hnc HR HC1 HTQ HMJ
       subst hwy hxs
       go_wp2_with (at_builtin;refine aR rfl _ _ 24 rfl _ _ _ rfl rfl hrun ?_)
       go_roundw
       case rel=>exact⟨t+1,by go_num,by omega,HRZ.out,HCZ.out,HTZ.out⟩
       case measure=>simp[intOf];omega
      ·have r2:decide ((t:Int)<64)=false:=decide_eq_false (by omega)
       obtain rfl:t=64:=by omega
       have hFq:=Full.one KL_ok hD HF.out HV.out HTQ.out HR.out
       have hGq:=Gsl.one KL_ok hD HGS.out HIN.out HGW.out HV.out HTQ.out
       obtain⟨u,hgc,hgf⟩:=hGq.cell (k:=j) (by have:=HM.out;omega)
       obtain⟨-,hG',hT'⟩:=hGq.put KL_ok (by decide) (by decide) HV.out ((HC1.out.ent (by decide)).less (Nat.le_refl _) HT.out.size)
       obtain⟨h,cap,cur,e,-⟩:=HC1.out.ent (by decide)
       subst e
       have HG':=hid hG'
       have HF':=hid (hFq.put KL_ok HIN.out HGW.out hT')
       have HT':=hid (HTV.out.trans' hT' λ b hb e=>by have:=HGW.out;omega)
       clear hFq hGq hG' hT' HR HC1 HTQ HTV HF HGS HT hcq
       go_wp2_with fail
       go_roundw
       case rel=>exact⟨j+1,by go_num,by omega,HF'.out,HG'.out,HT'.out⟩
       case measure=>simp[intOf];omega
    ·have r1:decide ((j:Int)<(k:Int))=false:=decide_eq_false (by omega)
     obtain rfl:j=k:=by omega
     have HF:=hid hF
     have HGS:=hid hGs
     have HT:=hid hT
     clear hF hGs hT
     go_wp2_with fail
     obtain⟨w3,hw3⟩:∃w3:World,w3=wr:=⟨_,rfl⟩
     subst hw3
     obtain⟨m,hm⟩:∃m:Nat,m=j:=⟨_,rfl⟩
     subst hm
     clear hlt
     go_loopw [9] (λ i wr=>∃j:Nat,i=.int .i64 j/\j<=m/\Below w3.heap.size w3 wr) (λ i _=>m-(intOf i).toNat)
     case atStart=>exact⟨0,rfl,Nat.zero_le _,Below.refl _ _⟩
     case round =>
      obtain⟨j,rfl,hj,hB⟩:=hrel
      by_cases hlt:j<m
      ·have r1:decide ((j:Int)<(m:Int))=true:=decide_eq_true (by omega)
       obtain⟨v,hv⟩:∃v,vs[j]? = some v:=⟨_,List.getElem?_eq_getElem (by have:=HM.out;omega)⟩
       obtain⟨p,n,c,rfl,hnc,hcc⟩:=(HF.out j v hv).isSlice
       unfold maxLen at hcc
       obtain⟨rfl,hn⟩:=HL.out j _ hv
       replace hn:n<=1000000000:=hn
       have HV:=hid hv
       have HB:=hid hB
       clear hv hB
       obtain⟨u,hgc,hgf,hE⟩:=HGS.out.get hlt HV.out
       obtain⟨h,cap,cur,rfl,-,-,hq1,hq2,-⟩:=id hE
       unfold maxLen at hq2
       replace hq1:n+64<=cap:=hq1
       have HU:Hid (U w3 G j=some (.slice (some ⟨h,0,none⟩) (n+64) cap)):=hid (nJ hgc hgf)
       have HE:=hid hE
       clear hgc hgf hE
       go_wp2_with fail
       go_loopw [10] (λ i wr=>∃t:Nat,i=.int .i64 t/\t<=n+64/\Below w3.heap.size w3 wr) (λ i _=>n+64-(intOf i).toNat)
       case atStart=>exact⟨0,rfl,Nat.zero_le _,HB.out⟩
       case round =>
        clear HB
        obtain⟨t,rfl,ht,hB⟩:=hrel
        have hug:=aE hB _ _ _ (aL HU.out) HU.out
        have hgc:=aD hug
        have hul:=HC.out.2 _ (HT.out.trans (Tn.of_below hB)) j _ HV.out
        have HB:=hid hB
        clear hB
        by_cases htn:t<n+64
        ·have r2:decide ((t:Int)<(n:Int)+64)=true:=decide_eq_true (by omega)
         have q1:(0:Int)<=(t:Int):=by omega
         have q2:(t:Int)<(n:Int)+64:=by omega
         obtain⟨xs,hcel,hrg⟩:=HE.out.getU (show t<vn (.slice p n c)+64 from htn)
         have HCEL:=hid hcel
         simp only[show KL.sz=1 from rfl,Nat.mul_one] at hrg
         have HRG:=hid hrg
         clear hcel hrg
         obtain⟨pb,pbc,hxs,-⟩:=id HCEL.out
         subst hxs
         have c0:∀n':GrownB wr.heap.size wr,n'.it.cell? ⟨h,t,none⟩=some (.slice (some ⟨pb,0,none⟩) 1 pbc):=GrownB.cell (aE HB.out _ _ _ (aL (HRG.out 0 _ rfl)) (HRG.out 0 _ rfl)) (Nat.lt_of_lt_of_le (aL (HRG.out 0 _ rfl)) HB.out.size)
         have hgB:=GrownB.cell hug (aL hug)
         have hlB:=GrownB.cell hul (aL hul)
         clear hug hul
         go_wp2_with fail
         refine cV wr.heap.size [0,1,2,3,4,5,6,7,8] (by decide) (by kernel_rfl) (by kernel_rfl) (by kernel_rfl) (by kernel_rfl) (λ _ _ d _ _ h=>by cases d<;>exact h) ?_
         simp only[List.map_cons,List.map_nil,List.getD_cons_zero,List.getD_cons_succ,bar,bH,List.size_toArray,List.length_cons,List.length_nil,Nat.zero_add,Nat.reduceAdd,if_true,if_false,Bool.false_eq_true]
         repeat (go_big_quiet_step (fail))
         refine wpQuiet_nil ?_
         refine aP (i:=9) (fuel:=25) (by kernel_rfl) rfl (by rfl) (λ K' hK=>?_)
         go_simp
         refine (HMK.out j t _ (by omega) (by omega)).mono ?_
         rintro e wx ⟨ys,rfl,hcy,hbx⟩
         have hAx:Below wr.heap.size wr wx:=aB (aZ wr) hbx
         refine hK.out _ _ ⟨⟨wx,hAx⟩,rfl⟩ (λ _=>?_)
         clear hK K'
         refine aP (i:=10) (fuel:=24) (by kernel_rfl) rfl (by rfl) (λ K' hK=>?_)
         go_simp
         refine (HSM.out _ wx _ _ (KL_ok.below HCEL.out (aB HB.out hAx)) hcy).mono ?_
         rintro e wy ⟨rfl,hby⟩
         have hAy:Below wr.heap.size wr wy:=aB hAx hby
         refine hK.out _ _ ⟨⟨wy,hAy⟩,rfl⟩ (λ _=>?_)
         clear hK K' hcy hbx hby hAx hgB c0
         by_cases htk:t<n
         ·have r3:decide ((t:Int)<(n:Int))=true:=decide_eq_true (by omega)
          have q3:(t:Int)<(n:Int):=by omega
          obtain⟨g,rfl,-⟩:=(HF.out j _ HV.out).lies (by omega)
          obtain⟨xs,hcel,hrg⟩:=(HF.out j _ HV.out).getU (show t<vn (.slice (some ⟨g,0,none⟩) n c) from htk)
          have HCEL2:=hid hcel
          simp only[show KL.sz=1 from rfl,Nat.mul_one] at hrg
          have HRG2:=hid hrg
          clear hcel hrg HCEL HRG
          obtain⟨pd,pdc,hxs,-⟩:=id HCEL2.out
          subst hxs
          have d0:∀n':GrownB wr.heap.size wr,n'.it.cell? ⟨g,t,none⟩=some (.slice (some ⟨pd,0,none⟩) 1 pdc):=GrownB.cell (aE HB.out _ _ _ (aL (HRG2.out 0 _ rfl)) (HRG2.out 0 _ rfl)) (Nat.lt_of_lt_of_le (aL (HRG2.out 0 _ rfl)) HB.out.size)
          refine bR (by kernel_rfl) (λ _ _ d _ _ h=>by cases d<;>exact h) ⟨⟨wy,hAy⟩,rfl⟩ 5 [11,12,13,14,15,16,17,18,19,20,21,22,23,24,25,26,27,28,29] _ _ (by kernel_rfl) (by kernel_rfl) ?_
          simp only[List.map_cons,List.map_nil,List.getD_cons_zero,List.getD_cons_succ,bar,bH,List.size_toArray,List.length_cons,List.length_nil,Nat.zero_add,Nat.reduceAdd,if_true,if_false,Bool.false_eq_true]
          repeat (go_big_quiet_step (fail))
          refine wpQuiet_nil ?_
          clear d0
          refine aP (i:=30) (fuel:=4) (by kernel_rfl) rfl (by rfl) (λ K' hK=>?_)
          go_simp
          refine (HMK.out j t _ (by omega) (by omega)).mono ?_
          rintro e wz ⟨ys,rfl,hcy,hbz⟩
          have hAz:Below wr.heap.size wr wz:=aB hAy hbz
          refine hK.out _ _ ⟨⟨wz,hAz⟩,rfl⟩ (λ _=>?_)
          clear hK K'
          refine aP (i:=31) (fuel:=3) (by kernel_rfl) rfl (by rfl) (λ K' hK=>?_)
          go_simp
          refine (HSM.out _ wz _ _ (KL_ok.below HCEL2.out (aB HB.out hAz)) hcy).mono ?_
          rintro e wv ⟨rfl,hbv⟩
          have hAv:Below wr.heap.size wr wv:=aB hAz hbv
          refine hK.out _ _ ⟨⟨wv,hAv⟩,rfl⟩ (λ _=>?_)
          clear hK K' hcy hbz hbv hAz
          refine bR (by kernel_rfl) (λ _ _ d _ _ h=>by cases d<;>exact h) ⟨⟨wv,hAv⟩,rfl⟩ 0 [32,33,34] _ _ (by kernel_rfl) (by kernel_rfl) ?_
          simp only[List.map_cons,List.map_nil,List.getD_cons_zero,List.getD_cons_succ,bar,bH,List.size_toArray,List.length_cons,List.length_nil,Nat.zero_add,Nat.reduceAdd,if_true,if_false,Bool.false_eq_true]
          repeat (go_big_quiet_step (fail))
          refine wpQuiet_nil ?_
          refine wpAnyH_done (by kernel_rfl) ?_ _
          have HAV:=hid hAv
          clear hAv hAy
          go_wp2_with fail
          go_roundw
          case rel=>exact⟨t+1,by go_num,by omega,aB HB.out HAV.out⟩
          case measure=>simp[intOf];omega
         ·have r3:decide ((t:Int)<(n:Int))=false:=decide_eq_false (by omega)
          refine bR (by kernel_rfl) (λ _ _ d _ _ h=>by cases d<;>exact h) ⟨⟨wy,hAy⟩,rfl⟩ 0 [11,12,13,14,15,16,17,18,19,20,21,22,23,24,25,26,27,28,29,30,31,32,33,34] _ _ (by kernel_rfl) (by kernel_rfl) ?_
          simp only[List.map_cons,List.map_nil,List.getD_cons_zero,List.getD_cons_succ,bar,bH,List.size_toArray,List.length_cons,List.length_nil,Nat.zero_add,Nat.reduceAdd,if_true,if_false,Bool.false_eq_true]
          repeat (go_big_quiet_step (fail))
          refine wpQuiet_nil ?_
          refine wpAnyH_done (by kernel_rfl) ?_ _
          have HAY:=hid hAy
          clear hAy
          go_wp2_with fail
          go_roundw
          case rel=>exact⟨t+1,by go_num,by omega,aB HB.out HAY.out⟩
          case measure=>simp[intOf];omega
        ·have r2:decide ((t:Int)<(n:Int)+64)=false:=decide_eq_false (by omega)
         clear hug hul
         go_wp2_with fail
         go_roundw
         case rel=>exact⟨j+1,by go_num,by omega,HB.out⟩
         case measure=>simp[intOf];omega
      ·have r1:decide ((j:Int)<(m:Int))=false:=decide_eq_false (by omega)
       obtain rfl:j=m:=by omega
       go_wp2_with fail
       obtain⟨w4,hw4⟩:∃w4:World,w4=wr:=⟨_,rfl⟩
       subst hw4
       obtain⟨m,hm⟩:∃m:Nat,m=j:=⟨_,rfl⟩
       subst hm
       have HF4:=hid (HF.out.below KL_ok hB)
       have HG4:=hid ((HGS.out.start (d':=0) (x':=64)).below KL_ok hB)
       have HT4:=hid (HT.out.trans (Tn.of_below hB))
       clear HF HGS HT hB hlt
       go_loopw [11] (λ i wr=>∃j:Nat,i=.int .i64 j/\j<=m/\Full KL 0 wr vs/\Gsl KL 24 G w.heap.size wr vs 0 64 j/\Tn KL.em (InV vs) w wr) (λ i _=>m-(intOf i).toNat)
       case atStart=>exact⟨0,rfl,Nat.zero_le _,HF4.out,HG4.out,HT4.out⟩
       case round =>
        clear HF4 HG4 HT4
        obtain⟨j,rfl,hj,hF,hGs,hT⟩:=hrel
        by_cases hlt:j<m
        ·have r1:decide ((j:Int)<(m:Int))=true:=decide_eq_true (by omega)
         obtain⟨v,hv⟩:∃v,vs[j]? = some v:=⟨_,List.getElem?_eq_getElem (by have:=HM.out;omega)⟩
         obtain⟨p,n,c,rfl,hnc,hcc⟩:=(hF j v hv).isSlice
         unfold maxLen at hcc
         obtain⟨rfl,hn⟩:=HL.out j _ hv
         replace hn:n<=1000000000:=hn
         have HV:=hid hv
         have HF:=hid hF
         have HGS:=hid hGs
         have HT:=hid hT
         clear hv hF hGs hT
         obtain⟨arr2,hmk2,harr2⟩:=KL_sty.make 64 (by decide) wr
         have hmk2':(Instr.makeSlice 24 (.int .i64 64) (.int .i64 64)).run prog wr=.ok (.slice (some ⟨wr.heap.size,0,none⟩) 64 64) (wr.alloc (.cells arr2 30)):=hmk2
         clear hmk2
         go_wp2_with fail
         obtain⟨wk,hwk⟩:∃wk:World,wk=wr:=⟨_,rfl⟩
         subst hwk
         obtain⟨w5,hw5⟩:∃w5,wk.alloc (.cells arr2 30)=w5:=⟨_,rfl⟩
         obtain⟨B,hBq⟩:∃B,wk.heap.size=B:=⟨_,rfl⟩
         have HB5:Hid (Below wk.heap.size wk w5):=hid (by rw[<-hw5];exact aA _ _)
         have HR5:Hid (RowI KL B w5 (.slice (some ⟨B,0,none⟩) 64 64) 0 (j+m)):=hid (by rw[<-hw5,<-hBq];exact RowI.new wk 64 (j+m) harr2 (by decide) (by decide))
         have HBq:=hid hBq
         rw[hw5,hBq]
         clear hw5 hmk2' harr2 hBq
         go_loopw [13] (λ i wr=>∃t:Nat,i=.int .i64 t/\t<=64/\RowI KL B wr (.slice (some ⟨B,0,none⟩) 64 64) t (j+m)/\Below wk.heap.size wk wr) (λ i _=>64-(intOf i).toNat)
         case atStart=>exact⟨0,rfl,by decide,HR5.out,HB5.out⟩
         case round =>
          clear HR5 HB5
          obtain⟨t,rfl,ht,hR5,hB⟩:=hrel
          have HR5:=hid hR5
          have HB:=hid hB
          clear hR5 hB
          by_cases hlt64:t<64
          ·have r2:decide ((t:Int)<64)=true:=decide_eq_true (by omega)
           have HMJ:Hid (∀W,Calls prog 193 #[.int .i64 ((j:Int)+(m:Int)),.int .i64 t] W λ e w'=>∃xs,e=.returned (.agg xs.toArray)/\KL.cel w' (mk (j+m) t) xs/\Below W.heap.size W w'):=λ W=>by
            have:=HMK.out (j+m) t W (by omega) (by omega)
            rwa [Int.natCast_add] at this
           go_wp2_with fail
           refine (HMJ.out _).mono ?_
           rintro e wx ⟨xs,rfl,hcel,hbx⟩
           have hRx:=HR5.out.on KL_ok (Tn.of_below (X:=λ _=>False) hbx) λ _ _ _ _=>id
           obtain⟨hth,hR',hT'⟩:=hRx.set KL_ok hlt64 hcel
           rw[show t*KL.sz=t from Nat.mul_one t] at hth hR' hT'
           have hth':wx.there B (t) xs.toArray.size:=by rw[List.size_toArray,KL_ok.len _ _ _ hcel];exact hth
           have hsz':(prog.info? 30).map (·.size)=some xs.toArray.size:=by rw[List.size_toArray,KL_ok.len _ _ _ hcel];exact KL_sty.size
           have hon':=all_oneCell_toArray (KL_ok.one _ _ _ hcel)
           have HR':=hid hR'
           have HB':Hid (Below wk.heap.size wk (wx.setCells B (t) xs)):=hid (oA HB.out hbx hT' HBq.out)
           clear hRx hth hR' hT' hcel hbx HR5 HB HMJ
           go_wp2_with (refine wpList_store_mid rfl 30 _ _ rfl B (t) xs.toArray rfl rfl hth' hsz' hon' ?_)
           go_roundw
           case rel=>exact⟨t+1,by go_num,by omega,HR'.out,HB'.out⟩
           case measure=>simp[intOf];omega
          ·have r2:decide ((t:Int)<64)=false:=decide_eq_false (by omega)
           obtain rfl:t=64:=by omega
           obtain⟨news,hl,hnews,hone⟩:=HR5.out.all KL_ok (by decide)
           have hc:=aD (HC.out.2 _ (HT.out.trans (Tn.of_below HB.out)) j _ HV.out)
           obtain⟨g',w6,hrun,hR6,hE6,hT6⟩:=((HF.out.below KL_ok HB.out) j _ HV.out).many KL_ok KL_sty 24 (c:=64) hl (by decide) hnews hone (by show n+64<=_;omega)
           have hF6:=Full.one KL_ok hD (HF.out.below KL_ok HB.out) HV.out hT6 hR6
           have hG6:=Gsl.one KL_ok hD (HGS.out.below KL_ok HB.out) HIN.out HGW.out HV.out hT6
           obtain⟨u,hgc,hgf⟩:=hG6.cell (k:=j) (by have:=HM.out;omega)
           obtain⟨-,hG',hT'⟩:=hG6.put KL_ok (by decide) (by decide) HV.out (hE6.less (Nat.le_refl _) (Nat.le_trans HT.out.size HB.out.size))
           obtain⟨h,cap,cur,e,-⟩:=hE6
           subst e
           have HG':=hid hG'
           have HF':=hid (hF6.put KL_ok HIN.out HGW.out hT')
           have HT':=hid ((((HT.out.trans (Tn.of_below HB.out)).trans (hT6.inV HV.out))).trans' hT' λ b hb e=>by have:=HGW.out;omega)
           clear hF6 hG6 hG' hT' hT6 hR6 HR5 HB HF HGS HT hl hnews hone
           go_wp2_with (at_builtin;refine aR rfl _ _ 24 rfl _ _ _ rfl rfl hrun ?_)
           go_roundw
           case rel=>exact⟨j+1,by go_num,by omega,HF'.out,HG'.out,HT'.out⟩
           case measure=>simp[intOf];omega
        ·have r1:decide ((j:Int)<(m:Int))=false:=decide_eq_false (by omega)
         obtain rfl:j=m:=by omega
         have HF:=hid hF
         have HGS:=hid hGs
         have HT:=hid hT
         clear hF hGs hT
         go_wp2_with fail
         obtain⟨w7,hw7⟩:∃w7:World,w7=wr:=⟨_,rfl⟩
         subst hw7
         obtain⟨m,hm⟩:∃m:Nat,m=j:=⟨_,rfl⟩
         subst hm
         clear hlt
         go_loopw [14] (λ i wr=>∃j:Nat,i=.int .i64 j/\j<=m/\Below w7.heap.size w7 wr) (λ i _=>m-(intOf i).toNat)
         case atStart=>exact⟨0,rfl,Nat.zero_le _,Below.refl _ _⟩
         case round =>
          obtain⟨j,rfl,hj,hB⟩:=hrel
          by_cases hlt:j<m
          ·have r1:decide ((j:Int)<(m:Int))=true:=decide_eq_true (by omega)
           obtain⟨v,hv⟩:∃v,vs[j]? = some v:=⟨_,List.getElem?_eq_getElem (by have:=HM.out;omega)⟩
           obtain⟨p,n,c,rfl,hnc,hcc⟩:=(HF.out j v hv).isSlice
           unfold maxLen at hcc
           obtain⟨rfl,hn⟩:=HL.out j _ hv
           replace hn:n<=1000000000:=hn
           have HV:=hid hv
           have HB:=hid hB
           clear hv hB
           obtain⟨u,hgc,hgf,hE⟩:=HGS.out.get hlt HV.out
           obtain⟨h,cap,cur,rfl,-,-,hq1,hq2,-⟩:=id hE
           unfold maxLen at hq2
           replace hq1:n+64<=cap:=hq1
           have HU:Hid (U w7 G j=some (.slice (some ⟨h,0,none⟩) (n+64) cap)):=hid (nJ hgc hgf)
           have HE:=hid hE
           clear hgc hgf hE
           go_wp2_with fail
           go_loopw [15] (λ i wr=>∃t:Nat,i=.int .i64 t/\t<=n/\Below w7.heap.size w7 wr) (λ i _=>n-(intOf i).toNat)
           case atStart=>exact⟨0,rfl,Nat.zero_le _,HB.out⟩
           case round =>
            clear HB
            obtain⟨t,rfl,ht,hB⟩:=hrel
            have hug:=aE hB _ _ _ (aL HU.out) HU.out
            have hul:=HC.out.2 _ (HT.out.trans (Tn.of_below hB)) j _ HV.out
            have hlc:=aD hul
            have HB:=hid hB
            clear hB
            by_cases htn:t<n
            ·have r2:decide ((t:Int)<(n:Int))=true:=decide_eq_true (by omega)
             have q1:(0:Int)<=(t:Int):=by omega
             have q2:(t:Int)<(n:Int)+64:=by omega
             have q3:(t:Int)<(n:Int):=by omega
             obtain⟨g,rfl,-⟩:=(HF.out j _ HV.out).lies (by omega)
             obtain⟨xs,hcel,hrg⟩:=(HF.out j _ HV.out).getU (show t<vn (.slice (some ⟨g,0,none⟩) n c) from htn)
             have HCEL:=hid hcel
             simp only[show KL.sz=1 from rfl,Nat.mul_one] at hrg
             have HRG:=hid hrg
             clear hcel hrg
             obtain⟨pb,pbc,hxs,-⟩:=id HCEL.out
             subst hxs
             have c0:∀n':GrownB wr.heap.size wr,n'.it.cell? ⟨g,t,none⟩=some (.slice (some ⟨pb,0,none⟩) 1 pbc):=GrownB.cell (aE HB.out _ _ _ (aL (HRG.out 0 _ rfl)) (HRG.out 0 _ rfl)) (Nat.lt_of_lt_of_le (aL (HRG.out 0 _ rfl)) HB.out.size)
             obtain⟨xs,hcel,hrg⟩:=HE.out.getU (show t<vn (.slice (some ⟨g,0,none⟩) n c)+0 from htn)
             have HCEL2:=hid hcel
             simp only[show KL.sz=1 from rfl,Nat.mul_one] at hrg
             have HRG2:=hid hrg
             clear hcel hrg
             obtain⟨pd,pdc,hxs,-⟩:=id HCEL2.out
             subst hxs
             have d0:∀n':GrownB wr.heap.size wr,n'.it.cell? ⟨h,t,none⟩=some (.slice (some ⟨pd,0,none⟩) 1 pdc):=GrownB.cell (aE HB.out _ _ _ (aL (HRG2.out 0 _ rfl)) (HRG2.out 0 _ rfl)) (Nat.lt_of_lt_of_le (aL (HRG2.out 0 _ rfl)) HB.out.size)
             have hgB:=GrownB.cell hug (aL hug)
             have hlB:=GrownB.cell hul (aL hul)
             clear hug hul
             go_wp2_with fail
             refine cV wr.heap.size [0,1,2,3,4,5,6,7,8] (by decide) (by kernel_rfl) (by kernel_rfl) (by kernel_rfl) (by kernel_rfl) (λ _ _ d _ _ h=>by cases d<;>exact h) ?_
             simp only[List.map_cons,List.map_nil,List.getD_cons_zero,List.getD_cons_succ,bar,bH,List.size_toArray,List.length_cons,List.length_nil,Nat.zero_add,Nat.reduceAdd,if_true,if_false,Bool.false_eq_true]
             repeat (go_big_quiet_step (fail))
             refine wpQuiet_nil ?_
             clear c0
             refine aP (i:=9) (fuel:=16) (by kernel_rfl) rfl (by rfl) (λ K' hK=>?_)
             go_simp
             refine (HMK.out j t _ (by omega) (by omega)).mono ?_
             rintro e wx ⟨ys,rfl,hcy,hbx⟩
             have hAx:Below wr.heap.size wr wx:=aB (aZ wr) hbx
             refine hK.out _ _ ⟨⟨wx,hAx⟩,rfl⟩ (λ _=>?_)
             clear hK K'
             refine aP (i:=10) (fuel:=15) (by kernel_rfl) rfl (by rfl) (λ K' hK=>?_)
             go_simp
             refine (HSM.out _ wx _ _ (KL_ok.below HCEL.out (aB HB.out hAx)) hcy).mono ?_
             rintro e wy ⟨rfl,hby⟩
             have hAy:Below wr.heap.size wr wy:=aB hAx hby
             refine hK.out _ _ ⟨⟨wy,hAy⟩,rfl⟩ (λ _=>?_)
             clear hK K' hcy hbx hby hAx
             refine bR (by kernel_rfl) (λ _ _ d _ _ h=>by cases d<;>exact h) ⟨⟨wy,hAy⟩,rfl⟩ 4 [11,12,13,14,15,16,17,18,19,20,21] _ _ (by kernel_rfl) (by kernel_rfl) ?_
             simp only[List.map_cons,List.map_nil,List.getD_cons_zero,List.getD_cons_succ,bar,bH,List.size_toArray,List.length_cons,List.length_nil,Nat.zero_add,Nat.reduceAdd,if_true,if_false,Bool.false_eq_true]
             repeat (go_big_quiet_step (fail))
             refine wpQuiet_nil ?_
             clear d0 hgB
             refine aP (i:=22) (fuel:=3) (by kernel_rfl) rfl (by rfl) (λ K' hK=>?_)
             go_simp
             refine (HMK.out j t _ (by omega) (by omega)).mono ?_
             rintro e wz ⟨ys,rfl,hcy,hbz⟩
             have hAz:Below wr.heap.size wr wz:=aB hAy hbz
             refine hK.out _ _ ⟨⟨wz,hAz⟩,rfl⟩ (λ _=>?_)
             clear hK K'
             refine aP (i:=23) (fuel:=2) (by kernel_rfl) rfl (by rfl) (λ K' hK=>?_)
             go_simp
             refine (HSM.out _ wz _ _ (KL_ok.below HCEL2.out (aB HB.out hAz)) hcy).mono ?_
             rintro e wv ⟨rfl,hbv⟩
             have hAv:Below wr.heap.size wr wv:=aB hAz hbv
             refine hK.out _ _ ⟨⟨wv,hAv⟩,rfl⟩ (λ _=>?_)
             clear hK K' hcy hbz hbv hAz
             refine bR (by kernel_rfl) (λ _ _ d _ _ h=>by cases d<;>exact h) ⟨⟨wv,hAv⟩,rfl⟩ 0 [24,25] _ _ (by kernel_rfl) (by kernel_rfl) ?_
             simp only[List.map_cons,List.map_nil,List.getD_cons_zero,List.getD_cons_succ,bar,bH,List.size_toArray,List.length_cons,List.length_nil,Nat.zero_add,Nat.reduceAdd,if_true,if_false,Bool.false_eq_true]
             repeat (go_big_quiet_step (fail))
             refine wpQuiet_nil ?_
             refine wpAnyH_done (by kernel_rfl) ?_ _
             have HAV:=hid hAv
             clear hAv hAy
             go_wp2_with fail
             go_roundw
             case rel=>exact⟨t+1,by go_num,by omega,aB HB.out HAV.out⟩
             case measure=>simp[intOf];omega
            ·have r2:decide ((t:Int)<(n:Int))=false:=decide_eq_false (by omega)
             clear hug hul
             go_wp2_with fail
             go_roundw
             case rel=>exact⟨j+1,by go_num,by omega,HB.out⟩
             case measure=>simp[intOf];omega
          ·have r1:decide ((j:Int)<(m:Int))=false:=decide_eq_false (by omega)
           have HB:=hid hB
           clear hB
           go_wp2_with fail
           go_ret
           exact⟨rfl,HT.out.trans (Tn.of_below HB.out)⟩
end
section
def KT:Kd:={ e:=27,sz:=5,em:=0,cel:=λ _ M xs=>xs=[.int .i64 0,.int .i64 M,.int .i64 0,.slice none 0 0,.slice none 0 0] }
theorem KT_ok:KT.Ok:=⟨by decide,by decide,λ _ _ _ h=>by rw[show _=_ from h];rfl,λ _ _ _ h u hu=>by rw[show _=_ from h] at hu;simp at hu;rcases hu with rfl|rfl|rfl|rfl<;>rfl,λ _ _ _ _ _ h=>h⟩
theorem KT_sty:Sty prog KT 25:=by
 refine⟨underlying25,?_⟩
 have h:=IU
 cases hi:prog.info? 27 with
 | none=>rw[hi] at h;cases h
 | some i =>
  rw[hi] at h
  simp only[Option.map_some,Option.some.injEq,Prod.mk.injEq] at h
  exact⟨i,_,hi,h.1,h.2.1,rfl,by omega⟩
def KTS:Kd:={ e:=25,sz:=1,em:=0,cel:=λ _ _ _=>False }
theorem info22:(prog.info? 25).map (λ i=>(i.zero,i.size,i.bytes))=some (some (.slice none 0 0),1,24):=by kernel_rfl
theorem KTS_sty:Sty prog KTS 66:=by
 refine⟨underlying66,?_⟩
 have h:=info22
 cases hi:prog.info? 25 with
 | none=>rw[hi] at h;cases h
 | some i =>
  rw[hi] at h
  simp only[Option.map_some,Option.some.injEq,Prod.mk.injEq] at h
  exact⟨i,_,hi,h.1,h.2.1,rfl,by omega⟩
theorem KT_same:JP prog KT 37:=λ M w xs ys hx hy=>by
 have hx:xs=[.int .i64 0,.int .i64 M,.int .i64 0,.slice none 0 0,.slice none 0 0]:=hx
 have hy:ys=[.int .i64 0,.int .i64 M,.int .i64 0,.slice none 0 0,.slice none 0 0]:=hy
 subst hx hy
 have rm:RM ty w (.agg #[.int .i64 0,.int .i64 M,.int .i64 0,.slice none 0 0,.slice none 0 0]) ⟨0,M,0,[]⟩ .nil:=⟨none,0,0,none,0,0,rfl,Rd.none_ _ _ _,Rd.none_ _ _ _⟩
 exact kJ ⟨0,M,0,[]⟩ .nil _ _ w rm rm
theorem KT_mark:BU prog KT 132:=λ k i w hk hi=>(pV k i w hk hi).mono λ _ _ h=>⟨_,h.1,rfl,h.2⟩
theorem EE(vs:List Value)(L:Nat)(ql:Option Addr)(cl:Nat)(w:World)(hvs:vs.length<=1000000000)(hcl:vs.length<=cl)(hcm:cl<=maxLen)(hL:∀(k:Nat) (v:Value),vs[k]? = some v->ql=some ⟨L,0,none⟩/\vn v<=1000000000)
  (hC:¬InV vs L/\∀W,Tn KT.em (InV vs) w W->∀(k:Nat) (v:Value),vs[k]? = some v->U W L k=some v) (hR:RowsG KT 0 w vs (λ _=>0)) (hD:BV vs) :
  Calls prog 183 #[.slice ql vs.length cl] w λ e w'=>e=.returned (.bool true)/\Tn KT.em (InV vs) w w':=by
 obtain⟨m,hm⟩:∃m,vs.length=m:=⟨_,rfl⟩
 have HM:=hid hm
 have HC:=hid hC
 have HL:=hid hL
 have HMK:=hid KT_mark
 have HSM:=hid KT_same
 have HIN:Hid (∀b,InV vs b->b<w.heap.size):=λ b hb=>by obtain⟨-,cur,e⟩:=hR.typed hb;exact bC e
 rw[hm] at hvs hcl ⊢
 clear hm hC hL
 unfold maxLen at hcm
 go_enter func183,ntmps183
 go_wp2_with fail
 go_loopw [3] (λ i wr=>∃k:Nat,k<=m/\i=.int .i64 k/\RowsG KT 0 wr vs (dF vs k 0)/\Tn KT.em (InV vs) w wr) (λ i _=>m-(intOf i).toNat)
 case atStart=>exact⟨0,Nat.zero_le _,rfl,hR.cong λ k v _=>by simp[dF],Tn.refl _ _ _⟩
 case round =>
  obtain⟨k,hk,rfl,hRk,hTk⟩:=hrel
  clear hR
  by_cases hlt:k<m
  ·have r1:decide ((k:Int)<(m:Int))=true:=decide_eq_true (by omega)
   obtain⟨v,hv⟩:∃v,vs[k]? = some v:=⟨_,List.getElem?_eq_getElem (by have:=HM.out;omega)⟩
   obtain⟨p,n,c,rfl,hnc,hcc⟩:=(hRk k v hv).isSlice
   unfold maxLen at hcc
   obtain⟨rfl,hn⟩:=HL.out k _ hv
   replace hn:n<=1000000000:=hn
   have HV:=hid hv
   have HRK:=hid hRk
   have HTK:=hid hTk
   clear hv hRk hTk
   go_wp2_with fail
   go_loopw [4] (λ i wr=>∃j:Nat,i=.int .i64 j/\j<=n/\RowsG KT 0 wr vs (dF vs k j)/\Tn KT.em (InV vs) w wr) (λ i _=>n-(intOf i).toNat)
   case atStart=>exact⟨0,rfl,Nat.zero_le _,HRK.out,HTK.out⟩
   case round =>
    clear HRK HTK
    obtain⟨j,rfl,hj,hRj,hTj⟩:=hrel
    have hu:=HC.out.2 _ hTj k _ HV.out
    have hc:=aD hu
    by_cases hjn:j<n
    ·have r2:decide ((j:Int)<(n:Int))=true:=decide_eq_true (by omega)
     obtain⟨g,rfl,hc0⟩:=(hRj k _ HV.out).lies (by omega)
     have e1:∀n':GrownX (InV vs) wr,n'.it.cell? ⟨L,k,none⟩=some (.slice (some ⟨g,0,none⟩) n c):=GrownX.cell hu HC.out.1
     have HRJ:=hid hRj
     have HTJ:=hid hTj
     clear hu hRj hTj
     go_wp2_with fail
     clear hc
     refine iZ (InV vs) [0,1,2,3,4,5,6] (by decide) (by kernel_rfl) (by kernel_rfl) (by kernel_rfl) (by kernel_rfl) (λ _ _ d _ _ h=>by cases d<;>exact h) ?_
     simp only[List.map_cons,List.map_nil,List.getD_cons_zero,List.getD_cons_succ,bar,bH,List.size_toArray,List.length_cons,List.length_nil,Nat.zero_add,Nat.reduceAdd,if_true,if_false,Bool.false_eq_true]
     repeat (go_big_quiet_step (fail))
     refine wpQuiet_nil ?_
     clear e1
     refine aP (i:=7) (fuel:=2) (by kernel_rfl) rfl (by rfl) (λ K' hK=>?_)
     go_simp
     refine (HMK.out k j _ (by omega) (by omega)).mono ?_
     rintro e wx ⟨xs,rfl,hcel,hbx⟩
     have hAx:Below wr.heap.size wr wx:=aB (aZ wr) hbx
     refine hK.out _ _ ⟨⟨wx,λ b hb _=>hAx.block b hb⟩,rfl⟩ (λ _=>?_)
     clear hK K'
     have hRx:=HRJ.out.below KT_ok hAx
     obtain⟨hth,hR',hT'⟩:=RowsG.setF KT_ok hD hRx HV.out hjn hcel
     refine aP (i:=8) (fuel:=1) (by kernel_rfl) rfl (by rfl) (λ K' hK=>?_)
     go_simp
     refine hK.out _ _ ⟨⟨wx,λ b hb _=>hAx.block b hb⟩,rfl⟩ (λ _=>?_)
     clear hK K'
     refine aP (i:=9) (fuel:=0) (by kernel_rfl) rfl (by rfl) (λ K' hK=>?_)
     refine wp_store_mid 27 _ _ rfl g (j*5) xs.toArray rfl rfl (by rw[List.size_toArray,KT_ok.len _ _ _ hcel];exact hth) (by rw[List.size_toArray,KT_ok.len _ _ _ hcel];exact KT_sty.size) (all_oneCell_toArray (KT_ok.one _ _ _ hcel)) ?_
     refine hK.out _ _ ⟨⟨wx.setCells g (j*5) xs,λ b hb hx=>(hT'.block b (Nat.lt_of_lt_of_le hb hAx.size) hx).trans (hAx.block b hb)⟩,rfl⟩ (λ _=>?_)
     clear hK K'
     refine wpAnyH_done (by kernel_rfl) ?_ _
     have HR':=hid hR'
     have HT':=hid (HTJ.out.trans ((Tn.of_below hAx).trans hT'))
     clear hth hR' hT' hRx hcel hAx hbx HRJ HTJ
     go_wp2_with fail
     go_roundw
     case rel=>exact⟨j+1,by go_num,by omega,HR'.out,HT'.out⟩
     case measure=>simp[intOf];omega
    ·have r2:decide ((j:Int)<(n:Int))=false:=decide_eq_false (by omega)
     obtain rfl:j=n:=by omega
     have HR':=hid (RowsG.dEnd HV.out hRj)
     have HT':=hid hTj
     clear hRj hTj hu
     go_wp2_with fail
     go_roundw
     case rel=>exact⟨k+1,by omega,by go_num,HR'.out,HT'.out⟩
     case measure=>simp[intOf];omega
  ·have r1:decide ((k:Int)<(m:Int))=false:=decide_eq_false (by omega)
   obtain rfl:k=m:=by omega
   have HF:=hid (RowsG.full HM.out hRk)
   have HT:=hid hTk
   clear hRk hTk
   obtain⟨arr,hmk,harr⟩:=KTS_sty.make k (by omega) wr
   have hmk':(Instr.makeSlice 66 (.int .i64 k) (.int .i64 k)).run prog wr=.ok (.slice (some ⟨wr.heap.size,0,none⟩) k k) (wr.alloc (.cells arr 25)):=hmk
   clear hmk
   go_wp2_with fail
   obtain⟨w1,hw1⟩:∃w1,wr.alloc (.cells arr 25)=w1:=⟨_,rfl⟩
   obtain⟨G,hG⟩:∃G,wr.heap.size=G:=⟨_,rfl⟩
   have HGW:Hid (w.heap.size<=G):=hid (by rw[<-hG];exact HT.out.size)
   have HB1:Below wr.heap.size wr w1:=by rw[<-hw1];exact aA _ _
   have HF1:=hid (HF.out.below KT_ok HB1)
   have HT1:=hid (HT.out.trans (Tn.of_below HB1))
   have HG1:Hid (Gsl KT 25 G w.heap.size w1 vs 64 64 0):=hid (by rw[<-hw1,<-hG];exact Gsl.new wr vs 64 64 (by rw[HM.out,harr];show k*1=k;omega))
   rw[hw1,hG]
   clear HF HT HB1 hw1 hmk' harr
   go_loopw [6] (λ i wr=>∃j:Nat,i=.int .i64 j/\j<=k/\Full KT 0 wr vs/\Gsl KT 25 G w.heap.size wr vs 64 64 j/\Tn KT.em (InV vs) w wr) (λ i _=>k-(intOf i).toNat)
   case atStart=>exact⟨0,rfl,Nat.zero_le _,HF1.out,HG1.out,HT1.out⟩
   case round =>
    clear HF1 HG1 HT1
    obtain⟨j,rfl,hj,hF,hGs,hT⟩:=hrel
    by_cases hlt:j<k
    ·have r1:decide ((j:Int)<(k:Int))=true:=decide_eq_true (by omega)
     obtain⟨v,hv⟩:∃v,vs[j]? = some v:=⟨_,List.getElem?_eq_getElem (by have:=HM.out;omega)⟩
     obtain⟨p,n,c,rfl,hnc,hcc⟩:=(hF j v hv).isSlice
     unfold maxLen at hcc
     obtain⟨rfl,hn⟩:=HL.out j _ hv
     replace hn:n<=1000000000:=hn
     have hc:=aD (HC.out.2 _ hT j _ hv)
     have HV:=hid hv
     have HF:=hid hF
     have HGS:=hid hGs
     have HT:=hid hT
     clear hv hF hGs hT
     go_wp2_with fail
     obtain⟨wk,hwk⟩:∃wk:World,wk=wr:=⟨_,rfl⟩
     subst hwk
     go_loopw [7,8] (λ g i wr=>∃t:Nat,i=.int .i64 t/\t<=64/\RowI KT 0 wr (.slice p n c) n j/\Cur KT wk.heap.size wr (.slice p n c) g t j/\Tn KT.em (λ b=>vb (.slice p n c)=some b) wk wr) (λ _ i _=>64-(intOf i).toNat)
     case atStart=>exact⟨0,rfl,by decide,HF.out j _ HV.out,.inl ⟨rfl,rfl⟩,Tn.refl _ _ _⟩
     case round =>
      obtain⟨t,rfl,ht,hRq,hCq,hTq⟩:=hrel
      have hTv:Tn KT.em (InV vs) w wr:=HT.out.trans (hTq.inV HV.out)
      have hcq:=aD (HC.out.2 _ hTv j _ HV.out)
      have HR:=hid hRq
      have HC1:=hid hCq
      have HTQ:=hid hTq
      have HTV:=hid hTv
      clear hRq hCq hTq hTv hc
      by_cases hlt64:t<64
      ·have r2:decide ((t:Int)<64)=true:=decide_eq_true (by omega)
       have HMJ:Hid (∀W,Calls prog 132 #[.int .i64 j,.int .i64 ((n:Int)+(t:Int))] W λ e w'=>∃xs,e=.returned (.agg xs.toArray)/\KT.cel w' (mk j (n+t)) xs/\Below W.heap.size W w'):=λ W=>by
        have:=HMK.out j (n+t) W (by omega) (by omega)
        rwa [Int.natCast_add] at this
       go_wp2_with fail
       refine (HMJ.out _).mono ?_
       rintro e wx ⟨xs,rfl,hcel,hbx⟩
       have hxs:xs=[.int .i64 0,.int .i64 (mk j (n+t)),.int .i64 0,.slice none 0 0,.slice none 0 0]:=hcel
       obtain⟨wy,hwy⟩:∃wy,wx.alloc (.cells xs.toArray 27)=wy:=⟨_,rfl⟩
       have hby:Below wr.heap.size wr wy:=by rw[<-hwy];exact aB hbx (aA _ _)
       have hnc:∀(i:Nat) (u:Value),xs[i]? = some u->wy.cell? ((⟨wx.heap.size,0,none⟩:Addr).add i)=some u:=by rw[<-hwy];exact gK wx xs 27
       obtain⟨g',wz,hrun,hRz,hCz,hTz⟩:=Cur.grow KT_ok KT_sty 25 (HR.out.on KT_ok (Tn.of_below (X:=λ _=>False) hby) λ _ _ _ _=>id) (λ b hb=>Nat.lt_of_lt_of_le (HIN.out b ⟨_,List.mem_of_getElem? HV.out,hb⟩) HT.out.size) (Nat.le_trans HTQ.out.size hby.size)
        (HC1.out.on KT_ok (Tn.of_below (X:=λ _=>False) hby) λ _ _ _ _=>id) (c:=1) (by rw[<-hwy];exact KT_ok.below hcel (aA _ _)) hnc (by show n+t+1<=_;omega)
       have HRZ:=hid hRz
       have HCZ:=hid hCz
       have HTZ:=hid (HTQ.out.trans' ((Tn.of_below hby).trans hTz) λ b hb h=>by
        rcases h with h|h
        ·exact h
        ·omega)
       clear hRz hCz hTz hcel hbx hby hnc HR HC1 HTQ HMJ
       subst hwy hxs
       go_wp2_with (at_builtin;refine aR rfl _ _ 25 rfl _ _ _ rfl rfl hrun ?_)
       go_roundw
       case rel=>exact⟨t+1,by go_num,by omega,HRZ.out,HCZ.out,HTZ.out⟩
       case measure=>simp[intOf];omega
      ·have r2:decide ((t:Int)<64)=false:=decide_eq_false (by omega)
       obtain rfl:t=64:=by omega
       have hFq:=Full.one KT_ok hD HF.out HV.out HTQ.out HR.out
       have hGq:=Gsl.one KT_ok hD HGS.out HIN.out HGW.out HV.out HTQ.out
       obtain⟨u,hgc,hgf⟩:=hGq.cell (k:=j) (by have:=HM.out;omega)
       obtain⟨-,hG',hT'⟩:=hGq.put KT_ok (by decide) (by decide) HV.out ((HC1.out.ent (by decide)).less (Nat.le_refl _) HT.out.size)
       obtain⟨h,cap,cur,e,-⟩:=HC1.out.ent (by decide)
       subst e
       have HG':=hid hG'
       have HF':=hid (hFq.put KT_ok HIN.out HGW.out hT')
       have HT':=hid (HTV.out.trans' hT' λ b hb e=>by have:=HGW.out;omega)
       clear hFq hGq hG' hT' HR HC1 HTQ HTV HF HGS HT hcq
       go_wp2_with fail
       go_roundw
       case rel=>exact⟨j+1,by go_num,by omega,HF'.out,HG'.out,HT'.out⟩
       case measure=>simp[intOf];omega
    ·have r1:decide ((j:Int)<(k:Int))=false:=decide_eq_false (by omega)
     obtain rfl:j=k:=by omega
     have HF:=hid hF
     have HGS:=hid hGs
     have HT:=hid hT
     clear hF hGs hT
     go_wp2_with fail
     obtain⟨w3,hw3⟩:∃w3:World,w3=wr:=⟨_,rfl⟩
     subst hw3
     obtain⟨m,hm⟩:∃m:Nat,m=j:=⟨_,rfl⟩
     subst hm
     clear hlt
     go_loopw [9] (λ i wr=>∃j:Nat,i=.int .i64 j/\j<=m/\Below w3.heap.size w3 wr) (λ i _=>m-(intOf i).toNat)
     case atStart=>exact⟨0,rfl,Nat.zero_le _,Below.refl _ _⟩
     case round =>
      obtain⟨j,rfl,hj,hB⟩:=hrel
      by_cases hlt:j<m
      ·have r1:decide ((j:Int)<(m:Int))=true:=decide_eq_true (by omega)
       obtain⟨v,hv⟩:∃v,vs[j]? = some v:=⟨_,List.getElem?_eq_getElem (by have:=HM.out;omega)⟩
       obtain⟨p,n,c,rfl,hnc,hcc⟩:=(HF.out j v hv).isSlice
       unfold maxLen at hcc
       obtain⟨rfl,hn⟩:=HL.out j _ hv
       replace hn:n<=1000000000:=hn
       have HV:=hid hv
       have HB:=hid hB
       clear hv hB
       obtain⟨u,hgc,hgf,hE⟩:=HGS.out.get hlt HV.out
       obtain⟨h,cap,cur,rfl,-,-,hq1,hq2,-⟩:=id hE
       unfold maxLen at hq2
       replace hq1:n+64<=cap:=hq1
       have HU:Hid (U w3 G j=some (.slice (some ⟨h,0,none⟩) (n+64) cap)):=hid (nJ hgc hgf)
       have HE:=hid hE
       clear hgc hgf hE
       go_wp2_with fail
       go_loopw [10] (λ i wr=>∃t:Nat,i=.int .i64 t/\t<=n+64/\Below w3.heap.size w3 wr) (λ i _=>n+64-(intOf i).toNat)
       case atStart=>exact⟨0,rfl,Nat.zero_le _,HB.out⟩
       case round =>
        clear HB
        obtain⟨t,rfl,ht,hB⟩:=hrel
        have hug:=aE hB _ _ _ (aL HU.out) HU.out
        have hgc:=aD hug
        have hul:=HC.out.2 _ (HT.out.trans (Tn.of_below hB)) j _ HV.out
        have HB:=hid hB
        clear hB
        by_cases htn:t<n+64
        ·have r2:decide ((t:Int)<(n:Int)+64)=true:=decide_eq_true (by omega)
         have q1:(0:Int)<=(t:Int):=by omega
         have q2:(t:Int)<(n:Int)+64:=by omega
         obtain⟨xs,hcel,hrg⟩:=HE.out.getU (show t<vn (.slice p n c)+64 from htn)
         have HCEL:=hid hcel
         have HRG:=hid hrg
         clear hcel hrg
         have hxs:xs=[.int .i64 0,.int .i64 (mk j t),.int .i64 0,.slice none 0 0,.slice none 0 0]:=HCEL.out
         subst hxs
         have c0:∀n':GrownB wr.heap.size wr,n'.it.cell? ⟨h,t*5,none⟩=some (.int .i64 0):=GrownB.cell (aE HB.out _ _ _ (aL (HRG.out 0 _ rfl)) (HRG.out 0 _ rfl)) (Nat.lt_of_lt_of_le (aL (HRG.out 0 _ rfl)) HB.out.size)
         have c1:∀n':GrownB wr.heap.size wr,n'.it.cell? ⟨h,t*5+1,none⟩=some (.int .i64 (mk j t)):=GrownB.cell (aE HB.out _ _ _ (aL (HRG.out 1 _ rfl)) (HRG.out 1 _ rfl)) (Nat.lt_of_lt_of_le (aL (HRG.out 1 _ rfl)) HB.out.size)
         have c2:∀n':GrownB wr.heap.size wr,n'.it.cell? ⟨h,t*5+2,none⟩=some (.int .i64 0):=GrownB.cell (aE HB.out _ _ _ (aL (HRG.out 2 _ rfl)) (HRG.out 2 _ rfl)) (Nat.lt_of_lt_of_le (aL (HRG.out 2 _ rfl)) HB.out.size)
         have c3:∀n':GrownB wr.heap.size wr,n'.it.cell? ⟨h,t*5+3,none⟩=some (.slice none 0 0):=GrownB.cell (aE HB.out _ _ _ (aL (HRG.out 3 _ rfl)) (HRG.out 3 _ rfl)) (Nat.lt_of_lt_of_le (aL (HRG.out 3 _ rfl)) HB.out.size)
         have c4:∀n':GrownB wr.heap.size wr,n'.it.cell? ⟨h,t*5+4,none⟩=some (.slice none 0 0):=GrownB.cell (aE HB.out _ _ _ (aL (HRG.out 4 _ rfl)) (HRG.out 4 _ rfl)) (Nat.lt_of_lt_of_le (aL (HRG.out 4 _ rfl)) HB.out.size)
         have hgB:=GrownB.cell hug (aL hug)
         have hlB:=GrownB.cell hul (aL hul)
         clear hug hul
         go_wp2_with fail
         refine cV wr.heap.size [0,1,2,3,4,5,6,7,8] (by decide) (by kernel_rfl) (by kernel_rfl) (by kernel_rfl) (by kernel_rfl) (λ _ _ d _ _ h=>by cases d<;>exact h) ?_
         simp only[List.map_cons,List.map_nil,List.getD_cons_zero,List.getD_cons_succ,bar,bH,List.size_toArray,List.length_cons,List.length_nil,Nat.zero_add,Nat.reduceAdd,if_true,if_false,Bool.false_eq_true]
         repeat (go_big_quiet_step (fail))
         refine wpQuiet_nil ?_
         refine aP (i:=9) (fuel:=25) (by kernel_rfl) rfl (by rfl) (λ K' hK=>?_)
         go_simp
         refine (HMK.out j t _ (by omega) (by omega)).mono ?_
         rintro e wx ⟨ys,rfl,hcy,hbx⟩
         have hAx:Below wr.heap.size wr wx:=aB (aZ wr) hbx
         refine hK.out _ _ ⟨⟨wx,hAx⟩,rfl⟩ (λ _=>?_)
         clear hK K'
         refine aP (i:=10) (fuel:=24) (by kernel_rfl) rfl (by rfl) (λ K' hK=>?_)
         go_simp
         refine (HSM.out _ wx _ _ (KT_ok.below HCEL.out (aB HB.out hAx)) hcy).mono ?_
         rintro e wy ⟨rfl,hby⟩
         have hAy:Below wr.heap.size wr wy:=aB hAx hby
         refine hK.out _ _ ⟨⟨wy,hAy⟩,rfl⟩ (λ _=>?_)
         clear hK K' hcy hbx hby hAx hgB c0 c1 c2 c3 c4
         by_cases htk:t<n
         ·have r3:decide ((t:Int)<(n:Int))=true:=decide_eq_true (by omega)
          have q3:(t:Int)<(n:Int):=by omega
          obtain⟨g,rfl,-⟩:=(HF.out j _ HV.out).lies (by omega)
          obtain⟨xs,hcel,hrg⟩:=(HF.out j _ HV.out).getU (show t<vn (.slice (some ⟨g,0,none⟩) n c) from htk)
          have HCEL2:=hid hcel
          have HRG2:=hid hrg
          clear hcel hrg HCEL HRG
          have hxs:xs=[.int .i64 0,.int .i64 (mk j t),.int .i64 0,.slice none 0 0,.slice none 0 0]:=HCEL2.out
          subst hxs
          have d0:∀n':GrownB wr.heap.size wr,n'.it.cell? ⟨g,t*5,none⟩=some (.int .i64 0):=GrownB.cell (aE HB.out _ _ _ (aL (HRG2.out 0 _ rfl)) (HRG2.out 0 _ rfl)) (Nat.lt_of_lt_of_le (aL (HRG2.out 0 _ rfl)) HB.out.size)
          have d1:∀n':GrownB wr.heap.size wr,n'.it.cell? ⟨g,t*5+1,none⟩=some (.int .i64 (mk j t)):=GrownB.cell (aE HB.out _ _ _ (aL (HRG2.out 1 _ rfl)) (HRG2.out 1 _ rfl)) (Nat.lt_of_lt_of_le (aL (HRG2.out 1 _ rfl)) HB.out.size)
          have d2:∀n':GrownB wr.heap.size wr,n'.it.cell? ⟨g,t*5+2,none⟩=some (.int .i64 0):=GrownB.cell (aE HB.out _ _ _ (aL (HRG2.out 2 _ rfl)) (HRG2.out 2 _ rfl)) (Nat.lt_of_lt_of_le (aL (HRG2.out 2 _ rfl)) HB.out.size)
          have d3:∀n':GrownB wr.heap.size wr,n'.it.cell? ⟨g,t*5+3,none⟩=some (.slice none 0 0):=GrownB.cell (aE HB.out _ _ _ (aL (HRG2.out 3 _ rfl)) (HRG2.out 3 _ rfl)) (Nat.lt_of_lt_of_le (aL (HRG2.out 3 _ rfl)) HB.out.size)
          have d4:∀n':GrownB wr.heap.size wr,n'.it.cell? ⟨g,t*5+4,none⟩=some (.slice none 0 0):=GrownB.cell (aE HB.out _ _ _ (aL (HRG2.out 4 _ rfl)) (HRG2.out 4 _ rfl)) (Nat.lt_of_lt_of_le (aL (HRG2.out 4 _ rfl)) HB.out.size)
          refine bR (by kernel_rfl) (λ _ _ d _ _ h=>by cases d<;>exact h) ⟨⟨wy,hAy⟩,rfl⟩ 5 [11,12,13,14,15,16,17,18,19,20,21,22,23,24,25,26,27,28,29] _ _ (by kernel_rfl) (by kernel_rfl) ?_
          simp only[List.map_cons,List.map_nil,List.getD_cons_zero,List.getD_cons_succ,bar,bH,List.size_toArray,List.length_cons,List.length_nil,Nat.zero_add,Nat.reduceAdd,if_true,if_false,Bool.false_eq_true]
          repeat (go_big_quiet_step (fail))
          refine wpQuiet_nil ?_
          clear d0 d1 d2 d3 d4
          refine aP (i:=30) (fuel:=4) (by kernel_rfl) rfl (by rfl) (λ K' hK=>?_)
          go_simp
          refine (HMK.out j t _ (by omega) (by omega)).mono ?_
          rintro e wz ⟨ys,rfl,hcy,hbz⟩
          have hAz:Below wr.heap.size wr wz:=aB hAy hbz
          refine hK.out _ _ ⟨⟨wz,hAz⟩,rfl⟩ (λ _=>?_)
          clear hK K'
          refine aP (i:=31) (fuel:=3) (by kernel_rfl) rfl (by rfl) (λ K' hK=>?_)
          go_simp
          refine (HSM.out _ wz _ _ (KT_ok.below HCEL2.out (aB HB.out hAz)) hcy).mono ?_
          rintro e wv ⟨rfl,hbv⟩
          have hAv:Below wr.heap.size wr wv:=aB hAz hbv
          refine hK.out _ _ ⟨⟨wv,hAv⟩,rfl⟩ (λ _=>?_)
          clear hK K' hcy hbz hbv hAz
          refine bR (by kernel_rfl) (λ _ _ d _ _ h=>by cases d<;>exact h) ⟨⟨wv,hAv⟩,rfl⟩ 0 [32,33,34] _ _ (by kernel_rfl) (by kernel_rfl) ?_
          simp only[List.map_cons,List.map_nil,List.getD_cons_zero,List.getD_cons_succ,bar,bH,List.size_toArray,List.length_cons,List.length_nil,Nat.zero_add,Nat.reduceAdd,if_true,if_false,Bool.false_eq_true]
          repeat (go_big_quiet_step (fail))
          refine wpQuiet_nil ?_
          refine wpAnyH_done (by kernel_rfl) ?_ _
          have HAV:=hid hAv
          clear hAv hAy
          go_wp2_with fail
          go_roundw
          case rel=>exact⟨t+1,by go_num,by omega,aB HB.out HAV.out⟩
          case measure=>simp[intOf];omega
         ·have r3:decide ((t:Int)<(n:Int))=false:=decide_eq_false (by omega)
          refine bR (by kernel_rfl) (λ _ _ d _ _ h=>by cases d<;>exact h) ⟨⟨wy,hAy⟩,rfl⟩ 0 [11,12,13,14,15,16,17,18,19,20,21,22,23,24,25,26,27,28,29,30,31,32,33,34] _ _ (by kernel_rfl) (by kernel_rfl) ?_
          simp only[List.map_cons,List.map_nil,List.getD_cons_zero,List.getD_cons_succ,bar,bH,List.size_toArray,List.length_cons,List.length_nil,Nat.zero_add,Nat.reduceAdd,if_true,if_false,Bool.false_eq_true]
          repeat (go_big_quiet_step (fail))
          refine wpQuiet_nil ?_
          refine wpAnyH_done (by kernel_rfl) ?_ _
          have HAY:=hid hAy
          clear hAy
          go_wp2_with fail
          go_roundw
          case rel=>exact⟨t+1,by go_num,by omega,aB HB.out HAY.out⟩
          case measure=>simp[intOf];omega
        ·have r2:decide ((t:Int)<(n:Int)+64)=false:=decide_eq_false (by omega)
         clear hug hul
         go_wp2_with fail
         go_roundw
         case rel=>exact⟨j+1,by go_num,by omega,HB.out⟩
         case measure=>simp[intOf];omega
      ·have r1:decide ((j:Int)<(m:Int))=false:=decide_eq_false (by omega)
       obtain rfl:j=m:=by omega
       go_wp2_with fail
       obtain⟨w4,hw4⟩:∃w4:World,w4=wr:=⟨_,rfl⟩
       subst hw4
       obtain⟨m,hm⟩:∃m:Nat,m=j:=⟨_,rfl⟩
       subst hm
       have HF4:=hid (HF.out.below KT_ok hB)
       have HG4:=hid ((HGS.out.start (d':=0) (x':=64)).below KT_ok hB)
       have HT4:=hid (HT.out.trans (Tn.of_below hB))
       clear HF HGS HT hB hlt
       go_loopw [11] (λ i wr=>∃j:Nat,i=.int .i64 j/\j<=m/\Full KT 0 wr vs/\Gsl KT 25 G w.heap.size wr vs 0 64 j/\Tn KT.em (InV vs) w wr) (λ i _=>m-(intOf i).toNat)
       case atStart=>exact⟨0,rfl,Nat.zero_le _,HF4.out,HG4.out,HT4.out⟩
       case round =>
        clear HF4 HG4 HT4
        obtain⟨j,rfl,hj,hF,hGs,hT⟩:=hrel
        by_cases hlt:j<m
        ·have r1:decide ((j:Int)<(m:Int))=true:=decide_eq_true (by omega)
         obtain⟨v,hv⟩:∃v,vs[j]? = some v:=⟨_,List.getElem?_eq_getElem (by have:=HM.out;omega)⟩
         obtain⟨p,n,c,rfl,hnc,hcc⟩:=(hF j v hv).isSlice
         unfold maxLen at hcc
         obtain⟨rfl,hn⟩:=HL.out j _ hv
         replace hn:n<=1000000000:=hn
         have HV:=hid hv
         have HF:=hid hF
         have HGS:=hid hGs
         have HT:=hid hT
         clear hv hF hGs hT
         obtain⟨arr2,hmk2,harr2⟩:=KT_sty.make 64 (by decide) wr
         have hmk2':(Instr.makeSlice 25 (.int .i64 64) (.int .i64 64)).run prog wr=.ok (.slice (some ⟨wr.heap.size,0,none⟩) 64 64) (wr.alloc (.cells arr2 27)):=hmk2
         clear hmk2
         go_wp2_with fail
         obtain⟨wk,hwk⟩:∃wk:World,wk=wr:=⟨_,rfl⟩
         subst hwk
         obtain⟨w5,hw5⟩:∃w5,wk.alloc (.cells arr2 27)=w5:=⟨_,rfl⟩
         obtain⟨B,hBq⟩:∃B,wk.heap.size=B:=⟨_,rfl⟩
         have HB5:Hid (Below wk.heap.size wk w5):=hid (by rw[<-hw5];exact aA _ _)
         have HR5:Hid (RowI KT B w5 (.slice (some ⟨B,0,none⟩) 64 64) 0 (j+m)):=hid (by rw[<-hw5,<-hBq];exact RowI.new wk 64 (j+m) harr2 (by decide) (by decide))
         have HBq:=hid hBq
         rw[hw5,hBq]
         clear hw5 hmk2' harr2 hBq
         go_loopw [13] (λ i wr=>∃t:Nat,i=.int .i64 t/\t<=64/\RowI KT B wr (.slice (some ⟨B,0,none⟩) 64 64) t (j+m)/\Below wk.heap.size wk wr) (λ i _=>64-(intOf i).toNat)
         case atStart=>exact⟨0,rfl,by decide,HR5.out,HB5.out⟩
         case round =>
          clear HR5 HB5
          obtain⟨t,rfl,ht,hR5,hB⟩:=hrel
          have HR5:=hid hR5
          have HB:=hid hB
          clear hR5 hB
          by_cases hlt64:t<64
          ·have r2:decide ((t:Int)<64)=true:=decide_eq_true (by omega)
           have HMJ:Hid (∀W,Calls prog 132 #[.int .i64 ((j:Int)+(m:Int)),.int .i64 t] W λ e w'=>∃xs,e=.returned (.agg xs.toArray)/\KT.cel w' (mk (j+m) t) xs/\Below W.heap.size W w'):=λ W=>by
            have:=HMK.out (j+m) t W (by omega) (by omega)
            rwa [Int.natCast_add] at this
           go_wp2_with fail
           refine (HMJ.out _).mono ?_
           rintro e wx ⟨xs,rfl,hcel,hbx⟩
           have hRx:=HR5.out.on KT_ok (Tn.of_below (X:=λ _=>False) hbx) λ _ _ _ _=>id
           obtain⟨hth,hR',hT'⟩:=hRx.set KT_ok hlt64 hcel
           have hth':wx.there B (t*5) xs.toArray.size:=by rw[List.size_toArray,KT_ok.len _ _ _ hcel];exact hth
           have hsz':(prog.info? 27).map (·.size)=some xs.toArray.size:=by rw[List.size_toArray,KT_ok.len _ _ _ hcel];exact KT_sty.size
           have hon':=all_oneCell_toArray (KT_ok.one _ _ _ hcel)
           have HR':=hid hR'
           have HB':Hid (Below wk.heap.size wk (wx.setCells B (t*5) xs)):=hid (oA HB.out hbx hT' HBq.out)
           clear hRx hth hR' hT' hcel hbx HR5 HB HMJ
           go_wp2_with (refine wpList_store_mid rfl 27 _ _ rfl B (t*5) xs.toArray rfl rfl hth' hsz' hon' ?_)
           go_roundw
           case rel=>exact⟨t+1,by go_num,by omega,HR'.out,HB'.out⟩
           case measure=>simp[intOf];omega
          ·have r2:decide ((t:Int)<64)=false:=decide_eq_false (by omega)
           obtain rfl:t=64:=by omega
           obtain⟨news,hl,hnews,hone⟩:=HR5.out.all KT_ok (by decide)
           have hc:=aD (HC.out.2 _ (HT.out.trans (Tn.of_below HB.out)) j _ HV.out)
           obtain⟨g',w6,hrun,hR6,hE6,hT6⟩:=((HF.out.below KT_ok HB.out) j _ HV.out).many KT_ok KT_sty 25 (c:=64) hl (by decide) hnews hone (by show n+64<=_;omega)
           have hF6:=Full.one KT_ok hD (HF.out.below KT_ok HB.out) HV.out hT6 hR6
           have hG6:=Gsl.one KT_ok hD (HGS.out.below KT_ok HB.out) HIN.out HGW.out HV.out hT6
           obtain⟨u,hgc,hgf⟩:=hG6.cell (k:=j) (by have:=HM.out;omega)
           obtain⟨-,hG',hT'⟩:=hG6.put KT_ok (by decide) (by decide) HV.out (hE6.less (Nat.le_refl _) (Nat.le_trans HT.out.size HB.out.size))
           obtain⟨h,cap,cur,e,-⟩:=hE6
           subst e
           have HG':=hid hG'
           have HF':=hid (hF6.put KT_ok HIN.out HGW.out hT')
           have HT':=hid ((((HT.out.trans (Tn.of_below HB.out)).trans (hT6.inV HV.out))).trans' hT' λ b hb e=>by have:=HGW.out;omega)
           clear hF6 hG6 hG' hT' hT6 hR6 HR5 HB HF HGS HT hl hnews hone
           go_wp2_with (at_builtin;refine aR rfl _ _ 25 rfl _ _ _ rfl rfl hrun ?_)
           go_roundw
           case rel=>exact⟨j+1,by go_num,by omega,HF'.out,HG'.out,HT'.out⟩
           case measure=>simp[intOf];omega
        ·have r1:decide ((j:Int)<(m:Int))=false:=decide_eq_false (by omega)
         obtain rfl:j=m:=by omega
         have HF:=hid hF
         have HGS:=hid hGs
         have HT:=hid hT
         clear hF hGs hT
         go_wp2_with fail
         obtain⟨w7,hw7⟩:∃w7:World,w7=wr:=⟨_,rfl⟩
         subst hw7
         obtain⟨m,hm⟩:∃m:Nat,m=j:=⟨_,rfl⟩
         subst hm
         clear hlt
         go_loopw [14] (λ i wr=>∃j:Nat,i=.int .i64 j/\j<=m/\Below w7.heap.size w7 wr) (λ i _=>m-(intOf i).toNat)
         case atStart=>exact⟨0,rfl,Nat.zero_le _,Below.refl _ _⟩
         case round =>
          obtain⟨j,rfl,hj,hB⟩:=hrel
          by_cases hlt:j<m
          ·have r1:decide ((j:Int)<(m:Int))=true:=decide_eq_true (by omega)
           obtain⟨v,hv⟩:∃v,vs[j]? = some v:=⟨_,List.getElem?_eq_getElem (by have:=HM.out;omega)⟩
           obtain⟨p,n,c,rfl,hnc,hcc⟩:=(HF.out j v hv).isSlice
           unfold maxLen at hcc
           obtain⟨rfl,hn⟩:=HL.out j _ hv
           replace hn:n<=1000000000:=hn
           have HV:=hid hv
           have HB:=hid hB
           clear hv hB
           obtain⟨u,hgc,hgf,hE⟩:=HGS.out.get hlt HV.out
           obtain⟨h,cap,cur,rfl,-,-,hq1,hq2,-⟩:=id hE
           unfold maxLen at hq2
           replace hq1:n+64<=cap:=hq1
           have HU:Hid (U w7 G j=some (.slice (some ⟨h,0,none⟩) (n+64) cap)):=hid (nJ hgc hgf)
           have HE:=hid hE
           clear hgc hgf hE
           go_wp2_with fail
           go_loopw [15] (λ i wr=>∃t:Nat,i=.int .i64 t/\t<=n/\Below w7.heap.size w7 wr) (λ i _=>n-(intOf i).toNat)
           case atStart=>exact⟨0,rfl,Nat.zero_le _,HB.out⟩
           case round =>
            clear HB
            obtain⟨t,rfl,ht,hB⟩:=hrel
            have hug:=aE hB _ _ _ (aL HU.out) HU.out
            have hul:=HC.out.2 _ (HT.out.trans (Tn.of_below hB)) j _ HV.out
            have hlc:=aD hul
            have HB:=hid hB
            clear hB
            by_cases htn:t<n
            ·have r2:decide ((t:Int)<(n:Int))=true:=decide_eq_true (by omega)
             have q1:(0:Int)<=(t:Int):=by omega
             have q2:(t:Int)<(n:Int)+64:=by omega
             have q3:(t:Int)<(n:Int):=by omega
             obtain⟨g,rfl,-⟩:=(HF.out j _ HV.out).lies (by omega)
             obtain⟨xs,hcel,hrg⟩:=(HF.out j _ HV.out).getU (show t<vn (.slice (some ⟨g,0,none⟩) n c) from htn)
             have HCEL:=hid hcel
             have HRG:=hid hrg
             clear hcel hrg
             have hxs:xs=[.int .i64 0,.int .i64 (mk j t),.int .i64 0,.slice none 0 0,.slice none 0 0]:=HCEL.out
             subst hxs
             have c0:∀n':GrownB wr.heap.size wr,n'.it.cell? ⟨g,t*5,none⟩=some (.int .i64 0):=GrownB.cell (aE HB.out _ _ _ (aL (HRG.out 0 _ rfl)) (HRG.out 0 _ rfl)) (Nat.lt_of_lt_of_le (aL (HRG.out 0 _ rfl)) HB.out.size)
             have c1:∀n':GrownB wr.heap.size wr,n'.it.cell? ⟨g,t*5+1,none⟩=some (.int .i64 (mk j t)):=GrownB.cell (aE HB.out _ _ _ (aL (HRG.out 1 _ rfl)) (HRG.out 1 _ rfl)) (Nat.lt_of_lt_of_le (aL (HRG.out 1 _ rfl)) HB.out.size)
             have c2:∀n':GrownB wr.heap.size wr,n'.it.cell? ⟨g,t*5+2,none⟩=some (.int .i64 0):=GrownB.cell (aE HB.out _ _ _ (aL (HRG.out 2 _ rfl)) (HRG.out 2 _ rfl)) (Nat.lt_of_lt_of_le (aL (HRG.out 2 _ rfl)) HB.out.size)
             have c3:∀n':GrownB wr.heap.size wr,n'.it.cell? ⟨g,t*5+3,none⟩=some (.slice none 0 0):=GrownB.cell (aE HB.out _ _ _ (aL (HRG.out 3 _ rfl)) (HRG.out 3 _ rfl)) (Nat.lt_of_lt_of_le (aL (HRG.out 3 _ rfl)) HB.out.size)
             have c4:∀n':GrownB wr.heap.size wr,n'.it.cell? ⟨g,t*5+4,none⟩=some (.slice none 0 0):=GrownB.cell (aE HB.out _ _ _ (aL (HRG.out 4 _ rfl)) (HRG.out 4 _ rfl)) (Nat.lt_of_lt_of_le (aL (HRG.out 4 _ rfl)) HB.out.size)
             obtain⟨xs,hcel,hrg⟩:=HE.out.getU (show t<vn (.slice (some ⟨g,0,none⟩) n c)+0 from htn)
             have HCEL2:=hid hcel
             have HRG2:=hid hrg
             clear hcel hrg
             have hxs:xs=[.int .i64 0,.int .i64 (mk j t),.int .i64 0,.slice none 0 0,.slice none 0 0]:=HCEL2.out
             subst hxs
             have d0:∀n':GrownB wr.heap.size wr,n'.it.cell? ⟨h,t*5,none⟩=some (.int .i64 0):=GrownB.cell (aE HB.out _ _ _ (aL (HRG2.out 0 _ rfl)) (HRG2.out 0 _ rfl)) (Nat.lt_of_lt_of_le (aL (HRG2.out 0 _ rfl)) HB.out.size)
             have d1:∀n':GrownB wr.heap.size wr,n'.it.cell? ⟨h,t*5+1,none⟩=some (.int .i64 (mk j t)):=GrownB.cell (aE HB.out _ _ _ (aL (HRG2.out 1 _ rfl)) (HRG2.out 1 _ rfl)) (Nat.lt_of_lt_of_le (aL (HRG2.out 1 _ rfl)) HB.out.size)
             have d2:∀n':GrownB wr.heap.size wr,n'.it.cell? ⟨h,t*5+2,none⟩=some (.int .i64 0):=GrownB.cell (aE HB.out _ _ _ (aL (HRG2.out 2 _ rfl)) (HRG2.out 2 _ rfl)) (Nat.lt_of_lt_of_le (aL (HRG2.out 2 _ rfl)) HB.out.size)
             have d3:∀n':GrownB wr.heap.size wr,n'.it.cell? ⟨h,t*5+3,none⟩=some (.slice none 0 0):=GrownB.cell (aE HB.out _ _ _ (aL (HRG2.out 3 _ rfl)) (HRG2.out 3 _ rfl)) (Nat.lt_of_lt_of_le (aL (HRG2.out 3 _ rfl)) HB.out.size)
             have d4:∀n':GrownB wr.heap.size wr,n'.it.cell? ⟨h,t*5+4,none⟩=some (.slice none 0 0):=GrownB.cell (aE HB.out _ _ _ (aL (HRG2.out 4 _ rfl)) (HRG2.out 4 _ rfl)) (Nat.lt_of_lt_of_le (aL (HRG2.out 4 _ rfl)) HB.out.size)
             have hgB:=GrownB.cell hug (aL hug)
             have hlB:=GrownB.cell hul (aL hul)
             clear hug hul
             go_wp2_with fail
             refine cV wr.heap.size [0,1,2,3,4,5,6,7,8] (by decide) (by kernel_rfl) (by kernel_rfl) (by kernel_rfl) (by kernel_rfl) (λ _ _ d _ _ h=>by cases d<;>exact h) ?_
             simp only[List.map_cons,List.map_nil,List.getD_cons_zero,List.getD_cons_succ,bar,bH,List.size_toArray,List.length_cons,List.length_nil,Nat.zero_add,Nat.reduceAdd,if_true,if_false,Bool.false_eq_true]
             repeat (go_big_quiet_step (fail))
             refine wpQuiet_nil ?_
             clear c0 c1 c2 c3 c4
             refine aP (i:=9) (fuel:=16) (by kernel_rfl) rfl (by rfl) (λ K' hK=>?_)
             go_simp
             refine (HMK.out j t _ (by omega) (by omega)).mono ?_
             rintro e wx ⟨ys,rfl,hcy,hbx⟩
             have hAx:Below wr.heap.size wr wx:=aB (aZ wr) hbx
             refine hK.out _ _ ⟨⟨wx,hAx⟩,rfl⟩ (λ _=>?_)
             clear hK K'
             refine aP (i:=10) (fuel:=15) (by kernel_rfl) rfl (by rfl) (λ K' hK=>?_)
             go_simp
             refine (HSM.out _ wx _ _ (KT_ok.below HCEL.out (aB HB.out hAx)) hcy).mono ?_
             rintro e wy ⟨rfl,hby⟩
             have hAy:Below wr.heap.size wr wy:=aB hAx hby
             refine hK.out _ _ ⟨⟨wy,hAy⟩,rfl⟩ (λ _=>?_)
             clear hK K' hcy hbx hby hAx
             refine bR (by kernel_rfl) (λ _ _ d _ _ h=>by cases d<;>exact h) ⟨⟨wy,hAy⟩,rfl⟩ 4 [11,12,13,14,15,16,17,18,19,20,21] _ _ (by kernel_rfl) (by kernel_rfl) ?_
             simp only[List.map_cons,List.map_nil,List.getD_cons_zero,List.getD_cons_succ,bar,bH,List.size_toArray,List.length_cons,List.length_nil,Nat.zero_add,Nat.reduceAdd,if_true,if_false,Bool.false_eq_true]
             repeat (go_big_quiet_step (fail))
             refine wpQuiet_nil ?_
             clear d0 d1 d2 d3 d4 hgB
             refine aP (i:=22) (fuel:=3) (by kernel_rfl) rfl (by rfl) (λ K' hK=>?_)
             go_simp
             refine (HMK.out j t _ (by omega) (by omega)).mono ?_
             rintro e wz ⟨ys,rfl,hcy,hbz⟩
             have hAz:Below wr.heap.size wr wz:=aB hAy hbz
             refine hK.out _ _ ⟨⟨wz,hAz⟩,rfl⟩ (λ _=>?_)
             clear hK K'
             refine aP (i:=23) (fuel:=2) (by kernel_rfl) rfl (by rfl) (λ K' hK=>?_)
             go_simp
             refine (HSM.out _ wz _ _ (KT_ok.below HCEL2.out (aB HB.out hAz)) hcy).mono ?_
             rintro e wv ⟨rfl,hbv⟩
             have hAv:Below wr.heap.size wr wv:=aB hAz hbv
             refine hK.out _ _ ⟨⟨wv,hAv⟩,rfl⟩ (λ _=>?_)
             clear hK K' hcy hbz hbv hAz
             refine bR (by kernel_rfl) (λ _ _ d _ _ h=>by cases d<;>exact h) ⟨⟨wv,hAv⟩,rfl⟩ 0 [24,25] _ _ (by kernel_rfl) (by kernel_rfl) ?_
             simp only[List.map_cons,List.map_nil,List.getD_cons_zero,List.getD_cons_succ,bar,bH,List.size_toArray,List.length_cons,List.length_nil,Nat.zero_add,Nat.reduceAdd,if_true,if_false,Bool.false_eq_true]
             repeat (go_big_quiet_step (fail))
             refine wpQuiet_nil ?_
             refine wpAnyH_done (by kernel_rfl) ?_ _
             have HAV:=hid hAv
             clear hAv hAy
             go_wp2_with fail
             go_roundw
             case rel=>exact⟨t+1,by go_num,by omega,aB HB.out HAV.out⟩
             case measure=>simp[intOf];omega
            ·have r2:decide ((t:Int)<(n:Int))=false:=decide_eq_false (by omega)
             clear hug hul
             go_wp2_with fail
             go_roundw
             case rel=>exact⟨j+1,by go_num,by omega,HB.out⟩
             case measure=>simp[intOf];omega
          ·have r1:decide ((j:Int)<(m:Int))=false:=decide_eq_false (by omega)
           have HB:=hid hB
           clear hB
           go_wp2_with fail
           go_ret
           exact⟨rfl,HT.out.trans (Tn.of_below HB.out)⟩
end
section
def Lies(F:Mem)(B0:Nat)(w:World):Prop:=∀b o u,b<B0->F b o=some u->U w b o=some u
theorem Lies.on{F:Mem}{B0:Nat}{w w':World}(h:Lies F B0 w)(hb:Below B0 w w'):Lies F B0 w':=λ b o u hl hu=>aE hb b o u hl (h b o u hl hu)
theorem Z4(β B0:Nat)(f:Nat->List Value)(p:Option Addr)(n c:Nat)(w:World)(h:BagAt w β B0 f)(hB:B0<=w.heap.size)(hn:(f 7).length+1<=100000000000) :
  Calls prog 279 #[.pointer (some ⟨β,0,none⟩),.slice p n c] w λ e w'=>e=.returned (.tuple #[])/\BagAt w' β B0 (eC f [.slice p n c] [] [])/\PF B0 w w':=by
 obtain⟨v,v',w2,hc1,hc2,hr,⟨a,m,d,rfl⟩,⟨u,hc3⟩,hf3,hbag,hbel⟩:=h.put (P:=prog) (i:=7) KPS_sty rfl rfl 131 (by decide) (.slice p n c) rfl hn hB
 rw[fadd7] at hbag
 have HBAG:=hid hbag
 have HBEL:=hid hbel
 clear hbag hbel h
 go_enter func279,ntmps279
 go_wp2_with (at_builtin;refine aR rfl _ _ 131 rfl _ _ _ rfl rfl hr ?_)
 go_end0
 exact⟨rfl,HBAG.out,HBEL.out⟩
theorem AA(β B0:Nat)(f:Nat->List Value)(p:Option Addr)(n c:Nat)(w:World)(h:BagAt w β B0 f)(hB:B0<=w.heap.size)(hn:(f 7).length+1<=100000000000) :
  Calls prog 269 #[.pointer (some ⟨β,0,none⟩),.agg #[.slice p n c]] w λ e w'=>e=.returned (.tuple #[])/\BagAt w' β B0 (eC f [.slice p n c] [] [])/\PF B0 w w':=by
 have hb:=aA w (.cells #[.slice p n c] 30)
 have HP:=hid (Z4 β B0 f p n c (w.alloc (.cells #[.slice p n c] 30)) (h.below hb) (Nat.le_trans hB hb.size) hn)
 have HB:=hid (PF.of_below hb hB)
 clear h hb
 go_enter func269,ntmps269
 go_wp2_with fail
 refine HP.out.mono ?_
 rintro e w1 ⟨rfl,h1,h2⟩
 have H1:=hid h1
 have H2:=hid (HB.out.trans h2)
 clear h1 h2
 go_wp2_with fail
 go_end0
 exact⟨rfl,H1.out,H2.out⟩
theorem O1(β B0:Nat)(F:Mem)(f:Nat->List Value)(v:Value)(us:List Value)(w:World)(h:BagAt w β B0 f)(hF:Lies F B0 w)(hB:B0<=w.heap.size)(hv:GL F B0 v us)(hn:(f 7).length+us.length<=10000000000)(hn8:(f 8).length+1<=10000000000) :
  Calls prog 251 #[.pointer (some ⟨β,0,none⟩),v] w λ e w'=>e=.returned (.tuple #[])/\BagAt w' β B0 (eC f us [v] [])/\PF B0 w w':=by
 obtain⟨p,c,rfl,hc1,hc2,hlie⟩:=hv
 unfold maxLen at hc2
 obtain⟨v,v',w2,hc3,hc4,hr,⟨a,m,d,rfl⟩,⟨u,hc5⟩,hf3,hbag,hbel⟩:=h.put (P:=prog) (i:=8) KLS_sty rfl rfl 132 (by decide) (.slice p us.length c) rfl (by omega) hB
 rw[fadd8] at hbag
 obtain⟨n,hus⟩:∃n,us.length=n:=⟨_,rfl⟩
 have HN:=hid hus
 rw[hus] at hr hbag hlie hc1 hn ⊢
 have HBAG:=hid hbag
 have HBEL:=hid hbel
 have HLIE:=hid hlie
 have HF:=hid (hF.on hbel.below)
 have hf7:eC f [] [.slice p n c] [] 7=f 7:=by simp[eC]
 have HF7:=hid hf7
 clear hbag hbel h hlie hF hus hf7
 obtain⟨wb,hwb⟩:∃wb,w2.setCell ⟨β,8,none⟩ (.slice a m d)=wb:=⟨_,rfl⟩
 rw[hwb] at HBAG HBEL HF
 go_enter func251,ntmps251
 go_wp2_with (at_builtin;refine aR rfl _ _ 132 rfl _ _ _ rfl rfl hr ?_)
 clear hwb hc3 hc4 hr hc5 hf3
 go_loopw [4] (λ i wr=>∃j:Nat,i=.int .i64 j/\j<=n/\BagAt wr β B0 (eC f (us.take j) [.slice p n c] [])/\PF B0 wb wr) (λ i _=>n-(intOf i).toNat)
 case atStart=>exact⟨0,rfl,Nat.zero_le _,HBAG.out,PF.refl _ _⟩
 case round =>
  clear HBAG
  obtain⟨j,rfl,hj,hG,hL⟩:=hrel
  by_cases hlt:j<n
  ·have r1:decide ((j:Int)<(n:Int))=true:=decide_eq_true (by omega)
   obtain⟨b,o,rfl,hb0,hcs⟩:=HLIE.out (by omega)
   obtain⟨u,hu⟩:∃u,us[j]? = some u:=⟨_,List.getElem?_eq_getElem (by have:=HN.out;omega)⟩
   obtain⟨hFu,p',n',c',rfl⟩:=hcs j u hu
   have hcu:=aD (HF.out.on hL.below _ _ _ hb0 hFu)
   have HG:=hid hG
   have HL:=hid hL
   have HO:=hid (AA β B0 _ p' n' c' wr hG (Nat.le_trans hB (Nat.le_trans HBEL.out.below.size hL.below.size)) (by simp[eC];omega))
   rw[pF] at HO
   have ht:us.take j++[.slice p' n' c']=us.take (j+1):=by rw[List.take_add_one,hu];rfl
   rw[ht,List.append_nil,List.append_nil] at HO
   clear hG hL hcs hu hFu ht
   go_wp2_with fail
   refine HO.out.mono ?_
   rintro e w3 ⟨rfl,h1,h2⟩
   have H1:=hid h1
   have H2:=hid (HL.out.trans h2)
   clear h1 h2 HO HG HL hcu
   go_wp2_with fail
   go_roundw
   case rel=>exact⟨j+1,by go_num,by omega,H1.out,H2.out⟩
   case measure=>simp[intOf];omega
  ·have r1:decide ((j:Int)<(n:Int))=false:=decide_eq_false (by omega)
   obtain rfl:j=n:=by omega
   have HG:=hid hG
   have HL:=hid hL
   rw[show us.take j=us from by rw[<-HN.out];exact List.take_length] at HG
   clear hG hL
   go_wp2_with fail
   go_end0
   exact⟨rfl,HG.out,HBEL.out.trans HL.out⟩
theorem PF.cell{B0:Nat}{w w':World}(h:PF B0 w w'){b:Nat}{cs:Array Value}{e:Nat}(he:e≠140/\∀i,i<17->e≠tyB i)(hb:w.heap[b]? = some (Obj.cells cs e (0,0)))(o:Nat):w'.cell? ⟨b,o,none⟩=cs[o]?:=by
 simp[World.cell?,h.keep b cs e he.1 he.2 hb]
theorem ty26:(27:Nat)≠140/\∀i,i<17->(27:Nat)≠tyB i:=by decide
theorem E6(β B0:Nat)(F:Mem)(f:Nat->List Value)(n0 n1 n2:Int)(us:List Value)(p q:Option Addr)(n c m d:Nat)(y:VT)(w:World)(h:BagAt w β B0 f)(hF:Lies F B0 w)(hB:B0<=w.heap.size)(hl:GL F B0 (.slice p n c) us)(hn7:(f 7).length+us.length<=10000000000)(hn8:(f 8).length+1<=10000000000)
  (hk:∀w',BagAt w' β B0 (eC f us [.slice p n c] [])->Lies F B0 w'->B0<=w'.heap.size->Calls prog 120 #[.pointer (some ⟨β,0,none⟩),.slice q m d] w' λ e w2=>e=.returned (.tuple #[])/\BagAt w2 β B0 (eC (eC f us [.slice p n c] []) y.P y.L (.slice q m d :: y.T))/\PF B0 w' w2) :
  Calls prog 218 #[.pointer (some ⟨β,0,none⟩),.agg #[.int .i64 n0,.int .i64 n1,.int .i64 n2,.slice p n c,.slice q m d]] w λ e w'=>e=.returned (.tuple #[])/\BagAt w' β B0 (eC f (us++y.P) (.slice p n c :: y.L) (.slice q m d :: y.T))/\PF B0 w w':=by
 have hb:=aA w (.cells #[.int .i64 n0,.int .i64 n1,.int .i64 n2,.slice p n c,.slice q m d] 27)
 have hg:=heap_alloc_new w (.cells #[.int .i64 n0,.int .i64 n1,.int .i64 n2,.slice p n c,.slice q m d] 27)
 obtain⟨W,hW⟩:∃W,w.alloc (.cells #[.int .i64 n0,.int .i64 n1,.int .i64 n2,.slice p n c,.slice q m d] 27)=W:=⟨_,rfl⟩
 obtain⟨g,hgs⟩:∃g,w.heap.size=g:=⟨_,rfl⟩
 have HW:=hid hW
 rw[hW] at hb hg
 rw[hgs] at hg
 have hc:W.cell? ⟨g,3,none⟩=some (.slice p n c):=by simp[World.cell?,hg]
 have HP:=hid (O1 β B0 F f _ us W (h.below hb) (hF.on (hb.mono hB)) (Nat.le_trans hB hb.size) hl hn7 hn8)
 have HB:=hid (PF.of_below hb hB)
 have HG:=hid hg
 have HF:=hid hF
 have HK:=hid hk
 have HBS:=hid hB
 clear h hb hg hl hF hk hB hn7 hn8
 go_enter func218,ntmps218
 go_wp2_with fail
 refine HP.out.mono ?_
 rintro e w1 ⟨rfl,h1,h2⟩
 have hc4:w1.cell? ⟨g,4,none⟩=some (.slice q m d):=by rw[h2.cell ty26 HG.out];rfl
 have H2:=HB.out.trans h2
 have HKK:=hid (HK.out w1 h1 (HF.out.on H2.below) (Nat.le_trans HBS.out H2.below.size))
 have HH2:=hid H2
 clear h1 h2 H2 hc
 go_wp2_with fail
 refine HKK.out.mono ?_
 rintro e w3 ⟨rfl,h3,h4⟩
 rw[pF] at h3
 have H3:=hid h3
 have H4:=hid (HH2.out.trans h4)
 clear h3 h4
 go_wp2_with fail
 go_end0
 exact⟨rfl,H3.out,H4.out⟩
theorem Z3(β B0:Nat)(F:Mem)(M:Nat):∀(x:VT) (f:Nat->List Value) (v:Value) (w:World),x.size<M->BagAt w β B0 f->Lies F B0 w->B0<=w.heap.size->GK F B0 v x->(f 7).length+x.size<=1000000000->(f 8).length+x.size<=1000000000->(f 9).length+x.size+1<=1000000000 ->
  Calls prog 120 #[.pointer (some ⟨β,0,none⟩),v] w λ e w'=>e=.returned (.tuple #[])/\BagAt w' β B0 (eC f x.P x.L (v :: x.T))/\PF B0 w w':=by
 induction M with
 | zero=>intro x f v w hM;omega
 | succ M ih =>
  intro x f v w hM h hF hB hv hn7 hn8 hn9
  obtain⟨p,c,rfl,hc1,hc2,hlie⟩:=hv
  unfold maxLen at hc2
  have hx:=x.len_le
  obtain⟨v,v',w2,hc3,hc4,hr,⟨a,m,d,rfl⟩,⟨u,hc5⟩,hf3,hbag,hbel⟩:=h.put (P:=prog) (i:=9) KTS_sty rfl rfl 66 (by decide) (.slice p x.len c) rfl (by omega) hB
  rw[fadd9] at hbag
  obtain⟨n,hus⟩:∃n,x.len=n:=⟨_,rfl⟩
  have HN:=hid hus
  rw[hus] at hr hbag hlie hc1 hx ⊢
  have HBAG:=hid hbag
  have HBEL:=hid hbel
  have HLIE:=hid hlie
  have HF:=hid (hF.on hbel.below)
  have HM:=hid hM
  have HIH:=hid ih
  clear hbag hbel h hlie hF hus hM ih
  obtain⟨wb,hwb⟩:∃wb,w2.setCell ⟨β,9,none⟩ (.slice a m d)=wb:=⟨_,rfl⟩
  rw[hwb] at HBAG HBEL HF
  go_enter func120,ntmps120
  go_wp2_with (at_builtin;refine aR rfl _ _ 66 rfl _ _ _ rfl rfl hr ?_)
  clear hwb hc3 hc4 hr hc5 hf3
  go_loopw [4] (λ i wr=>∃x1 x2:VT,x1.app x2=x/\i=.int .i64 x1.len/\BagAt wr β B0 (eC f x1.P x1.L (.slice p n c :: x1.T))/\PF B0 wb wr) (λ i _=>n-(intOf i).toNat)
  case atStart=>exact⟨.nil,x,rfl,rfl,HBAG.out,PF.refl _ _⟩
  case round =>
   clear HBAG
   obtain⟨x1,x2,hxx,rfl,hG,hL⟩:=hrel
   obtain⟨j,hj⟩:∃j,x1.len=j:=⟨_,rfl⟩
   rw[hj]
   have hlen:x1.len+x2.len=n:=by rw[<-VT.app_len,hxx];exact HN.out
   have HX:=hid hxx
   have HJ:=hid hj
   cases x2 with
   | nil =>
    obtain rfl:j=n:=by rw[<-hj];simpa[VT.len] using hlen
    have r1:decide ((j:Int)<(j:Int))=false:=decide_eq_false (by omega)
    have HG:=hid hG
    have HL:=hid hL
    rw[show x1=x from by rw[<-hxx];exact (VT.app_nil x1).symm] at HG
    clear hG hL hxx hj hlen
    go_wp2_with fail
    go_end0
    exact⟨rfl,HG.out,HBEL.out.trans HL.out⟩
   | cons us vl vk y r =>
    have hlt:j<n:=by rw[<-hj];simp[VT.len] at hlen;omega
    have r1:decide ((j:Int)<(n:Int))=true:=decide_eq_true (by omega)
    obtain⟨b,o,rfl,hb0,hGT⟩:=HLIE.out (by omega)
    rw[<-hxx,GTs.app,hj] at hGT
    obtain⟨-,⟨n0,n1,n2,k0,k1,k2⟩,k3,k4,hgl,hgk,-⟩:=hGT
    obtain⟨pl,cl,rfl,-⟩:=id hgl
    obtain⟨pk,ck,rfl,-⟩:=id hgk
    have hsz:x1.size+(us.length+y.size+r.size+2)=x.size:=by rw[<-hxx,VT.app_size];rfl
    have hln:=x1.lens
    have hFl:=HF.out.on hL.below
    have e0:=aD (hFl _ _ _ hb0 k0)
    have e1:=aD (hFl _ _ _ hb0 k1)
    have e2:=aD (hFl _ _ _ hb0 k2)
    have e3:=aD (hFl _ _ _ hb0 k3)
    have e4:=aD (hFl _ _ _ hb0 k4)
    have hBr:B0<=wr.heap.size:=Nat.le_trans hB (Nat.le_trans HBEL.out.below.size hL.below.size)
    have HO:=hid (E6 β B0 F _ n0 n1 n2 us pl pk us.length cl y.len ck y wr hG hFl hBr hgl (by simp[eC];omega) (by simp[eC];omega) λ w' g1 g2 g3 =>
     HIH.out y _ _ w' (by have:=HM.out;omega) g1 g2 g3 hgk (by simp[eC];omega) (by simp[eC];omega) (by simp[eC];omega))
    rw[pF] at HO
    have hP:x1.P++(us++y.P)=(x1.app (.cons us (.slice pl us.length cl) (.slice pk y.len ck) y .nil)).P:=by rw[VT.app_P];simp[VT.P]
    have hL2:x1.L++(.slice pl us.length cl :: y.L)=(x1.app (.cons us (.slice pl us.length cl) (.slice pk y.len ck) y .nil)).L:=by rw[VT.app_L];simp[VT.L]
    have hT:.slice (some ⟨b,o,none⟩) n c :: x1.T++(.slice pk y.len ck :: y.T)=Value.slice (some ⟨b,o,none⟩) n c :: (x1.app (.cons us (.slice pl us.length cl) (.slice pk y.len ck) y .nil)).T:=by rw[VT.app_T];simp[VT.T]
    rw[hP,hL2,hT] at HO
    have hj1:(x1.app (.cons us (.slice pl us.length cl) (.slice pk y.len ck) y .nil)).len=j+1:=by rw[VT.app_len,hj];rfl
    have hx2:(x1.app (.cons us (.slice pl us.length cl) (.slice pk y.len ck) y .nil)).app r=x:=by rw[VT.app_assoc];exact hxx
    have HX2:=hid hx2
    have HJ1:=hid hj1
    have HLL:=hid hL
    obtain⟨z,hz⟩:∃z,x1.app (.cons us (.slice pl us.length cl) (.slice pk y.len ck) y .nil)=z:=⟨_,rfl⟩
    obtain⟨u1,hu1⟩:∃u1,us.length=u1:=⟨_,rfl⟩
    obtain⟨u2,hu2⟩:∃u2,y.len=u2:=⟨_,rfl⟩
    rw[hz] at HO HX2 HJ1
    rw[hu1] at e3 HO
    rw[hu2] at e4 HO
    clear k0 k1 k2 k3 k4 hgl hgk hFl hBr hP hL2 hT hj1 hx2 hL hG hxx hsz hln hz hu1 hu2 hj HX HJ
    go_wp2_with fail
    refine HO.out.mono ?_
    rintro e w3 ⟨rfl,h1,h2⟩
    have H1:=hid h1
    have H2:=hid (HLL.out.trans h2)
    clear h1 h2 HO HLL e0 e1 e2 e3 e4
    go_wp2_with fail
    go_roundw
    case rel=>exact⟨z,r,HX2.out,by rw[HJ1.out];go_num,H1.out,H2.out⟩
    case measure=>simp[intOf];omega
end
section
def RowX(w:World)(base sz e N:Nat)(v:Value)(B:List Nat):Prop:=∃m xs,RowO w base sz e v m xs B/\m<=N*sz
def Ows(w:World)(base sz e N:Nat):List Value->List Nat->Prop
 | [],Bs=>Bs=[]
 | v :: vs,Bs=>∃B Bs',RowX w base sz e N v B/\Ows w base sz e N vs Bs'/\Bs=B++Bs'
theorem Ows.app{w:World}{base sz e N:Nat}{us:List Value}{Bs':List Nat}(h2:Ows w base sz e N us Bs'):∀ {vs:List Value} {Bs:List Nat},Ows w base sz e N vs Bs->Ows w base sz e N (vs++us) (Bs++Bs')
 | [],_,h=>by cases h;exact h2
 | v :: vs,_,⟨B,Bs1,h3,h4,e⟩=>⟨B,Bs1++Bs',h3,h2.app h4,by rw[e,List.append_assoc]⟩
theorem Ows.mono{w:World}{base sz e N N':Nat}(hN:N<=N'):∀ {vs:List Value} {Bs:List Nat},Ows w base sz e N vs Bs->Ows w base sz e N' vs Bs
 | [],_,h=>h
 | v :: vs,_,⟨B,Bs1,⟨m,xs,h3,h4⟩,h5,e⟩=>⟨B,Bs1,⟨m,xs,h3,Nat.le_trans h4 (Nat.mul_le_mul_right _ hN)⟩,h5.mono hN,e⟩
theorem RowX.typed{w:World}{base sz e N:Nat}{v:Value}{B:List Nat}(h:RowX w base sz e N v B):∀b∈B,base<=b/\∃cur,w.heap[b]? = some (Obj.cells cur e (0,0)):=by
 obtain⟨m,xs,h,-⟩:=h
 rcases h with ⟨p,-,-,-,rfl⟩|⟨g,n,cap,cur,rfl,-,hb,hg,-⟩
 ·intro b hb;cases hb
 ·intro b hm
  obtain rfl:b=g:=by simpa using hm
  exact⟨hb,cur,hg⟩
theorem Ows.typed{w:World}{base sz e N:Nat}:∀ {vs:List Value} {Bs:List Nat},Ows w base sz e N vs Bs->∀b∈Bs,base<=b/\∃cur,w.heap[b]? = some (Obj.cells cur e (0,0))
 | [],_,h,b,hb=>by cases h;cases hb
 | v :: vs,_,⟨B,Bs1,h3,h4,e⟩,b,hb=>by
  subst e
  rcases List.mem_append.1 hb with hb|hb
  ·exact h3.typed b hb
  ·exact h4.typed b hb
theorem RowX.kept{w w':World}{base sz e N:Nat}{v:Value}{B:List Nat}(h:RowX w base sz e N v B)(hk:∀b∈B,w'.heap[b]? = w.heap[b]?):RowX w' base sz e N v B:=by
 obtain⟨m,xs,h,hm⟩:=h
 exact⟨m,xs,h.kept hk,hm⟩
theorem Ows.kept{w w':World}{base sz e N:Nat}:∀ {vs:List Value} {Bs:List Nat},Ows w base sz e N vs Bs->(∀b∈Bs,w'.heap[b]? = w.heap[b]?)->Ows w' base sz e N vs Bs
 | [],_,h,_=>h
 | v :: vs,_,⟨B,Bs1,h3,h4,e⟩,hk=>by
  subst e
  exact⟨B,Bs1,h3.kept λ b hb=>hk b (List.mem_append_left _ hb),h4.kept λ b hb=>hk b (List.mem_append_right _ hb),rfl⟩
theorem RowX.lower{w:World}{base base' sz e N:Nat}{v:Value}{B:List Nat}(h:RowX w base sz e N v B)(hl:base'<=base):RowX w base' sz e N v B:=by
 obtain⟨m,xs,h,hm⟩:=h
 exact⟨m,xs,h.lower hl,hm⟩
theorem RowX.vb{w:World}{base sz e N:Nat}{v:Value}{B:List Nat}(h:RowX w base sz e N v B){b:Nat}(hb:vb v=some b):b∈B:=by
 obtain⟨m,xs,h,-⟩:=h
 rcases h with ⟨p,rfl,-,-,rfl⟩|⟨g,n,cap,cur,rfl,rfl,-,hg,-⟩
 ·cases p<;>cases hb
 ·cases cap with
  | zero=>cases hb
  | succ c=>cases hb;exact List.mem_singleton.2 rfl
theorem RowX.rowI{K:Kd}(hp:0<K.sz){w:World}{base N:Nat}{v:Value}{B:List Nat}(h:RowX w base K.sz K.e N v B)(k:Nat):RowI K 0 w v 0 k/\vn v<=N:=by
 obtain⟨m,xs,h,hm⟩:=h
 rcases h with ⟨p,rfl,-,-,rfl⟩|⟨g,n,cap,cur,rfl,rfl,-,hg,h3,h4,h5,h6,-⟩
 ·exact⟨.inl ⟨p,rfl,rfl⟩,Nat.zero_le _⟩
 ·have hn:n<=N:=by rw[h6] at hm;exact Nat.le_of_mul_le_mul_right hm hp
  refine⟨?_,hn⟩
  by_cases h0:cap=0
  ·subst h0
   obtain rfl:n=0:=by omega
   exact .inl ⟨_,rfl,rfl⟩
  ·exact .inr ⟨g,n,cap,cur,rfl,Nat.zero_le _,hg,h3,by omega,h4,h5,Nat.zero_le _,λ i hi=>by omega⟩
theorem Ows.at_{w:World}{base sz e N:Nat}:∀ {vs:List Value} {Bs:List Nat},Ows w base sz e N vs Bs->∀(k:Nat) (v:Value),vs[k]? = some v->∃B,RowX w base sz e N v B/\∀b∈B,b∈Bs
 | [],_,_,k,v,hv=>by simp at hv
 | u :: vs,_,⟨B,Bs1,h3,h4,e⟩,k,v,hv=>by
  subst e
  cases k with
  | zero=>simp at hv;subst hv;exact⟨B,h3,λ b hb=>List.mem_append_left _ hb⟩
  | succ k =>
   obtain⟨B',h5,h6⟩:=h4.at_ k v (by simpa using hv)
   exact⟨B',h5,λ b hb=>List.mem_append_right _ (h6 b hb)⟩
theorem Ows.rows{K:Kd}(hp:0<K.sz){w:World}{base N:Nat}{vs:List Value}{Bs:List Nat}(h:Ows w base K.sz K.e N vs Bs):RowsG K 0 w vs (λ _=>0):=λ k v hv=>by
 obtain⟨B,h1,-⟩:=h.at_ k v hv
 exact (h1.rowI hp k).1
theorem Ows.inV{w:World}{base sz e N:Nat}{vs:List Value}{Bs:List Nat}(h:Ows w base sz e N vs Bs){b:Nat}(hb:InV vs b):b∈Bs:=by
 obtain⟨v,hv,e1⟩:=hb
 obtain⟨k,hk⟩:=List.getElem?_of_mem hv
 obtain⟨B,h1,h2⟩:=h.at_ k v hk
 exact h2 b (h1.vb e1)
theorem Ows.dist{w:World}{base sz e N:Nat}:∀ {vs:List Value} {Bs:List Nat},Ows w base sz e N vs Bs->Bs.Nodup->BV vs
 | [],_,_,_=>λ k k' v v' b hv=>by simp at hv
 | u :: vs,_,⟨B,Bs1,h3,h4,e⟩,hn=>by
  subst e
  obtain⟨-,n2,n3⟩:=List.nodup_append.1 hn
  have ih:=h4.dist n2
  intro k k' v v' b hv hv' hb hb'
  cases k with
  | zero =>
   cases k' with
   | zero=>rfl
   | succ k' =>
    simp at hv hv'
    subst hv
    obtain⟨B',h5,h6⟩:=h4.at_ k' v' hv'
    exact absurd rfl (n3 b (h3.vb hb) b (h6 b (h5.vb hb')))
  | succ k =>
   cases k' with
   | zero =>
    simp at hv hv'
    subst hv'
    obtain⟨B',h5,h6⟩:=h4.at_ k v hv
    exact absurd rfl (n3 b (h3.vb hb') b (h6 b (h5.vb hb)))
   | succ k'=>rw[ih k k' v v' b (by simpa using hv) (by simpa using hv') hb hb']
theorem E0{w:World}{base:Nat}{l:List Lv}:∀ {xs:List Value} {S:List Nat},Own w base (cB ty l) xs S->Ows w base 2 68 (aH l) xs S/\∀u∈xs,∃p n c,u=Value.slice p n c:=by
 induction l with
 | nil=>rintro xs S ⟨rfl,rfl⟩;exact⟨rfl,λ u hu=>by cases hu⟩
 | cons p r ih =>
  rintro xs S ⟨v,ys,zs,us,B,S1,S2,S3,rfl,h1,h2,h3,h4,rfl⟩
  obtain⟨rfl,rfl⟩:=h3
  have hS1:S1=[]:=by
   have:∀(p:Lv) (xs:List Value) (S:List Nat),Own w base (bY p) xs S->S=[]:=by
    intro p
    induction p with
    | nil=>rintro xs S ⟨-,rfl⟩;rfl
    | cons a r ih=>rintro xs S ⟨_,-,_,-,h⟩;exact ih _ _ h
   exact this p zs S1 h2
  subst hS1
  obtain⟨h5,h6⟩:=ih h4
  refine⟨⟨B,S3,⟨_,_,h1,?_⟩,h5.mono ?_,rfl⟩,λ u hu=>?_⟩
  ·rw[mU];exact Nat.mul_le_mul_right _ (by simp only[aH];omega)
  ·simp only[aH];omega
  ·rcases List.mem_cons.1 hu with rfl|hu
   ·rcases h1 with ⟨p,rfl,-⟩|⟨g,n,cap,cur,-,rfl,-⟩
    ·exact⟨_,_,_,rfl⟩
    ·exact⟨_,_,_,rfl⟩
   ·exact h6 u hu
theorem RowO.rowV{w:World}{base sz e:Nat}{v:Value}{xs:List Value}{B:List Nat}{n:Nat}(hs:0<sz)(h:RowO w base sz e v (n*sz) xs B):∃(p:Option Addr) (c:Nat),v=.slice p n c/\n<=c/\c<=maxLen/\(0<n->∃b,p=some ⟨b,0,none⟩/\b<w.heap.size/\∀j u,xs[j]? = some u->U w b (0+j)=some u):=by
 rcases h with ⟨p,rfl,h0,-⟩|⟨g,n',cap,cur,rfl,rfl,-,hg,h3,h4,h5,h6,h7,h8,h9⟩
 ·have hn:n=0:=by
   rcases Nat.mul_eq_zero.1 h0 with h|h
   ·exact h
   ·omega
  subst hn
  exact⟨p,0,rfl,Nat.le_refl _,Nat.zero_le _,λ h=>by omega⟩
 ·have hn:n=n':=Nat.eq_of_mul_eq_mul_right hs h6
  subst hn
  exact⟨_,cap,rfl,h3,h4,λ _=>⟨g,rfl,bC hg,iK hg h9⟩⟩
theorem MR{w:World}{base:Nat}{t:Ts}:∀ {xs:List Value} {S:List Nat},Own w base (tDs ty t) xs S->∃V:VT,V.len=t.len/\V.size<=2*t.size /\
  (∀b o,(∀j u,xs[j]? = some u->U w b (o+j)=some u)->GTs (U w) w.heap.size V b o) /\
  ∃BP BL BT,Ows w base 2 68 t.size V.P BP/\Ows w base 1 30 t.size V.L BL/\Ows w base 5 27 t.size V.T BT/\(BP++(BL++BT)).Perm S:=by
 induction t with
 | nil=>rintro xs S ⟨rfl,rfl⟩;exact⟨.nil,rfl,Nat.zero_le _,λ _ _ _=>trivial,[],[],[],rfl,rfl,rfl,List.Perm.refl _⟩
 | cons h x r ihx ihr =>
  rintro xs S ⟨_,rfl,_,rfl,_,rfl,vl,_,ls,sp,Bl,S1,S2,S3,rfl,h1,h2,h3,⟨vk,ys,ks,sp2,Bk,T1,T2,T3,rfl,k1,k2,k3,k4,rfl⟩,rfl⟩
  obtain⟨rfl,rfl⟩:=h3
  obtain⟨rfl,rfl⟩:=k3
  obtain⟨hl1,hl2⟩:=E0 h2
  obtain⟨X,hx1,hx2,hx3,XP,XL,XT,hx4,hx5,hx6,hx7⟩:=ihx k2
  obtain⟨R,hr1,hr2,hr3,RP',RL',RT',hr4,hr5,hr6,hr7⟩:=ihr k4
  have hls:ls.length=h.l.length:=by have:=h2.len;rw[gL] at this;exact this
  have hll:h.l.length<=aH h.l:=by
   have:∀l:List Lv,l.length<=aH l:=by
    intro l
    induction l with
    | nil=>simp
    | cons a r ih=>simp only[List.length_cons,aH];omega
   exact this _
  have hs1:x.len<=x.size:=by
   have:∀t:Ts,t.len<=t.size:=by
    intro t
    induction t with
    | nil=>exact Nat.le_refl _
    | cons h x r _ ih=>simp only[Ts.len,Ts.size];omega
   exact this x
  rw[List.append_nil] at h1 k1
  have h1':RowO w base 1 30 vl (ls.length*1) ls Bl:=by
   rw[gL,<-hls] at h1
   rw[Nat.mul_one];exact h1
  have k1':RowO w base 5 27 vk (X.len*5) ks Bk:=by
   rw[aF,<-hx1] at k1;exact k1
  refine⟨.cons ls vl vk X R,by simp[VT.len,Ts.len,hr1],?_,λ b o hc=>?_,S1++(XP++RP'),Bl++(XL++RL'),Bk++(XT++RT'),?_,?_,?_,?_⟩
  ·simp only[VT.size,Ts.size];omega
  ·refine⟨⟨h.k,h.n,h.a,by simpa using hc 0 _ rfl,hc 1 _ rfl,hc 2 _ rfl⟩,hc 3 _ rfl,hc 4 _ rfl,?_,?_,hr3 b (o+5) λ j u hu=>?_⟩
   ·obtain⟨p,c,rfl,q1,q2,q3⟩:=h1'.rowV (by decide)
    refine⟨p,c,rfl,q1,q2,λ h0=>?_⟩
    obtain⟨b',rfl,q4,q5⟩:=q3 h0
    exact⟨b',0,rfl,q4,λ i u hu=>⟨q5 i u hu,hl2 u (List.mem_of_getElem? hu)⟩⟩
   ·obtain⟨p,c,rfl,q1,q2,q3⟩:=k1'.rowV (by decide)
    refine⟨p,c,rfl,q1,q2,λ h0=>?_⟩
    obtain⟨b',rfl,q4,q5⟩:=q3 h0
    exact⟨b',0,rfl,q4,hx3 b' 0 q5⟩
   ·have:=hc (j+5) u (by simpa using hu)
    rw[show o+5+j=o+(j+5) by omega];exact this
  ·exact ((hr4.mono (by simp only[Ts.size];omega)).app (hx4.mono (by simp only[Ts.size];omega))).app (hl1.mono (by simp only[Ts.size];omega))
  ·refine⟨Bl,XL++RL',⟨_,_,h1',by rw[hls];exact Nat.mul_le_mul_right _ (by simp only[Ts.size];omega)⟩,(hr5.mono (by simp only[Ts.size];omega)).app (hx5.mono (by simp only[Ts.size];omega)),rfl⟩
  ·refine⟨Bk,XT++RT',⟨_,_,k1',by rw[hx1];exact Nat.mul_le_mul_right _ (by simp only[Ts.size];omega)⟩,(hr6.mono (by simp only[Ts.size];omega)).app (hx6.mono (by simp only[Ts.size];omega)),rfl⟩
  ·refine List.perm_iff_count.2 λ a=>?_
   have e1:=List.perm_iff_count.1 hx7 a
   have e2:=List.perm_iff_count.1 hr7 a
   simp only[List.count_append,List.count_nil] at e1 e2 ⊢
   omega
end
section

set_option maxRecDepth 100000 in
set_option maxHeartbeats 40000000 in
theorem fK (f : Nat) (w : World) (h : f ∈ [174, 175, 176, 177, 178, 179, 180, 184, 185, 186, 187, 188, 189, 190]) : Calls prog f #[.slice none 0 0] w fun e w' => e = .returned (.bool true) ∧ Below w.heap.size w w' := by
  have r1 : decide ((0 : Int) < 0) = false := rfl
  have mk : ∀ {t e : Nat}, prog.underlying t = some (.slice e) → (prog.info? e).map (fun i => (i.zero, i.size, i.bytes)) = some (some (.slice none 0 0), 1, 24) → ∃ w1, Hid ((Instr.makeSlice t (.int .i64 0) (.int .i64 0)).run prog w = .ok (.slice (some ⟨w.heap.size, 0, none⟩) 0 0) w1) ∧ Hid (Below w.heap.size w w1) := fun {t e} h1 h2 => by
    obtain ⟨w1, hmk, -, hb1⟩ := RowG.make (t := t) (e := e) (sz := 1) (P := prog) (ElT.mk' (z := .slice none 0 0) (size := 1) (bytes := 24) h1 h2 rfl (by decide) (by decide)) w w.heap.size 0 .i64 .i64 (by decide) (Nat.le_refl _)
    exact ⟨w1, Lib.hid hmk, Lib.hid hb1⟩
  simp only [List.mem_cons, List.not_mem_nil, or_false] at h
  rcases h with rfl | rfl | rfl | rfl | rfl | rfl | rfl | rfl | rfl | rfl | rfl | rfl | rfl | rfl
  obtain ⟨w1, hm, HB⟩ := mk underlying124 (by kernel_rfl)
  have hmk' := hm.out
  clear mk hm
  go_enter func174, ntmps174
  rotate_left
  obtain ⟨w1, hm, HB⟩ := mk underlying125 (by kernel_rfl)
  have hmk' := hm.out
  clear mk hm
  go_enter func175, ntmps175
  rotate_left
  obtain ⟨w1, hm, HB⟩ := mk underlying126 (by kernel_rfl)
  have hmk' := hm.out
  clear mk hm
  go_enter func176, ntmps176
  rotate_left
  obtain ⟨w1, hm, HB⟩ := mk underlying127 (by kernel_rfl)
  have hmk' := hm.out
  clear mk hm
  go_enter func177, ntmps177
  rotate_left
  obtain ⟨w1, hm, HB⟩ := mk underlying128 (by kernel_rfl)
  have hmk' := hm.out
  clear mk hm
  go_enter func178, ntmps178
  rotate_left
  obtain ⟨w1, hm, HB⟩ := mk underlying129 (by kernel_rfl)
  have hmk' := hm.out
  clear mk hm
  go_enter func179, ntmps179
  rotate_left
  obtain ⟨w1, hm, HB⟩ := mk underlying130 (by kernel_rfl)
  have hmk' := hm.out
  clear mk hm
  go_enter func180, ntmps180
  rotate_left
  obtain ⟨w1, hm, HB⟩ := mk underlying133 (by kernel_rfl)
  have hmk' := hm.out
  clear mk hm
  go_enter func184, ntmps184
  rotate_left
  obtain ⟨w1, hm, HB⟩ := mk underlying134 (by kernel_rfl)
  have hmk' := hm.out
  clear mk hm
  go_enter func185, ntmps185
  rotate_left
  obtain ⟨w1, hm, HB⟩ := mk underlying135 (by kernel_rfl)
  have hmk' := hm.out
  clear mk hm
  go_enter func186, ntmps186
  rotate_left
  obtain ⟨w1, hm, HB⟩ := mk underlying136 (by kernel_rfl)
  have hmk' := hm.out
  clear mk hm
  go_enter func187, ntmps187
  rotate_left
  obtain ⟨w1, hm, HB⟩ := mk underlying137 (by kernel_rfl)
  have hmk' := hm.out
  clear mk hm
  go_enter func188, ntmps188
  rotate_left
  obtain ⟨w1, hm, HB⟩ := mk underlying50 (by kernel_rfl)
  have hmk' := hm.out
  clear mk hm
  go_enter func189, ntmps189
  rotate_left
  obtain ⟨w1, hm, HB⟩ := mk underlying138 (by kernel_rfl)
  have hmk' := hm.out
  clear mk hm
  go_enter func190, ntmps190
  rotate_left
  all_goals
    go_wp2_with fail
    go_loopw [3] (fun i wr => i = .int .i64 0 ∧ wr = w) (fun _ _ => 0)
    case atStart => exact ⟨rfl, rfl⟩
    case round =>
    obtain ⟨rfl, hwr⟩ := hrel
    have hwr' := hwr.symm
    clear hwr
    subst hwr'
    go_wp2_with fail
    clear hmk'
    go_loopw [6] (fun i wr => i = .int .i64 0 ∧ wr = w1) (fun _ _ => 0)
    case atStart => exact ⟨rfl, rfl⟩
    case round =>
    obtain ⟨rfl, hwr⟩ := hrel
    have hwr' := hwr.symm
    clear hwr
    subst hwr'
    go_wp2_with fail
    go_loopw [9] (fun i wr => i = .int .i64 0 ∧ wr = w1) (fun _ _ => 0)
    case atStart => exact ⟨rfl, rfl⟩
    case round =>
    obtain ⟨rfl, hwr⟩ := hrel
    have hwr' := hwr.symm
    clear hwr
    subst hwr'
    go_wp2_with fail
    go_loopw [11] (fun i wr => i = .int .i64 0 ∧ wr = w1) (fun _ _ => 0)
    case atStart => exact ⟨rfl, rfl⟩
    case round =>
    obtain ⟨rfl, hwr⟩ := hrel
    have hwr' := hwr.symm
    clear hwr
    subst hwr'
    go_wp2_with fail
    go_loopw [14] (fun i wr => i = .int .i64 0 ∧ wr = w1) (fun _ _ => 0)
    case atStart => exact ⟨rfl, rfl⟩
    case round =>
    obtain ⟨rfl, hwr⟩ := hrel
    have hwr' := hwr.symm
    clear hwr
    subst hwr'
    go_wp2_with fail
    go_ret
    exact ⟨rfl, HB.out⟩
end
section
structure Tb (X:Nat->Prop) (w w':World):Prop where
 os:w'.os=w.os
 tape:w'.tape=w.tape
 output:w'.output=w.output
 size:w.heap.size<=w'.heap.size
 block:∀b,b<w.heap.size->¬X b->w'.heap[b]? = w.heap[b]?
theorem Tn.tb{em:Nat}{X:Nat->Prop}{w w':World}(h:Tn em X w w'):Tb X w w':=⟨h.os,h.tape,h.output,h.size,h.block⟩
theorem Tb.of_below{X:Nat->Prop}{w w':World}(h:Below w.heap.size w w'):Tb X w w':=⟨h.os,h.tape,h.output,h.size,λ b hb _=>h.block b hb⟩
theorem Tb.trans{X:Nat->Prop}{a b c:World}(h:Tb X a b)(k:Tb X b c):Tb X a c :=
 ⟨k.os.trans h.os,k.tape.trans h.tape,k.output.trans h.output,Nat.le_trans h.size k.size,λ i hi hx=>(k.block i (Nat.lt_of_lt_of_le hi h.size) hx).trans (h.block i hi hx)⟩
theorem Tb.mono{X Y:Nat->Prop}{w w':World}(h:Tb X w w')(hxy:∀i,i<w.heap.size->X i->Y i):Tb Y w w':=⟨h.os,h.tape,h.output,h.size,λ i hi hy=>h.block i hi (λ hx=>hy (hxy i hi hx))⟩
theorem Tb.other{X:Nat->Prop}{w w':World}(ht:Tb X w w'){e:Nat}(hx:∀b,X b->∃cur,w.heap[b]? = some (Obj.cells cur e (0,0))){b e':Nat}{cur:Array Value}(hb:w.heap[b]? = some (Obj.cells cur e' (0,0)))(hne:e'≠e):w'.heap[b]? = some (Obj.cells cur e' (0,0)):=by
 rw[ht.block b (bC hb) (λ h=>by
  obtain⟨cur',q⟩:=hx b h
  rw[hb] at q;cases q;exact hne rfl)]
 exact hb
theorem BagAt.tb{w w':World}{β B0:Nat}{f:Nat->List Value}(h:BagAt w β B0 f){X:Nat->Prop}(ht:Tb X w w'){e:Nat}(he:e≠140/\∀i,i<17->e≠tyB i)(hx:∀b,X b->∃cur,w.heap[b]? = some (Obj.cells cur e (0,0))):BagAt w' β B0 f:=by
 obtain⟨h0,cur,h1,h2,h3⟩:=h
 refine⟨h0,cur,ht.other hx h1 he.1.symm,h2,λ i hi=>?_⟩
 obtain⟨v,h4,h5,h6⟩:=h3 i hi
 exact⟨v,h4,h5,lI h6 λ b cur' hb=>by rw[ht.other hx hb (he.2 i hi).symm];exact hb.symm⟩
theorem BagAt.list{w:World}{β B0:Nat}{f:Nat->List Value}(h:BagAt w β B0 f){i:Nat}(hi:i<17){K:Kd}(hne:tyB i≠K.e)(hp:0<K.sz){N base:Nat}{Bs:List Nat}(ho:Ows w base K.sz K.e N (f i) Bs)(em:Nat):∃L ql cl,w.cell? ⟨β,i,none⟩=some (.slice ql (f i).length cl)/\(f i).length<=cl/\cl<=maxLen /\
  (∀(k:Nat) (v:Value),(f i)[k]? = some v->ql=some ⟨L,0,none⟩/\vn v<=N)/\¬InV (f i) L/\∀W,Tn em (InV (f i)) w W->∀(k:Nat) (v:Value),(f i)[k]? = some v->U W L k=some v:=by
 obtain⟨v,h1,-,h2,h3⟩:=h.cell hi
 have hN:∀(k:Nat) (v:Value),(f i)[k]? = some v->vn v<=N:=λ k v hv=>by
  obtain⟨B,q,-⟩:=ho.at_ k v hv
  exact (q.rowI hp k).2
 rcases h3.2 with ⟨rfl,h30⟩|⟨g,cap,cur,rfl,-,h4,h5,h6,h7,h8⟩
 ·have h9:f i=[]:=List.eq_nil_of_length_eq_zero h30
  refine⟨0,none,0,by rw[h1,h30],by omega,Nat.zero_le _,λ k v hv=>by rw[h9] at hv;simp at hv,λ ⟨v,hv,_⟩=>by rw[h9] at hv;simp at hv,λ W _ k v hv=>by rw[h9] at hv;simp at hv⟩
 ·have ha:∀(k:Nat) (v:Value),(f i)[k]? = some v->cur[k]? = some v:=λ k v hv=>by
   have hk:k<(f i).length:=(List.getElem?_eq_some_iff.1 hv).1
   rw[Nat.mul_one] at h8
   rw[<-h8,List.getElem?_take,if_pos hk] at hv
   simpa using hv
  obtain⟨q1,q2⟩:=II (em:=em) (ho.rows hp) hne h4 ha
  exact⟨g,_,cap,h1,h5,h6,λ k v hv=>⟨rfl,hN k v hv⟩,q1,q2⟩
theorem BagAt.none_{w:World}{β B0:Nat}{f:Nat->List Value}(h:BagAt w β B0 f){i:Nat}(hi:i<17)(h0:f i=[]):w.cell? ⟨β,i,none⟩=some (.slice none 0 0):=by
 obtain⟨v,h1,-,h2,-⟩:=h.cell hi
 rw[h1,h2 h0]
theorem ty77:(68:Nat)≠140/\∀i,i<17->(68:Nat)≠tyB i:=by decide
theorem ty43:(30:Nat)≠140/\∀i,i<17->(30:Nat)≠tyB i:=by decide
def f0:Nat->List Value:=λ _=>[]
end
section
def KC:Kd:={ e:=84,sz:=12,em:=0,cel:=λ _ M xs=>xs=[.int .i64 M,.int .i64 0,.int .i64 0,.int .i64 0,.slice none 0 0,.slice none 0 0,.bool false,.int .i64 0,.int .i64 0,.int .i64 0,.slice none 0 0,.slice none 0 0] }
theorem KC_ok:KC.Ok:=⟨by decide,by decide,λ _ _ _ h=>by rw[show _=_ from h];rfl,λ _ _ _ h u hu=>by
 rw[show _=_ from h] at hu
 simp only[List.mem_cons,List.not_mem_nil,or_false] at hu
 rcases hu with rfl|rfl|rfl|rfl|rfl|rfl|rfl|rfl|rfl|rfl|rfl|rfl<;>rfl,λ _ _ _ _ _ h=>h⟩
theorem info89f:(prog.info? 84).map (λ i=>(i.zero.map (·.cells.size),i.size,i.bytes))=some (some 12,12,160):=by kernel_rfl
theorem KC_sty:Sty prog KC 44:=by
 refine⟨underlying44,?_⟩
 have h:=info89f
 cases hi:prog.info? 84 with
 | none=>rw[hi] at h;cases h
 | some i =>
  rw[hi] at h
  simp only[Option.map_some,Option.some.injEq,Prod.mk.injEq] at h
  obtain⟨h1,h2,h3⟩:=h
  cases hz:i.zero with
  | none=>rw[hz] at h1;cases h1
  | some z =>
   rw[hz] at h1
   simp only[Option.map_some,Option.some.injEq] at h1
   exact⟨i,z,hi,hz,h2,h1,by omega⟩
def KCS:Kd:={ e:=44,sz:=1,em:=0,cel:=λ _ _ _=>False }
theorem info56:(prog.info? 44).map (λ i=>(i.zero,i.size,i.bytes))=some (some (.slice none 0 0),1,24):=by kernel_rfl
theorem KCS_sty:Sty prog KCS 50:=by
 refine⟨underlying50,?_⟩
 have h:=info56
 cases hi:prog.info? 44 with
 | none=>rw[hi] at h;cases h
 | some i =>
  rw[hi] at h
  simp only[Option.map_some,Option.some.injEq,Prod.mk.injEq] at h
  exact⟨i,_,hi,h.1,h.2.1,rfl,by omega⟩
theorem KC_same:JP prog KC 72:=λ M w xs ys hx hy=>by
 have hx:xs=[.int .i64 M,.int .i64 0,.int .i64 0,.int .i64 0,.slice none 0 0,.slice none 0 0,.bool false,.int .i64 0,.int .i64 0,.int .i64 0,.slice none 0 0,.slice none 0 0]:=hx
 have hy:ys=[.int .i64 M,.int .i64 0,.int .i64 0,.int .i64 0,.slice none 0 0,.slice none 0 0,.bool false,.int .i64 0,.int .i64 0,.int .i64 0,.slice none 0 0,.slice none 0 0]:=hy
 subst hx hy
 have HS:Hid (∀W:World,Calls prog 37 #[.agg #[.int .i64 0,.int .i64 0,.int .i64 0,.slice none 0 0,.slice none 0 0],.agg #[.int .i64 0,.int .i64 0,.int .i64 0,.slice none 0 0,.slice none 0 0]] W λ e w'=>e=.returned (.bool true)/\Below W.heap.size W w'):=λ W=>by
  have rm:RM ty W (.agg #[.int .i64 0,.int .i64 0,.int .i64 0,.slice none 0 0,.slice none 0 0]) ⟨0,0,0,[]⟩ .nil:=⟨none,0,0,none,0,0,rfl,Rd.none_ _ _ _,Rd.none_ _ _ _⟩
  exact kJ ⟨0,0,0,[]⟩ .nil _ _ W rm rm
 go_enter func72,ntmps72
 go_wp2_with fail
 refine (HS.out _).mono ?_
 rintro e w1 ⟨rfl,hb⟩
 have a6:w1.cell? ⟨w.heap.size,6,none⟩=some (.bool false):=(hb.cell (p:=⟨w.heap.size,6,none⟩) (by simp<;>omega)).trans (by simp[go_sem])
 have a7:w1.cell? ⟨w.heap.size,7,none⟩=some (.int .i64 0):=(hb.cell (p:=⟨w.heap.size,7,none⟩) (by simp<;>omega)).trans (by simp[go_sem])
 have a8:w1.cell? ⟨w.heap.size,8,none⟩=some (.int .i64 0):=(hb.cell (p:=⟨w.heap.size,8,none⟩) (by simp<;>omega)).trans (by simp[go_sem])
 have a9:w1.cell? ⟨w.heap.size,9,none⟩=some (.int .i64 0):=(hb.cell (p:=⟨w.heap.size,9,none⟩) (by simp<;>omega)).trans (by simp[go_sem])
 have a10:w1.cell? ⟨w.heap.size,10,none⟩=some (.slice none 0 0):=(hb.cell (p:=⟨w.heap.size,10,none⟩) (by simp<;>omega)).trans (by simp[go_sem])
 have a11:w1.cell? ⟨w.heap.size,11,none⟩=some (.slice none 0 0):=(hb.cell (p:=⟨w.heap.size,11,none⟩) (by simp<;>omega)).trans (by simp[go_sem])
 have b6:w1.cell? ⟨w.heap.size+1,6,none⟩=some (.bool false):=(hb.cell (p:=⟨w.heap.size+1,6,none⟩) (by simp<;>omega)).trans (by simp[go_sem])
 have b7:w1.cell? ⟨w.heap.size+1,7,none⟩=some (.int .i64 0):=(hb.cell (p:=⟨w.heap.size+1,7,none⟩) (by simp<;>omega)).trans (by simp[go_sem])
 have b8:w1.cell? ⟨w.heap.size+1,8,none⟩=some (.int .i64 0):=(hb.cell (p:=⟨w.heap.size+1,8,none⟩) (by simp<;>omega)).trans (by simp[go_sem])
 have b9:w1.cell? ⟨w.heap.size+1,9,none⟩=some (.int .i64 0):=(hb.cell (p:=⟨w.heap.size+1,9,none⟩) (by simp<;>omega)).trans (by simp[go_sem])
 have b10:w1.cell? ⟨w.heap.size+1,10,none⟩=some (.slice none 0 0):=(hb.cell (p:=⟨w.heap.size+1,10,none⟩) (by simp<;>omega)).trans (by simp[go_sem])
 have b11:w1.cell? ⟨w.heap.size+1,11,none⟩=some (.slice none 0 0):=(hb.cell (p:=⟨w.heap.size+1,11,none⟩) (by simp<;>omega)).trans (by simp[go_sem])
 have HB:=hid hb
 clear hb
 go_wp2_with fail
 refine (HS.out _).mono ?_
 rintro e w2 ⟨rfl,hb⟩
 have HB2:=hid hb
 clear hb
 go_wp2_with fail
 go_ret
 exact⟨rfl,aB (aB (aB (aA _ _) (aA _ _)) HB.out) HB2.out⟩
theorem KC_mark:BU prog KC 238:=λ k i w hk hi=>by
 have HM:Hid (∀W,Calls prog 138 #[.int .i64 k,.int .i64 i] W λ e w'=>e=.returned (.int .i64 (jG k i))/\w'=W):=λ W=>uW k i W hk hi
 refine Calls.mono (R:=λ e w'=>e=.returned (.agg ([.int .i64 (jG k i),.int .i64 0,.int .i64 0,.int .i64 0,.slice none 0 0,.slice none 0 0,.bool false,.int .i64 0,.int .i64 0,.int .i64 0,.slice none 0 0,.slice none 0 0]:List Value).toArray)/\Below w.heap.size w w') ?_ λ _ _ h=>⟨_,h.1,rfl,h.2⟩
 obtain⟨m,hm⟩:∃m,jG k i=m:=⟨_,rfl⟩
 rw[hm] at HM ⊢
 go_enter func238,ntmps238
 go_wp2_with fail
 refine (HM.out _).mono ?_
 rintro e w' ⟨rfl,rfl⟩
 go_wp2_with fail
 refine bodyPost_ret (v:=.agg #[.int .i64 m,.int .i64 0,.int .i64 0,.int .i64 0,.slice none 0 0,.slice none 0 0,.bool false,.int .i64 0,.int .i64 0,.int .i64 0,.slice none 0 0,.slice none 0 0]) (by simp[results,results238,go_sem]) rfl ⟨rfl,aA _ _⟩
theorem ED(vs:List Value)(L:Nat)(ql:Option Addr)(cl:Nat)(w:World)(hvs:vs.length<=1000000000)(hcl:vs.length<=cl)(hcm:cl<=maxLen)(hL:∀(k:Nat) (v:Value),vs[k]? = some v->ql=some ⟨L,0,none⟩/\vn v<=1000000000)
  (hC:¬InV vs L/\∀W,Tn KC.em (InV vs) w W->∀(k:Nat) (v:Value),vs[k]? = some v->U W L k=some v) (hR:RowsG KC 0 w vs (λ _=>0)) (hD:BV vs) :
  Calls prog 189 #[.slice ql vs.length cl] w λ e w'=>e=.returned (.bool true)/\Tn KC.em (InV vs) w w':=by
 obtain⟨m,hm⟩:∃m,vs.length=m:=⟨_,rfl⟩
 have HM:=hid hm
 have HC:=hid hC
 have HL:=hid hL
 have HMK:=hid KC_mark
 have HSM:=hid KC_same
 have HIN:Hid (∀b,InV vs b->b<w.heap.size):=λ b hb=>by obtain⟨-,cur,e⟩:=hR.typed hb;exact bC e
 rw[hm] at hvs hcl ⊢
 clear hm hC hL
 unfold maxLen at hcm
 go_enter func189,ntmps189
 go_wp2_with fail
 go_loopw [3] (λ i wr=>∃k:Nat,k<=m/\i=.int .i64 k/\RowsG KC 0 wr vs (dF vs k 0)/\Tn KC.em (InV vs) w wr) (λ i _=>m-(intOf i).toNat)
 case atStart=>exact⟨0,Nat.zero_le _,rfl,hR.cong λ k v _=>by simp[dF],Tn.refl _ _ _⟩
 case round =>
  obtain⟨k,hk,rfl,hRk,hTk⟩:=hrel
  clear hR
  by_cases hlt:k<m
  ·have r1:decide ((k:Int)<(m:Int))=true:=decide_eq_true (by omega)
   obtain⟨v,hv⟩:∃v,vs[k]? = some v:=⟨_,List.getElem?_eq_getElem (by have:=HM.out;omega)⟩
   obtain⟨p,n,c,rfl,hnc,hcc⟩:=(hRk k v hv).isSlice
   unfold maxLen at hcc
   obtain⟨rfl,hn⟩:=HL.out k _ hv
   replace hn:n<=1000000000:=hn
   have HV:=hid hv
   have HRK:=hid hRk
   have HTK:=hid hTk
   clear hv hRk hTk
   go_wp2_with fail
   go_loopw [4] (λ i wr=>∃j:Nat,i=.int .i64 j/\j<=n/\RowsG KC 0 wr vs (dF vs k j)/\Tn KC.em (InV vs) w wr) (λ i _=>n-(intOf i).toNat)
   case atStart=>exact⟨0,rfl,Nat.zero_le _,HRK.out,HTK.out⟩
   case round =>
    clear HRK HTK
    obtain⟨j,rfl,hj,hRj,hTj⟩:=hrel
    have hu:=HC.out.2 _ hTj k _ HV.out
    have hc:=aD hu
    by_cases hjn:j<n
    ·have r2:decide ((j:Int)<(n:Int))=true:=decide_eq_true (by omega)
     obtain⟨g,rfl,hc0⟩:=(hRj k _ HV.out).lies (by omega)
     have e1:∀n':GrownX (InV vs) wr,n'.it.cell? ⟨L,k,none⟩=some (.slice (some ⟨g,0,none⟩) n c):=GrownX.cell hu HC.out.1
     have HRJ:=hid hRj
     have HTJ:=hid hTj
     clear hu hRj hTj
     go_wp2_with fail
     clear hc
     refine iZ (InV vs) [0,1,2,3,4,5,6] (by decide) (by kernel_rfl) (by kernel_rfl) (by kernel_rfl) (by kernel_rfl) (λ _ _ d _ _ h=>by cases d<;>exact h) ?_
     simp only[List.map_cons,List.map_nil,List.getD_cons_zero,List.getD_cons_succ,bar,bH,List.size_toArray,List.length_cons,List.length_nil,Nat.zero_add,Nat.reduceAdd,if_true,if_false,Bool.false_eq_true]
     repeat (go_big_quiet_step (fail))
     refine wpQuiet_nil ?_
     clear e1
     refine aP (i:=7) (fuel:=2) (by kernel_rfl) rfl (by rfl) (λ K' hK=>?_)
     go_simp
     refine (HMK.out k j _ (by omega) (by omega)).mono ?_
     rintro e wx ⟨xs,rfl,hcel,hbx⟩
     have hAx:Below wr.heap.size wr wx:=aB (aZ wr) hbx
     refine hK.out _ _ ⟨⟨wx,λ b hb _=>hAx.block b hb⟩,rfl⟩ (λ _=>?_)
     clear hK K'
     have hRx:=HRJ.out.below KC_ok hAx
     obtain⟨hth,hR',hT'⟩:=RowsG.setF KC_ok hD hRx HV.out hjn hcel
     refine aP (i:=8) (fuel:=1) (by kernel_rfl) rfl (by rfl) (λ K' hK=>?_)
     go_simp
     refine hK.out _ _ ⟨⟨wx,λ b hb _=>hAx.block b hb⟩,rfl⟩ (λ _=>?_)
     clear hK K'
     refine aP (i:=9) (fuel:=0) (by kernel_rfl) rfl (by rfl) (λ K' hK=>?_)
     refine wp_store_mid 84 _ _ rfl g (j*12) xs.toArray rfl rfl (by rw[List.size_toArray,KC_ok.len _ _ _ hcel];exact hth) (by rw[List.size_toArray,KC_ok.len _ _ _ hcel];exact KC_sty.size) (all_oneCell_toArray (KC_ok.one _ _ _ hcel)) ?_
     refine hK.out _ _ ⟨⟨wx.setCells g (j*12) xs,λ b hb hx=>(hT'.block b (Nat.lt_of_lt_of_le hb hAx.size) hx).trans (hAx.block b hb)⟩,rfl⟩ (λ _=>?_)
     clear hK K'
     refine wpAnyH_done (by kernel_rfl) ?_ _
     have HR':=hid hR'
     have HT':=hid (HTJ.out.trans ((Tn.of_below hAx).trans hT'))
     clear hth hR' hT' hRx hcel hAx hbx HRJ HTJ
     go_wp2_with fail
     go_roundw
     case rel=>exact⟨j+1,by go_num,by omega,HR'.out,HT'.out⟩
     case measure=>simp[intOf];omega
    ·have r2:decide ((j:Int)<(n:Int))=false:=decide_eq_false (by omega)
     obtain rfl:j=n:=by omega
     have HR':=hid (RowsG.dEnd HV.out hRj)
     have HT':=hid hTj
     clear hRj hTj hu
     go_wp2_with fail
     go_roundw
     case rel=>exact⟨k+1,by omega,by go_num,HR'.out,HT'.out⟩
     case measure=>simp[intOf];omega
  ·have r1:decide ((k:Int)<(m:Int))=false:=decide_eq_false (by omega)
   obtain rfl:k=m:=by omega
   have HF:=hid (RowsG.full HM.out hRk)
   have HT:=hid hTk
   clear hRk hTk
   obtain⟨arr,hmk,harr⟩:=KCS_sty.make k (by omega) wr
   have hmk':(Instr.makeSlice 50 (.int .i64 k) (.int .i64 k)).run prog wr=.ok (.slice (some ⟨wr.heap.size,0,none⟩) k k) (wr.alloc (.cells arr 44)):=hmk
   clear hmk
   go_wp2_with fail
   obtain⟨w1,hw1⟩:∃w1,wr.alloc (.cells arr 44)=w1:=⟨_,rfl⟩
   obtain⟨G,hG⟩:∃G,wr.heap.size=G:=⟨_,rfl⟩
   have HGW:Hid (w.heap.size<=G):=hid (by rw[<-hG];exact HT.out.size)
   have HB1:Below wr.heap.size wr w1:=by rw[<-hw1];exact aA _ _
   have HF1:=hid (HF.out.below KC_ok HB1)
   have HT1:=hid (HT.out.trans (Tn.of_below HB1))
   have HG1:Hid (Gsl KC 44 G w.heap.size w1 vs 64 64 0):=hid (by rw[<-hw1,<-hG];exact Gsl.new wr vs 64 64 (by rw[HM.out,harr];show k*1=k;omega))
   rw[hw1,hG]
   clear HF HT HB1 hw1 hmk' harr
   go_loopw [6] (λ i wr=>∃j:Nat,i=.int .i64 j/\j<=k/\Full KC 0 wr vs/\Gsl KC 44 G w.heap.size wr vs 64 64 j/\Tn KC.em (InV vs) w wr) (λ i _=>k-(intOf i).toNat)
   case atStart=>exact⟨0,rfl,Nat.zero_le _,HF1.out,HG1.out,HT1.out⟩
   case round =>
    clear HF1 HG1 HT1
    obtain⟨j,rfl,hj,hF,hGs,hT⟩:=hrel
    by_cases hlt:j<k
    ·have r1:decide ((j:Int)<(k:Int))=true:=decide_eq_true (by omega)
     obtain⟨v,hv⟩:∃v,vs[j]? = some v:=⟨_,List.getElem?_eq_getElem (by have:=HM.out;omega)⟩
     obtain⟨p,n,c,rfl,hnc,hcc⟩:=(hF j v hv).isSlice
     unfold maxLen at hcc
     obtain⟨rfl,hn⟩:=HL.out j _ hv
     replace hn:n<=1000000000:=hn
     have hc:=aD (HC.out.2 _ hT j _ hv)
     have HV:=hid hv
     have HF:=hid hF
     have HGS:=hid hGs
     have HT:=hid hT
     clear hv hF hGs hT
     go_wp2_with fail
     obtain⟨wk,hwk⟩:∃wk:World,wk=wr:=⟨_,rfl⟩
     subst hwk
     go_loopw [7,8] (λ g i wr=>∃t:Nat,i=.int .i64 t/\t<=64/\RowI KC 0 wr (.slice p n c) n j/\Cur KC wk.heap.size wr (.slice p n c) g t j/\Tn KC.em (λ b=>vb (.slice p n c)=some b) wk wr) (λ _ i _=>64-(intOf i).toNat)
     case atStart=>exact⟨0,rfl,by decide,HF.out j _ HV.out,.inl ⟨rfl,rfl⟩,Tn.refl _ _ _⟩
     case round =>
      obtain⟨t,rfl,ht,hRq,hCq,hTq⟩:=hrel
      have hTv:Tn KC.em (InV vs) w wr:=HT.out.trans (hTq.inV HV.out)
      have hcq:=aD (HC.out.2 _ hTv j _ HV.out)
      have HR:=hid hRq
      have HC1:=hid hCq
      have HTQ:=hid hTq
      have HTV:=hid hTv
      clear hRq hCq hTq hTv hc
      by_cases hlt64:t<64
      ·have r2:decide ((t:Int)<64)=true:=decide_eq_true (by omega)
       have HMJ:Hid (∀W,Calls prog 238 #[.int .i64 j,.int .i64 ((n:Int)+(t:Int))] W λ e w'=>∃xs,e=.returned (.agg xs.toArray)/\KC.cel w' (mk j (n+t)) xs/\Below W.heap.size W w'):=λ W=>by
        have:=HMK.out j (n+t) W (by omega) (by omega)
        rwa [Int.natCast_add] at this
       go_wp2_with fail
       refine (HMJ.out _).mono ?_
       rintro e wx ⟨xs,rfl,hcel,hbx⟩
       have hxs:xs=[.int .i64 (mk j (n+t)),.int .i64 0,.int .i64 0,.int .i64 0,.slice none 0 0,.slice none 0 0,.bool false,.int .i64 0,.int .i64 0,.int .i64 0,.slice none 0 0,.slice none 0 0]:=hcel
       obtain⟨wy,hwy⟩:∃wy,wx.alloc (.cells xs.toArray 84)=wy:=⟨_,rfl⟩
       have hby:Below wr.heap.size wr wy:=by rw[<-hwy];exact aB hbx (aA _ _)
       have hnc:∀(i:Nat) (u:Value),xs[i]? = some u->wy.cell? ((⟨wx.heap.size,0,none⟩:Addr).add i)=some u:=by rw[<-hwy];exact gK wx xs 84
       obtain⟨g',wz,hrun,hRz,hCz,hTz⟩:=Cur.grow KC_ok KC_sty 44 (HR.out.on KC_ok (Tn.of_below (X:=λ _=>False) hby) λ _ _ _ _=>id) (λ b hb=>Nat.lt_of_lt_of_le (HIN.out b ⟨_,List.mem_of_getElem? HV.out,hb⟩) HT.out.size) (Nat.le_trans HTQ.out.size hby.size)
        (HC1.out.on KC_ok (Tn.of_below (X:=λ _=>False) hby) λ _ _ _ _=>id) (c:=1) (by rw[<-hwy];exact KC_ok.below hcel (aA _ _)) hnc (by show n+t+1<=_;omega)
       have HRZ:=hid hRz
       have HCZ:=hid hCz
       have HTZ:=hid (HTQ.out.trans' ((Tn.of_below hby).trans hTz) λ b hb h=>by
        rcases h with h|h
        ·exact h
        ·omega)
       clear hRz hCz hTz hcel hbx hby hnc HR HC1 HTQ HMJ
       subst hwy hxs
       go_wp2_with (at_builtin;refine aR rfl _ _ 44 rfl _ _ _ rfl rfl hrun ?_)
       go_roundw
       case rel=>exact⟨t+1,by go_num,by omega,HRZ.out,HCZ.out,HTZ.out⟩
       case measure=>simp[intOf];omega
      ·have r2:decide ((t:Int)<64)=false:=decide_eq_false (by omega)
       obtain rfl:t=64:=by omega
       have hFq:=Full.one KC_ok hD HF.out HV.out HTQ.out HR.out
       have hGq:=Gsl.one KC_ok hD HGS.out HIN.out HGW.out HV.out HTQ.out
       obtain⟨u,hgc,hgf⟩:=hGq.cell (k:=j) (by have:=HM.out;omega)
       obtain⟨-,hG',hT'⟩:=hGq.put KC_ok (by decide) (by decide) HV.out ((HC1.out.ent (by decide)).less (Nat.le_refl _) HT.out.size)
       obtain⟨h,cap,cur,e,-⟩:=HC1.out.ent (by decide)
       subst e
       have HG':=hid hG'
       have HF':=hid (hFq.put KC_ok HIN.out HGW.out hT')
       have HT':=hid (HTV.out.trans' hT' λ b hb e=>by have:=HGW.out;omega)
       clear hFq hGq hG' hT' HR HC1 HTQ HTV HF HGS HT hcq
       go_wp2_with fail
       go_roundw
       case rel=>exact⟨j+1,by go_num,by omega,HF'.out,HG'.out,HT'.out⟩
       case measure=>simp[intOf];omega
    ·have r1:decide ((j:Int)<(k:Int))=false:=decide_eq_false (by omega)
     obtain rfl:j=k:=by omega
     have HF:=hid hF
     have HGS:=hid hGs
     have HT:=hid hT
     clear hF hGs hT
     go_wp2_with fail
     obtain⟨w3,hw3⟩:∃w3:World,w3=wr:=⟨_,rfl⟩
     subst hw3
     obtain⟨m,hm⟩:∃m:Nat,m=j:=⟨_,rfl⟩
     subst hm
     clear hlt
     go_loopw [9] (λ i wr=>∃j:Nat,i=.int .i64 j/\j<=m/\Below w3.heap.size w3 wr) (λ i _=>m-(intOf i).toNat)
     case atStart=>exact⟨0,rfl,Nat.zero_le _,Below.refl _ _⟩
     case round =>
      obtain⟨j,rfl,hj,hB⟩:=hrel
      by_cases hlt:j<m
      ·have r1:decide ((j:Int)<(m:Int))=true:=decide_eq_true (by omega)
       obtain⟨v,hv⟩:∃v,vs[j]? = some v:=⟨_,List.getElem?_eq_getElem (by have:=HM.out;omega)⟩
       obtain⟨p,n,c,rfl,hnc,hcc⟩:=(HF.out j v hv).isSlice
       unfold maxLen at hcc
       obtain⟨rfl,hn⟩:=HL.out j _ hv
       replace hn:n<=1000000000:=hn
       have HV:=hid hv
       have HB:=hid hB
       clear hv hB
       obtain⟨u,hgc,hgf,hE⟩:=HGS.out.get hlt HV.out
       obtain⟨h,cap,cur,rfl,-,-,hq1,hq2,-⟩:=id hE
       unfold maxLen at hq2
       replace hq1:n+64<=cap:=hq1
       have HU:Hid (U w3 G j=some (.slice (some ⟨h,0,none⟩) (n+64) cap)):=hid (nJ hgc hgf)
       have HE:=hid hE
       clear hgc hgf hE
       go_wp2_with fail
       go_loopw [10] (λ i wr=>∃t:Nat,i=.int .i64 t/\t<=n+64/\Below w3.heap.size w3 wr) (λ i _=>n+64-(intOf i).toNat)
       case atStart=>exact⟨0,rfl,Nat.zero_le _,HB.out⟩
       case round =>
        clear HB
        obtain⟨t,rfl,ht,hB⟩:=hrel
        have hug:=aE hB _ _ _ (aL HU.out) HU.out
        have hgc:=aD hug
        have hul:=HC.out.2 _ (HT.out.trans (Tn.of_below hB)) j _ HV.out
        have HB:=hid hB
        clear hB
        by_cases htn:t<n+64
        ·have r2:decide ((t:Int)<(n:Int)+64)=true:=decide_eq_true (by omega)
         have q1:(0:Int)<=(t:Int):=by omega
         have q2:(t:Int)<(n:Int)+64:=by omega
         obtain⟨xs,hcel,hrg⟩:=HE.out.getU (show t<vn (.slice p n c)+64 from htn)
         have HCEL:=hid hcel
         have HRG:=hid hrg
         clear hcel hrg
         have hxs:xs=[.int .i64 (mk j t),.int .i64 0,.int .i64 0,.int .i64 0,.slice none 0 0,.slice none 0 0,.bool false,.int .i64 0,.int .i64 0,.int .i64 0,.slice none 0 0,.slice none 0 0]:=HCEL.out
         subst hxs
         have c0:∀n':GrownB wr.heap.size wr,n'.it.cell? ⟨h,t*12,none⟩=some (.int .i64 (mk j t)):=GrownB.cell (aE HB.out _ _ _ (aL (HRG.out 0 _ rfl)) (HRG.out 0 _ rfl)) (Nat.lt_of_lt_of_le (aL (HRG.out 0 _ rfl)) HB.out.size)
         have c1:∀n':GrownB wr.heap.size wr,n'.it.cell? ⟨h,t*12+1,none⟩=some (.int .i64 0):=GrownB.cell (aE HB.out _ _ _ (aL (HRG.out 1 _ rfl)) (HRG.out 1 _ rfl)) (Nat.lt_of_lt_of_le (aL (HRG.out 1 _ rfl)) HB.out.size)
         have c2:∀n':GrownB wr.heap.size wr,n'.it.cell? ⟨h,t*12+2,none⟩=some (.int .i64 0):=GrownB.cell (aE HB.out _ _ _ (aL (HRG.out 2 _ rfl)) (HRG.out 2 _ rfl)) (Nat.lt_of_lt_of_le (aL (HRG.out 2 _ rfl)) HB.out.size)
         have c3:∀n':GrownB wr.heap.size wr,n'.it.cell? ⟨h,t*12+3,none⟩=some (.int .i64 0):=GrownB.cell (aE HB.out _ _ _ (aL (HRG.out 3 _ rfl)) (HRG.out 3 _ rfl)) (Nat.lt_of_lt_of_le (aL (HRG.out 3 _ rfl)) HB.out.size)
         have c4:∀n':GrownB wr.heap.size wr,n'.it.cell? ⟨h,t*12+4,none⟩=some (.slice none 0 0):=GrownB.cell (aE HB.out _ _ _ (aL (HRG.out 4 _ rfl)) (HRG.out 4 _ rfl)) (Nat.lt_of_lt_of_le (aL (HRG.out 4 _ rfl)) HB.out.size)
         have c5:∀n':GrownB wr.heap.size wr,n'.it.cell? ⟨h,t*12+5,none⟩=some (.slice none 0 0):=GrownB.cell (aE HB.out _ _ _ (aL (HRG.out 5 _ rfl)) (HRG.out 5 _ rfl)) (Nat.lt_of_lt_of_le (aL (HRG.out 5 _ rfl)) HB.out.size)
         have c6:∀n':GrownB wr.heap.size wr,n'.it.cell? ⟨h,t*12+6,none⟩=some (.bool false):=GrownB.cell (aE HB.out _ _ _ (aL (HRG.out 6 _ rfl)) (HRG.out 6 _ rfl)) (Nat.lt_of_lt_of_le (aL (HRG.out 6 _ rfl)) HB.out.size)
         have c7:∀n':GrownB wr.heap.size wr,n'.it.cell? ⟨h,t*12+7,none⟩=some (.int .i64 0):=GrownB.cell (aE HB.out _ _ _ (aL (HRG.out 7 _ rfl)) (HRG.out 7 _ rfl)) (Nat.lt_of_lt_of_le (aL (HRG.out 7 _ rfl)) HB.out.size)
         have c8:∀n':GrownB wr.heap.size wr,n'.it.cell? ⟨h,t*12+8,none⟩=some (.int .i64 0):=GrownB.cell (aE HB.out _ _ _ (aL (HRG.out 8 _ rfl)) (HRG.out 8 _ rfl)) (Nat.lt_of_lt_of_le (aL (HRG.out 8 _ rfl)) HB.out.size)
         have c9:∀n':GrownB wr.heap.size wr,n'.it.cell? ⟨h,t*12+9,none⟩=some (.int .i64 0):=GrownB.cell (aE HB.out _ _ _ (aL (HRG.out 9 _ rfl)) (HRG.out 9 _ rfl)) (Nat.lt_of_lt_of_le (aL (HRG.out 9 _ rfl)) HB.out.size)
         have c10:∀n':GrownB wr.heap.size wr,n'.it.cell? ⟨h,t*12+10,none⟩=some (.slice none 0 0):=GrownB.cell (aE HB.out _ _ _ (aL (HRG.out 10 _ rfl)) (HRG.out 10 _ rfl)) (Nat.lt_of_lt_of_le (aL (HRG.out 10 _ rfl)) HB.out.size)
         have c11:∀n':GrownB wr.heap.size wr,n'.it.cell? ⟨h,t*12+11,none⟩=some (.slice none 0 0):=GrownB.cell (aE HB.out _ _ _ (aL (HRG.out 11 _ rfl)) (HRG.out 11 _ rfl)) (Nat.lt_of_lt_of_le (aL (HRG.out 11 _ rfl)) HB.out.size)
         have hgB:=GrownB.cell hug (aL hug)
         have hlB:=GrownB.cell hul (aL hul)
         clear hug hul
         go_wp2_with fail
         refine cV wr.heap.size [0,1,2,3,4,5,6,7,8] (by decide) (by kernel_rfl) (by kernel_rfl) (by kernel_rfl) (by kernel_rfl) (λ _ _ d _ _ h=>by cases d<;>exact h) ?_
         simp only[List.map_cons,List.map_nil,List.getD_cons_zero,List.getD_cons_succ,bar,bH,List.size_toArray,List.length_cons,List.length_nil,Nat.zero_add,Nat.reduceAdd,if_true,if_false,Bool.false_eq_true]
         repeat (go_big_quiet_step (fail))
         refine wpQuiet_nil ?_
         refine aP (i:=9) (fuel:=25) (by kernel_rfl) rfl (by rfl) (λ K' hK=>?_)
         go_simp
         refine (HMK.out j t _ (by omega) (by omega)).mono ?_
         rintro e wx ⟨ys,rfl,hcy,hbx⟩
         have hAx:Below wr.heap.size wr wx:=aB (aZ wr) hbx
         refine hK.out _ _ ⟨⟨wx,hAx⟩,rfl⟩ (λ _=>?_)
         clear hK K'
         refine aP (i:=10) (fuel:=24) (by kernel_rfl) rfl (by rfl) (λ K' hK=>?_)
         go_simp
         refine (HSM.out _ wx _ _ (KC_ok.below HCEL.out (aB HB.out hAx)) hcy).mono ?_
         rintro e wy ⟨rfl,hby⟩
         have hAy:Below wr.heap.size wr wy:=aB hAx hby
         refine hK.out _ _ ⟨⟨wy,hAy⟩,rfl⟩ (λ _=>?_)
         clear hK K' hcy hbx hby hAx hgB c0 c1 c2 c3 c4 c5 c6 c7 c8 c9 c10 c11
         by_cases htk:t<n
         ·have r3:decide ((t:Int)<(n:Int))=true:=decide_eq_true (by omega)
          have q3:(t:Int)<(n:Int):=by omega
          obtain⟨g,rfl,-⟩:=(HF.out j _ HV.out).lies (by omega)
          obtain⟨xs,hcel,hrg⟩:=(HF.out j _ HV.out).getU (show t<vn (.slice (some ⟨g,0,none⟩) n c) from htk)
          have HCEL2:=hid hcel
          have HRG2:=hid hrg
          clear hcel hrg HCEL HRG
          have hxs:xs=[.int .i64 (mk j t),.int .i64 0,.int .i64 0,.int .i64 0,.slice none 0 0,.slice none 0 0,.bool false,.int .i64 0,.int .i64 0,.int .i64 0,.slice none 0 0,.slice none 0 0]:=HCEL2.out
          subst hxs
          have d0:∀n':GrownB wr.heap.size wr,n'.it.cell? ⟨g,t*12,none⟩=some (.int .i64 (mk j t)):=GrownB.cell (aE HB.out _ _ _ (aL (HRG2.out 0 _ rfl)) (HRG2.out 0 _ rfl)) (Nat.lt_of_lt_of_le (aL (HRG2.out 0 _ rfl)) HB.out.size)
          have d1:∀n':GrownB wr.heap.size wr,n'.it.cell? ⟨g,t*12+1,none⟩=some (.int .i64 0):=GrownB.cell (aE HB.out _ _ _ (aL (HRG2.out 1 _ rfl)) (HRG2.out 1 _ rfl)) (Nat.lt_of_lt_of_le (aL (HRG2.out 1 _ rfl)) HB.out.size)
          have d2:∀n':GrownB wr.heap.size wr,n'.it.cell? ⟨g,t*12+2,none⟩=some (.int .i64 0):=GrownB.cell (aE HB.out _ _ _ (aL (HRG2.out 2 _ rfl)) (HRG2.out 2 _ rfl)) (Nat.lt_of_lt_of_le (aL (HRG2.out 2 _ rfl)) HB.out.size)
          have d3:∀n':GrownB wr.heap.size wr,n'.it.cell? ⟨g,t*12+3,none⟩=some (.int .i64 0):=GrownB.cell (aE HB.out _ _ _ (aL (HRG2.out 3 _ rfl)) (HRG2.out 3 _ rfl)) (Nat.lt_of_lt_of_le (aL (HRG2.out 3 _ rfl)) HB.out.size)
          have d4:∀n':GrownB wr.heap.size wr,n'.it.cell? ⟨g,t*12+4,none⟩=some (.slice none 0 0):=GrownB.cell (aE HB.out _ _ _ (aL (HRG2.out 4 _ rfl)) (HRG2.out 4 _ rfl)) (Nat.lt_of_lt_of_le (aL (HRG2.out 4 _ rfl)) HB.out.size)
          have d5:∀n':GrownB wr.heap.size wr,n'.it.cell? ⟨g,t*12+5,none⟩=some (.slice none 0 0):=GrownB.cell (aE HB.out _ _ _ (aL (HRG2.out 5 _ rfl)) (HRG2.out 5 _ rfl)) (Nat.lt_of_lt_of_le (aL (HRG2.out 5 _ rfl)) HB.out.size)
          have d6:∀n':GrownB wr.heap.size wr,n'.it.cell? ⟨g,t*12+6,none⟩=some (.bool false):=GrownB.cell (aE HB.out _ _ _ (aL (HRG2.out 6 _ rfl)) (HRG2.out 6 _ rfl)) (Nat.lt_of_lt_of_le (aL (HRG2.out 6 _ rfl)) HB.out.size)
          have d7:∀n':GrownB wr.heap.size wr,n'.it.cell? ⟨g,t*12+7,none⟩=some (.int .i64 0):=GrownB.cell (aE HB.out _ _ _ (aL (HRG2.out 7 _ rfl)) (HRG2.out 7 _ rfl)) (Nat.lt_of_lt_of_le (aL (HRG2.out 7 _ rfl)) HB.out.size)
          have d8:∀n':GrownB wr.heap.size wr,n'.it.cell? ⟨g,t*12+8,none⟩=some (.int .i64 0):=GrownB.cell (aE HB.out _ _ _ (aL (HRG2.out 8 _ rfl)) (HRG2.out 8 _ rfl)) (Nat.lt_of_lt_of_le (aL (HRG2.out 8 _ rfl)) HB.out.size)
          have d9:∀n':GrownB wr.heap.size wr,n'.it.cell? ⟨g,t*12+9,none⟩=some (.int .i64 0):=GrownB.cell (aE HB.out _ _ _ (aL (HRG2.out 9 _ rfl)) (HRG2.out 9 _ rfl)) (Nat.lt_of_lt_of_le (aL (HRG2.out 9 _ rfl)) HB.out.size)
          have d10:∀n':GrownB wr.heap.size wr,n'.it.cell? ⟨g,t*12+10,none⟩=some (.slice none 0 0):=GrownB.cell (aE HB.out _ _ _ (aL (HRG2.out 10 _ rfl)) (HRG2.out 10 _ rfl)) (Nat.lt_of_lt_of_le (aL (HRG2.out 10 _ rfl)) HB.out.size)
          have d11:∀n':GrownB wr.heap.size wr,n'.it.cell? ⟨g,t*12+11,none⟩=some (.slice none 0 0):=GrownB.cell (aE HB.out _ _ _ (aL (HRG2.out 11 _ rfl)) (HRG2.out 11 _ rfl)) (Nat.lt_of_lt_of_le (aL (HRG2.out 11 _ rfl)) HB.out.size)
          refine bR (by kernel_rfl) (λ _ _ d _ _ h=>by cases d<;>exact h) ⟨⟨wy,hAy⟩,rfl⟩ 5 [11,12,13,14,15,16,17,18,19,20,21,22,23,24,25,26,27,28,29] _ _ (by kernel_rfl) (by kernel_rfl) ?_
          simp only[List.map_cons,List.map_nil,List.getD_cons_zero,List.getD_cons_succ,bar,bH,List.size_toArray,List.length_cons,List.length_nil,Nat.zero_add,Nat.reduceAdd,if_true,if_false,Bool.false_eq_true]
          repeat (go_big_quiet_step (fail))
          refine wpQuiet_nil ?_
          clear d0 d1 d2 d3 d4 d5 d6 d7 d8 d9 d10 d11
          refine aP (i:=30) (fuel:=4) (by kernel_rfl) rfl (by rfl) (λ K' hK=>?_)
          go_simp
          refine (HMK.out j t _ (by omega) (by omega)).mono ?_
          rintro e wz ⟨ys,rfl,hcy,hbz⟩
          have hAz:Below wr.heap.size wr wz:=aB hAy hbz
          refine hK.out _ _ ⟨⟨wz,hAz⟩,rfl⟩ (λ _=>?_)
          clear hK K'
          refine aP (i:=31) (fuel:=3) (by kernel_rfl) rfl (by rfl) (λ K' hK=>?_)
          go_simp
          refine (HSM.out _ wz _ _ (KC_ok.below HCEL2.out (aB HB.out hAz)) hcy).mono ?_
          rintro e wv ⟨rfl,hbv⟩
          have hAv:Below wr.heap.size wr wv:=aB hAz hbv
          refine hK.out _ _ ⟨⟨wv,hAv⟩,rfl⟩ (λ _=>?_)
          clear hK K' hcy hbz hbv hAz
          refine bR (by kernel_rfl) (λ _ _ d _ _ h=>by cases d<;>exact h) ⟨⟨wv,hAv⟩,rfl⟩ 0 [32,33,34] _ _ (by kernel_rfl) (by kernel_rfl) ?_
          simp only[List.map_cons,List.map_nil,List.getD_cons_zero,List.getD_cons_succ,bar,bH,List.size_toArray,List.length_cons,List.length_nil,Nat.zero_add,Nat.reduceAdd,if_true,if_false,Bool.false_eq_true]
          repeat (go_big_quiet_step (fail))
          refine wpQuiet_nil ?_
          refine wpAnyH_done (by kernel_rfl) ?_ _
          have HAV:=hid hAv
          clear hAv hAy
          go_wp2_with fail
          go_roundw
          case rel=>exact⟨t+1,by go_num,by omega,aB HB.out HAV.out⟩
          case measure=>simp[intOf];omega
         ·have r3:decide ((t:Int)<(n:Int))=false:=decide_eq_false (by omega)
          refine bR (by kernel_rfl) (λ _ _ d _ _ h=>by cases d<;>exact h) ⟨⟨wy,hAy⟩,rfl⟩ 0 [11,12,13,14,15,16,17,18,19,20,21,22,23,24,25,26,27,28,29,30,31,32,33,34] _ _ (by kernel_rfl) (by kernel_rfl) ?_
          simp only[List.map_cons,List.map_nil,List.getD_cons_zero,List.getD_cons_succ,bar,bH,List.size_toArray,List.length_cons,List.length_nil,Nat.zero_add,Nat.reduceAdd,if_true,if_false,Bool.false_eq_true]
          repeat (go_big_quiet_step (fail))
          refine wpQuiet_nil ?_
          refine wpAnyH_done (by kernel_rfl) ?_ _
          have HAY:=hid hAy
          clear hAy
          go_wp2_with fail
          go_roundw
          case rel=>exact⟨t+1,by go_num,by omega,aB HB.out HAY.out⟩
          case measure=>simp[intOf];omega
        ·have r2:decide ((t:Int)<(n:Int)+64)=false:=decide_eq_false (by omega)
         clear hug hul
         go_wp2_with fail
         go_roundw
         case rel=>exact⟨j+1,by go_num,by omega,HB.out⟩
         case measure=>simp[intOf];omega
      ·have r1:decide ((j:Int)<(m:Int))=false:=decide_eq_false (by omega)
       obtain rfl:j=m:=by omega
       go_wp2_with fail
       obtain⟨w4,hw4⟩:∃w4:World,w4=wr:=⟨_,rfl⟩
       subst hw4
       obtain⟨m,hm⟩:∃m:Nat,m=j:=⟨_,rfl⟩
       subst hm
       have HF4:=hid (HF.out.below KC_ok hB)
       have HG4:=hid ((HGS.out.start (d':=0) (x':=64)).below KC_ok hB)
       have HT4:=hid (HT.out.trans (Tn.of_below hB))
       clear HF HGS HT hB hlt
       go_loopw [11] (λ i wr=>∃j:Nat,i=.int .i64 j/\j<=m/\Full KC 0 wr vs/\Gsl KC 44 G w.heap.size wr vs 0 64 j/\Tn KC.em (InV vs) w wr) (λ i _=>m-(intOf i).toNat)
       case atStart=>exact⟨0,rfl,Nat.zero_le _,HF4.out,HG4.out,HT4.out⟩
       case round =>
        clear HF4 HG4 HT4
        obtain⟨j,rfl,hj,hF,hGs,hT⟩:=hrel
        by_cases hlt:j<m
        ·have r1:decide ((j:Int)<(m:Int))=true:=decide_eq_true (by omega)
         obtain⟨v,hv⟩:∃v,vs[j]? = some v:=⟨_,List.getElem?_eq_getElem (by have:=HM.out;omega)⟩
         obtain⟨p,n,c,rfl,hnc,hcc⟩:=(hF j v hv).isSlice
         unfold maxLen at hcc
         obtain⟨rfl,hn⟩:=HL.out j _ hv
         replace hn:n<=1000000000:=hn
         have HV:=hid hv
         have HF:=hid hF
         have HGS:=hid hGs
         have HT:=hid hT
         clear hv hF hGs hT
         obtain⟨arr2,hmk2,harr2⟩:=KC_sty.make 64 (by decide) wr
         have hmk2':(Instr.makeSlice 44 (.int .i64 64) (.int .i64 64)).run prog wr=.ok (.slice (some ⟨wr.heap.size,0,none⟩) 64 64) (wr.alloc (.cells arr2 84)):=hmk2
         clear hmk2
         go_wp2_with fail
         obtain⟨wk,hwk⟩:∃wk:World,wk=wr:=⟨_,rfl⟩
         subst hwk
         obtain⟨w5,hw5⟩:∃w5,wk.alloc (.cells arr2 84)=w5:=⟨_,rfl⟩
         obtain⟨B,hBq⟩:∃B,wk.heap.size=B:=⟨_,rfl⟩
         have HB5:Hid (Below wk.heap.size wk w5):=hid (by rw[<-hw5];exact aA _ _)
         have HR5:Hid (RowI KC B w5 (.slice (some ⟨B,0,none⟩) 64 64) 0 (j+m)):=hid (by rw[<-hw5,<-hBq];exact RowI.new wk 64 (j+m) harr2 (by decide) (by decide))
         have HBq:=hid hBq
         rw[hw5,hBq]
         clear hw5 hmk2' harr2 hBq
         go_loopw [13] (λ i wr=>∃t:Nat,i=.int .i64 t/\t<=64/\RowI KC B wr (.slice (some ⟨B,0,none⟩) 64 64) t (j+m)/\Below wk.heap.size wk wr) (λ i _=>64-(intOf i).toNat)
         case atStart=>exact⟨0,rfl,by decide,HR5.out,HB5.out⟩
         case round =>
          clear HR5 HB5
          obtain⟨t,rfl,ht,hR5,hB⟩:=hrel
          have HR5:=hid hR5
          have HB:=hid hB
          clear hR5 hB
          by_cases hlt64:t<64
          ·have r2:decide ((t:Int)<64)=true:=decide_eq_true (by omega)
           have HMJ:Hid (∀W,Calls prog 238 #[.int .i64 ((j:Int)+(m:Int)),.int .i64 t] W λ e w'=>∃xs,e=.returned (.agg xs.toArray)/\KC.cel w' (mk (j+m) t) xs/\Below W.heap.size W w'):=λ W=>by
            have:=HMK.out (j+m) t W (by omega) (by omega)
            rwa [Int.natCast_add] at this
           go_wp2_with fail
           refine (HMJ.out _).mono ?_
           rintro e wx ⟨xs,rfl,hcel,hbx⟩
           have hRx:=HR5.out.on KC_ok (Tn.of_below (X:=λ _=>False) hbx) λ _ _ _ _=>id
           obtain⟨hth,hR',hT'⟩:=hRx.set KC_ok hlt64 hcel
           have hth':wx.there B (t*12) xs.toArray.size:=by rw[List.size_toArray,KC_ok.len _ _ _ hcel];exact hth
           have hsz':(prog.info? 84).map (·.size)=some xs.toArray.size:=by rw[List.size_toArray,KC_ok.len _ _ _ hcel];exact KC_sty.size
           have hon':=all_oneCell_toArray (KC_ok.one _ _ _ hcel)
           have HR':=hid hR'
           have HB':Hid (Below wk.heap.size wk (wx.setCells B (t*12) xs)):=hid (oA HB.out hbx hT' HBq.out)
           clear hRx hth hR' hT' hcel hbx HR5 HB HMJ
           go_wp2_with (refine wpList_store_mid rfl 84 _ _ rfl B (t*12) xs.toArray rfl rfl hth' hsz' hon' ?_)
           go_roundw
           case rel=>exact⟨t+1,by go_num,by omega,HR'.out,HB'.out⟩
           case measure=>simp[intOf];omega
          ·have r2:decide ((t:Int)<64)=false:=decide_eq_false (by omega)
           obtain rfl:t=64:=by omega
           obtain⟨news,hl,hnews,hone⟩:=HR5.out.all KC_ok (by decide)
           have hc:=aD (HC.out.2 _ (HT.out.trans (Tn.of_below HB.out)) j _ HV.out)
           obtain⟨g',w6,hrun,hR6,hE6,hT6⟩:=((HF.out.below KC_ok HB.out) j _ HV.out).many KC_ok KC_sty 44 (c:=64) hl (by decide) hnews hone (by show n+64<=_;omega)
           have hF6:=Full.one KC_ok hD (HF.out.below KC_ok HB.out) HV.out hT6 hR6
           have hG6:=Gsl.one KC_ok hD (HGS.out.below KC_ok HB.out) HIN.out HGW.out HV.out hT6
           obtain⟨u,hgc,hgf⟩:=hG6.cell (k:=j) (by have:=HM.out;omega)
           obtain⟨-,hG',hT'⟩:=hG6.put KC_ok (by decide) (by decide) HV.out (hE6.less (Nat.le_refl _) (Nat.le_trans HT.out.size HB.out.size))
           obtain⟨h,cap,cur,e,-⟩:=hE6
           subst e
           have HG':=hid hG'
           have HF':=hid (hF6.put KC_ok HIN.out HGW.out hT')
           have HT':=hid ((((HT.out.trans (Tn.of_below HB.out)).trans (hT6.inV HV.out))).trans' hT' λ b hb e=>by have:=HGW.out;omega)
           clear hF6 hG6 hG' hT' hT6 hR6 HR5 HB HF HGS HT hl hnews hone
           go_wp2_with (at_builtin;refine aR rfl _ _ 44 rfl _ _ _ rfl rfl hrun ?_)
           go_roundw
           case rel=>exact⟨j+1,by go_num,by omega,HF'.out,HG'.out,HT'.out⟩
           case measure=>simp[intOf];omega
        ·have r1:decide ((j:Int)<(m:Int))=false:=decide_eq_false (by omega)
         obtain rfl:j=m:=by omega
         have HF:=hid hF
         have HGS:=hid hGs
         have HT:=hid hT
         clear hF hGs hT
         go_wp2_with fail
         obtain⟨w7,hw7⟩:∃w7:World,w7=wr:=⟨_,rfl⟩
         subst hw7
         obtain⟨m,hm⟩:∃m:Nat,m=j:=⟨_,rfl⟩
         subst hm
         clear hlt
         go_loopw [14] (λ i wr=>∃j:Nat,i=.int .i64 j/\j<=m/\Below w7.heap.size w7 wr) (λ i _=>m-(intOf i).toNat)
         case atStart=>exact⟨0,rfl,Nat.zero_le _,Below.refl _ _⟩
         case round =>
          obtain⟨j,rfl,hj,hB⟩:=hrel
          by_cases hlt:j<m
          ·have r1:decide ((j:Int)<(m:Int))=true:=decide_eq_true (by omega)
           obtain⟨v,hv⟩:∃v,vs[j]? = some v:=⟨_,List.getElem?_eq_getElem (by have:=HM.out;omega)⟩
           obtain⟨p,n,c,rfl,hnc,hcc⟩:=(HF.out j v hv).isSlice
           unfold maxLen at hcc
           obtain⟨rfl,hn⟩:=HL.out j _ hv
           replace hn:n<=1000000000:=hn
           have HV:=hid hv
           have HB:=hid hB
           clear hv hB
           obtain⟨u,hgc,hgf,hE⟩:=HGS.out.get hlt HV.out
           obtain⟨h,cap,cur,rfl,-,-,hq1,hq2,-⟩:=id hE
           unfold maxLen at hq2
           replace hq1:n+64<=cap:=hq1
           have HU:Hid (U w7 G j=some (.slice (some ⟨h,0,none⟩) (n+64) cap)):=hid (nJ hgc hgf)
           have HE:=hid hE
           clear hgc hgf hE
           go_wp2_with fail
           go_loopw [15] (λ i wr=>∃t:Nat,i=.int .i64 t/\t<=n/\Below w7.heap.size w7 wr) (λ i _=>n-(intOf i).toNat)
           case atStart=>exact⟨0,rfl,Nat.zero_le _,HB.out⟩
           case round =>
            clear HB
            obtain⟨t,rfl,ht,hB⟩:=hrel
            have hug:=aE hB _ _ _ (aL HU.out) HU.out
            have hul:=HC.out.2 _ (HT.out.trans (Tn.of_below hB)) j _ HV.out
            have hlc:=aD hul
            have HB:=hid hB
            clear hB
            by_cases htn:t<n
            ·have r2:decide ((t:Int)<(n:Int))=true:=decide_eq_true (by omega)
             have q1:(0:Int)<=(t:Int):=by omega
             have q2:(t:Int)<(n:Int)+64:=by omega
             have q3:(t:Int)<(n:Int):=by omega
             obtain⟨g,rfl,-⟩:=(HF.out j _ HV.out).lies (by omega)
             obtain⟨xs,hcel,hrg⟩:=(HF.out j _ HV.out).getU (show t<vn (.slice (some ⟨g,0,none⟩) n c) from htn)
             have HCEL:=hid hcel
             have HRG:=hid hrg
             clear hcel hrg
             have hxs:xs=[.int .i64 (mk j t),.int .i64 0,.int .i64 0,.int .i64 0,.slice none 0 0,.slice none 0 0,.bool false,.int .i64 0,.int .i64 0,.int .i64 0,.slice none 0 0,.slice none 0 0]:=HCEL.out
             subst hxs
             have c0:∀n':GrownB wr.heap.size wr,n'.it.cell? ⟨g,t*12,none⟩=some (.int .i64 (mk j t)):=GrownB.cell (aE HB.out _ _ _ (aL (HRG.out 0 _ rfl)) (HRG.out 0 _ rfl)) (Nat.lt_of_lt_of_le (aL (HRG.out 0 _ rfl)) HB.out.size)
             have c1:∀n':GrownB wr.heap.size wr,n'.it.cell? ⟨g,t*12+1,none⟩=some (.int .i64 0):=GrownB.cell (aE HB.out _ _ _ (aL (HRG.out 1 _ rfl)) (HRG.out 1 _ rfl)) (Nat.lt_of_lt_of_le (aL (HRG.out 1 _ rfl)) HB.out.size)
             have c2:∀n':GrownB wr.heap.size wr,n'.it.cell? ⟨g,t*12+2,none⟩=some (.int .i64 0):=GrownB.cell (aE HB.out _ _ _ (aL (HRG.out 2 _ rfl)) (HRG.out 2 _ rfl)) (Nat.lt_of_lt_of_le (aL (HRG.out 2 _ rfl)) HB.out.size)
             have c3:∀n':GrownB wr.heap.size wr,n'.it.cell? ⟨g,t*12+3,none⟩=some (.int .i64 0):=GrownB.cell (aE HB.out _ _ _ (aL (HRG.out 3 _ rfl)) (HRG.out 3 _ rfl)) (Nat.lt_of_lt_of_le (aL (HRG.out 3 _ rfl)) HB.out.size)
             have c4:∀n':GrownB wr.heap.size wr,n'.it.cell? ⟨g,t*12+4,none⟩=some (.slice none 0 0):=GrownB.cell (aE HB.out _ _ _ (aL (HRG.out 4 _ rfl)) (HRG.out 4 _ rfl)) (Nat.lt_of_lt_of_le (aL (HRG.out 4 _ rfl)) HB.out.size)
             have c5:∀n':GrownB wr.heap.size wr,n'.it.cell? ⟨g,t*12+5,none⟩=some (.slice none 0 0):=GrownB.cell (aE HB.out _ _ _ (aL (HRG.out 5 _ rfl)) (HRG.out 5 _ rfl)) (Nat.lt_of_lt_of_le (aL (HRG.out 5 _ rfl)) HB.out.size)
             have c6:∀n':GrownB wr.heap.size wr,n'.it.cell? ⟨g,t*12+6,none⟩=some (.bool false):=GrownB.cell (aE HB.out _ _ _ (aL (HRG.out 6 _ rfl)) (HRG.out 6 _ rfl)) (Nat.lt_of_lt_of_le (aL (HRG.out 6 _ rfl)) HB.out.size)
             have c7:∀n':GrownB wr.heap.size wr,n'.it.cell? ⟨g,t*12+7,none⟩=some (.int .i64 0):=GrownB.cell (aE HB.out _ _ _ (aL (HRG.out 7 _ rfl)) (HRG.out 7 _ rfl)) (Nat.lt_of_lt_of_le (aL (HRG.out 7 _ rfl)) HB.out.size)
             have c8:∀n':GrownB wr.heap.size wr,n'.it.cell? ⟨g,t*12+8,none⟩=some (.int .i64 0):=GrownB.cell (aE HB.out _ _ _ (aL (HRG.out 8 _ rfl)) (HRG.out 8 _ rfl)) (Nat.lt_of_lt_of_le (aL (HRG.out 8 _ rfl)) HB.out.size)
             have c9:∀n':GrownB wr.heap.size wr,n'.it.cell? ⟨g,t*12+9,none⟩=some (.int .i64 0):=GrownB.cell (aE HB.out _ _ _ (aL (HRG.out 9 _ rfl)) (HRG.out 9 _ rfl)) (Nat.lt_of_lt_of_le (aL (HRG.out 9 _ rfl)) HB.out.size)
             have c10:∀n':GrownB wr.heap.size wr,n'.it.cell? ⟨g,t*12+10,none⟩=some (.slice none 0 0):=GrownB.cell (aE HB.out _ _ _ (aL (HRG.out 10 _ rfl)) (HRG.out 10 _ rfl)) (Nat.lt_of_lt_of_le (aL (HRG.out 10 _ rfl)) HB.out.size)
             have c11:∀n':GrownB wr.heap.size wr,n'.it.cell? ⟨g,t*12+11,none⟩=some (.slice none 0 0):=GrownB.cell (aE HB.out _ _ _ (aL (HRG.out 11 _ rfl)) (HRG.out 11 _ rfl)) (Nat.lt_of_lt_of_le (aL (HRG.out 11 _ rfl)) HB.out.size)
             obtain⟨xs,hcel,hrg⟩:=HE.out.getU (show t<vn (.slice (some ⟨g,0,none⟩) n c)+0 from htn)
             have HCEL2:=hid hcel
             have HRG2:=hid hrg
             clear hcel hrg
             have hxs:xs=[.int .i64 (mk j t),.int .i64 0,.int .i64 0,.int .i64 0,.slice none 0 0,.slice none 0 0,.bool false,.int .i64 0,.int .i64 0,.int .i64 0,.slice none 0 0,.slice none 0 0]:=HCEL2.out
             subst hxs
             have d0:∀n':GrownB wr.heap.size wr,n'.it.cell? ⟨h,t*12,none⟩=some (.int .i64 (mk j t)):=GrownB.cell (aE HB.out _ _ _ (aL (HRG2.out 0 _ rfl)) (HRG2.out 0 _ rfl)) (Nat.lt_of_lt_of_le (aL (HRG2.out 0 _ rfl)) HB.out.size)
             have d1:∀n':GrownB wr.heap.size wr,n'.it.cell? ⟨h,t*12+1,none⟩=some (.int .i64 0):=GrownB.cell (aE HB.out _ _ _ (aL (HRG2.out 1 _ rfl)) (HRG2.out 1 _ rfl)) (Nat.lt_of_lt_of_le (aL (HRG2.out 1 _ rfl)) HB.out.size)
             have d2:∀n':GrownB wr.heap.size wr,n'.it.cell? ⟨h,t*12+2,none⟩=some (.int .i64 0):=GrownB.cell (aE HB.out _ _ _ (aL (HRG2.out 2 _ rfl)) (HRG2.out 2 _ rfl)) (Nat.lt_of_lt_of_le (aL (HRG2.out 2 _ rfl)) HB.out.size)
             have d3:∀n':GrownB wr.heap.size wr,n'.it.cell? ⟨h,t*12+3,none⟩=some (.int .i64 0):=GrownB.cell (aE HB.out _ _ _ (aL (HRG2.out 3 _ rfl)) (HRG2.out 3 _ rfl)) (Nat.lt_of_lt_of_le (aL (HRG2.out 3 _ rfl)) HB.out.size)
             have d4:∀n':GrownB wr.heap.size wr,n'.it.cell? ⟨h,t*12+4,none⟩=some (.slice none 0 0):=GrownB.cell (aE HB.out _ _ _ (aL (HRG2.out 4 _ rfl)) (HRG2.out 4 _ rfl)) (Nat.lt_of_lt_of_le (aL (HRG2.out 4 _ rfl)) HB.out.size)
             have d5:∀n':GrownB wr.heap.size wr,n'.it.cell? ⟨h,t*12+5,none⟩=some (.slice none 0 0):=GrownB.cell (aE HB.out _ _ _ (aL (HRG2.out 5 _ rfl)) (HRG2.out 5 _ rfl)) (Nat.lt_of_lt_of_le (aL (HRG2.out 5 _ rfl)) HB.out.size)
             have d6:∀n':GrownB wr.heap.size wr,n'.it.cell? ⟨h,t*12+6,none⟩=some (.bool false):=GrownB.cell (aE HB.out _ _ _ (aL (HRG2.out 6 _ rfl)) (HRG2.out 6 _ rfl)) (Nat.lt_of_lt_of_le (aL (HRG2.out 6 _ rfl)) HB.out.size)
             have d7:∀n':GrownB wr.heap.size wr,n'.it.cell? ⟨h,t*12+7,none⟩=some (.int .i64 0):=GrownB.cell (aE HB.out _ _ _ (aL (HRG2.out 7 _ rfl)) (HRG2.out 7 _ rfl)) (Nat.lt_of_lt_of_le (aL (HRG2.out 7 _ rfl)) HB.out.size)
             have d8:∀n':GrownB wr.heap.size wr,n'.it.cell? ⟨h,t*12+8,none⟩=some (.int .i64 0):=GrownB.cell (aE HB.out _ _ _ (aL (HRG2.out 8 _ rfl)) (HRG2.out 8 _ rfl)) (Nat.lt_of_lt_of_le (aL (HRG2.out 8 _ rfl)) HB.out.size)
             have d9:∀n':GrownB wr.heap.size wr,n'.it.cell? ⟨h,t*12+9,none⟩=some (.int .i64 0):=GrownB.cell (aE HB.out _ _ _ (aL (HRG2.out 9 _ rfl)) (HRG2.out 9 _ rfl)) (Nat.lt_of_lt_of_le (aL (HRG2.out 9 _ rfl)) HB.out.size)
             have d10:∀n':GrownB wr.heap.size wr,n'.it.cell? ⟨h,t*12+10,none⟩=some (.slice none 0 0):=GrownB.cell (aE HB.out _ _ _ (aL (HRG2.out 10 _ rfl)) (HRG2.out 10 _ rfl)) (Nat.lt_of_lt_of_le (aL (HRG2.out 10 _ rfl)) HB.out.size)
             have d11:∀n':GrownB wr.heap.size wr,n'.it.cell? ⟨h,t*12+11,none⟩=some (.slice none 0 0):=GrownB.cell (aE HB.out _ _ _ (aL (HRG2.out 11 _ rfl)) (HRG2.out 11 _ rfl)) (Nat.lt_of_lt_of_le (aL (HRG2.out 11 _ rfl)) HB.out.size)
             have hgB:=GrownB.cell hug (aL hug)
             have hlB:=GrownB.cell hul (aL hul)
             clear hug hul
             go_wp2_with fail
             refine cV wr.heap.size [0,1,2,3,4,5,6,7,8] (by decide) (by kernel_rfl) (by kernel_rfl) (by kernel_rfl) (by kernel_rfl) (λ _ _ d _ _ h=>by cases d<;>exact h) ?_
             simp only[List.map_cons,List.map_nil,List.getD_cons_zero,List.getD_cons_succ,bar,bH,List.size_toArray,List.length_cons,List.length_nil,Nat.zero_add,Nat.reduceAdd,if_true,if_false,Bool.false_eq_true]
             repeat (go_big_quiet_step (fail))
             refine wpQuiet_nil ?_
             clear c0 c1 c2 c3 c4 c5 c6 c7 c8 c9 c10 c11
             refine aP (i:=9) (fuel:=16) (by kernel_rfl) rfl (by rfl) (λ K' hK=>?_)
             go_simp
             refine (HMK.out j t _ (by omega) (by omega)).mono ?_
             rintro e wx ⟨ys,rfl,hcy,hbx⟩
             have hAx:Below wr.heap.size wr wx:=aB (aZ wr) hbx
             refine hK.out _ _ ⟨⟨wx,hAx⟩,rfl⟩ (λ _=>?_)
             clear hK K'
             refine aP (i:=10) (fuel:=15) (by kernel_rfl) rfl (by rfl) (λ K' hK=>?_)
             go_simp
             refine (HSM.out _ wx _ _ (KC_ok.below HCEL.out (aB HB.out hAx)) hcy).mono ?_
             rintro e wy ⟨rfl,hby⟩
             have hAy:Below wr.heap.size wr wy:=aB hAx hby
             refine hK.out _ _ ⟨⟨wy,hAy⟩,rfl⟩ (λ _=>?_)
             clear hK K' hcy hbx hby hAx
             refine bR (by kernel_rfl) (λ _ _ d _ _ h=>by cases d<;>exact h) ⟨⟨wy,hAy⟩,rfl⟩ 4 [11,12,13,14,15,16,17,18,19,20,21] _ _ (by kernel_rfl) (by kernel_rfl) ?_
             simp only[List.map_cons,List.map_nil,List.getD_cons_zero,List.getD_cons_succ,bar,bH,List.size_toArray,List.length_cons,List.length_nil,Nat.zero_add,Nat.reduceAdd,if_true,if_false,Bool.false_eq_true]
             repeat (go_big_quiet_step (fail))
             refine wpQuiet_nil ?_
             clear d0 d1 d2 d3 d4 d5 d6 d7 d8 d9 d10 d11 hgB
             refine aP (i:=22) (fuel:=3) (by kernel_rfl) rfl (by rfl) (λ K' hK=>?_)
             go_simp
             refine (HMK.out j t _ (by omega) (by omega)).mono ?_
             rintro e wz ⟨ys,rfl,hcy,hbz⟩
             have hAz:Below wr.heap.size wr wz:=aB hAy hbz
             refine hK.out _ _ ⟨⟨wz,hAz⟩,rfl⟩ (λ _=>?_)
             clear hK K'
             refine aP (i:=23) (fuel:=2) (by kernel_rfl) rfl (by rfl) (λ K' hK=>?_)
             go_simp
             refine (HSM.out _ wz _ _ (KC_ok.below HCEL2.out (aB HB.out hAz)) hcy).mono ?_
             rintro e wv ⟨rfl,hbv⟩
             have hAv:Below wr.heap.size wr wv:=aB hAz hbv
             refine hK.out _ _ ⟨⟨wv,hAv⟩,rfl⟩ (λ _=>?_)
             clear hK K' hcy hbz hbv hAz
             refine bR (by kernel_rfl) (λ _ _ d _ _ h=>by cases d<;>exact h) ⟨⟨wv,hAv⟩,rfl⟩ 0 [24,25] _ _ (by kernel_rfl) (by kernel_rfl) ?_
             simp only[List.map_cons,List.map_nil,List.getD_cons_zero,List.getD_cons_succ,bar,bH,List.size_toArray,List.length_cons,List.length_nil,Nat.zero_add,Nat.reduceAdd,if_true,if_false,Bool.false_eq_true]
             repeat (go_big_quiet_step (fail))
             refine wpQuiet_nil ?_
             refine wpAnyH_done (by kernel_rfl) ?_ _
             have HAV:=hid hAv
             clear hAv hAy
             go_wp2_with fail
             go_roundw
             case rel=>exact⟨t+1,by go_num,by omega,aB HB.out HAV.out⟩
             case measure=>simp[intOf];omega
            ·have r2:decide ((t:Int)<(n:Int))=false:=decide_eq_false (by omega)
             clear hug hul
             go_wp2_with fail
             go_roundw
             case rel=>exact⟨j+1,by go_num,by omega,HB.out⟩
             case measure=>simp[intOf];omega
          ·have r1:decide ((j:Int)<(m:Int))=false:=decide_eq_false (by omega)
           have HB:=hid hB
           clear hB
           go_wp2_with fail
           go_ret
           exact⟨rfl,HT.out.trans (Tn.of_below HB.out)⟩
end
end Go.Proofs.YtlfnfiihfjggoaaGreatDoor
