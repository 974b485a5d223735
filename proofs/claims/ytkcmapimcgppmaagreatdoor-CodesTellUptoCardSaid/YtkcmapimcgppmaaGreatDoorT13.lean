/-
  The document's rule of a constructor: its end is right. Conditions: no more than 10000000 nodes, levels, parts; numbers that a word holds.
-/
import Derived.Test.YtkcmapimcgppmaaGreatDoorT09
set_option linter.all false
set_option linter.unusedVariables false
set_option linter.unusedSimpArgs false
set_option linter.unnecessarySimpa false
set_option maxHeartbeats 8000000
set_option maxRecDepth 100000
namespace Go.Proofs.YtkcmapimcgppmaaGreatDoor
section
open Go.RowKit
attribute [local simp] ty_p ty_l ty_t kH tDs bN Tm.ts kI oI ac_skip ac_label ac_region ac_seq ac_cond ac_block ac_loop ac_exit ac_ret seqK_n seqK_r seqK_e vo_nil vo_cons blkK JP oN I8 gA gB lG ev gU fF St.out A7 kX upd dD sU K0 asC oH jO tY lF tD qU pV tb Dc.tk Dc.dp Dc.over Dc.app Dc.ln Dc.ds Dc.sing Dc.cont AV.cont Ds.hd Value.oneCell' DE pP C0 AV.imp Dc.imp φOf dY AV.isLL AV.list AV.app AV.arg AV.isL AV.ren Dc.ren Dc.lent tmC tmA tsA iA lo? abin AV.nth Dc.own Dc.toks bP rI Z6 τOf
attribute [local simp] AV.room R8 agC rH Ds.len Ds.dp
section
attribute [local simp] rZ tE
theorem oneB7(d:Dl)(ct:Tm)(n:Nat)(en:Int)(el:List Lv)(ex:Ts)(G:List Ag)(A:Ts)(j:Nat)(M:Ts)(rest:Ds)(hjl:j<d.m.length)(hdp:(aZ d.m).dp j=.row 5 26 (tDs ty M) .nil rest)(hszA:A.len<=10000000)(g5:A.len=M.len)(q6:HH 152 [tsA none A] (.v (.bool false)))(e:Int)(k:SC Tryz.prog KA 158 (BI 9) (iE ⟨j,G,A⟩ e) (stO7 d ⟨j,ct⟩ n A G)):SC Tryz.prog KA 158 (BI 7) (iE ⟨j,G,A⟩ e) (zT d ⟨j,ct⟩ n ⟨⟨11,en,j,el⟩,ex⟩ A G):=by
 have dm:(aZ d.m).len=d.m.length:=aS _
 have dA:A.len*5 / 5=A.len:=by omega
 have hlt:¬d.m.length<=j:=by omega
 generalize hD:aZ d.m=DM at *
 generalize hL:d.m.length=ML at *
 have hltI:¬(ML:Int)<=j:=by omega
 have h0I:¬(j:Int)<0:=by omega
 refine MR λ K hN hR=>?_
 have dM':M.len*5 / 5=A.len:=by omega
 simp[zT,cCt,dlC,hD,hlt,hltI,h0I,dm,hdp,aF,dA,dM']
 try refine⟨by omega,?_⟩
 refine aE q6 ?_ ?_ ?_<;>simp
 refine hN _ ?_
 refine MR λ K hN hR=>?_
 simp
 refine hN _ ?_
 refine MS (st':=stO7 d ⟨(j:Int),ct⟩ n A G) ?_ ?_
 ·refine aI [] ?_ ?_ ?_<;>simp[AV.ok,Dc.ok,dlC,cCt,rlC,hD]
 exact k
end
end
end Go.Proofs.YtkcmapimcgppmaaGreatDoor
