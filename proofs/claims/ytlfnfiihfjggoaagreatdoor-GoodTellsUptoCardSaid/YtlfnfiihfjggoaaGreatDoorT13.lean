/-
  The document's rule of a constructor: its end is right. Conditions: no more than 10000000 nodes, levels, parts; numbers that a word holds.
-/
import Derived.Test.YtlfnfiihfjggoaaGreatDoorT09
set_option linter.all false
set_option linter.unusedVariables false
set_option linter.unusedSimpArgs false
set_option linter.unnecessarySimpa false
set_option maxHeartbeats 8000000
set_option maxRecDepth 100000
namespace Go.Proofs.YtlfnfiihfjggoaaGreatDoor
open Go.RowKit Go.Proofs.Tryz
section
attribute [local simp] ty_p ty_l ty_t kH tDs cB Tm.ts rN gI ac_skip ac_label ac_region ac_seq ac_cond ac_block ac_loop ac_exit ac_ret seqK_n seqK_r seqK_e vo_nil vo_cons blkK LC rU BZ jO jP oK ev jQ gF St.out Z5 oC upd eD wV K0 asC rO mI yF oJ xE uR tU tb Dc.tk Dc.dp Dc.over Dc.app Dc.ln Dc.ds Dc.sing Dc.cont AV.cont Ds.hd Value.oneCell' GA tO AB AV.imp Dc.imp φOf eR AV.isLL AV.list AV.app AV.arg AV.isL AV.ren Dc.ren Dc.lent tmC tmA tsA iA lo? abin AV.nth Dc.own Dc.toks bV pG JD τOf
attribute [local simp] AV.room FB agC vD Ds.len Ds.dp
section
attribute [local simp] rZ nN
theorem oneB7(d:Dl)(ct:Tm)(n:Nat)(en:Int)(el:List Lv)(ex:Ts)(G:List Ag)(A:Ts)(j:Nat)(M:Ts)(rest:Ds)(hjl:j<d.m.length)(hdp:(bI d.m).dp j=.row 5 27 (tDs ty M) .nil rest)(hszA:A.len<=10000000)(g5:A.len=M.len)(q6:HH 129 [tsA none A] (.v (.bool false)))(e:Int)(k:SC prog KA 158 (lL 9) (O2 ⟨j,G,A⟩ e) (stO7 d ⟨j,ct⟩ n A G)):SC prog KA 158 (lL 7) (O2 ⟨j,G,A⟩ e) (tM d ⟨j,ct⟩ n ⟨⟨11,en,j,el⟩,ex⟩ A G):=by
 have dm:(bI d.m).len=d.m.length:=aW _
 have dA:A.len*5 / 5=A.len:=by omega
 have hlt:¬d.m.length<=j:=by omega
 generalize hD:bI d.m=DM at *
 generalize hL:d.m.length=ML at *
 have hltI:¬(ML:Int)<=j:=by omega
 have h0I:¬(j:Int)<0:=by omega
 refine mR λ K hN hR=>?_
 have dM':M.len*5 / 5=A.len:=by omega
 simp[tM,cCt,dlC,hD,hlt,hltI,h0I,dm,hdp,aF,dA,dM']
 try refine⟨by omega,?_⟩
 apply aC q6<;>simp
 refine hN _ ?_
 refine mR λ K hN hR=>?_
 simp
 refine hN _ ?_
 refine OT (st':=stO7 d ⟨(j:Int),ct⟩ n A G) ?_ ?_
 ·apply aK []<;>simp[AV.ok,Dc.ok,dlC,cCt,rlC,hD]
 exact k
end
end
end Go.Proofs.YtlfnfiihfjggoaaGreatDoor
