/-
  The document's rule of a constructor: its end is of no member, or of another. Conditions: no more than 10000000 nodes, levels, parts; numbers that a word holds.
-/
import Derived.Test.YtlfnfiihfjggoaaGreatDoorT09
set_option linter.all false
set_option linter.unusedVariables false
set_option linter.unusedSimpArgs false
set_option linter.unnecessarySimpa false
set_option maxHeartbeats 8000000
set_option maxRecDepth 100000
namespace Go.Proofs.YtlfnfiihfjggoaaGreatDoor
open Go.RowKit Go.Proofs.Tryz
section
attribute [local simp] ty_p ty_l ty_t kH tDs cB Tm.ts rN gI ac_skip ac_label ac_region ac_seq ac_cond ac_block ac_loop ac_exit ac_ret seqK_n seqK_r seqK_e vo_nil vo_cons blkK LC rU BZ jO jP oK ev jQ gF St.out Z5 oC upd eD wV K0 asC rO mI yF oJ xE uR tU tb Dc.tk Dc.dp Dc.over Dc.app Dc.ln Dc.ds Dc.sing Dc.cont AV.cont Ds.hd Value.oneCell' GA tO AB AV.imp Dc.imp φOf eR AV.isLL AV.list AV.app AV.arg AV.isL AV.ren Dc.ren Dc.lent tmC tmA tsA iA lo? abin AV.nth Dc.own Dc.toks bV pG JD τOf
attribute [local simp] AV.room FB agC vD Ds.len Ds.dp
section
attribute [local simp] rZ nN
def stO9(c:Ct)(E:Tm)(G:List Ag):St:=bV [(3,.bx 4 0),(4,.bx 5 0),(10,.bx 11 0),(14,.bx 15 0)] [(4,76,cCt c),(5,54,rZ),(11,54,.lit (.int .i64 c.m) (.row none 9 73 (cA G) (.nilr 5 27 .nil))),(15,27,tmC none none E.h E.x)] []
theorem oneB2(d:Dl)(ct:Tm)(n:Nat)(en:Int)(el:List Lv)(ex:Ts)(G:List Ag)(A:Ts)(ea cm:Int)(g2:¬ea=cm):SC prog KA 158 (lL 7) (O2 ⟨cm,G,.nil⟩ 17) (tM d ⟨cm,ct⟩ n ⟨⟨11,en,ea,el⟩,ex⟩ A G):=by
 refine OT (st':=stO9 ⟨cm,ct⟩ ⟨⟨11,en,ea,el⟩,ex⟩ G) ?_ ?_
 ·apply aK []<;>simp[AV.ok,Dc.ok,tM,cCt]
 refine mR λ K hN hR=>?_
 simp[stO9,cCt,g2]
 refine hR _ _ (by simp) ?_
 simp
 exact⟨[],by simp[rlL,rlC,Ds.app_nil]⟩
theorem oneB3(d:Dl)(ct:Tm)(n:Nat)(en:Int)(el:List Lv)(ex:Ts)(G:List Ag)(A:Ts)(ea:Int)(g3:ea<0):SC prog KA 158 (lL 7) (O2 ⟨ea,G,.nil⟩ 17) (tM d ⟨ea,ct⟩ n ⟨⟨11,en,ea,el⟩,ex⟩ A G):=by
 refine OT (st':=stO9 ⟨ea,ct⟩ ⟨⟨11,en,ea,el⟩,ex⟩ G) ?_ ?_
 ·apply aK []<;>simp[AV.ok,Dc.ok,tM,cCt]
 refine mR λ K hN hR=>?_
 simp[stO9,cCt,g3]
 refine hR _ _ (by simp) ?_
 simp
 exact⟨[],by simp[rlL,rlC,Ds.app_nil]⟩
theorem oneB4(d:Dl)(ct:Tm)(n:Nat)(en:Int)(el:List Lv)(ex:Ts)(G:List Ag)(A:Ts)(j:Nat)(g4:d.m.length<=j):SC prog KA 158 (lL 7) (O2 ⟨j,G,.nil⟩ 17) (tM d ⟨j,ct⟩ n ⟨⟨11,en,j,el⟩,ex⟩ A G):=by
 have dm:(bI d.m).len=d.m.length:=aW _
 refine mR λ K hN hR=>?_
 simp[tM,cCt,dlC,g4,dm]
 refine hR _ _ (by simp) ?_
 simp
 exact⟨[],by simp[rlL,rlC,Ds.app_nil]⟩
end
end
end Go.Proofs.YtlfnfiihfjggoaaGreatDoor
