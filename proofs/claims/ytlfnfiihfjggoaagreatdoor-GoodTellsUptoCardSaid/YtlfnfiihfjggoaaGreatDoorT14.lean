/-
  The document's rule of a constructor: its end is no member. Conditions: no more than 10000000 nodes, levels, parts; numbers that a word holds.
-/
import Derived.Test.YtlfnfiihfjggoaaGreatDoorT09
set_option linter.all false
set_option linter.unusedVariables false
set_option linter.unusedSimpArgs false
set_option linter.unnecessarySimpa false
set_option maxHeartbeats 8000000
set_option maxRecDepth 100000
namespace Go.Proofs.YtlfnfiihfjggoaaGreatDoor
open Go.RowKit Go.Proofs.Tryz
section
attribute [local simp] ty_p ty_l ty_t kH tDs cB Tm.ts rN gI ac_skip ac_label ac_region ac_seq ac_cond ac_block ac_loop ac_exit ac_ret seqK_n seqK_r seqK_e vo_nil vo_cons blkK LC rU BZ jO jP oK ev jQ gF St.out Z5 oC upd eD wV K0 asC rO mI yF oJ xE uR tU tb Dc.tk Dc.dp Dc.over Dc.app Dc.ln Dc.ds Dc.sing Dc.cont AV.cont Ds.hd Value.oneCell' GA tO AB AV.imp Dc.imp φOf eR AV.isLL AV.list AV.app AV.arg AV.isL AV.ren Dc.ren Dc.lent tmC tmA tsA iA lo? abin AV.nth Dc.own Dc.toks bV pG JD τOf
attribute [local simp] AV.room FB agC vD Ds.len Ds.dp
section
attribute [local simp] rZ nN
def stO8(cm ek en ea:Int)(el:List Lv)(ex:Ts)(G:List Ag):St:=bV [(4,.bx 5 0),(10,.bx 11 0),(14,.bx 15 0)] [(5,54,rZ),(11,54,.lit (.int .i64 cm) (.row none 9 73 (cA G) (.nilr 5 27 .nil))),(15,27,tmC none none ⟨ek,en,ea,el⟩ ex)] []
theorem oneB1(d:Dl)(ct:Tm)(n:Nat)(en:Int)(el:List Lv)(ex:Ts)(G:List Ag)(A:Ts)(ek ea cm:Int)(g1:¬ek=11):SC prog KA 158 (lL 7) (O2 ⟨cm,G,.nil⟩ 17) (tM d ⟨cm,ct⟩ n ⟨⟨ek,en,ea,el⟩,ex⟩ A G):=by
 refine OT (st':=stO8 cm ek en ea el ex G) ?_ ?_
 ·apply aK []<;>simp[AV.ok,Dc.ok,tM]
 refine mR λ K hN hR=>?_
 simp[stO8,g1]
 refine hR _ _ (by simp) ?_
 simp
 exact⟨[],by simp[rlL,rlC,Ds.app_nil]⟩
end
end
end Go.Proofs.YtlfnfiihfjggoaaGreatDoor
