/-
  The document's rule of a constructor: its end is no member. Conditions: no more than 10000000 nodes, levels, parts; numbers that a word holds.
-/
import Derived.Test.YtkcmapimcgppmaaGreatDoorT09
set_option linter.all false
set_option linter.unusedVariables false
set_option linter.unusedSimpArgs false
set_option linter.unnecessarySimpa false
set_option maxHeartbeats 8000000
set_option maxRecDepth 100000
namespace Go.Proofs.YtkcmapimcgppmaaGreatDoor
section
open Go.RowKit
attribute [local simp] ty_p ty_l ty_t kH tDs bN Tm.ts kI oI ac_skip ac_label ac_region ac_seq ac_cond ac_block ac_loop ac_exit ac_ret seqK_n seqK_r seqK_e vo_nil vo_cons blkK JP oN I8 gA gB lG ev gU fF St.out A7 kX upd dD sU K0 asC oH jO tY lF tD qU pV tb Dc.tk Dc.dp Dc.over Dc.app Dc.ln Dc.ds Dc.sing Dc.cont AV.cont Ds.hd Value.oneCell' DE pP C0 AV.imp Dc.imp φOf dY AV.isLL AV.list AV.app AV.arg AV.isL AV.ren Dc.ren Dc.lent tmC tmA tsA iA lo? abin AV.nth Dc.own Dc.toks bP rI Z6 τOf
attribute [local simp] AV.room R8 agC rH Ds.len Ds.dp
section
attribute [local simp] rZ tE
def stO8(cm ek en ea:Int)(el:List Lv)(ex:Ts)(G:List Ag):St:=bP [(4,.bx 5 0),(10,.bx 11 0),(14,.bx 15 0)] [(5,65,rZ),(11,65,.lit (.int .i64 cm) (.row none 9 82 (bW G) (.nilr 5 26 .nil))),(15,26,tmC none none ⟨ek,en,ea,el⟩ ex)] []
theorem oneB1(d:Dl)(ct:Tm)(n:Nat)(en:Int)(el:List Lv)(ex:Ts)(G:List Ag)(A:Ts)(ek ea cm:Int)(g1:¬ek=11):SC Tryz.prog KA 158 (BI 7) (iE ⟨cm,G,.nil⟩ 17) (zT d ⟨cm,ct⟩ n ⟨⟨ek,en,ea,el⟩,ex⟩ A G):=by
 refine MS (st':=stO8 cm ek en ea el ex G) ?_ ?_
 ·refine aI [] ?_ ?_ ?_<;>simp[AV.ok,Dc.ok,zT]
 refine MR λ K hN hR=>?_
 simp[stO8,g1]
 refine hR _ _ (by simp) ?_
 simp
 exact⟨[],by simp[rlL,rlC,Ds.app_nil]⟩
end
end
end Go.Proofs.YtkcmapimcgppmaaGreatDoor
