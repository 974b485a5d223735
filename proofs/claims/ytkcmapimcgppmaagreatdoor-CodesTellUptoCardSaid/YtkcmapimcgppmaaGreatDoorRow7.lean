/-
  Statement 'CodesTellUpto' of the law spandrellaw22.CodesTell: for every declaration, rules, two numbers, of bulk at most the statement's own bound, the law returns true, its arguments read as they did. Conditions: none beyond the statement's own.
-/
import Derived.Test.YtkcmapimcgppmaaGreatDoorT16
set_option linter.all false
set_option linter.unusedVariables false
set_option linter.unusedSimpArgs false
set_option linter.unnecessarySimpa false
set_option maxHeartbeats 8000000
set_option maxRecDepth 100000
namespace Go.Proofs.YtkcmapimcgppmaaGreatDoor
open Go.ChangeShapes Go.WideShapes Go.ChangeAt Go.RowKit
namespace CodesTellRow
theorem JV(os:Os):laidMet Tryz.prog Rows.codesTellUptoRow.laid ((sQ os).forCall (λ _ _=>0) ⟨#[],#[noDl,.slice none 0 0,.int .i64 0,.int .i64 0],[]⟩).memory :=
 laidMet_of_run' 16 (by kernel_rfl) (by kernel_rfl)
theorem reads(os:Os){H:Type}(enc:TypeId×Value->H):∃places,DataW.whole enc Tryz.prog ((sQ os).forCall (λ _ _=>0) ⟨#[],#[noDl,.slice none 0 0,.int .i64 0,.int .i64 0],[]⟩).memory Tryz.f4.params.toList Rows.codesTellSpec.vars false #[noDl,Value.slice none 0 0,.int .i64 0,.int .i64 0].toList 8=some ([noDlD,.nil,.lit (.int .i64 0),.lit (.int .i64 0)],[],places) :=
 ⟨[],by kernel_rfl⟩
theorem LI(H:Type)(enc:TypeId×Value->H)(W:World)(base:Nat)(args:Array Value)(ds gs:List (DataW H))(before:List MemPlace)
  (hval:∀(j:Nat) t v,Tryz.f4.params[j]? = some t->args[j]? = some v->Value.okWide Tryz.prog W .any base t v)
  (hW:DataW.Whole enc Tryz.prog Tryz.f4.params.toList Rows.codesTellSpec.vars false W args.toList ds gs before)
  (hc:Rows.uptoSmall H (ds++gs)=true) (hL:laidMetH Tryz.prog Rows.codesTellUptoRow.laid W) :
  Calls Tryz.prog 4 args W λ e W'=>∃v,e=.returned v/\Rows.codesTellSpec.post enc Tryz.prog Tryz.f4 false true false false W args v W':=by
 have hW':=hW
 obtain⟨p,q,hA0,hV,rfl,hfz,hnd⟩:=hW
 have hA:DataW.TrodAll enc Tryz.prog W 0 (λ _=>true) true Tryz.f4.params.toList args.toList ds p:=hA0
 rw[Tryz.params4] at hA hval
 obtain⟨v0,vs0,d0,ds0,p0,q0,hargs,rfl,rfl,h0,r0⟩:=trodAll_cons hA
 obtain⟨v1,vs1,d1,ds1,p1,q1,rfl,rfl,rfl,h1,r0⟩:=trodAll_cons r0
 obtain⟨v2,vs2,d2,ds2,p2,q2,rfl,rfl,rfl,h2,r0⟩:=trodAll_cons r0
 obtain⟨v3,vs3,d3,ds3,p3,q3,rfl,rfl,rfl,h3,r0⟩:=trodAll_cons r0
 obtain⟨rfl,rfl,rfl⟩:=trodAll_nil r0
 obtain rfl:args=#[v0,v1,v2,v3]:=by cases args;simp_all
 obtain⟨rfl,rfl⟩:=trodVars_none hV
 clear hA0 hA
 simp only[List.append_nil] at hW' hfz hc
 have hfree:gS W (p0++(p1++(p2++p3))):=λ b off hp=>hfz b off hp
 obtain⟨z0,hfree⟩:=fC hfree
 obtain⟨z1,hfree⟩:=fC hfree
 obtain⟨z2,z3⟩:=fC hfree
 obtain⟨d,f1,s1,g1⟩:=in_decl (hval 0 47 v0 rfl rfl) h0 z0
 obtain⟨l,f2,s2,g2⟩:=KG (hval 1 48 v1 rfl rfl) h1 z1
 obtain⟨base',rfl,rfl,rfl,hi⟩:=Go.ChangeShapes.open_int (H:=H) Tryz.underlying3 (hval 2 3 v2 rfl rfl) h2
 obtain⟨far,rfl,rfl,rfl,hn⟩:=Go.ChangeShapes.open_int (H:=H) Tryz.underlying3 (hval 3 3 v3 rfl rfl) h3
 have hbulk:Rows.uptoBulkAll [d0,d1,.lit (.int .i64 base'),.lit (.int .i64 far)]<=1048576:=by simpa[Rows.uptoSmall] using hc
 simp only[Rows.uptoBulkAll] at hbulk
 have hrr:RepV (bE (U W) W) (aP l) [v1]:=⟨qW _,v1,[],rfl,g2,Gh.Ow_none,rfl⟩
 have hfw:fW base':=wf_in hi
 refine (JT d l base' far v0 v1 W (ka_of hL) g1 hrr f1.p f1.s f1.m f1.c f2 hfw ⟨by omega,by omega,by omega,by omega,by omega,by omega⟩ (by omega)).mono λ e W' ⟨he,hb⟩=>?_
 subst he
 have hlt:∀x∈p0++(p1++([]++[])),x.block<W.heap.size:=λ x hx=>hW'.lt x hx
 exact⟨_,rfl,JS hW' hb (λ _ _ _=>trodAll_cons_mk (shut_bool Tryz.underlying4 _) trodAll_mk0)
  (λ sp hsp=>by
   have k0:=CY (sp:=sp) h0 hb (λ x hx=>hlt x (by simp[hx])) (λ x hx=>hsp x (by simp[hx]))
   have k1:=T9 (sp:=sp) h1 hb (λ x hx=>hlt x (by simp[hx])) (λ x hx=>hsp x (by simp[hx]))
   have k2:DataW.Trod enc Tryz.prog W' 0 sp true 3 (.int .i64 base') (.lit (.int .i64 base')) []:=shut_int Tryz.underlying3 hi
   have k3:DataW.Trod enc Tryz.prog W' 0 sp true 3 (.int .i64 far) (.lit (.int .i64 far)) []:=shut_int Tryz.underlying3 hn
   have:=trodAll_cons_mk k0 (trodAll_cons_mk k1 (trodAll_cons_mk k2 (trodAll_cons_mk k3 (trodAll_mk0 (enc:=enc) (P:=Tryz.prog) (w:=W')))))
   rw[Tryz.params4]
   exact this) (λ _=>rfl)
  (ok_one (by kernel_rfl) rfl (okWide_bool_mk Tryz.underlying4 _))⟩
theorem lifted(os:Os)(started:os.Started)(H:Type)(enc:TypeId×Value->H)(F:Stop.Interp) :
  ReturnsInHanded {} Tryz.checked os 4 .any ((Rows.OpenSpec.upto Rows.codesTellSpec).preRow enc Tryz.prog Tryz.f4 Rows.codesTellUptoRow.domain false Rows.codesTellUptoRow.laid) (((Rows.OpenSpec.upto Rows.codesTellSpec).at F).post enc Tryz.prog Tryz.f4 false true false false):=by
 obtain⟨places,hx⟩:=reads os enc
 refine returnsInHanded_of_row (C:=Tryz.checked) (s:=Rows.OpenSpec.upto Rows.codesTellSpec) JA started (by kernel_rfl) Tryz.func4
  (witness_row_at (enc:=enc) (C:=Tryz.checked) false (sQ os) #[noDl,.slice none 0 0,.int .i64 0,.int .i64 0] rfl (by kernel_rfl) (by kernel_rfl) (by kernel_rfl)
   (OpenSpec.preRow_of_cond 8 hx (by kernel_rfl) (λ k hk=>by cases hk;kernel_rfl) (by kernel_rfl) (JV os))) ?_
 intro W base args ds gs before hval hW _ hcond _ hL _ _
 exact LI H enc W base args ds gs before hval hW (hcond _ rfl) hL
theorem said:Rows.CodesTellUptoSaid :=
 OpenClaim.holds_of_cond 4 Tryz.f4 rfl rfl rfl rfl rfl rfl rfl ⟨rfl,rfl,rfl,rfl,rfl⟩ rfl rfl rfl rfl rfl (by kernel_rfl) Tryz.func4 (by kernel_rfl)
  (of_decide_eq_true (by kernel_rfl)) (by unfold Func.isWrapper;first|(rw[if_pos (by decide +kernel)];kernel_rfl)|(rw[if_neg (by decide +kernel)];exact⟨rfl,rfl⟩))
  (λ os started H enc _ F=>by rw[OpenClaim.pre_eq_preRow];exact lifted os started H enc F)
theorem plain (f : FuncId) (fn : Func) (hf : Tryz.pinned.checked.prog.funcNamed "spandrel/spandrellaw22.CodesTell" = some f) (hfn : Tryz.pinned.checked.prog.funcs[f]? = some fn) :
  true=Tryz.pinned.checked.prog.looks []/\∀(j:Nat) t,fn.params[j]? = some t->Tryz.pinned.checked.prog.wantsStandIn t=false:=by
 obtain rfl : f = 4 := Option.some.inj ((show Tryz.prog.funcNamed "spandrel/spandrellaw22.CodesTell" = some 4 by kernel_rfl).symm.trans hf) |>.symm
 obtain rfl:fn=Tryz.f4:=(Option.some.inj (Tryz.func4.symm.trans hfn)).symm
 refine⟨by kernel_rfl,λ j t ht=>?_⟩
 rw[Tryz.params4] at ht
 have:t=47∨t=48∨t=3:=by
  have:=Array.mem_of_getElem? ht
  simp at this
  rcases this with h|h|h<;>simp[h]
 rcases this with rfl|rfl|rfl
 ·exact (show Tryz.prog.wantsStandIn 47=false by kernel_rfl)
 ·exact (show Tryz.prog.wantsStandIn 48=false by kernel_rfl)
 ·exact (show Tryz.prog.wantsStandIn 3=false by kernel_rfl)
end CodesTellRow
theorem codesTellUpto_card_holds:Rows.CodesTellUptoCardSaid :=
 Claim7.holds_tied_plain_at .later [] _ _ _ _ CodesTellRow.said (λ _ h=>by cases h) (by kernel_rfl) (λ _ h=>by cases h) codesTellUpto_row_tie rfl ⟨rfl,rfl⟩ (by kernel_rfl) rfl CodesTellRow.plain (by kernel_rfl)
end Go.Proofs.YtkcmapimcgppmaaGreatDoor
