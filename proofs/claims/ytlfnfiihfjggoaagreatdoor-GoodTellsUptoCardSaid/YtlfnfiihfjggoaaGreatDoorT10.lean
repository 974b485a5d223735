/-
  The document's rule of a constructor: are earlier arguments mentioned. Conditions: no more than 10000000 nodes, levels, parts; numbers that a word holds.
-/
import Derived.Test.YtlfnfiihfjggoaaGreatDoorT09
set_option linter.all false
set_option linter.unusedVariables false
set_option linter.unusedSimpArgs false
set_option linter.unnecessarySimpa false
set_option maxHeartbeats 8000000
set_option maxRecDepth 100000
namespace Go.Proofs.YtlfnfiihfjggoaaGreatDoor
open Go.RowKit Go.Proofs.Tryz
section
attribute [local simp] ty_p ty_l ty_t kH tDs cB Tm.ts rN gI ac_skip ac_label ac_region ac_seq ac_cond ac_block ac_loop ac_exit ac_ret seqK_n seqK_r seqK_e vo_nil vo_cons blkK LC rU BZ jO jP oK ev jQ gF St.out Z5 oC upd eD wV K0 asC rO mI yF oJ xE uR tU tb Dc.tk Dc.dp Dc.over Dc.app Dc.ln Dc.ds Dc.sing Dc.cont AV.cont Ds.hd Value.oneCell' GA tO AB AV.imp Dc.imp φOf eR AV.isLL AV.list AV.app AV.arg AV.isL AV.ren Dc.ren Dc.lent tmC tmA tsA iA lo? abin AV.nth Dc.own Dc.toks bV pG JD τOf
attribute [local simp] AV.room FB agC vD Ds.len Ds.dp
section
attribute [local simp] rZ nN
theorem oneC(d:Dl)(cm:Int)(ct:Tm)(n:Nat)(G:List Ag)(A:Ts)(mb:Ag×Int->Bool)(e:Int)(hn10:n<=10)(hGl:G.length=n)(hsG:dI G<=10000000)(hszA:A.size<=10000000)(hmb:∀p:Ag×Int,p.1.t.size<=100000000->p.1.e.size<=100000000->p.1.i.size<=100000000->HH 130 [agL p.1,iA p.2] (.v (.bool (mb p))))(he1:(∃i,Q5 (λ a k=>mb (a,k)) n G A i)->e=16)(he2:(∀i,¬Q5 (λ a k=>mb (a,k)) n G A i)->e=0):SC prog KA 158 (lL 9) (O2 ⟨cm,G,A⟩ e) (stO7 d ⟨cm,ct⟩ n A G):=by
 have hAl:A.len<=10000000:=Nat.le_trans (len_le_size A) hszA
 have dA:A.len*5 / 5=A.len:=by omega
 have dG:G.length*9 / 9=G.length:=by omega
 refine step ?_
 simp[stO7]
 refine lp (α:={ i:Nat // i<=n/\∀i',i'<i->¬Q5 (λ a k=>mb (a,k)) n G A i' }) (λ i=>stO2 d ⟨cm,ct⟩ n G A i.1) (λ i=>n-i.1) ⟨0,Nat.zero_le _,λ i' h=>absurd h (Nat.not_lt_zero _)⟩ ?_ ?_
 ·apply aK []<;>simp[AV.ok,Dc.ok,dlC,cCt,rlC]
 ·rintro⟨i,hi,hno⟩
  by_cases hlt2:i<n
  ·have hiG:i<G.length:=by omega
   have h1:=lX hiG
   have hwi:=wr1 (k:=i) (by omega)
   have hlI:(i:Int)<n:=by omega
   cases hr:G[i].r with
   | false =>
    have hnot:¬Q5 (λ a k=>mb (a,k)) n G A i:=λ ⟨h,h2,_⟩=>by rw[hr] at h2;cases h2
    simp[stO2,rlC,hlI,aU,dG,h1,cA,hr]
    refine⟨by omega,?_⟩
    refine⟨i+1,by omega,⟨by omega,λ i' h'=>?_⟩,?_⟩
    ·rcases Nat.lt_or_ge i' i with h|h
     ·exact hno i' h
     ·obtain rfl:i'=i:=by omega
      exact hnot
    ·apply aK []<;>simp[AV.ok,Dc.ok,dlC,cCt,rlC,hwi]
   | true =>
    simp[stO2,rlC,hlI,aU,dG,h1,cA,hr]
    refine⟨by omega,?_⟩
    refine lp (α:={ k:Nat // i<k/\k<=n/\∀k',i<k'->k'<k->∀h:k'<G.length,mb (G[k'],(k':Int)-1-i)=false }) (λ k=>stO3 d ⟨cm,ct⟩ n G A i k.1) (λ k=>n-k.1) ⟨i+1,by omega,by omega,λ k' h1 h2=>by omega⟩ ?_ ?_
    ·apply aK []<;>simp[AV.ok,Dc.ok,dlC,cCt,rlC,hwi]
    ·rintro⟨k,hik,hkn,hmk⟩
     by_cases hkl:k<n
     ·have hkG:k<G.length:=by omega
      have h2:=lX hkG
      have hsz:=mD hkG
      have hkI:(k:Int)<n:=by omega
      have w1:IntKind.i64.wrap ((k:Int)-1)=k-1:=by rw[IntKind.wrap_i64];omega
      have w2:IntKind.i64.wrap ((k:Int)-1-i)=k-1-i:=by rw[IntKind.wrap_i64];omega
      have hwk:=wr1 (k:=k) (by omega)
      have qm:=hmb (G[k],(k:Int)-1-i) (by simp only;omega) (by simp only;omega) (by simp only;omega)
      simp only at qm
      cases hb:mb (G[k],(k:Int)-1-i) with
      | true =>
       obtain rfl:e=16:=he1 ⟨i,hiG,hr,.inl ⟨k,hkG,hik,hb⟩⟩
       rw[hb] at qm
       generalize hu:G[k]=u at *
       simp[stO3,rlC,hkI,aU,dG,h2,cA,w1,w2]
       refine⟨by omega,?_⟩
       apply aC qm<;>simp[agL,rlC]
       exact⟨[],by simp[rlL,rlC]⟩
      | false =>
       rw[hb] at qm
       simp[stO3,rlC,hkI,aU,dG,h2,cA,w1,w2]
       refine⟨by omega,?_⟩
       apply aC qm<;>simp[agL]
       refine⟨k+1,by omega,⟨by omega,by omega,λ k' h3 h4 h5=>?_⟩,?_⟩
       ·rcases Nat.lt_or_ge k' k with h|h
        ·exact hmk k' h3 h h5
        ·obtain rfl:k'=k:=by omega
         exact hb
       ·apply aK []<;>simp[AV.ok,Dc.ok,dlC,cCt,rlC,hwk]
     ·have hkI:¬(k:Int)<n:=by omega
      have hmk3:∀k',i<k'->∀h:k'<G.length,mb (G[k'],(k':Int)-1-i)=false:=λ k' h3 h=>hmk k' h3 (by omega) h
      simp[stO3,hkI]
      clear hmk
      refine lp (α:={ m:Nat // m<=A.len/\∀m',m'<m->mC ((n:Int)-1-i) ((n:Int)-i) ⟨A.hd m',A.kd m'⟩ 0=false }) (λ m=>stO4 d ⟨cm,ct⟩ n G A i m.1) (λ m=>A.len-m.1) ⟨0,Nat.zero_le _,λ m' h=>absurd h (Nat.not_lt_zero _)⟩ ?_ ?_
      ·apply aK []<;>simp[AV.ok,Dc.ok,dlC,cCt,rlC]
      ·rintro⟨m,hm2,hmm⟩
       by_cases hml:m<A.len
       ·have h2:=tB A m
        rw[Ts.drop_step hml] at h2
        have h5:=Ts.size_kd hml
        have w1:IntKind.i64.wrap ((n:Int)-1)=n-1:=by rw[IntKind.wrap_i64];omega
        have w2:IntKind.i64.wrap ((n:Int)-1-i)=n-1-i:=by rw[IntKind.wrap_i64];omega
        have w3:IntKind.i64.wrap ((n:Int)-i)=n-i:=by rw[IntKind.wrap_i64];omega
        have hwm:=wr1 (k:=m) (by omega)
        have qf:=MA ((n:Int)-1-i) ((n:Int)-i) ⟨A.hd m,A.kd m⟩ (by unfold Tm.size;simp only;omega)
        cases hb:mC ((n:Int)-1-i) ((n:Int)-i) ⟨A.hd m,A.kd m⟩ 0 with
        | true =>
         obtain rfl:e=16:=he1 ⟨i,hiG,hr,.inr ⟨m,hml,hb⟩⟩
         rw[hb] at qf
         simp[stO4,rlC,hml,aF,dA,h2,w1,w2,w3]
         refine⟨by omega,?_⟩
         apply aC qf<;>simp[rlC]
         exact⟨[],by simp[rlL,rlC]⟩
        | false =>
         rw[hb] at qf
         simp[stO4,rlC,hml,aF,dA,h2,w1,w2,w3]
         refine⟨by omega,?_⟩
         apply aC qf<;>simp
         refine⟨m+1,by omega,⟨by omega,λ m' h3=>?_⟩,?_⟩
         ·rcases Nat.lt_or_ge m' m with h|h
          ·exact hmm m' h
          ·obtain rfl:m'=m:=by omega
           exact hb
         ·apply aK []<;>simp[AV.ok,Dc.ok,dlC,cCt,rlC,hwm]
       ·have hnot:¬Q5 (λ a k=>mb (a,k)) n G A i:=λ ⟨h,h2,h3⟩=>by
         rcases h3 with ⟨k',hk',h4,h6⟩|⟨m',h4,h6⟩
         ·have:=hmk3 k' h4 hk'
          simp only at h6
          rw[this] at h6;cases h6
         ·have:=hmm m' (by omega)
          rw[this] at h6;cases h6
        have hmI:¬(m:Int)<A.len:=by omega
        simp[stO4,hml,aF,dA,hmI]
        refine⟨i+1,by omega,⟨by omega,λ i' h'=>?_⟩,?_⟩
        ·rcases Nat.lt_or_ge i' i with h|h
         ·exact hno i' h
         ·obtain rfl:i'=i:=by omega
          exact hnot
        ·apply aK []<;>simp[AV.ok,Dc.ok,dlC,cCt,rlC,hwi]
  ·obtain rfl:e=0:=he2 λ i' h=>by
    rcases Nat.lt_or_ge i' i with h1|h1
    ·exact hno i' h1 h
    ·have:=h.choose
     omega
   have hlI:¬(i:Int)<n:=by omega
   simp[stO2,hlI]
   refine last ?_
   simp[rlC]
   exact⟨[],by simp[rlL,rlC]⟩
end
end
end Go.Proofs.YtlfnfiihfjggoaaGreatDoor
