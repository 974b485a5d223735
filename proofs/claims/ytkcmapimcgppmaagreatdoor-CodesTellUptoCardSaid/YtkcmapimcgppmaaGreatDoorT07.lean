/-
  Lists, and the lists within them, are put into the bag: parts, levels, terms, and what follows. Conditions: as each lemma states them.
-/
import Derived.Test.YtkcmapimcgppmaaGreatDoorT06
import Derived.Test.YtkcmapimcgppmaaGreatDoorT01
import Derived.Test.YtkcmapimcgppmaaGreatDoorProg
import Derived.WalkKit
import Derived.Test.YtkcmapimcgppmaaGreatDoorT04
import Derived.Test.YtkcmapimcgppmaaGreatDoorT05
import Derived.Test.YtkcmapimcgppmaaGreatDoorT03
set_option linter.all false
set_option linter.unusedVariables false
set_option linter.unusedSimpArgs false
set_option linter.unnecessarySimpa false
set_option maxHeartbeats 8000000
set_option maxRecDepth 100000
namespace Go.Proofs.YtkcmapimcgppmaaGreatDoor
section
open Go.RowKit
def Lies(F:Mem)(B0:Nat)(w:World):Prop:=∀b o u,b<B0->F b o=some u->U w b o=some u
theorem Lies.on{F:Mem}{B0:Nat}{w w':World}(h:Lies F B0 w)(hb:Below B0 w w'):Lies F B0 w':=λ b o u hl hu=>aD hb b o u hl (h b o u hl hu)
theorem A6(β B0:Nat)(f:Nat->List Value)(p:Option Addr)(n c:Nat)(w:World)(h:BagAt w β B0 f)(hB:B0<=w.heap.size)(hn:(f 7).length+1<=100000000000) :
  Calls Tryz.prog 236 #[.pointer (some ⟨β,0,none⟩),.slice p n c] w λ e w'=>e=.returned (.tuple #[])/\BagAt w' β B0 (dC f [.slice p n c] [] [])/\PF B0 w w':=by
 obtain⟨v,v',w2,hc1,hc2,hr,⟨a,m,d,rfl⟩,⟨u,hc3⟩,hf3,hbag,hbel⟩:=h.put (P:=Tryz.prog) (i:=7) KPS_sty rfl rfl 105 (by decide) (.slice p n c) rfl hn hB
 rw[fadd7] at hbag
 have HBAG:=hid hbag
 have HBEL:=hid hbel
 clear hbag hbel h
 go_enter Tryz.func236,Tryz.ntmps236
 go_wp2_with (at_builtin;refine wpList_append_run rfl _ _ 105 rfl _ _ _ rfl rfl hr ?_)
 go_end0
 exact⟨rfl,HBAG.out,HBEL.out⟩
theorem B8(β B0:Nat)(f:Nat->List Value)(p:Option Addr)(n c:Nat)(w:World)(h:BagAt w β B0 f)(hB:B0<=w.heap.size)(hn:(f 7).length+1<=100000000000) :
  Calls Tryz.prog 230 #[.pointer (some ⟨β,0,none⟩),.agg #[.slice p n c]] w λ e w'=>e=.returned (.tuple #[])/\BagAt w' β B0 (dC f [.slice p n c] [] [])/\PF B0 w w':=by
 have hb:=aB w (.cells #[.slice p n c] 43)
 have HP:=hid (A6 β B0 f p n c (w.alloc (.cells #[.slice p n c] 43)) (h.below hb) (Nat.le_trans hB hb.size) hn)
 have HB:=hid (PF.of_below hb hB)
 clear h hb
 go_enter Tryz.func230,Tryz.ntmps230
 go_wp2_with fail
 refine HP.out.mono ?_
 rintro e w1 ⟨rfl,h1,h2⟩
 have H1:=hid h1
 have H2:=hid (HB.out.trans h2)
 clear h1 h2
 go_wp2_with fail
 go_end0
 exact⟨rfl,H1.out,H2.out⟩
theorem xM(β B0:Nat)(F:Mem)(f:Nat->List Value)(v:Value)(us:List Value)(w:World)(h:BagAt w β B0 f)(hF:Lies F B0 w)(hB:B0<=w.heap.size)(hv:GL F B0 v us)(hn:(f 7).length+us.length<=10000000000)(hn8:(f 8).length+1<=10000000000) :
  Calls Tryz.prog 207 #[.pointer (some ⟨β,0,none⟩),v] w λ e w'=>e=.returned (.tuple #[])/\BagAt w' β B0 (dC f us [v] [])/\PF B0 w w':=by
 obtain⟨p,c,rfl,hc1,hc2,hlie⟩:=hv
 unfold maxLen at hc2
 obtain⟨v,v',w2,hc3,hc4,hr,⟨a,m,d,rfl⟩,⟨u,hc5⟩,hf3,hbag,hbel⟩:=h.put (P:=Tryz.prog) (i:=8) KLS_sty rfl rfl 106 (by decide) (.slice p us.length c) rfl (by omega) hB
 rw[fadd8] at hbag
 obtain⟨n,hus⟩:∃n,us.length=n:=⟨_,rfl⟩
 have HN:=hid hus
 rw[hus] at hr hbag hlie hc1 hn ⊢
 have HBAG:=hid hbag
 have HBEL:=hid hbel
 have HLIE:=hid hlie
 have HF:=hid (hF.on hbel.below)
 have hf7:dC f [] [.slice p n c] [] 7=f 7:=by simp[dC]
 have HF7:=hid hf7
 clear hbag hbel h hlie hF hus hf7
 obtain⟨wb,hwb⟩:∃wb,w2.setCell ⟨β,8,none⟩ (.slice a m d)=wb:=⟨_,rfl⟩
 rw[hwb] at HBAG HBEL HF
 go_enter Tryz.func207,Tryz.ntmps207
 go_wp2_with (at_builtin;refine wpList_append_run rfl _ _ 106 rfl _ _ _ rfl rfl hr ?_)
 clear hwb hc3 hc4 hr hc5 hf3
 go_loopw [4] (λ i wr=>∃j:Nat,i=.int .i64 j/\j<=n/\BagAt wr β B0 (dC f (us.take j) [.slice p n c] [])/\PF B0 wb wr) (λ i _=>n-(intOf i).toNat)
 case atStart=>exact⟨0,rfl,Nat.zero_le _,HBAG.out,PF.refl _ _⟩
 case round =>
  clear HBAG
  obtain⟨j,rfl,hj,hG,hL⟩:=hrel
  by_cases hlt:j<n
  ·have r1:decide ((j:Int)<(n:Int))=true:=decide_eq_true (by omega)
   obtain⟨b,o,rfl,hb0,hcs⟩:=HLIE.out (by omega)
   obtain⟨u,hu⟩:∃u,us[j]? = some u:=⟨_,List.getElem?_eq_getElem (by have:=HN.out;omega)⟩
   obtain⟨hFu,p',n',c',rfl⟩:=hcs j u hu
   have hcu:=aC (HF.out.on hL.below _ _ _ hb0 hFu)
   have HG:=hid hG
   have HL:=hid hL
   have HO:=hid (B8 β B0 _ p' n' c' wr hG (Nat.le_trans hB (Nat.le_trans HBEL.out.below.size hL.below.size)) (by simp[dC];omega))
   rw[lR] at HO
   have ht:us.take j++[.slice p' n' c']=us.take (j+1):=by rw[List.take_add_one,hu];rfl
   rw[ht,List.append_nil,List.append_nil] at HO
   clear hG hL hcs hu hFu ht
   go_wp2_with fail
   refine HO.out.mono ?_
   rintro e w3 ⟨rfl,h1,h2⟩
   have H1:=hid h1
   have H2:=hid (HL.out.trans h2)
   clear h1 h2 HO HG HL hcu
   go_wp2_with fail
   go_roundw
   case rel=>exact⟨j+1,by go_num,by omega,H1.out,H2.out⟩
   case measure=>simp[intOf];omega
  ·have r1:decide ((j:Int)<(n:Int))=false:=decide_eq_false (by omega)
   obtain rfl:j=n:=by omega
   have HG:=hid hG
   have HL:=hid hL
   rw[show us.take j=us from by rw[<-HN.out];exact List.take_length] at HG
   clear hG hL
   go_wp2_with fail
   go_end0
   exact⟨rfl,HG.out,HBEL.out.trans HL.out⟩
theorem PF.cell{B0:Nat}{w w':World}(h:PF B0 w w'){b:Nat}{cs:Array Value}{e:Nat}(he:e≠114/\∀i,i<17->e≠tyB i)(hb:w.heap[b]? = some (Obj.cells cs e (0,0)))(o:Nat):w'.cell? ⟨b,o,none⟩=cs[o]?:=by
 simp[World.cell?,h.keep b cs e he.1 he.2 hb]
theorem ty26:(26:Nat)≠114/\∀i,i<17->(26:Nat)≠tyB i:=by decide
theorem vM(β B0:Nat)(F:Mem)(f:Nat->List Value)(n0 n1 n2:Int)(us:List Value)(p q:Option Addr)(n c m d:Nat)(y:VT)(w:World)(h:BagAt w β B0 f)(hF:Lies F B0 w)(hB:B0<=w.heap.size)(hl:GL F B0 (.slice p n c) us)(hn7:(f 7).length+us.length<=10000000000)(hn8:(f 8).length+1<=10000000000)
  (hk:∀w',BagAt w' β B0 (dC f us [.slice p n c] [])->Lies F B0 w'->B0<=w'.heap.size->Calls Tryz.prog 68 #[.pointer (some ⟨β,0,none⟩),.slice q m d] w' λ e w2=>e=.returned (.tuple #[])/\BagAt w2 β B0 (dC (dC f us [.slice p n c] []) y.P y.L (.slice q m d :: y.T))/\PF B0 w' w2) :
  Calls Tryz.prog 130 #[.pointer (some ⟨β,0,none⟩),.agg #[.int .i64 n0,.int .i64 n1,.int .i64 n2,.slice p n c,.slice q m d]] w λ e w'=>e=.returned (.tuple #[])/\BagAt w' β B0 (dC f (us++y.P) (.slice p n c :: y.L) (.slice q m d :: y.T))/\PF B0 w w':=by
 have hb:=aB w (.cells #[.int .i64 n0,.int .i64 n1,.int .i64 n2,.slice p n c,.slice q m d] 26)
 have hg:=heap_alloc_new w (.cells #[.int .i64 n0,.int .i64 n1,.int .i64 n2,.slice p n c,.slice q m d] 26)
 obtain⟨W,hW⟩:∃W,w.alloc (.cells #[.int .i64 n0,.int .i64 n1,.int .i64 n2,.slice p n c,.slice q m d] 26)=W:=⟨_,rfl⟩
 obtain⟨g,hgs⟩:∃g,w.heap.size=g:=⟨_,rfl⟩
 have HW:=hid hW
 rw[hW] at hb hg
 rw[hgs] at hg
 have hc:W.cell? ⟨g,3,none⟩=some (.slice p n c):=by simp[World.cell?,hg]
 have HP:=hid (xM β B0 F f _ us W (h.below hb) (hF.on (hb.mono hB)) (Nat.le_trans hB hb.size) hl hn7 hn8)
 have HB:=hid (PF.of_below hb hB)
 have HG:=hid hg
 have HF:=hid hF
 have HK:=hid hk
 have HBS:=hid hB
 clear h hb hg hl hF hk hB hn7 hn8
 go_enter Tryz.func130,Tryz.ntmps130
 go_wp2_with fail
 refine HP.out.mono ?_
 rintro e w1 ⟨rfl,h1,h2⟩
 have hc4:w1.cell? ⟨g,4,none⟩=some (.slice q m d):=by rw[h2.cell ty26 HG.out];rfl
 have H2:=HB.out.trans h2
 have HKK:=hid (HK.out w1 h1 (HF.out.on H2.below) (Nat.le_trans HBS.out H2.below.size))
 have HH2:=hid H2
 clear h1 h2 H2 hc
 go_wp2_with fail
 refine HKK.out.mono ?_
 rintro e w3 ⟨rfl,h3,h4⟩
 rw[lR] at h3
 have H3:=hid h3
 have H4:=hid (HH2.out.trans h4)
 clear h3 h4
 go_wp2_with fail
 go_end0
 exact⟨rfl,H3.out,H4.out⟩
theorem A5(β B0:Nat)(F:Mem)(M:Nat):∀(x:VT) (f:Nat->List Value) (v:Value) (w:World),x.size<M->BagAt w β B0 f->Lies F B0 w->B0<=w.heap.size->GK F B0 v x->(f 7).length+x.size<=1000000000->(f 8).length+x.size<=1000000000->(f 9).length+x.size+1<=1000000000 ->
  Calls Tryz.prog 68 #[.pointer (some ⟨β,0,none⟩),v] w λ e w'=>e=.returned (.tuple #[])/\BagAt w' β B0 (dC f x.P x.L (v :: x.T))/\PF B0 w w':=by
 induction M with
 | zero=>intro x f v w hM;omega
 | succ M ih =>
  intro x f v w hM h hF hB hv hn7 hn8 hn9
  obtain⟨p,c,rfl,hc1,hc2,hlie⟩:=hv
  unfold maxLen at hc2
  have hx:=x.len_le
  obtain⟨v,v',w2,hc3,hc4,hr,⟨a,m,d,rfl⟩,⟨u,hc5⟩,hf3,hbag,hbel⟩:=h.put (P:=Tryz.prog) (i:=9) KTS_sty rfl rfl 38 (by decide) (.slice p x.len c) rfl (by omega) hB
  rw[fadd9] at hbag
  obtain⟨n,hus⟩:∃n,x.len=n:=⟨_,rfl⟩
  have HN:=hid hus
  rw[hus] at hr hbag hlie hc1 hx ⊢
  have HBAG:=hid hbag
  have HBEL:=hid hbel
  have HLIE:=hid hlie
  have HF:=hid (hF.on hbel.below)
  have HM:=hid hM
  have HIH:=hid ih
  clear hbag hbel h hlie hF hus hM ih
  obtain⟨wb,hwb⟩:∃wb,w2.setCell ⟨β,9,none⟩ (.slice a m d)=wb:=⟨_,rfl⟩
  rw[hwb] at HBAG HBEL HF
  go_enter Tryz.func68,Tryz.ntmps68
  go_wp2_with (at_builtin;refine wpList_append_run rfl _ _ 38 rfl _ _ _ rfl rfl hr ?_)
  clear hwb hc3 hc4 hr hc5 hf3
  go_loopw [4] (λ i wr=>∃x1 x2:VT,x1.app x2=x/\i=.int .i64 x1.len/\BagAt wr β B0 (dC f x1.P x1.L (.slice p n c :: x1.T))/\PF B0 wb wr) (λ i _=>n-(intOf i).toNat)
  case atStart=>exact⟨.nil,x,rfl,rfl,HBAG.out,PF.refl _ _⟩
  case round =>
   clear HBAG
   obtain⟨x1,x2,hxx,rfl,hG,hL⟩:=hrel
   obtain⟨j,hj⟩:∃j,x1.len=j:=⟨_,rfl⟩
   rw[hj]
   have hlen:x1.len+x2.len=n:=by rw[<-VT.app_len,hxx];exact HN.out
   have HX:=hid hxx
   have HJ:=hid hj
   cases x2 with
   | nil =>
    obtain rfl:j=n:=by rw[<-hj];simpa[VT.len] using hlen
    have r1:decide ((j:Int)<(j:Int))=false:=decide_eq_false (by omega)
    have HG:=hid hG
    have HL:=hid hL
    rw[show x1=x from by rw[<-hxx];exact (VT.app_nil x1).symm] at HG
    clear hG hL hxx hj hlen
    go_wp2_with fail
    go_end0
    exact⟨rfl,HG.out,HBEL.out.trans HL.out⟩
   | cons us vl vk y r =>
    have hlt:j<n:=by rw[<-hj];simp[VT.len] at hlen;omega
    have r1:decide ((j:Int)<(n:Int))=true:=decide_eq_true (by omega)
    obtain⟨b,o,rfl,hb0,hGT⟩:=HLIE.out (by omega)
    rw[<-hxx,GTs.app,hj] at hGT
    obtain⟨-,⟨n0,n1,n2,k0,k1,k2⟩,k3,k4,hgl,hgk,-⟩:=hGT
    obtain⟨pl,cl,rfl,-⟩:=id hgl
    obtain⟨pk,ck,rfl,-⟩:=id hgk
    have hsz:x1.size+(us.length+y.size+r.size+2)=x.size:=by rw[<-hxx,VT.app_size];rfl
    have hln:=x1.lens
    have hFl:=HF.out.on hL.below
    have e0:=aC (hFl _ _ _ hb0 k0)
    have e1:=aC (hFl _ _ _ hb0 k1)
    have e2:=aC (hFl _ _ _ hb0 k2)
    have e3:=aC (hFl _ _ _ hb0 k3)
    have e4:=aC (hFl _ _ _ hb0 k4)
    have hBr:B0<=wr.heap.size:=Nat.le_trans hB (Nat.le_trans HBEL.out.below.size hL.below.size)
    have HO:=hid (vM β B0 F _ n0 n1 n2 us pl pk us.length cl y.len ck y wr hG hFl hBr hgl (by simp[dC];omega) (by simp[dC];omega) λ w' g1 g2 g3 =>
     HIH.out y _ _ w' (by have:=HM.out;omega) g1 g2 g3 hgk (by simp[dC];omega) (by simp[dC];omega) (by simp[dC];omega))
    rw[lR] at HO
    have hP:x1.P++(us++y.P)=(x1.app (.cons us (.slice pl us.length cl) (.slice pk y.len ck) y .nil)).P:=by rw[VT.app_P];simp[VT.P]
    have hL2:x1.L++(.slice pl us.length cl :: y.L)=(x1.app (.cons us (.slice pl us.length cl) (.slice pk y.len ck) y .nil)).L:=by rw[VT.app_L];simp[VT.L]
    have hT:.slice (some ⟨b,o,none⟩) n c :: x1.T++(.slice pk y.len ck :: y.T)=Value.slice (some ⟨b,o,none⟩) n c :: (x1.app (.cons us (.slice pl us.length cl) (.slice pk y.len ck) y .nil)).T:=by rw[VT.app_T];simp[VT.T]
    rw[hP,hL2,hT] at HO
    have hj1:(x1.app (.cons us (.slice pl us.length cl) (.slice pk y.len ck) y .nil)).len=j+1:=by rw[VT.app_len,hj];rfl
    have hx2:(x1.app (.cons us (.slice pl us.length cl) (.slice pk y.len ck) y .nil)).app r=x:=by rw[VT.app_assoc];exact hxx
    have HX2:=hid hx2
    have HJ1:=hid hj1
    have HLL:=hid hL
    obtain⟨z,hz⟩:∃z,x1.app (.cons us (.slice pl us.length cl) (.slice pk y.len ck) y .nil)=z:=⟨_,rfl⟩
    obtain⟨u1,hu1⟩:∃u1,us.length=u1:=⟨_,rfl⟩
    obtain⟨u2,hu2⟩:∃u2,y.len=u2:=⟨_,rfl⟩
    rw[hz] at HO HX2 HJ1
    rw[hu1] at e3 HO
    rw[hu2] at e4 HO
    clear k0 k1 k2 k3 k4 hgl hgk hFl hBr hP hL2 hT hj1 hx2 hL hG hxx hsz hln hz hu1 hu2 hj HX HJ
    go_wp2_with fail
    refine HO.out.mono ?_
    rintro e w3 ⟨rfl,h1,h2⟩
    have H1:=hid h1
    have H2:=hid (HLL.out.trans h2)
    clear h1 h2 HO HLL e0 e1 e2 e3 e4
    go_wp2_with fail
    go_roundw
    case rel=>exact⟨z,r,HX2.out,by rw[HJ1.out];go_num,H1.out,H2.out⟩
    case measure=>simp[intOf];omega
end
section
open Go.RowKit
def RowX(w:World)(base sz e N:Nat)(v:Value)(B:List Nat):Prop:=∃m xs,RowO w base sz e v m xs B/\m<=N*sz
def Ows(w:World)(base sz e N:Nat):List Value->List Nat->Prop
 | [],Bs=>Bs=[]
 | v :: vs,Bs=>∃B Bs',RowX w base sz e N v B/\Ows w base sz e N vs Bs'/\Bs=B++Bs'
theorem Ows.app{w:World}{base sz e N:Nat}{us:List Value}{Bs':List Nat}(h2:Ows w base sz e N us Bs'):∀ {vs:List Value} {Bs:List Nat},Ows w base sz e N vs Bs->Ows w base sz e N (vs++us) (Bs++Bs')
 | [],_,h=>by cases h;exact h2
 | v :: vs,_,⟨B,Bs1,h3,h4,e⟩=>⟨B,Bs1++Bs',h3,h2.app h4,by rw[e,List.append_assoc]⟩
theorem Ows.mono{w:World}{base sz e N N':Nat}(hN:N<=N'):∀ {vs:List Value} {Bs:List Nat},Ows w base sz e N vs Bs->Ows w base sz e N' vs Bs
 | [],_,h=>h
 | v :: vs,_,⟨B,Bs1,⟨m,xs,h3,h4⟩,h5,e⟩=>⟨B,Bs1,⟨m,xs,h3,Nat.le_trans h4 (Nat.mul_le_mul_right _ hN)⟩,h5.mono hN,e⟩
theorem RowX.typed{w:World}{base sz e N:Nat}{v:Value}{B:List Nat}(h:RowX w base sz e N v B):∀b∈B,base<=b/\∃cur,w.heap[b]? = some (Obj.cells cur e (0,0)):=by
 obtain⟨m,xs,h,-⟩:=h
 rcases h with ⟨p,-,-,-,rfl⟩|⟨g,n,cap,cur,rfl,-,hb,hg,-⟩
 ·intro b hb;cases hb
 ·intro b hm
  obtain rfl:b=g:=by simpa using hm
  exact⟨hb,cur,hg⟩
theorem Ows.typed{w:World}{base sz e N:Nat}:∀ {vs:List Value} {Bs:List Nat},Ows w base sz e N vs Bs->∀b∈Bs,base<=b/\∃cur,w.heap[b]? = some (Obj.cells cur e (0,0))
 | [],_,h,b,hb=>by cases h;cases hb
 | v :: vs,_,⟨B,Bs1,h3,h4,e⟩,b,hb=>by
  subst e
  rcases List.mem_append.1 hb with hb|hb
  ·exact h3.typed b hb
  ·exact h4.typed b hb
theorem RowX.kept{w w':World}{base sz e N:Nat}{v:Value}{B:List Nat}(h:RowX w base sz e N v B)(hk:∀b∈B,w'.heap[b]? = w.heap[b]?):RowX w' base sz e N v B:=by
 obtain⟨m,xs,h,hm⟩:=h
 exact⟨m,xs,h.kept hk,hm⟩
theorem Ows.kept{w w':World}{base sz e N:Nat}:∀ {vs:List Value} {Bs:List Nat},Ows w base sz e N vs Bs->(∀b∈Bs,w'.heap[b]? = w.heap[b]?)->Ows w' base sz e N vs Bs
 | [],_,h,_=>h
 | v :: vs,_,⟨B,Bs1,h3,h4,e⟩,hk=>by
  subst e
  exact⟨B,Bs1,h3.kept λ b hb=>hk b (List.mem_append_left _ hb),h4.kept λ b hb=>hk b (List.mem_append_right _ hb),rfl⟩
theorem RowX.lower{w:World}{base base' sz e N:Nat}{v:Value}{B:List Nat}(h:RowX w base sz e N v B)(hl:base'<=base):RowX w base' sz e N v B:=by
 obtain⟨m,xs,h,hm⟩:=h
 exact⟨m,xs,h.lower hl,hm⟩
theorem RowX.vb{w:World}{base sz e N:Nat}{v:Value}{B:List Nat}(h:RowX w base sz e N v B){b:Nat}(hb:vb v=some b):b∈B:=by
 obtain⟨m,xs,h,-⟩:=h
 rcases h with ⟨p,rfl,-,-,rfl⟩|⟨g,n,cap,cur,rfl,rfl,-,hg,-⟩
 ·cases p<;>cases hb
 ·cases cap with
  | zero=>cases hb
  | succ c=>cases hb;exact List.mem_singleton.2 rfl
theorem RowX.rowI{K:Kd}(hp:0<K.sz){w:World}{base N:Nat}{v:Value}{B:List Nat}(h:RowX w base K.sz K.e N v B)(k:Nat):RowI K 0 w v 0 k/\vn v<=N:=by
 obtain⟨m,xs,h,hm⟩:=h
 rcases h with ⟨p,rfl,-,-,rfl⟩|⟨g,n,cap,cur,rfl,rfl,-,hg,h3,h4,h5,h6,-⟩
 ·exact⟨.inl ⟨p,rfl,rfl⟩,Nat.zero_le _⟩
 ·have hn:n<=N:=by rw[h6] at hm;exact Nat.le_of_mul_le_mul_right hm hp
  refine⟨?_,hn⟩
  by_cases h0:cap=0
  ·subst h0
   obtain rfl:n=0:=by omega
   exact .inl ⟨_,rfl,rfl⟩
  ·exact .inr ⟨g,n,cap,cur,rfl,Nat.zero_le _,hg,h3,by omega,h4,h5,Nat.zero_le _,λ i hi=>by omega⟩
theorem Ows.at_{w:World}{base sz e N:Nat}:∀ {vs:List Value} {Bs:List Nat},Ows w base sz e N vs Bs->∀(k:Nat) (v:Value),vs[k]? = some v->∃B,RowX w base sz e N v B/\∀b∈B,b∈Bs
 | [],_,_,k,v,hv=>by simp at hv
 | u :: vs,_,⟨B,Bs1,h3,h4,e⟩,k,v,hv=>by
  subst e
  cases k with
  | zero=>simp at hv;subst hv;exact⟨B,h3,λ b hb=>List.mem_append_left _ hb⟩
  | succ k =>
   obtain⟨B',h5,h6⟩:=h4.at_ k v (by simpa using hv)
   exact⟨B',h5,λ b hb=>List.mem_append_right _ (h6 b hb)⟩
theorem Ows.rows{K:Kd}(hp:0<K.sz){w:World}{base N:Nat}{vs:List Value}{Bs:List Nat}(h:Ows w base K.sz K.e N vs Bs):RowsG K 0 w vs (λ _=>0):=λ k v hv=>by
 obtain⟨B,h1,-⟩:=h.at_ k v hv
 exact (h1.rowI hp k).1
theorem Ows.inV{w:World}{base sz e N:Nat}{vs:List Value}{Bs:List Nat}(h:Ows w base sz e N vs Bs){b:Nat}(hb:InV vs b):b∈Bs:=by
 obtain⟨v,hv,e1⟩:=hb
 obtain⟨k,hk⟩:=List.getElem?_of_mem hv
 obtain⟨B,h1,h2⟩:=h.at_ k v hk
 exact h2 b (h1.vb e1)
theorem Ows.dist{w:World}{base sz e N:Nat}:∀ {vs:List Value} {Bs:List Nat},Ows w base sz e N vs Bs->Bs.Nodup->I7 vs
 | [],_,_,_=>λ k k' v v' b hv=>by simp at hv
 | u :: vs,_,⟨B,Bs1,h3,h4,e⟩,hn=>by
  subst e
  obtain⟨-,n2,n3⟩:=List.nodup_append.1 hn
  have ih:=h4.dist n2
  intro k k' v v' b hv hv' hb hb'
  cases k with
  | zero =>
   cases k' with
   | zero=>rfl
   | succ k' =>
    simp at hv hv'
    subst hv
    obtain⟨B',h5,h6⟩:=h4.at_ k' v' hv'
    exact absurd rfl (n3 b (h3.vb hb) b (h6 b (h5.vb hb')))
  | succ k =>
   cases k' with
   | zero =>
    simp at hv hv'
    subst hv'
    obtain⟨B',h5,h6⟩:=h4.at_ k v hv
    exact absurd rfl (n3 b (h3.vb hb') b (h6 b (h5.vb hb)))
   | succ k'=>rw[ih k k' v v' b (by simpa using hv) (by simpa using hv') hb hb']
theorem vJ{w:World}{base:Nat}{l:List Lv}:∀ {xs:List Value} {S:List Nat},Own w base (bN ty l) xs S->Ows w base 2 77 (aH l) xs S/\∀u∈xs,∃p n c,u=Value.slice p n c:=by
 induction l with
 | nil=>rintro xs S ⟨rfl,rfl⟩;exact⟨rfl,λ u hu=>by cases hu⟩
 | cons p r ih =>
  rintro xs S ⟨v,ys,zs,us,B,S1,S2,S3,rfl,h1,h2,h3,h4,rfl⟩
  obtain⟨rfl,rfl⟩:=h3
  have hS1:S1=[]:=by
   have:∀(p:Lv) (xs:List Value) (S:List Nat),Own w base (bR p) xs S->S=[]:=by
    intro p
    induction p with
    | nil=>rintro xs S ⟨-,rfl⟩;rfl
    | cons a r ih=>rintro xs S ⟨_,-,_,-,h⟩;exact ih _ _ h
   exact this p zs S1 h2
  subst hS1
  obtain⟨h5,h6⟩:=ih h4
  refine⟨⟨B,S3,⟨_,_,h1,?_⟩,h5.mono ?_,rfl⟩,λ u hu=>?_⟩
  ·rw[jZ];exact Nat.mul_le_mul_right _ (by simp only[aH];omega)
  ·simp only[aH];omega
  ·rcases List.mem_cons.1 hu with rfl|hu
   ·rcases h1 with ⟨p,rfl,-⟩|⟨g,n,cap,cur,-,rfl,-⟩
    ·exact⟨_,_,_,rfl⟩
    ·exact⟨_,_,_,rfl⟩
   ·exact h6 u hu
theorem RowO.rowV{w:World}{base sz e:Nat}{v:Value}{xs:List Value}{B:List Nat}{n:Nat}(hs:0<sz)(h:RowO w base sz e v (n*sz) xs B):∃(p:Option Addr) (c:Nat),v=.slice p n c/\n<=c/\c<=maxLen/\(0<n->∃b,p=some ⟨b,0,none⟩/\b<w.heap.size/\∀j u,xs[j]? = some u->U w b (0+j)=some u):=by
 rcases h with ⟨p,rfl,h0,-⟩|⟨g,n',cap,cur,rfl,rfl,-,hg,h3,h4,h5,h6,h7,h8,h9⟩
 ·have hn:n=0:=by
   rcases Nat.mul_eq_zero.1 h0 with h|h
   ·exact h
   ·omega
  subst hn
  exact⟨p,0,rfl,Nat.le_refl _,Nat.zero_le _,λ h=>by omega⟩
 ·have hn:n=n':=Nat.eq_of_mul_eq_mul_right hs h6
  subst hn
  exact⟨_,cap,rfl,h3,h4,λ _=>⟨g,rfl,aV hg,eH hg h9⟩⟩
theorem DI{w:World}{base:Nat}{t:Ts}:∀ {xs:List Value} {S:List Nat},Own w base (tDs ty t) xs S->∃V:VT,V.len=t.len/\V.size<=2*t.size /\
  (∀b o,(∀j u,xs[j]? = some u->U w b (o+j)=some u)->GTs (U w) w.heap.size V b o) /\
  ∃BP BL BT,Ows w base 2 77 t.size V.P BP/\Ows w base 1 43 t.size V.L BL/\Ows w base 5 26 t.size V.T BT/\(BP++(BL++BT)).Perm S:=by
 induction t with
 | nil=>rintro xs S ⟨rfl,rfl⟩;exact⟨.nil,rfl,Nat.zero_le _,λ _ _ _=>trivial,[],[],[],rfl,rfl,rfl,List.Perm.refl _⟩
 | cons h x r ihx ihr =>
  rintro xs S ⟨_,rfl,_,rfl,_,rfl,vl,_,ls,sp,Bl,S1,S2,S3,rfl,h1,h2,h3,⟨vk,ys,ks,sp2,Bk,T1,T2,T3,rfl,k1,k2,k3,k4,rfl⟩,rfl⟩
  obtain⟨rfl,rfl⟩:=h3
  obtain⟨rfl,rfl⟩:=k3
  obtain⟨hl1,hl2⟩:=vJ h2
  obtain⟨X,hx1,hx2,hx3,XP,XL,XT,hx4,hx5,hx6,hx7⟩:=ihx k2
  obtain⟨R,hr1,hr2,hr3,RP',RL',RT',hr4,hr5,hr6,hr7⟩:=ihr k4
  have hls:ls.length=h.l.length:=by have:=h2.len;rw[eI] at this;exact this
  have hll:h.l.length<=aH h.l:=by
   have:∀l:List Lv,l.length<=aH l:=by
    intro l
    induction l with
    | nil=>simp
    | cons a r ih=>simp only[List.length_cons,aH];omega
   exact this _
  have hs1:x.len<=x.size:=by
   have:∀t:Ts,t.len<=t.size:=by
    intro t
    induction t with
    | nil=>exact Nat.le_refl _
    | cons h x r _ ih=>simp only[Ts.len,Ts.size];omega
   exact this x
  rw[List.append_nil] at h1 k1
  have h1':RowO w base 1 43 vl (ls.length*1) ls Bl:=by
   rw[eI,<-hls] at h1
   rw[Nat.mul_one];exact h1
  have k1':RowO w base 5 26 vk (X.len*5) ks Bk:=by
   rw[aF,<-hx1] at k1;exact k1
  refine⟨.cons ls vl vk X R,by simp[VT.len,Ts.len,hr1],?_,λ b o hc=>?_,S1++(XP++RP'),Bl++(XL++RL'),Bk++(XT++RT'),?_,?_,?_,?_⟩
  ·simp only[VT.size,Ts.size];omega
  ·refine⟨⟨h.k,h.n,h.a,by simpa using hc 0 _ rfl,hc 1 _ rfl,hc 2 _ rfl⟩,hc 3 _ rfl,hc 4 _ rfl,?_,?_,hr3 b (o+5) λ j u hu=>?_⟩
   ·obtain⟨p,c,rfl,q1,q2,q3⟩:=h1'.rowV (by decide)
    refine⟨p,c,rfl,q1,q2,λ h0=>?_⟩
    obtain⟨b',rfl,q4,q5⟩:=q3 h0
    exact⟨b',0,rfl,q4,λ i u hu=>⟨q5 i u hu,hl2 u (List.mem_of_getElem? hu)⟩⟩
   ·obtain⟨p,c,rfl,q1,q2,q3⟩:=k1'.rowV (by decide)
    refine⟨p,c,rfl,q1,q2,λ h0=>?_⟩
    obtain⟨b',rfl,q4,q5⟩:=q3 h0
    exact⟨b',0,rfl,q4,hx3 b' 0 q5⟩
   ·have:=hc (j+5) u (by simpa using hu)
    rw[show o+5+j=o+(j+5) by omega];exact this
  ·exact ((hr4.mono (by simp only[Ts.size];omega)).app (hx4.mono (by simp only[Ts.size];omega))).app (hl1.mono (by simp only[Ts.size];omega))
  ·refine⟨Bl,XL++RL',⟨_,_,h1',by rw[hls];exact Nat.mul_le_mul_right _ (by simp only[Ts.size];omega)⟩,(hr5.mono (by simp only[Ts.size];omega)).app (hx5.mono (by simp only[Ts.size];omega)),rfl⟩
  ·refine⟨Bk,XT++RT',⟨_,_,k1',by rw[hx1];exact Nat.mul_le_mul_right _ (by simp only[Ts.size];omega)⟩,(hr6.mono (by simp only[Ts.size];omega)).app (hx6.mono (by simp only[Ts.size];omega)),rfl⟩
  ·refine List.perm_iff_count.2 λ a=>?_
   have e1:=List.perm_iff_count.1 hx7 a
   have e2:=List.perm_iff_count.1 hr7 a
   simp only[List.count_append,List.count_nil] at e1 e2 ⊢
   omega
end
section
open Go.RowKit
theorem F8(w:World):Calls Tryz.prog 131 #[.slice none 0 0] w λ e w'=>e=.returned (.bool true)/\Below w.heap.size w w':=by
 have r1:decide ((0:Int)<0)=false:=rfl
 obtain⟨w1,hmk,-,hb1⟩:=RowG.make (t:=98) (e:=228) (sz:=1) (P:=Tryz.prog) (ElT.mk' (z:=.slice none 0 0) (size:=1) (bytes:=24) Tryz.underlying98 (by kernel_rfl) rfl (by decide) (by decide)) w w.heap.size 0 .i64 .i64 (by decide) (Nat.le_refl _)
 have hmk':(Instr.makeSlice 98 (.int .i64 0) (.int .i64 0)).run Tryz.prog w=.ok (.slice (some ⟨w.heap.size,0,none⟩) 0 0) w1:=hmk
 have HB:=hid hb1
 clear hmk hb1
 go_enter Tryz.func131,Tryz.ntmps131
 go_wp2_with fail
 go_loopw [3] (λ i wr=>i=.int .i64 0/\wr=w) (λ _ _=>0)
 case atStart=>exact⟨rfl,rfl⟩
 case round =>
 obtain⟨rfl,hwr⟩:=hrel
 have hwr':=hwr.symm
 clear hwr
 subst hwr'
 go_wp2_with fail
 clear hmk'
 go_loopw [6] (λ i wr=>i=.int .i64 0/\wr=w1) (λ _ _=>0)
 case atStart=>exact⟨rfl,rfl⟩
 case round =>
 obtain⟨rfl,hwr⟩:=hrel
 have hwr':=hwr.symm
 clear hwr
 subst hwr'
 go_wp2_with fail
 go_loopw [9] (λ i wr=>i=.int .i64 0/\wr=w1) (λ _ _=>0)
 case atStart=>exact⟨rfl,rfl⟩
 case round =>
 obtain⟨rfl,hwr⟩:=hrel
 have hwr':=hwr.symm
 clear hwr
 subst hwr'
 go_wp2_with fail
 go_loopw [11] (λ i wr=>i=.int .i64 0/\wr=w1) (λ _ _=>0)
 case atStart=>exact⟨rfl,rfl⟩
 case round =>
 obtain⟨rfl,hwr⟩:=hrel
 have hwr':=hwr.symm
 clear hwr
 subst hwr'
 go_wp2_with fail
 go_loopw [14] (λ i wr=>i=.int .i64 0/\wr=w1) (λ _ _=>0)
 case atStart=>exact⟨rfl,rfl⟩
 case round =>
 obtain⟨rfl,hwr⟩:=hrel
 have hwr':=hwr.symm
 clear hwr
 subst hwr'
 go_wp2_with fail
 go_ret
 exact⟨rfl,HB.out⟩
theorem F7(w:World):Calls Tryz.prog 132 #[.slice none 0 0] w λ e w'=>e=.returned (.bool true)/\Below w.heap.size w w':=by
 have r1:decide ((0:Int)<0)=false:=rfl
 obtain⟨w1,hmk,-,hb1⟩:=RowG.make (t:=99) (e:=230) (sz:=1) (P:=Tryz.prog) (ElT.mk' (z:=.slice none 0 0) (size:=1) (bytes:=24) Tryz.underlying99 (by kernel_rfl) rfl (by decide) (by decide)) w w.heap.size 0 .i64 .i64 (by decide) (Nat.le_refl _)
 have hmk':(Instr.makeSlice 99 (.int .i64 0) (.int .i64 0)).run Tryz.prog w=.ok (.slice (some ⟨w.heap.size,0,none⟩) 0 0) w1:=hmk
 have HB:=hid hb1
 clear hmk hb1
 go_enter Tryz.func132,Tryz.ntmps132
 go_wp2_with fail
 go_loopw [3] (λ i wr=>i=.int .i64 0/\wr=w) (λ _ _=>0)
 case atStart=>exact⟨rfl,rfl⟩
 case round =>
 obtain⟨rfl,hwr⟩:=hrel
 have hwr':=hwr.symm
 clear hwr
 subst hwr'
 go_wp2_with fail
 clear hmk'
 go_loopw [6] (λ i wr=>i=.int .i64 0/\wr=w1) (λ _ _=>0)
 case atStart=>exact⟨rfl,rfl⟩
 case round =>
 obtain⟨rfl,hwr⟩:=hrel
 have hwr':=hwr.symm
 clear hwr
 subst hwr'
 go_wp2_with fail
 go_loopw [9] (λ i wr=>i=.int .i64 0/\wr=w1) (λ _ _=>0)
 case atStart=>exact⟨rfl,rfl⟩
 case round =>
 obtain⟨rfl,hwr⟩:=hrel
 have hwr':=hwr.symm
 clear hwr
 subst hwr'
 go_wp2_with fail
 go_loopw [11] (λ i wr=>i=.int .i64 0/\wr=w1) (λ _ _=>0)
 case atStart=>exact⟨rfl,rfl⟩
 case round =>
 obtain⟨rfl,hwr⟩:=hrel
 have hwr':=hwr.symm
 clear hwr
 subst hwr'
 go_wp2_with fail
 go_loopw [14] (λ i wr=>i=.int .i64 0/\wr=w1) (λ _ _=>0)
 case atStart=>exact⟨rfl,rfl⟩
 case round =>
 obtain⟨rfl,hwr⟩:=hrel
 have hwr':=hwr.symm
 clear hwr
 subst hwr'
 go_wp2_with fail
 go_ret
 exact⟨rfl,HB.out⟩
theorem F6(w:World):Calls Tryz.prog 133 #[.slice none 0 0] w λ e w'=>e=.returned (.bool true)/\Below w.heap.size w w':=by
 have r1:decide ((0:Int)<0)=false:=rfl
 obtain⟨w1,hmk,-,hb1⟩:=RowG.make (t:=100) (e:=72) (sz:=1) (P:=Tryz.prog) (ElT.mk' (z:=.slice none 0 0) (size:=1) (bytes:=24) Tryz.underlying100 (by kernel_rfl) rfl (by decide) (by decide)) w w.heap.size 0 .i64 .i64 (by decide) (Nat.le_refl _)
 have hmk':(Instr.makeSlice 100 (.int .i64 0) (.int .i64 0)).run Tryz.prog w=.ok (.slice (some ⟨w.heap.size,0,none⟩) 0 0) w1:=hmk
 have HB:=hid hb1
 clear hmk hb1
 go_enter Tryz.func133,Tryz.ntmps133
 go_wp2_with fail
 go_loopw [3] (λ i wr=>i=.int .i64 0/\wr=w) (λ _ _=>0)
 case atStart=>exact⟨rfl,rfl⟩
 case round =>
 obtain⟨rfl,hwr⟩:=hrel
 have hwr':=hwr.symm
 clear hwr
 subst hwr'
 go_wp2_with fail
 clear hmk'
 go_loopw [6] (λ i wr=>i=.int .i64 0/\wr=w1) (λ _ _=>0)
 case atStart=>exact⟨rfl,rfl⟩
 case round =>
 obtain⟨rfl,hwr⟩:=hrel
 have hwr':=hwr.symm
 clear hwr
 subst hwr'
 go_wp2_with fail
 go_loopw [9] (λ i wr=>i=.int .i64 0/\wr=w1) (λ _ _=>0)
 case atStart=>exact⟨rfl,rfl⟩
 case round =>
 obtain⟨rfl,hwr⟩:=hrel
 have hwr':=hwr.symm
 clear hwr
 subst hwr'
 go_wp2_with fail
 go_loopw [11] (λ i wr=>i=.int .i64 0/\wr=w1) (λ _ _=>0)
 case atStart=>exact⟨rfl,rfl⟩
 case round =>
 obtain⟨rfl,hwr⟩:=hrel
 have hwr':=hwr.symm
 clear hwr
 subst hwr'
 go_wp2_with fail
 go_loopw [14] (λ i wr=>i=.int .i64 0/\wr=w1) (λ _ _=>0)
 case atStart=>exact⟨rfl,rfl⟩
 case round =>
 obtain⟨rfl,hwr⟩:=hrel
 have hwr':=hwr.symm
 clear hwr
 subst hwr'
 go_wp2_with fail
 go_ret
 exact⟨rfl,HB.out⟩
theorem F5(w:World):Calls Tryz.prog 134 #[.slice none 0 0] w λ e w'=>e=.returned (.bool true)/\Below w.heap.size w w':=by
 have r1:decide ((0:Int)<0)=false:=rfl
 obtain⟨w1,hmk,-,hb1⟩:=RowG.make (t:=101) (e:=232) (sz:=1) (P:=Tryz.prog) (ElT.mk' (z:=.slice none 0 0) (size:=1) (bytes:=24) Tryz.underlying101 (by kernel_rfl) rfl (by decide) (by decide)) w w.heap.size 0 .i64 .i64 (by decide) (Nat.le_refl _)
 have hmk':(Instr.makeSlice 101 (.int .i64 0) (.int .i64 0)).run Tryz.prog w=.ok (.slice (some ⟨w.heap.size,0,none⟩) 0 0) w1:=hmk
 have HB:=hid hb1
 clear hmk hb1
 go_enter Tryz.func134,Tryz.ntmps134
 go_wp2_with fail
 go_loopw [3] (λ i wr=>i=.int .i64 0/\wr=w) (λ _ _=>0)
 case atStart=>exact⟨rfl,rfl⟩
 case round =>
 obtain⟨rfl,hwr⟩:=hrel
 have hwr':=hwr.symm
 clear hwr
 subst hwr'
 go_wp2_with fail
 clear hmk'
 go_loopw [6] (λ i wr=>i=.int .i64 0/\wr=w1) (λ _ _=>0)
 case atStart=>exact⟨rfl,rfl⟩
 case round =>
 obtain⟨rfl,hwr⟩:=hrel
 have hwr':=hwr.symm
 clear hwr
 subst hwr'
 go_wp2_with fail
 go_loopw [9] (λ i wr=>i=.int .i64 0/\wr=w1) (λ _ _=>0)
 case atStart=>exact⟨rfl,rfl⟩
 case round =>
 obtain⟨rfl,hwr⟩:=hrel
 have hwr':=hwr.symm
 clear hwr
 subst hwr'
 go_wp2_with fail
 go_loopw [11] (λ i wr=>i=.int .i64 0/\wr=w1) (λ _ _=>0)
 case atStart=>exact⟨rfl,rfl⟩
 case round =>
 obtain⟨rfl,hwr⟩:=hrel
 have hwr':=hwr.symm
 clear hwr
 subst hwr'
 go_wp2_with fail
 go_loopw [14] (λ i wr=>i=.int .i64 0/\wr=w1) (λ _ _=>0)
 case atStart=>exact⟨rfl,rfl⟩
 case round =>
 obtain⟨rfl,hwr⟩:=hrel
 have hwr':=hwr.symm
 clear hwr
 subst hwr'
 go_wp2_with fail
 go_ret
 exact⟨rfl,HB.out⟩
theorem F4(w:World):Calls Tryz.prog 135 #[.slice none 0 0] w λ e w'=>e=.returned (.bool true)/\Below w.heap.size w w':=by
 have r1:decide ((0:Int)<0)=false:=rfl
 obtain⟨w1,hmk,-,hb1⟩:=RowG.make (t:=102) (e:=233) (sz:=1) (P:=Tryz.prog) (ElT.mk' (z:=.slice none 0 0) (size:=1) (bytes:=24) Tryz.underlying102 (by kernel_rfl) rfl (by decide) (by decide)) w w.heap.size 0 .i64 .i64 (by decide) (Nat.le_refl _)
 have hmk':(Instr.makeSlice 102 (.int .i64 0) (.int .i64 0)).run Tryz.prog w=.ok (.slice (some ⟨w.heap.size,0,none⟩) 0 0) w1:=hmk
 have HB:=hid hb1
 clear hmk hb1
 go_enter Tryz.func135,Tryz.ntmps135
 go_wp2_with fail
 go_loopw [3] (λ i wr=>i=.int .i64 0/\wr=w) (λ _ _=>0)
 case atStart=>exact⟨rfl,rfl⟩
 case round =>
 obtain⟨rfl,hwr⟩:=hrel
 have hwr':=hwr.symm
 clear hwr
 subst hwr'
 go_wp2_with fail
 clear hmk'
 go_loopw [6] (λ i wr=>i=.int .i64 0/\wr=w1) (λ _ _=>0)
 case atStart=>exact⟨rfl,rfl⟩
 case round =>
 obtain⟨rfl,hwr⟩:=hrel
 have hwr':=hwr.symm
 clear hwr
 subst hwr'
 go_wp2_with fail
 go_loopw [9] (λ i wr=>i=.int .i64 0/\wr=w1) (λ _ _=>0)
 case atStart=>exact⟨rfl,rfl⟩
 case round =>
 obtain⟨rfl,hwr⟩:=hrel
 have hwr':=hwr.symm
 clear hwr
 subst hwr'
 go_wp2_with fail
 go_loopw [11] (λ i wr=>i=.int .i64 0/\wr=w1) (λ _ _=>0)
 case atStart=>exact⟨rfl,rfl⟩
 case round =>
 obtain⟨rfl,hwr⟩:=hrel
 have hwr':=hwr.symm
 clear hwr
 subst hwr'
 go_wp2_with fail
 go_loopw [14] (λ i wr=>i=.int .i64 0/\wr=w1) (λ _ _=>0)
 case atStart=>exact⟨rfl,rfl⟩
 case round =>
 obtain⟨rfl,hwr⟩:=hrel
 have hwr':=hwr.symm
 clear hwr
 subst hwr'
 go_wp2_with fail
 go_ret
 exact⟨rfl,HB.out⟩
theorem F3(w:World):Calls Tryz.prog 136 #[.slice none 0 0] w λ e w'=>e=.returned (.bool true)/\Below w.heap.size w w':=by
 have r1:decide ((0:Int)<0)=false:=rfl
 obtain⟨w1,hmk,-,hb1⟩:=RowG.make (t:=103) (e:=235) (sz:=1) (P:=Tryz.prog) (ElT.mk' (z:=.slice none 0 0) (size:=1) (bytes:=24) Tryz.underlying103 (by kernel_rfl) rfl (by decide) (by decide)) w w.heap.size 0 .i64 .i64 (by decide) (Nat.le_refl _)
 have hmk':(Instr.makeSlice 103 (.int .i64 0) (.int .i64 0)).run Tryz.prog w=.ok (.slice (some ⟨w.heap.size,0,none⟩) 0 0) w1:=hmk
 have HB:=hid hb1
 clear hmk hb1
 go_enter Tryz.func136,Tryz.ntmps136
 go_wp2_with fail
 go_loopw [3] (λ i wr=>i=.int .i64 0/\wr=w) (λ _ _=>0)
 case atStart=>exact⟨rfl,rfl⟩
 case round =>
 obtain⟨rfl,hwr⟩:=hrel
 have hwr':=hwr.symm
 clear hwr
 subst hwr'
 go_wp2_with fail
 clear hmk'
 go_loopw [6] (λ i wr=>i=.int .i64 0/\wr=w1) (λ _ _=>0)
 case atStart=>exact⟨rfl,rfl⟩
 case round =>
 obtain⟨rfl,hwr⟩:=hrel
 have hwr':=hwr.symm
 clear hwr
 subst hwr'
 go_wp2_with fail
 go_loopw [9] (λ i wr=>i=.int .i64 0/\wr=w1) (λ _ _=>0)
 case atStart=>exact⟨rfl,rfl⟩
 case round =>
 obtain⟨rfl,hwr⟩:=hrel
 have hwr':=hwr.symm
 clear hwr
 subst hwr'
 go_wp2_with fail
 go_loopw [11] (λ i wr=>i=.int .i64 0/\wr=w1) (λ _ _=>0)
 case atStart=>exact⟨rfl,rfl⟩
 case round =>
 obtain⟨rfl,hwr⟩:=hrel
 have hwr':=hwr.symm
 clear hwr
 subst hwr'
 go_wp2_with fail
 go_loopw [14] (λ i wr=>i=.int .i64 0/\wr=w1) (λ _ _=>0)
 case atStart=>exact⟨rfl,rfl⟩
 case round =>
 obtain⟨rfl,hwr⟩:=hrel
 have hwr':=hwr.symm
 clear hwr
 subst hwr'
 go_wp2_with fail
 go_ret
 exact⟨rfl,HB.out⟩
theorem F2(w:World):Calls Tryz.prog 137 #[.slice none 0 0] w λ e w'=>e=.returned (.bool true)/\Below w.heap.size w w':=by
 have r1:decide ((0:Int)<0)=false:=rfl
 obtain⟨w1,hmk,-,hb1⟩:=RowG.make (t:=104) (e:=237) (sz:=1) (P:=Tryz.prog) (ElT.mk' (z:=.slice none 0 0) (size:=1) (bytes:=24) Tryz.underlying104 (by kernel_rfl) rfl (by decide) (by decide)) w w.heap.size 0 .i64 .i64 (by decide) (Nat.le_refl _)
 have hmk':(Instr.makeSlice 104 (.int .i64 0) (.int .i64 0)).run Tryz.prog w=.ok (.slice (some ⟨w.heap.size,0,none⟩) 0 0) w1:=hmk
 have HB:=hid hb1
 clear hmk hb1
 go_enter Tryz.func137,Tryz.ntmps137
 go_wp2_with fail
 go_loopw [3] (λ i wr=>i=.int .i64 0/\wr=w) (λ _ _=>0)
 case atStart=>exact⟨rfl,rfl⟩
 case round =>
 obtain⟨rfl,hwr⟩:=hrel
 have hwr':=hwr.symm
 clear hwr
 subst hwr'
 go_wp2_with fail
 clear hmk'
 go_loopw [6] (λ i wr=>i=.int .i64 0/\wr=w1) (λ _ _=>0)
 case atStart=>exact⟨rfl,rfl⟩
 case round =>
 obtain⟨rfl,hwr⟩:=hrel
 have hwr':=hwr.symm
 clear hwr
 subst hwr'
 go_wp2_with fail
 go_loopw [9] (λ i wr=>i=.int .i64 0/\wr=w1) (λ _ _=>0)
 case atStart=>exact⟨rfl,rfl⟩
 case round =>
 obtain⟨rfl,hwr⟩:=hrel
 have hwr':=hwr.symm
 clear hwr
 subst hwr'
 go_wp2_with fail
 go_loopw [11] (λ i wr=>i=.int .i64 0/\wr=w1) (λ _ _=>0)
 case atStart=>exact⟨rfl,rfl⟩
 case round =>
 obtain⟨rfl,hwr⟩:=hrel
 have hwr':=hwr.symm
 clear hwr
 subst hwr'
 go_wp2_with fail
 go_loopw [14] (λ i wr=>i=.int .i64 0/\wr=w1) (λ _ _=>0)
 case atStart=>exact⟨rfl,rfl⟩
 case round =>
 obtain⟨rfl,hwr⟩:=hrel
 have hwr':=hwr.symm
 clear hwr
 subst hwr'
 go_wp2_with fail
 go_ret
 exact⟨rfl,HB.out⟩
theorem E9(w:World):Calls Tryz.prog 141 #[.slice none 0 0] w λ e w'=>e=.returned (.bool true)/\Below w.heap.size w w':=by
 have r1:decide ((0:Int)<0)=false:=rfl
 obtain⟨w1,hmk,-,hb1⟩:=RowG.make (t:=107) (e:=44) (sz:=1) (P:=Tryz.prog) (ElT.mk' (z:=.slice none 0 0) (size:=1) (bytes:=24) Tryz.underlying107 (by kernel_rfl) rfl (by decide) (by decide)) w w.heap.size 0 .i64 .i64 (by decide) (Nat.le_refl _)
 have hmk':(Instr.makeSlice 107 (.int .i64 0) (.int .i64 0)).run Tryz.prog w=.ok (.slice (some ⟨w.heap.size,0,none⟩) 0 0) w1:=hmk
 have HB:=hid hb1
 clear hmk hb1
 go_enter Tryz.func141,Tryz.ntmps141
 go_wp2_with fail
 go_loopw [3] (λ i wr=>i=.int .i64 0/\wr=w) (λ _ _=>0)
 case atStart=>exact⟨rfl,rfl⟩
 case round =>
 obtain⟨rfl,hwr⟩:=hrel
 have hwr':=hwr.symm
 clear hwr
 subst hwr'
 go_wp2_with fail
 clear hmk'
 go_loopw [6] (λ i wr=>i=.int .i64 0/\wr=w1) (λ _ _=>0)
 case atStart=>exact⟨rfl,rfl⟩
 case round =>
 obtain⟨rfl,hwr⟩:=hrel
 have hwr':=hwr.symm
 clear hwr
 subst hwr'
 go_wp2_with fail
 go_loopw [9] (λ i wr=>i=.int .i64 0/\wr=w1) (λ _ _=>0)
 case atStart=>exact⟨rfl,rfl⟩
 case round =>
 obtain⟨rfl,hwr⟩:=hrel
 have hwr':=hwr.symm
 clear hwr
 subst hwr'
 go_wp2_with fail
 go_loopw [11] (λ i wr=>i=.int .i64 0/\wr=w1) (λ _ _=>0)
 case atStart=>exact⟨rfl,rfl⟩
 case round =>
 obtain⟨rfl,hwr⟩:=hrel
 have hwr':=hwr.symm
 clear hwr
 subst hwr'
 go_wp2_with fail
 go_loopw [14] (λ i wr=>i=.int .i64 0/\wr=w1) (λ _ _=>0)
 case atStart=>exact⟨rfl,rfl⟩
 case round =>
 obtain⟨rfl,hwr⟩:=hrel
 have hwr':=hwr.symm
 clear hwr
 subst hwr'
 go_wp2_with fail
 go_ret
 exact⟨rfl,HB.out⟩
theorem E8(w:World):Calls Tryz.prog 142 #[.slice none 0 0] w λ e w'=>e=.returned (.bool true)/\Below w.heap.size w w':=by
 have r1:decide ((0:Int)<0)=false:=rfl
 obtain⟨w1,hmk,-,hb1⟩:=RowG.make (t:=108) (e:=45) (sz:=1) (P:=Tryz.prog) (ElT.mk' (z:=.slice none 0 0) (size:=1) (bytes:=24) Tryz.underlying108 (by kernel_rfl) rfl (by decide) (by decide)) w w.heap.size 0 .i64 .i64 (by decide) (Nat.le_refl _)
 have hmk':(Instr.makeSlice 108 (.int .i64 0) (.int .i64 0)).run Tryz.prog w=.ok (.slice (some ⟨w.heap.size,0,none⟩) 0 0) w1:=hmk
 have HB:=hid hb1
 clear hmk hb1
 go_enter Tryz.func142,Tryz.ntmps142
 go_wp2_with fail
 go_loopw [3] (λ i wr=>i=.int .i64 0/\wr=w) (λ _ _=>0)
 case atStart=>exact⟨rfl,rfl⟩
 case round =>
 obtain⟨rfl,hwr⟩:=hrel
 have hwr':=hwr.symm
 clear hwr
 subst hwr'
 go_wp2_with fail
 clear hmk'
 go_loopw [6] (λ i wr=>i=.int .i64 0/\wr=w1) (λ _ _=>0)
 case atStart=>exact⟨rfl,rfl⟩
 case round =>
 obtain⟨rfl,hwr⟩:=hrel
 have hwr':=hwr.symm
 clear hwr
 subst hwr'
 go_wp2_with fail
 go_loopw [9] (λ i wr=>i=.int .i64 0/\wr=w1) (λ _ _=>0)
 case atStart=>exact⟨rfl,rfl⟩
 case round =>
 obtain⟨rfl,hwr⟩:=hrel
 have hwr':=hwr.symm
 clear hwr
 subst hwr'
 go_wp2_with fail
 go_loopw [11] (λ i wr=>i=.int .i64 0/\wr=w1) (λ _ _=>0)
 case atStart=>exact⟨rfl,rfl⟩
 case round =>
 obtain⟨rfl,hwr⟩:=hrel
 have hwr':=hwr.symm
 clear hwr
 subst hwr'
 go_wp2_with fail
 go_loopw [14] (λ i wr=>i=.int .i64 0/\wr=w1) (λ _ _=>0)
 case atStart=>exact⟨rfl,rfl⟩
 case round =>
 obtain⟨rfl,hwr⟩:=hrel
 have hwr':=hwr.symm
 clear hwr
 subst hwr'
 go_wp2_with fail
 go_ret
 exact⟨rfl,HB.out⟩
theorem E7(w:World):Calls Tryz.prog 143 #[.slice none 0 0] w λ e w'=>e=.returned (.bool true)/\Below w.heap.size w w':=by
 have r1:decide ((0:Int)<0)=false:=rfl
 obtain⟨w1,hmk,-,hb1⟩:=RowG.make (t:=109) (e:=239) (sz:=1) (P:=Tryz.prog) (ElT.mk' (z:=.slice none 0 0) (size:=1) (bytes:=24) Tryz.underlying109 (by kernel_rfl) rfl (by decide) (by decide)) w w.heap.size 0 .i64 .i64 (by decide) (Nat.le_refl _)
 have hmk':(Instr.makeSlice 109 (.int .i64 0) (.int .i64 0)).run Tryz.prog w=.ok (.slice (some ⟨w.heap.size,0,none⟩) 0 0) w1:=hmk
 have HB:=hid hb1
 clear hmk hb1
 go_enter Tryz.func143,Tryz.ntmps143
 go_wp2_with fail
 go_loopw [3] (λ i wr=>i=.int .i64 0/\wr=w) (λ _ _=>0)
 case atStart=>exact⟨rfl,rfl⟩
 case round =>
 obtain⟨rfl,hwr⟩:=hrel
 have hwr':=hwr.symm
 clear hwr
 subst hwr'
 go_wp2_with fail
 clear hmk'
 go_loopw [6] (λ i wr=>i=.int .i64 0/\wr=w1) (λ _ _=>0)
 case atStart=>exact⟨rfl,rfl⟩
 case round =>
 obtain⟨rfl,hwr⟩:=hrel
 have hwr':=hwr.symm
 clear hwr
 subst hwr'
 go_wp2_with fail
 go_loopw [9] (λ i wr=>i=.int .i64 0/\wr=w1) (λ _ _=>0)
 case atStart=>exact⟨rfl,rfl⟩
 case round =>
 obtain⟨rfl,hwr⟩:=hrel
 have hwr':=hwr.symm
 clear hwr
 subst hwr'
 go_wp2_with fail
 go_loopw [11] (λ i wr=>i=.int .i64 0/\wr=w1) (λ _ _=>0)
 case atStart=>exact⟨rfl,rfl⟩
 case round =>
 obtain⟨rfl,hwr⟩:=hrel
 have hwr':=hwr.symm
 clear hwr
 subst hwr'
 go_wp2_with fail
 go_loopw [14] (λ i wr=>i=.int .i64 0/\wr=w1) (λ _ _=>0)
 case atStart=>exact⟨rfl,rfl⟩
 case round =>
 obtain⟨rfl,hwr⟩:=hrel
 have hwr':=hwr.symm
 clear hwr
 subst hwr'
 go_wp2_with fail
 go_ret
 exact⟨rfl,HB.out⟩
theorem E6(w:World):Calls Tryz.prog 144 #[.slice none 0 0] w λ e w'=>e=.returned (.bool true)/\Below w.heap.size w w':=by
 have r1:decide ((0:Int)<0)=false:=rfl
 obtain⟨w1,hmk,-,hb1⟩:=RowG.make (t:=110) (e:=63) (sz:=1) (P:=Tryz.prog) (ElT.mk' (z:=.slice none 0 0) (size:=1) (bytes:=24) Tryz.underlying110 (by kernel_rfl) rfl (by decide) (by decide)) w w.heap.size 0 .i64 .i64 (by decide) (Nat.le_refl _)
 have hmk':(Instr.makeSlice 110 (.int .i64 0) (.int .i64 0)).run Tryz.prog w=.ok (.slice (some ⟨w.heap.size,0,none⟩) 0 0) w1:=hmk
 have HB:=hid hb1
 clear hmk hb1
 go_enter Tryz.func144,Tryz.ntmps144
 go_wp2_with fail
 go_loopw [3] (λ i wr=>i=.int .i64 0/\wr=w) (λ _ _=>0)
 case atStart=>exact⟨rfl,rfl⟩
 case round =>
 obtain⟨rfl,hwr⟩:=hrel
 have hwr':=hwr.symm
 clear hwr
 subst hwr'
 go_wp2_with fail
 clear hmk'
 go_loopw [6] (λ i wr=>i=.int .i64 0/\wr=w1) (λ _ _=>0)
 case atStart=>exact⟨rfl,rfl⟩
 case round =>
 obtain⟨rfl,hwr⟩:=hrel
 have hwr':=hwr.symm
 clear hwr
 subst hwr'
 go_wp2_with fail
 go_loopw [9] (λ i wr=>i=.int .i64 0/\wr=w1) (λ _ _=>0)
 case atStart=>exact⟨rfl,rfl⟩
 case round =>
 obtain⟨rfl,hwr⟩:=hrel
 have hwr':=hwr.symm
 clear hwr
 subst hwr'
 go_wp2_with fail
 go_loopw [11] (λ i wr=>i=.int .i64 0/\wr=w1) (λ _ _=>0)
 case atStart=>exact⟨rfl,rfl⟩
 case round =>
 obtain⟨rfl,hwr⟩:=hrel
 have hwr':=hwr.symm
 clear hwr
 subst hwr'
 go_wp2_with fail
 go_loopw [14] (λ i wr=>i=.int .i64 0/\wr=w1) (λ _ _=>0)
 case atStart=>exact⟨rfl,rfl⟩
 case round =>
 obtain⟨rfl,hwr⟩:=hrel
 have hwr':=hwr.symm
 clear hwr
 subst hwr'
 go_wp2_with fail
 go_ret
 exact⟨rfl,HB.out⟩
theorem E5(w:World):Calls Tryz.prog 145 #[.slice none 0 0] w λ e w'=>e=.returned (.bool true)/\Below w.heap.size w w':=by
 have r1:decide ((0:Int)<0)=false:=rfl
 obtain⟨w1,hmk,-,hb1⟩:=RowG.make (t:=111) (e:=48) (sz:=1) (P:=Tryz.prog) (ElT.mk' (z:=.slice none 0 0) (size:=1) (bytes:=24) Tryz.underlying111 (by kernel_rfl) rfl (by decide) (by decide)) w w.heap.size 0 .i64 .i64 (by decide) (Nat.le_refl _)
 have hmk':(Instr.makeSlice 111 (.int .i64 0) (.int .i64 0)).run Tryz.prog w=.ok (.slice (some ⟨w.heap.size,0,none⟩) 0 0) w1:=hmk
 have HB:=hid hb1
 clear hmk hb1
 go_enter Tryz.func145,Tryz.ntmps145
 go_wp2_with fail
 go_loopw [3] (λ i wr=>i=.int .i64 0/\wr=w) (λ _ _=>0)
 case atStart=>exact⟨rfl,rfl⟩
 case round =>
 obtain⟨rfl,hwr⟩:=hrel
 have hwr':=hwr.symm
 clear hwr
 subst hwr'
 go_wp2_with fail
 clear hmk'
 go_loopw [6] (λ i wr=>i=.int .i64 0/\wr=w1) (λ _ _=>0)
 case atStart=>exact⟨rfl,rfl⟩
 case round =>
 obtain⟨rfl,hwr⟩:=hrel
 have hwr':=hwr.symm
 clear hwr
 subst hwr'
 go_wp2_with fail
 go_loopw [9] (λ i wr=>i=.int .i64 0/\wr=w1) (λ _ _=>0)
 case atStart=>exact⟨rfl,rfl⟩
 case round =>
 obtain⟨rfl,hwr⟩:=hrel
 have hwr':=hwr.symm
 clear hwr
 subst hwr'
 go_wp2_with fail
 go_loopw [11] (λ i wr=>i=.int .i64 0/\wr=w1) (λ _ _=>0)
 case atStart=>exact⟨rfl,rfl⟩
 case round =>
 obtain⟨rfl,hwr⟩:=hrel
 have hwr':=hwr.symm
 clear hwr
 subst hwr'
 go_wp2_with fail
 go_loopw [14] (λ i wr=>i=.int .i64 0/\wr=w1) (λ _ _=>0)
 case atStart=>exact⟨rfl,rfl⟩
 case round =>
 obtain⟨rfl,hwr⟩:=hrel
 have hwr':=hwr.symm
 clear hwr
 subst hwr'
 go_wp2_with fail
 go_ret
 exact⟨rfl,HB.out⟩
theorem E4(w:World):Calls Tryz.prog 147 #[.slice none 0 0] w λ e w'=>e=.returned (.bool true)/\Below w.heap.size w w':=by
 have r1:decide ((0:Int)<0)=false:=rfl
 obtain⟨w1,hmk,-,hb1⟩:=RowG.make (t:=112) (e:=242) (sz:=1) (P:=Tryz.prog) (ElT.mk' (z:=.slice none 0 0) (size:=1) (bytes:=24) Tryz.underlying112 (by kernel_rfl) rfl (by decide) (by decide)) w w.heap.size 0 .i64 .i64 (by decide) (Nat.le_refl _)
 have hmk':(Instr.makeSlice 112 (.int .i64 0) (.int .i64 0)).run Tryz.prog w=.ok (.slice (some ⟨w.heap.size,0,none⟩) 0 0) w1:=hmk
 have HB:=hid hb1
 clear hmk hb1
 go_enter Tryz.func147,Tryz.ntmps147
 go_wp2_with fail
 go_loopw [3] (λ i wr=>i=.int .i64 0/\wr=w) (λ _ _=>0)
 case atStart=>exact⟨rfl,rfl⟩
 case round =>
 obtain⟨rfl,hwr⟩:=hrel
 have hwr':=hwr.symm
 clear hwr
 subst hwr'
 go_wp2_with fail
 clear hmk'
 go_loopw [6] (λ i wr=>i=.int .i64 0/\wr=w1) (λ _ _=>0)
 case atStart=>exact⟨rfl,rfl⟩
 case round =>
 obtain⟨rfl,hwr⟩:=hrel
 have hwr':=hwr.symm
 clear hwr
 subst hwr'
 go_wp2_with fail
 go_loopw [9] (λ i wr=>i=.int .i64 0/\wr=w1) (λ _ _=>0)
 case atStart=>exact⟨rfl,rfl⟩
 case round =>
 obtain⟨rfl,hwr⟩:=hrel
 have hwr':=hwr.symm
 clear hwr
 subst hwr'
 go_wp2_with fail
 go_loopw [11] (λ i wr=>i=.int .i64 0/\wr=w1) (λ _ _=>0)
 case atStart=>exact⟨rfl,rfl⟩
 case round =>
 obtain⟨rfl,hwr⟩:=hrel
 have hwr':=hwr.symm
 clear hwr
 subst hwr'
 go_wp2_with fail
 go_loopw [14] (λ i wr=>i=.int .i64 0/\wr=w1) (λ _ _=>0)
 case atStart=>exact⟨rfl,rfl⟩
 case round =>
 obtain⟨rfl,hwr⟩:=hrel
 have hwr':=hwr.symm
 clear hwr
 subst hwr'
 go_wp2_with fail
 go_ret
 exact⟨rfl,HB.out⟩
end
section
open Go.RowKit
structure Tb (X:Nat->Prop) (w w':World):Prop where
 os:w'.os=w.os
 tape:w'.tape=w.tape
 output:w'.output=w.output
 size:w.heap.size<=w'.heap.size
 block:∀b,b<w.heap.size->¬X b->w'.heap[b]? = w.heap[b]?
theorem Tn.tb{em:Nat}{X:Nat->Prop}{w w':World}(h:Tn em X w w'):Tb X w w':=⟨h.os,h.tape,h.output,h.size,h.block⟩
theorem Tb.of_below{X:Nat->Prop}{w w':World}(h:Below w.heap.size w w'):Tb X w w':=⟨h.os,h.tape,h.output,h.size,λ b hb _=>h.block b hb⟩
theorem Tb.trans{X:Nat->Prop}{a b c:World}(h:Tb X a b)(k:Tb X b c):Tb X a c :=
 ⟨k.os.trans h.os,k.tape.trans h.tape,k.output.trans h.output,Nat.le_trans h.size k.size,λ i hi hx=>(k.block i (Nat.lt_of_lt_of_le hi h.size) hx).trans (h.block i hi hx)⟩
theorem Tb.mono{X Y:Nat->Prop}{w w':World}(h:Tb X w w')(hxy:∀i,i<w.heap.size->X i->Y i):Tb Y w w':=⟨h.os,h.tape,h.output,h.size,λ i hi hy=>h.block i hi (λ hx=>hy (hxy i hi hx))⟩
theorem Tb.other{X:Nat->Prop}{w w':World}(ht:Tb X w w'){e:Nat}(hx:∀b,X b->∃cur,w.heap[b]? = some (Obj.cells cur e (0,0))){b e':Nat}{cur:Array Value}(hb:w.heap[b]? = some (Obj.cells cur e' (0,0)))(hne:e'≠e):w'.heap[b]? = some (Obj.cells cur e' (0,0)):=by
 rw[ht.block b (aV hb) (λ h=>by
  obtain⟨cur',q⟩:=hx b h
  rw[hb] at q;cases q;exact hne rfl)]
 exact hb
theorem BagAt.tb{w w':World}{β B0:Nat}{f:Nat->List Value}(h:BagAt w β B0 f){X:Nat->Prop}(ht:Tb X w w'){e:Nat}(he:e≠114/\∀i,i<17->e≠tyB i)(hx:∀b,X b->∃cur,w.heap[b]? = some (Obj.cells cur e (0,0))):BagAt w' β B0 f:=by
 obtain⟨h0,cur,h1,h2,h3⟩:=h
 refine⟨h0,cur,ht.other hx h1 he.1.symm,h2,λ i hi=>?_⟩
 obtain⟨v,h4,h5,h6⟩:=h3 i hi
 exact⟨v,h4,h5,iM h6 λ b cur' hb=>by rw[ht.other hx hb (he.2 i hi).symm];exact hb.symm⟩
theorem BagAt.list{w:World}{β B0:Nat}{f:Nat->List Value}(h:BagAt w β B0 f){i:Nat}(hi:i<17){K:Kd}(hne:tyB i≠K.e)(hp:0<K.sz){N base:Nat}{Bs:List Nat}(ho:Ows w base K.sz K.e N (f i) Bs)(em:Nat):∃L ql cl,w.cell? ⟨β,i,none⟩=some (.slice ql (f i).length cl)/\(f i).length<=cl/\cl<=maxLen /\
  (∀(k:Nat) (v:Value),(f i)[k]? = some v->ql=some ⟨L,0,none⟩/\vn v<=N)/\¬InV (f i) L/\∀W,Tn em (InV (f i)) w W->∀(k:Nat) (v:Value),(f i)[k]? = some v->U W L k=some v:=by
 obtain⟨v,h1,-,h2,h3⟩:=h.cell hi
 have hN:∀(k:Nat) (v:Value),(f i)[k]? = some v->vn v<=N:=λ k v hv=>by
  obtain⟨B,q,-⟩:=ho.at_ k v hv
  exact (q.rowI hp k).2
 rcases h3.2 with ⟨rfl,h30⟩|⟨g,cap,cur,rfl,-,h4,h5,h6,h7,h8⟩
 ·have h9:f i=[]:=List.eq_nil_of_length_eq_zero h30
  refine⟨0,none,0,by rw[h1,h30],by omega,Nat.zero_le _,λ k v hv=>by rw[h9] at hv;simp at hv,λ ⟨v,hv,_⟩=>by rw[h9] at hv;simp at hv,λ W _ k v hv=>by rw[h9] at hv;simp at hv⟩
 ·have ha:∀(k:Nat) (v:Value),(f i)[k]? = some v->cur[k]? = some v:=λ k v hv=>by
   have hk:k<(f i).length:=(List.getElem?_eq_some_iff.1 hv).1
   rw[Nat.mul_one] at h8
   rw[<-h8,List.getElem?_take,if_pos hk] at hv
   simpa using hv
  obtain⟨q1,q2⟩:=X5 (em:=em) (ho.rows hp) hne h4 ha
  exact⟨g,_,cap,h1,h5,h6,λ k v hv=>⟨rfl,hN k v hv⟩,q1,q2⟩
theorem BagAt.none_{w:World}{β B0:Nat}{f:Nat->List Value}(h:BagAt w β B0 f){i:Nat}(hi:i<17)(h0:f i=[]):w.cell? ⟨β,i,none⟩=some (.slice none 0 0):=by
 obtain⟨v,h1,-,h2,-⟩:=h.cell hi
 rw[h1,h2 h0]
theorem ty77:(77:Nat)≠114/\∀i,i<17->(77:Nat)≠tyB i:=by decide
theorem ty43:(43:Nat)≠114/\∀i,i<17->(43:Nat)≠tyB i:=by decide
def f0:Nat->List Value:=λ _=>[]
end
section
open Go.RowKit
def KC:Kd:={ e:=89,sz:=12,em:=0,cel:=λ _ M xs=>xs=[.int .i64 M,.int .i64 0,.int .i64 0,.int .i64 0,.slice none 0 0,.slice none 0 0,.bool false,.int .i64 0,.int .i64 0,.int .i64 0,.slice none 0 0,.slice none 0 0] }
theorem KC_ok:KC.Ok:=⟨by decide,by decide,λ _ _ _ h=>by rw[show _=_ from h];rfl,λ _ _ _ h u hu=>by
 rw[show _=_ from h] at hu
 simp only[List.mem_cons,List.not_mem_nil,or_false] at hu
 rcases hu with rfl|rfl|rfl|rfl|rfl|rfl|rfl|rfl|rfl|rfl|rfl|rfl<;>rfl,λ _ _ _ _ _ h=>h⟩
theorem info89f:(Tryz.prog.info? 89).map (λ i=>(i.zero.map (·.cells.size),i.size,i.bytes))=some (some 12,12,160):=by kernel_rfl
theorem KC_sty:Sty Tryz.prog KC 56:=by
 refine⟨Tryz.underlying56,?_⟩
 have h:=info89f
 cases hi:Tryz.prog.info? 89 with
 | none=>rw[hi] at h;cases h
 | some i =>
  rw[hi] at h
  simp only[Option.map_some,Option.some.injEq,Prod.mk.injEq] at h
  obtain⟨h1,h2,h3⟩:=h
  cases hz:i.zero with
  | none=>rw[hz] at h1;cases h1
  | some z =>
   rw[hz] at h1
   simp only[Option.map_some,Option.some.injEq] at h1
   exact⟨i,z,hi,hz,h2,h1,by omega⟩
def KCS:Kd:={ e:=56,sz:=1,em:=0,cel:=λ _ _ _=>False }
theorem info56:(Tryz.prog.info? 56).map (λ i=>(i.zero,i.size,i.bytes))=some (some (.slice none 0 0),1,24):=by kernel_rfl
theorem KCS_sty:Sty Tryz.prog KCS 62:=by
 refine⟨Tryz.underlying62,?_⟩
 have h:=info56
 cases hi:Tryz.prog.info? 56 with
 | none=>rw[hi] at h;cases h
 | some i =>
  rw[hi] at h
  simp only[Option.map_some,Option.some.injEq,Prod.mk.injEq] at h
  exact⟨i,_,hi,h.1,h.2.1,rfl,by omega⟩
theorem KC_same:AI Tryz.prog KC 168:=λ M w xs ys hx hy=>by
 have hx:xs=[.int .i64 M,.int .i64 0,.int .i64 0,.int .i64 0,.slice none 0 0,.slice none 0 0,.bool false,.int .i64 0,.int .i64 0,.int .i64 0,.slice none 0 0,.slice none 0 0]:=hx
 have hy:ys=[.int .i64 M,.int .i64 0,.int .i64 0,.int .i64 0,.slice none 0 0,.slice none 0 0,.bool false,.int .i64 0,.int .i64 0,.int .i64 0,.slice none 0 0,.slice none 0 0]:=hy
 subst hx hy
 have HS:Hid (∀W:World,Calls Tryz.prog 16 #[.agg #[.int .i64 0,.int .i64 0,.int .i64 0,.slice none 0 0,.slice none 0 0],.agg #[.int .i64 0,.int .i64 0,.int .i64 0,.slice none 0 0,.slice none 0 0]] W λ e w'=>e=.returned (.bool true)/\Below W.heap.size W w'):=λ W=>by
  have rm:RM ty W (.agg #[.int .i64 0,.int .i64 0,.int .i64 0,.slice none 0 0,.slice none 0 0]) ⟨0,0,0,[]⟩ .nil:=⟨none,0,0,none,0,0,rfl,Rd.none_ _ _ _,Rd.none_ _ _ _⟩
  exact gV ⟨0,0,0,[]⟩ .nil _ _ W rm rm
 go_enter Tryz.func168,Tryz.ntmps168
 go_wp2_with fail
 refine (HS.out _).mono ?_
 rintro e w1 ⟨rfl,hb⟩
 have a6:w1.cell? ⟨w.heap.size,6,none⟩=some (.bool false):=(hb.cell (p:=⟨w.heap.size,6,none⟩) (by simp<;>omega)).trans (by simp[go_sem])
 have a7:w1.cell? ⟨w.heap.size,7,none⟩=some (.int .i64 0):=(hb.cell (p:=⟨w.heap.size,7,none⟩) (by simp<;>omega)).trans (by simp[go_sem])
 have a8:w1.cell? ⟨w.heap.size,8,none⟩=some (.int .i64 0):=(hb.cell (p:=⟨w.heap.size,8,none⟩) (by simp<;>omega)).trans (by simp[go_sem])
 have a9:w1.cell? ⟨w.heap.size,9,none⟩=some (.int .i64 0):=(hb.cell (p:=⟨w.heap.size,9,none⟩) (by simp<;>omega)).trans (by simp[go_sem])
 have a10:w1.cell? ⟨w.heap.size,10,none⟩=some (.slice none 0 0):=(hb.cell (p:=⟨w.heap.size,10,none⟩) (by simp<;>omega)).trans (by simp[go_sem])
 have a11:w1.cell? ⟨w.heap.size,11,none⟩=some (.slice none 0 0):=(hb.cell (p:=⟨w.heap.size,11,none⟩) (by simp<;>omega)).trans (by simp[go_sem])
 have b6:w1.cell? ⟨w.heap.size+1,6,none⟩=some (.bool false):=(hb.cell (p:=⟨w.heap.size+1,6,none⟩) (by simp<;>omega)).trans (by simp[go_sem])
 have b7:w1.cell? ⟨w.heap.size+1,7,none⟩=some (.int .i64 0):=(hb.cell (p:=⟨w.heap.size+1,7,none⟩) (by simp<;>omega)).trans (by simp[go_sem])
 have b8:w1.cell? ⟨w.heap.size+1,8,none⟩=some (.int .i64 0):=(hb.cell (p:=⟨w.heap.size+1,8,none⟩) (by simp<;>omega)).trans (by simp[go_sem])
 have b9:w1.cell? ⟨w.heap.size+1,9,none⟩=some (.int .i64 0):=(hb.cell (p:=⟨w.heap.size+1,9,none⟩) (by simp<;>omega)).trans (by simp[go_sem])
 have b10:w1.cell? ⟨w.heap.size+1,10,none⟩=some (.slice none 0 0):=(hb.cell (p:=⟨w.heap.size+1,10,none⟩) (by simp<;>omega)).trans (by simp[go_sem])
 have b11:w1.cell? ⟨w.heap.size+1,11,none⟩=some (.slice none 0 0):=(hb.cell (p:=⟨w.heap.size+1,11,none⟩) (by simp<;>omega)).trans (by simp[go_sem])
 have HB:=hid hb
 clear hb
 go_wp2_with fail
 refine (HS.out _).mono ?_
 rintro e w2 ⟨rfl,hb⟩
 have HB2:=hid hb
 clear hb
 go_wp2_with fail
 go_ret
 exact⟨rfl,aA (aA (aA (aB _ _) (aB _ _)) HB.out) HB2.out⟩
theorem KC_mark:I6 Tryz.prog KC 212:=λ k i w hk hi=>by
 have HM:Hid (∀W,Calls Tryz.prog 120 #[.int .i64 k,.int .i64 i] W λ e w'=>e=.returned (.int .i64 (fV k i))/\w'=W):=λ W=>rB k i W hk hi
 refine Calls.mono (R:=λ e w'=>e=.returned (.agg ([.int .i64 (fV k i),.int .i64 0,.int .i64 0,.int .i64 0,.slice none 0 0,.slice none 0 0,.bool false,.int .i64 0,.int .i64 0,.int .i64 0,.slice none 0 0,.slice none 0 0]:List Value).toArray)/\Below w.heap.size w w') ?_ λ _ _ h=>⟨_,h.1,rfl,h.2⟩
 obtain⟨m,hm⟩:∃m,fV k i=m:=⟨_,rfl⟩
 rw[hm] at HM ⊢
 go_enter Tryz.func212,Tryz.ntmps212
 go_wp2_with fail
 refine (HM.out _).mono ?_
 rintro e w' ⟨rfl,rfl⟩
 go_wp2_with fail
 refine bodyPost_ret (v:=.agg #[.int .i64 m,.int .i64 0,.int .i64 0,.int .i64 0,.slice none 0 0,.slice none 0 0,.bool false,.int .i64 0,.int .i64 0,.int .i64 0,.slice none 0 0,.slice none 0 0]) (by simp[results,Tryz.results212,go_sem]) rfl ⟨rfl,aB _ _⟩
theorem O2(vs:List Value)(L:Nat)(ql:Option Addr)(cl:Nat)(w:World)(hvs:vs.length<=1000000000)(hcl:vs.length<=cl)(hcm:cl<=maxLen)(hL:∀(k:Nat) (v:Value),vs[k]? = some v->ql=some ⟨L,0,none⟩/\vn v<=1000000000)
  (hC:¬InV vs L/\∀W,Tn KC.em (InV vs) w W->∀(k:Nat) (v:Value),vs[k]? = some v->U W L k=some v) (hR:RowsG KC 0 w vs (λ _=>0)) (hD:I7 vs) :
  Calls Tryz.prog 146 #[.slice ql vs.length cl] w λ e w'=>e=.returned (.bool true)/\Tn KC.em (InV vs) w w':=by
 obtain⟨m,hm⟩:∃m,vs.length=m:=⟨_,rfl⟩
 have HM:=hid hm
 have HC:=hid hC
 have HL:=hid hL
 have HMK:=hid KC_mark
 have HSM:=hid KC_same
 have HIN:Hid (∀b,InV vs b->b<w.heap.size):=λ b hb=>by obtain⟨-,cur,e⟩:=hR.typed hb;exact aV e
 rw[hm] at hvs hcl ⊢
 clear hm hC hL
 unfold maxLen at hcm
 go_enter Tryz.func146,Tryz.ntmps146
 go_wp2_with fail
 go_loopw [3] (λ i wr=>∃k:Nat,k<=m/\i=.int .i64 k/\RowsG KC 0 wr vs (dF vs k 0)/\Tn KC.em (InV vs) w wr) (λ i _=>m-(intOf i).toNat)
 case atStart=>exact⟨0,Nat.zero_le _,rfl,hR.cong λ k v _=>by simp[dF],Tn.refl _ _ _⟩
 case round =>
  obtain⟨k,hk,rfl,hRk,hTk⟩:=hrel
  clear hR
  by_cases hlt:k<m
  ·have r1:decide ((k:Int)<(m:Int))=true:=decide_eq_true (by omega)
   obtain⟨v,hv⟩:∃v,vs[k]? = some v:=⟨_,List.getElem?_eq_getElem (by have:=HM.out;omega)⟩
   obtain⟨p,n,c,rfl,hnc,hcc⟩:=(hRk k v hv).isSlice
   unfold maxLen at hcc
   obtain⟨rfl,hn⟩:=HL.out k _ hv
   replace hn:n<=1000000000:=hn
   have HV:=hid hv
   have HRK:=hid hRk
   have HTK:=hid hTk
   clear hv hRk hTk
   go_wp2_with fail
   go_loopw [4] (λ i wr=>∃j:Nat,i=.int .i64 j/\j<=n/\RowsG KC 0 wr vs (dF vs k j)/\Tn KC.em (InV vs) w wr) (λ i _=>n-(intOf i).toNat)
   case atStart=>exact⟨0,rfl,Nat.zero_le _,HRK.out,HTK.out⟩
   case round =>
    clear HRK HTK
    obtain⟨j,rfl,hj,hRj,hTj⟩:=hrel
    have hu:=HC.out.2 _ hTj k _ HV.out
    have hc:=aC hu
    by_cases hjn:j<n
    ·have r2:decide ((j:Int)<(n:Int))=true:=decide_eq_true (by omega)
     obtain⟨g,rfl,hc0⟩:=(hRj k _ HV.out).lies (by omega)
     have e1:∀n':GrownX (InV vs) wr,n'.it.cell? ⟨L,k,none⟩=some (.slice (some ⟨g,0,none⟩) n c):=GrownX.cell hu HC.out.1
     have HRJ:=hid hRj
     have HTJ:=hid hTj
     clear hu hRj hTj
     go_wp2_with fail
     clear hc
     refine eG (InV vs) [0,1,2,3,4,5,6] (by decide) (by kernel_rfl) (by kernel_rfl) (by kernel_rfl) (by kernel_rfl) (λ _ _ d _ _ h=>by cases d<;>exact h) ?_
     simp only[List.map_cons,List.map_nil,List.getD_cons_zero,List.getD_cons_succ,bar,bD,List.size_toArray,List.length_cons,List.length_nil,Nat.zero_add,Nat.reduceAdd,if_true,if_false,Bool.false_eq_true]
     repeat (go_big_quiet_step (fail))
     refine wpQuiet_nil ?_
     clear e1
     refine aJ (i:=7) (fuel:=2) (by kernel_rfl) rfl (by rfl) (λ K' hK=>?_)
     go_simp
     refine (HMK.out k j _ (by omega) (by omega)).mono ?_
     rintro e wx ⟨xs,rfl,hcel,hbx⟩
     have hAx:Below wr.heap.size wr wx:=aA (aR wr) hbx
     refine hK.out _ _ ⟨⟨wx,λ b hb _=>hAx.block b hb⟩,rfl⟩ (λ _=>?_)
     clear hK K'
     have hRx:=HRJ.out.below KC_ok hAx
     obtain⟨hth,hR',hT'⟩:=RowsG.setF KC_ok hD hRx HV.out hjn hcel
     refine aJ (i:=8) (fuel:=1) (by kernel_rfl) rfl (by rfl) (λ K' hK=>?_)
     go_simp
     refine hK.out _ _ ⟨⟨wx,λ b hb _=>hAx.block b hb⟩,rfl⟩ (λ _=>?_)
     clear hK K'
     refine aJ (i:=9) (fuel:=0) (by kernel_rfl) rfl (by rfl) (λ K' hK=>?_)
     refine wp_store_mid 89 _ _ rfl g (j*12) xs.toArray rfl rfl (by rw[List.size_toArray,KC_ok.len _ _ _ hcel];exact hth) (by rw[List.size_toArray,KC_ok.len _ _ _ hcel];exact KC_sty.size) (all_oneCell_toArray (KC_ok.one _ _ _ hcel)) ?_
     refine hK.out _ _ ⟨⟨wx.setCells g (j*12) xs,λ b hb hx=>(hT'.block b (Nat.lt_of_lt_of_le hb hAx.size) hx).trans (hAx.block b hb)⟩,rfl⟩ (λ _=>?_)
     clear hK K'
     refine wpAnyH_done (by kernel_rfl) ?_ _
     have HR':=hid hR'
     have HT':=hid (HTJ.out.trans ((Tn.of_below hAx).trans hT'))
     clear hth hR' hT' hRx hcel hAx hbx HRJ HTJ
     go_wp2_with fail
     go_roundw
     case rel=>exact⟨j+1,by go_num,by omega,HR'.out,HT'.out⟩
     case measure=>simp[intOf];omega
    ·have r2:decide ((j:Int)<(n:Int))=false:=decide_eq_false (by omega)
     obtain rfl:j=n:=by omega
     have HR':=hid (RowsG.dEnd HV.out hRj)
     have HT':=hid hTj
     clear hRj hTj hu
     go_wp2_with fail
     go_roundw
     case rel=>exact⟨k+1,by omega,by go_num,HR'.out,HT'.out⟩
     case measure=>simp[intOf];omega
  ·have r1:decide ((k:Int)<(m:Int))=false:=decide_eq_false (by omega)
   obtain rfl:k=m:=by omega
   have HF:=hid (RowsG.full HM.out hRk)
   have HT:=hid hTk
   clear hRk hTk
   obtain⟨arr,hmk,harr⟩:=KCS_sty.make k (by omega) wr
   have hmk':(Instr.makeSlice 62 (.int .i64 k) (.int .i64 k)).run Tryz.prog wr=.ok (.slice (some ⟨wr.heap.size,0,none⟩) k k) (wr.alloc (.cells arr 56)):=hmk
   clear hmk
   go_wp2_with fail
   obtain⟨w1,hw1⟩:∃w1,wr.alloc (.cells arr 56)=w1:=⟨_,rfl⟩
   obtain⟨G,hG⟩:∃G,wr.heap.size=G:=⟨_,rfl⟩
   have HGW:Hid (w.heap.size<=G):=hid (by rw[<-hG];exact HT.out.size)
   have HB1:Below wr.heap.size wr w1:=by rw[<-hw1];exact aB _ _
   have HF1:=hid (HF.out.below KC_ok HB1)
   have HT1:=hid (HT.out.trans (Tn.of_below HB1))
   have HG1:Hid (Gsl KC 56 G w.heap.size w1 vs 64 64 0):=hid (by rw[<-hw1,<-hG];exact Gsl.new wr vs 64 64 (by rw[HM.out,harr];show k*1=k;omega))
   rw[hw1,hG]
   clear HF HT HB1 hw1 hmk' harr
   go_loopw [6] (λ i wr=>∃j:Nat,i=.int .i64 j/\j<=k/\Full KC 0 wr vs/\Gsl KC 56 G w.heap.size wr vs 64 64 j/\Tn KC.em (InV vs) w wr) (λ i _=>k-(intOf i).toNat)
   case atStart=>exact⟨0,rfl,Nat.zero_le _,HF1.out,HG1.out,HT1.out⟩
   case round =>
    clear HF1 HG1 HT1
    obtain⟨j,rfl,hj,hF,hGs,hT⟩:=hrel
    by_cases hlt:j<k
    ·have r1:decide ((j:Int)<(k:Int))=true:=decide_eq_true (by omega)
     obtain⟨v,hv⟩:∃v,vs[j]? = some v:=⟨_,List.getElem?_eq_getElem (by have:=HM.out;omega)⟩
     obtain⟨p,n,c,rfl,hnc,hcc⟩:=(hF j v hv).isSlice
     unfold maxLen at hcc
     obtain⟨rfl,hn⟩:=HL.out j _ hv
     replace hn:n<=1000000000:=hn
     have hc:=aC (HC.out.2 _ hT j _ hv)
     have HV:=hid hv
     have HF:=hid hF
     have HGS:=hid hGs
     have HT:=hid hT
     clear hv hF hGs hT
     go_wp2_with fail
     obtain⟨wk,hwk⟩:∃wk:World,wk=wr:=⟨_,rfl⟩
     subst hwk
     go_loopw [7,8] (λ g i wr=>∃t:Nat,i=.int .i64 t/\t<=64/\RowI KC 0 wr (.slice p n c) n j/\Cur KC wk.heap.size wr (.slice p n c) g t j/\Tn KC.em (λ b=>vb (.slice p n c)=some b) wk wr) (λ _ i _=>64-(intOf i).toNat)
     case atStart=>exact⟨0,rfl,by decide,HF.out j _ HV.out,.inl ⟨rfl,rfl⟩,Tn.refl _ _ _⟩
     case round =>
      obtain⟨t,rfl,ht,hRq,hCq,hTq⟩:=hrel
      have hTv:Tn KC.em (InV vs) w wr:=HT.out.trans (hTq.inV HV.out)
      have hcq:=aC (HC.out.2 _ hTv j _ HV.out)
      have HR:=hid hRq
      have HC1:=hid hCq
      have HTQ:=hid hTq
      have HTV:=hid hTv
      clear hRq hCq hTq hTv hc
      by_cases hlt64:t<64
      ·have r2:decide ((t:Int)<64)=true:=decide_eq_true (by omega)
       have HMJ:Hid (∀W,Calls Tryz.prog 212 #[.int .i64 j,.int .i64 ((n:Int)+(t:Int))] W λ e w'=>∃xs,e=.returned (.agg xs.toArray)/\KC.cel w' (mk j (n+t)) xs/\Below W.heap.size W w'):=λ W=>by
        have:=HMK.out j (n+t) W (by omega) (by omega)
        rwa [Int.natCast_add] at this
       go_wp2_with fail
       refine (HMJ.out _).mono ?_
       rintro e wx ⟨xs,rfl,hcel,hbx⟩
       have hxs:xs=[.int .i64 (mk j (n+t)),.int .i64 0,.int .i64 0,.int .i64 0,.slice none 0 0,.slice none 0 0,.bool false,.int .i64 0,.int .i64 0,.int .i64 0,.slice none 0 0,.slice none 0 0]:=hcel
       obtain⟨wy,hwy⟩:∃wy,wx.alloc (.cells xs.toArray 89)=wy:=⟨_,rfl⟩
       have hby:Below wr.heap.size wr wy:=by rw[<-hwy];exact aA hbx (aB _ _)
       have hnc:∀(i:Nat) (u:Value),xs[i]? = some u->wy.cell? ((⟨wx.heap.size,0,none⟩:Addr).add i)=some u:=by rw[<-hwy];exact dO wx xs 89
       obtain⟨g',wz,hrun,hRz,hCz,hTz⟩:=Cur.grow KC_ok KC_sty 56 (HR.out.on KC_ok (Tn.of_below (X:=λ _=>False) hby) λ _ _ _ _=>id) (λ b hb=>Nat.lt_of_lt_of_le (HIN.out b ⟨_,List.mem_of_getElem? HV.out,hb⟩) HT.out.size) (Nat.le_trans HTQ.out.size hby.size)
        (HC1.out.on KC_ok (Tn.of_below (X:=λ _=>False) hby) λ _ _ _ _=>id) (c:=1) (by rw[<-hwy];exact KC_ok.below hcel (aB _ _)) hnc (by show n+t+1<=_;omega)
       have HRZ:=hid hRz
       have HCZ:=hid hCz
       have HTZ:=hid (HTQ.out.trans' ((Tn.of_below hby).trans hTz) λ b hb h=>by
        rcases h with h|h
        ·exact h
        ·omega)
       clear hRz hCz hTz hcel hbx hby hnc HR HC1 HTQ HMJ
       subst hwy hxs
       go_wp2_with (at_builtin;refine wpList_append_run rfl _ _ 56 rfl _ _ _ rfl rfl hrun ?_)
       go_roundw
       case rel=>exact⟨t+1,by go_num,by omega,HRZ.out,HCZ.out,HTZ.out⟩
       case measure=>simp[intOf];omega
      ·have r2:decide ((t:Int)<64)=false:=decide_eq_false (by omega)
       obtain rfl:t=64:=by omega
       have hFq:=Full.one KC_ok hD HF.out HV.out HTQ.out HR.out
       have hGq:=Gsl.one KC_ok hD HGS.out HIN.out HGW.out HV.out HTQ.out
       obtain⟨u,hgc,hgf⟩:=hGq.cell (k:=j) (by have:=HM.out;omega)
       obtain⟨-,hG',hT'⟩:=hGq.put KC_ok (by decide) (by decide) HV.out ((HC1.out.ent (by decide)).less (Nat.le_refl _) HT.out.size)
       obtain⟨h,cap,cur,e,-⟩:=HC1.out.ent (by decide)
       subst e
       have HG':=hid hG'
       have HF':=hid (hFq.put KC_ok HIN.out HGW.out hT')
       have HT':=hid (HTV.out.trans' hT' λ b hb e=>by have:=HGW.out;omega)
       clear hFq hGq hG' hT' HR HC1 HTQ HTV HF HGS HT hcq
       go_wp2_with fail
       go_roundw
       case rel=>exact⟨j+1,by go_num,by omega,HF'.out,HG'.out,HT'.out⟩
       case measure=>simp[intOf];omega
    ·have r1:decide ((j:Int)<(k:Int))=false:=decide_eq_false (by omega)
     obtain rfl:j=k:=by omega
     have HF:=hid hF
     have HGS:=hid hGs
     have HT:=hid hT
     clear hF hGs hT
     go_wp2_with fail
     obtain⟨w3,hw3⟩:∃w3:World,w3=wr:=⟨_,rfl⟩
     subst hw3
     obtain⟨m,hm⟩:∃m:Nat,m=j:=⟨_,rfl⟩
     subst hm
     clear hlt
     go_loopw [9] (λ i wr=>∃j:Nat,i=.int .i64 j/\j<=m/\Below w3.heap.size w3 wr) (λ i _=>m-(intOf i).toNat)
     case atStart=>exact⟨0,rfl,Nat.zero_le _,Below.refl _ _⟩
     case round =>
      obtain⟨j,rfl,hj,hB⟩:=hrel
      by_cases hlt:j<m
      ·have r1:decide ((j:Int)<(m:Int))=true:=decide_eq_true (by omega)
       obtain⟨v,hv⟩:∃v,vs[j]? = some v:=⟨_,List.getElem?_eq_getElem (by have:=HM.out;omega)⟩
       obtain⟨p,n,c,rfl,hnc,hcc⟩:=(HF.out j v hv).isSlice
       unfold maxLen at hcc
       obtain⟨rfl,hn⟩:=HL.out j _ hv
       replace hn:n<=1000000000:=hn
       have HV:=hid hv
       have HB:=hid hB
       clear hv hB
       obtain⟨u,hgc,hgf,hE⟩:=HGS.out.get hlt HV.out
       obtain⟨h,cap,cur,rfl,-,-,hq1,hq2,-⟩:=id hE
       unfold maxLen at hq2
       replace hq1:n+64<=cap:=hq1
       have HU:Hid (U w3 G j=some (.slice (some ⟨h,0,none⟩) (n+64) cap)):=hid (kM hgc hgf)
       have HE:=hid hE
       clear hgc hgf hE
       go_wp2_with fail
       go_loopw [10] (λ i wr=>∃t:Nat,i=.int .i64 t/\t<=n+64/\Below w3.heap.size w3 wr) (λ i _=>n+64-(intOf i).toNat)
       case atStart=>exact⟨0,rfl,Nat.zero_le _,HB.out⟩
       case round =>
        clear HB
        obtain⟨t,rfl,ht,hB⟩:=hrel
        have hug:=aD hB _ _ _ (aM HU.out) HU.out
        have hgc:=aC hug
        have hul:=HC.out.2 _ (HT.out.trans (Tn.of_below hB)) j _ HV.out
        have HB:=hid hB
        clear hB
        by_cases htn:t<n+64
        ·have r2:decide ((t:Int)<(n:Int)+64)=true:=decide_eq_true (by omega)
         have q1:(0:Int)<=(t:Int):=by omega
         have q2:(t:Int)<(n:Int)+64:=by omega
         obtain⟨xs,hcel,hrg⟩:=HE.out.getU (show t<vn (.slice p n c)+64 from htn)
         have HCEL:=hid hcel
         have HRG:=hid hrg
         clear hcel hrg
         have hxs:xs=[.int .i64 (mk j t),.int .i64 0,.int .i64 0,.int .i64 0,.slice none 0 0,.slice none 0 0,.bool false,.int .i64 0,.int .i64 0,.int .i64 0,.slice none 0 0,.slice none 0 0]:=HCEL.out
         subst hxs
         have c0:∀n':GrownB wr.heap.size wr,n'.it.cell? ⟨h,t*12,none⟩=some (.int .i64 (mk j t)):=GrownB.cell (aD HB.out _ _ _ (aM (HRG.out 0 _ rfl)) (HRG.out 0 _ rfl)) (Nat.lt_of_lt_of_le (aM (HRG.out 0 _ rfl)) HB.out.size)
         have c1:∀n':GrownB wr.heap.size wr,n'.it.cell? ⟨h,t*12+1,none⟩=some (.int .i64 0):=GrownB.cell (aD HB.out _ _ _ (aM (HRG.out 1 _ rfl)) (HRG.out 1 _ rfl)) (Nat.lt_of_lt_of_le (aM (HRG.out 1 _ rfl)) HB.out.size)
         have c2:∀n':GrownB wr.heap.size wr,n'.it.cell? ⟨h,t*12+2,none⟩=some (.int .i64 0):=GrownB.cell (aD HB.out _ _ _ (aM (HRG.out 2 _ rfl)) (HRG.out 2 _ rfl)) (Nat.lt_of_lt_of_le (aM (HRG.out 2 _ rfl)) HB.out.size)
         have c3:∀n':GrownB wr.heap.size wr,n'.it.cell? ⟨h,t*12+3,none⟩=some (.int .i64 0):=GrownB.cell (aD HB.out _ _ _ (aM (HRG.out 3 _ rfl)) (HRG.out 3 _ rfl)) (Nat.lt_of_lt_of_le (aM (HRG.out 3 _ rfl)) HB.out.size)
         have c4:∀n':GrownB wr.heap.size wr,n'.it.cell? ⟨h,t*12+4,none⟩=some (.slice none 0 0):=GrownB.cell (aD HB.out _ _ _ (aM (HRG.out 4 _ rfl)) (HRG.out 4 _ rfl)) (Nat.lt_of_lt_of_le (aM (HRG.out 4 _ rfl)) HB.out.size)
         have c5:∀n':GrownB wr.heap.size wr,n'.it.cell? ⟨h,t*12+5,none⟩=some (.slice none 0 0):=GrownB.cell (aD HB.out _ _ _ (aM (HRG.out 5 _ rfl)) (HRG.out 5 _ rfl)) (Nat.lt_of_lt_of_le (aM (HRG.out 5 _ rfl)) HB.out.size)
         have c6:∀n':GrownB wr.heap.size wr,n'.it.cell? ⟨h,t*12+6,none⟩=some (.bool false):=GrownB.cell (aD HB.out _ _ _ (aM (HRG.out 6 _ rfl)) (HRG.out 6 _ rfl)) (Nat.lt_of_lt_of_le (aM (HRG.out 6 _ rfl)) HB.out.size)
         have c7:∀n':GrownB wr.heap.size wr,n'.it.cell? ⟨h,t*12+7,none⟩=some (.int .i64 0):=GrownB.cell (aD HB.out _ _ _ (aM (HRG.out 7 _ rfl)) (HRG.out 7 _ rfl)) (Nat.lt_of_lt_of_le (aM (HRG.out 7 _ rfl)) HB.out.size)
         have c8:∀n':GrownB wr.heap.size wr,n'.it.cell? ⟨h,t*12+8,none⟩=some (.int .i64 0):=GrownB.cell (aD HB.out _ _ _ (aM (HRG.out 8 _ rfl)) (HRG.out 8 _ rfl)) (Nat.lt_of_lt_of_le (aM (HRG.out 8 _ rfl)) HB.out.size)
         have c9:∀n':GrownB wr.heap.size wr,n'.it.cell? ⟨h,t*12+9,none⟩=some (.int .i64 0):=GrownB.cell (aD HB.out _ _ _ (aM (HRG.out 9 _ rfl)) (HRG.out 9 _ rfl)) (Nat.lt_of_lt_of_le (aM (HRG.out 9 _ rfl)) HB.out.size)
         have c10:∀n':GrownB wr.heap.size wr,n'.it.cell? ⟨h,t*12+10,none⟩=some (.slice none 0 0):=GrownB.cell (aD HB.out _ _ _ (aM (HRG.out 10 _ rfl)) (HRG.out 10 _ rfl)) (Nat.lt_of_lt_of_le (aM (HRG.out 10 _ rfl)) HB.out.size)
         have c11:∀n':GrownB wr.heap.size wr,n'.it.cell? ⟨h,t*12+11,none⟩=some (.slice none 0 0):=GrownB.cell (aD HB.out _ _ _ (aM (HRG.out 11 _ rfl)) (HRG.out 11 _ rfl)) (Nat.lt_of_lt_of_le (aM (HRG.out 11 _ rfl)) HB.out.size)
         have hgB:=GrownB.cell hug (aM hug)
         have hlB:=GrownB.cell hul (aM hul)
         clear hug hul
         go_wp2_with fail
         refine cG wr.heap.size [0,1,2,3,4,5,6,7,8] (by decide) (by kernel_rfl) (by kernel_rfl) (by kernel_rfl) (by kernel_rfl) (λ _ _ d _ _ h=>by cases d<;>exact h) ?_
         simp only[List.map_cons,List.map_nil,List.getD_cons_zero,List.getD_cons_succ,bar,bD,List.size_toArray,List.length_cons,List.length_nil,Nat.zero_add,Nat.reduceAdd,if_true,if_false,Bool.false_eq_true]
         repeat (go_big_quiet_step (fail))
         refine wpQuiet_nil ?_
         refine aJ (i:=9) (fuel:=25) (by kernel_rfl) rfl (by rfl) (λ K' hK=>?_)
         go_simp
         refine (HMK.out j t _ (by omega) (by omega)).mono ?_
         rintro e wx ⟨ys,rfl,hcy,hbx⟩
         have hAx:Below wr.heap.size wr wx:=aA (aR wr) hbx
         refine hK.out _ _ ⟨⟨wx,hAx⟩,rfl⟩ (λ _=>?_)
         clear hK K'
         refine aJ (i:=10) (fuel:=24) (by kernel_rfl) rfl (by rfl) (λ K' hK=>?_)
         go_simp
         refine (HSM.out _ wx _ _ (KC_ok.below HCEL.out (aA HB.out hAx)) hcy).mono ?_
         rintro e wy ⟨rfl,hby⟩
         have hAy:Below wr.heap.size wr wy:=aA hAx hby
         refine hK.out _ _ ⟨⟨wy,hAy⟩,rfl⟩ (λ _=>?_)
         clear hK K' hcy hbx hby hAx hgB c0 c1 c2 c3 c4 c5 c6 c7 c8 c9 c10 c11
         by_cases htk:t<n
         ·have r3:decide ((t:Int)<(n:Int))=true:=decide_eq_true (by omega)
          have q3:(t:Int)<(n:Int):=by omega
          obtain⟨g,rfl,-⟩:=(HF.out j _ HV.out).lies (by omega)
          obtain⟨xs,hcel,hrg⟩:=(HF.out j _ HV.out).getU (show t<vn (.slice (some ⟨g,0,none⟩) n c) from htk)
          have HCEL2:=hid hcel
          have HRG2:=hid hrg
          clear hcel hrg HCEL HRG
          have hxs:xs=[.int .i64 (mk j t),.int .i64 0,.int .i64 0,.int .i64 0,.slice none 0 0,.slice none 0 0,.bool false,.int .i64 0,.int .i64 0,.int .i64 0,.slice none 0 0,.slice none 0 0]:=HCEL2.out
          subst hxs
          have d0:∀n':GrownB wr.heap.size wr,n'.it.cell? ⟨g,t*12,none⟩=some (.int .i64 (mk j t)):=GrownB.cell (aD HB.out _ _ _ (aM (HRG2.out 0 _ rfl)) (HRG2.out 0 _ rfl)) (Nat.lt_of_lt_of_le (aM (HRG2.out 0 _ rfl)) HB.out.size)
          have d1:∀n':GrownB wr.heap.size wr,n'.it.cell? ⟨g,t*12+1,none⟩=some (.int .i64 0):=GrownB.cell (aD HB.out _ _ _ (aM (HRG2.out 1 _ rfl)) (HRG2.out 1 _ rfl)) (Nat.lt_of_lt_of_le (aM (HRG2.out 1 _ rfl)) HB.out.size)
          have d2:∀n':GrownB wr.heap.size wr,n'.it.cell? ⟨g,t*12+2,none⟩=some (.int .i64 0):=GrownB.cell (aD HB.out _ _ _ (aM (HRG2.out 2 _ rfl)) (HRG2.out 2 _ rfl)) (Nat.lt_of_lt_of_le (aM (HRG2.out 2 _ rfl)) HB.out.size)
          have d3:∀n':GrownB wr.heap.size wr,n'.it.cell? ⟨g,t*12+3,none⟩=some (.int .i64 0):=GrownB.cell (aD HB.out _ _ _ (aM (HRG2.out 3 _ rfl)) (HRG2.out 3 _ rfl)) (Nat.lt_of_lt_of_le (aM (HRG2.out 3 _ rfl)) HB.out.size)
          have d4:∀n':GrownB wr.heap.size wr,n'.it.cell? ⟨g,t*12+4,none⟩=some (.slice none 0 0):=GrownB.cell (aD HB.out _ _ _ (aM (HRG2.out 4 _ rfl)) (HRG2.out 4 _ rfl)) (Nat.lt_of_lt_of_le (aM (HRG2.out 4 _ rfl)) HB.out.size)
          have d5:∀n':GrownB wr.heap.size wr,n'.it.cell? ⟨g,t*12+5,none⟩=some (.slice none 0 0):=GrownB.cell (aD HB.out _ _ _ (aM (HRG2.out 5 _ rfl)) (HRG2.out 5 _ rfl)) (Nat.lt_of_lt_of_le (aM (HRG2.out 5 _ rfl)) HB.out.size)
          have d6:∀n':GrownB wr.heap.size wr,n'.it.cell? ⟨g,t*12+6,none⟩=some (.bool false):=GrownB.cell (aD HB.out _ _ _ (aM (HRG2.out 6 _ rfl)) (HRG2.out 6 _ rfl)) (Nat.lt_of_lt_of_le (aM (HRG2.out 6 _ rfl)) HB.out.size)
          have d7:∀n':GrownB wr.heap.size wr,n'.it.cell? ⟨g,t*12+7,none⟩=some (.int .i64 0):=GrownB.cell (aD HB.out _ _ _ (aM (HRG2.out 7 _ rfl)) (HRG2.out 7 _ rfl)) (Nat.lt_of_lt_of_le (aM (HRG2.out 7 _ rfl)) HB.out.size)
          have d8:∀n':GrownB wr.heap.size wr,n'.it.cell? ⟨g,t*12+8,none⟩=some (.int .i64 0):=GrownB.cell (aD HB.out _ _ _ (aM (HRG2.out 8 _ rfl)) (HRG2.out 8 _ rfl)) (Nat.lt_of_lt_of_le (aM (HRG2.out 8 _ rfl)) HB.out.size)
          have d9:∀n':GrownB wr.heap.size wr,n'.it.cell? ⟨g,t*12+9,none⟩=some (.int .i64 0):=GrownB.cell (aD HB.out _ _ _ (aM (HRG2.out 9 _ rfl)) (HRG2.out 9 _ rfl)) (Nat.lt_of_lt_of_le (aM (HRG2.out 9 _ rfl)) HB.out.size)
          have d10:∀n':GrownB wr.heap.size wr,n'.it.cell? ⟨g,t*12+10,none⟩=some (.slice none 0 0):=GrownB.cell (aD HB.out _ _ _ (aM (HRG2.out 10 _ rfl)) (HRG2.out 10 _ rfl)) (Nat.lt_of_lt_of_le (aM (HRG2.out 10 _ rfl)) HB.out.size)
          have d11:∀n':GrownB wr.heap.size wr,n'.it.cell? ⟨g,t*12+11,none⟩=some (.slice none 0 0):=GrownB.cell (aD HB.out _ _ _ (aM (HRG2.out 11 _ rfl)) (HRG2.out 11 _ rfl)) (Nat.lt_of_lt_of_le (aM (HRG2.out 11 _ rfl)) HB.out.size)
          refine bJ (by kernel_rfl) (λ _ _ d _ _ h=>by cases d<;>exact h) ⟨⟨wy,hAy⟩,rfl⟩ 5 [11,12,13,14,15,16,17,18,19,20,21,22,23,24,25,26,27,28,29] _ _ (by kernel_rfl) (by kernel_rfl) ?_
          simp only[List.map_cons,List.map_nil,List.getD_cons_zero,List.getD_cons_succ,bar,bD,List.size_toArray,List.length_cons,List.length_nil,Nat.zero_add,Nat.reduceAdd,if_true,if_false,Bool.false_eq_true]
          repeat (go_big_quiet_step (fail))
          refine wpQuiet_nil ?_
          clear d0 d1 d2 d3 d4 d5 d6 d7 d8 d9 d10 d11
          refine aJ (i:=30) (fuel:=4) (by kernel_rfl) rfl (by rfl) (λ K' hK=>?_)
          go_simp
          refine (HMK.out j t _ (by omega) (by omega)).mono ?_
          rintro e wz ⟨ys,rfl,hcy,hbz⟩
          have hAz:Below wr.heap.size wr wz:=aA hAy hbz
          refine hK.out _ _ ⟨⟨wz,hAz⟩,rfl⟩ (λ _=>?_)
          clear hK K'
          refine aJ (i:=31) (fuel:=3) (by kernel_rfl) rfl (by rfl) (λ K' hK=>?_)
          go_simp
          refine (HSM.out _ wz _ _ (KC_ok.below HCEL2.out (aA HB.out hAz)) hcy).mono ?_
          rintro e wv ⟨rfl,hbv⟩
          have hAv:Below wr.heap.size wr wv:=aA hAz hbv
          refine hK.out _ _ ⟨⟨wv,hAv⟩,rfl⟩ (λ _=>?_)
          clear hK K' hcy hbz hbv hAz
          refine bJ (by kernel_rfl) (λ _ _ d _ _ h=>by cases d<;>exact h) ⟨⟨wv,hAv⟩,rfl⟩ 0 [32,33,34] _ _ (by kernel_rfl) (by kernel_rfl) ?_
          simp only[List.map_cons,List.map_nil,List.getD_cons_zero,List.getD_cons_succ,bar,bD,List.size_toArray,List.length_cons,List.length_nil,Nat.zero_add,Nat.reduceAdd,if_true,if_false,Bool.false_eq_true]
          repeat (go_big_quiet_step (fail))
          refine wpQuiet_nil ?_
          refine wpAnyH_done (by kernel_rfl) ?_ _
          have HAV:=hid hAv
          clear hAv hAy
          go_wp2_with fail
          go_roundw
          case rel=>exact⟨t+1,by go_num,by omega,aA HB.out HAV.out⟩
          case measure=>simp[intOf];omega
         ·have r3:decide ((t:Int)<(n:Int))=false:=decide_eq_false (by omega)
          refine bJ (by kernel_rfl) (λ _ _ d _ _ h=>by cases d<;>exact h) ⟨⟨wy,hAy⟩,rfl⟩ 0 [11,12,13,14,15,16,17,18,19,20,21,22,23,24,25,26,27,28,29,30,31,32,33,34] _ _ (by kernel_rfl) (by kernel_rfl) ?_
          simp only[List.map_cons,List.map_nil,List.getD_cons_zero,List.getD_cons_succ,bar,bD,List.size_toArray,List.length_cons,List.length_nil,Nat.zero_add,Nat.reduceAdd,if_true,if_false,Bool.false_eq_true]
          repeat (go_big_quiet_step (fail))
          refine wpQuiet_nil ?_
          refine wpAnyH_done (by kernel_rfl) ?_ _
          have HAY:=hid hAy
          clear hAy
          go_wp2_with fail
          go_roundw
          case rel=>exact⟨t+1,by go_num,by omega,aA HB.out HAY.out⟩
          case measure=>simp[intOf];omega
        ·have r2:decide ((t:Int)<(n:Int)+64)=false:=decide_eq_false (by omega)
         clear hug hul
         go_wp2_with fail
         go_roundw
         case rel=>exact⟨j+1,by go_num,by omega,HB.out⟩
         case measure=>simp[intOf];omega
      ·have r1:decide ((j:Int)<(m:Int))=false:=decide_eq_false (by omega)
       obtain rfl:j=m:=by omega
       go_wp2_with fail
       obtain⟨w4,hw4⟩:∃w4:World,w4=wr:=⟨_,rfl⟩
       subst hw4
       obtain⟨m,hm⟩:∃m:Nat,m=j:=⟨_,rfl⟩
       subst hm
       have HF4:=hid (HF.out.below KC_ok hB)
       have HG4:=hid ((HGS.out.start (d':=0) (x':=64)).below KC_ok hB)
       have HT4:=hid (HT.out.trans (Tn.of_below hB))
       clear HF HGS HT hB hlt
       go_loopw [11] (λ i wr=>∃j:Nat,i=.int .i64 j/\j<=m/\Full KC 0 wr vs/\Gsl KC 56 G w.heap.size wr vs 0 64 j/\Tn KC.em (InV vs) w wr) (λ i _=>m-(intOf i).toNat)
       case atStart=>exact⟨0,rfl,Nat.zero_le _,HF4.out,HG4.out,HT4.out⟩
       case round =>
        clear HF4 HG4 HT4
        obtain⟨j,rfl,hj,hF,hGs,hT⟩:=hrel
        by_cases hlt:j<m
        ·have r1:decide ((j:Int)<(m:Int))=true:=decide_eq_true (by omega)
         obtain⟨v,hv⟩:∃v,vs[j]? = some v:=⟨_,List.getElem?_eq_getElem (by have:=HM.out;omega)⟩
         obtain⟨p,n,c,rfl,hnc,hcc⟩:=(hF j v hv).isSlice
         unfold maxLen at hcc
         obtain⟨rfl,hn⟩:=HL.out j _ hv
         replace hn:n<=1000000000:=hn
         have HV:=hid hv
         have HF:=hid hF
         have HGS:=hid hGs
         have HT:=hid hT
         clear hv hF hGs hT
         obtain⟨arr2,hmk2,harr2⟩:=KC_sty.make 64 (by decide) wr
         have hmk2':(Instr.makeSlice 56 (.int .i64 64) (.int .i64 64)).run Tryz.prog wr=.ok (.slice (some ⟨wr.heap.size,0,none⟩) 64 64) (wr.alloc (.cells arr2 89)):=hmk2
         clear hmk2
         go_wp2_with fail
         obtain⟨wk,hwk⟩:∃wk:World,wk=wr:=⟨_,rfl⟩
         subst hwk
         obtain⟨w5,hw5⟩:∃w5,wk.alloc (.cells arr2 89)=w5:=⟨_,rfl⟩
         obtain⟨B,hBq⟩:∃B,wk.heap.size=B:=⟨_,rfl⟩
         have HB5:Hid (Below wk.heap.size wk w5):=hid (by rw[<-hw5];exact aB _ _)
         have HR5:Hid (RowI KC B w5 (.slice (some ⟨B,0,none⟩) 64 64) 0 (j+m)):=hid (by rw[<-hw5,<-hBq];exact RowI.new wk 64 (j+m) harr2 (by decide) (by decide))
         have HBq:=hid hBq
         rw[hw5,hBq]
         clear hw5 hmk2' harr2 hBq
         go_loopw [13] (λ i wr=>∃t:Nat,i=.int .i64 t/\t<=64/\RowI KC B wr (.slice (some ⟨B,0,none⟩) 64 64) t (j+m)/\Below wk.heap.size wk wr) (λ i _=>64-(intOf i).toNat)
         case atStart=>exact⟨0,rfl,by decide,HR5.out,HB5.out⟩
         case round =>
          clear HR5 HB5
          obtain⟨t,rfl,ht,hR5,hB⟩:=hrel
          have HR5:=hid hR5
          have HB:=hid hB
          clear hR5 hB
          by_cases hlt64:t<64
          ·have r2:decide ((t:Int)<64)=true:=decide_eq_true (by omega)
           have HMJ:Hid (∀W,Calls Tryz.prog 212 #[.int .i64 ((j:Int)+(m:Int)),.int .i64 t] W λ e w'=>∃xs,e=.returned (.agg xs.toArray)/\KC.cel w' (mk (j+m) t) xs/\Below W.heap.size W w'):=λ W=>by
            have:=HMK.out (j+m) t W (by omega) (by omega)
            rwa [Int.natCast_add] at this
           go_wp2_with fail
           refine (HMJ.out _).mono ?_
           rintro e wx ⟨xs,rfl,hcel,hbx⟩
           have hRx:=HR5.out.on KC_ok (Tn.of_below (X:=λ _=>False) hbx) λ _ _ _ _=>id
           obtain⟨hth,hR',hT'⟩:=hRx.set KC_ok hlt64 hcel
           have hth':wx.there B (t*12) xs.toArray.size:=by rw[List.size_toArray,KC_ok.len _ _ _ hcel];exact hth
           have hsz':(Tryz.prog.info? 89).map (·.size)=some xs.toArray.size:=by rw[List.size_toArray,KC_ok.len _ _ _ hcel];exact KC_sty.size
           have hon':=all_oneCell_toArray (KC_ok.one _ _ _ hcel)
           have HR':=hid hR'
           have HB':Hid (Below wk.heap.size wk (wx.setCells B (t*12) xs)):=hid (kV HB.out hbx hT' HBq.out)
           clear hRx hth hR' hT' hcel hbx HR5 HB HMJ
           go_wp2_with (refine wpList_store_mid rfl 89 _ _ rfl B (t*12) xs.toArray rfl rfl hth' hsz' hon' ?_)
           go_roundw
           case rel=>exact⟨t+1,by go_num,by omega,HR'.out,HB'.out⟩
           case measure=>simp[intOf];omega
          ·have r2:decide ((t:Int)<64)=false:=decide_eq_false (by omega)
           obtain rfl:t=64:=by omega
           obtain⟨news,hl,hnews,hone⟩:=HR5.out.all KC_ok (by decide)
           have hc:=aC (HC.out.2 _ (HT.out.trans (Tn.of_below HB.out)) j _ HV.out)
           obtain⟨g',w6,hrun,hR6,hE6,hT6⟩:=((HF.out.below KC_ok HB.out) j _ HV.out).many KC_ok KC_sty 56 (c:=64) hl (by decide) hnews hone (by show n+64<=_;omega)
           have hF6:=Full.one KC_ok hD (HF.out.below KC_ok HB.out) HV.out hT6 hR6
           have hG6:=Gsl.one KC_ok hD (HGS.out.below KC_ok HB.out) HIN.out HGW.out HV.out hT6
           obtain⟨u,hgc,hgf⟩:=hG6.cell (k:=j) (by have:=HM.out;omega)
           obtain⟨-,hG',hT'⟩:=hG6.put KC_ok (by decide) (by decide) HV.out (hE6.less (Nat.le_refl _) (Nat.le_trans HT.out.size HB.out.size))
           obtain⟨h,cap,cur,e,-⟩:=hE6
           subst e
           have HG':=hid hG'
           have HF':=hid (hF6.put KC_ok HIN.out HGW.out hT')
           have HT':=hid ((((HT.out.trans (Tn.of_below HB.out)).trans (hT6.inV HV.out))).trans' hT' λ b hb e=>by have:=HGW.out;omega)
           clear hF6 hG6 hG' hT' hT6 hR6 HR5 HB HF HGS HT hl hnews hone
           go_wp2_with (at_builtin;refine wpList_append_run rfl _ _ 56 rfl _ _ _ rfl rfl hrun ?_)
           go_roundw
           case rel=>exact⟨j+1,by go_num,by omega,HF'.out,HG'.out,HT'.out⟩
           case measure=>simp[intOf];omega
        ·have r1:decide ((j:Int)<(m:Int))=false:=decide_eq_false (by omega)
         obtain rfl:j=m:=by omega
         have HF:=hid hF
         have HGS:=hid hGs
         have HT:=hid hT
         clear hF hGs hT
         go_wp2_with fail
         obtain⟨w7,hw7⟩:∃w7:World,w7=wr:=⟨_,rfl⟩
         subst hw7
         obtain⟨m,hm⟩:∃m:Nat,m=j:=⟨_,rfl⟩
         subst hm
         clear hlt
         go_loopw [14] (λ i wr=>∃j:Nat,i=.int .i64 j/\j<=m/\Below w7.heap.size w7 wr) (λ i _=>m-(intOf i).toNat)
         case atStart=>exact⟨0,rfl,Nat.zero_le _,Below.refl _ _⟩
         case round =>
          obtain⟨j,rfl,hj,hB⟩:=hrel
          by_cases hlt:j<m
          ·have r1:decide ((j:Int)<(m:Int))=true:=decide_eq_true (by omega)
           obtain⟨v,hv⟩:∃v,vs[j]? = some v:=⟨_,List.getElem?_eq_getElem (by have:=HM.out;omega)⟩
           obtain⟨p,n,c,rfl,hnc,hcc⟩:=(HF.out j v hv).isSlice
           unfold maxLen at hcc
           obtain⟨rfl,hn⟩:=HL.out j _ hv
           replace hn:n<=1000000000:=hn
           have HV:=hid hv
           have HB:=hid hB
           clear hv hB
           obtain⟨u,hgc,hgf,hE⟩:=HGS.out.get hlt HV.out
           obtain⟨h,cap,cur,rfl,-,-,hq1,hq2,-⟩:=id hE
           unfold maxLen at hq2
           replace hq1:n+64<=cap:=hq1
           have HU:Hid (U w7 G j=some (.slice (some ⟨h,0,none⟩) (n+64) cap)):=hid (kM hgc hgf)
           have HE:=hid hE
           clear hgc hgf hE
           go_wp2_with fail
           go_loopw [15] (λ i wr=>∃t:Nat,i=.int .i64 t/\t<=n/\Below w7.heap.size w7 wr) (λ i _=>n-(intOf i).toNat)
           case atStart=>exact⟨0,rfl,Nat.zero_le _,HB.out⟩
           case round =>
            clear HB
            obtain⟨t,rfl,ht,hB⟩:=hrel
            have hug:=aD hB _ _ _ (aM HU.out) HU.out
            have hul:=HC.out.2 _ (HT.out.trans (Tn.of_below hB)) j _ HV.out
            have hlc:=aC hul
            have HB:=hid hB
            clear hB
            by_cases htn:t<n
            ·have r2:decide ((t:Int)<(n:Int))=true:=decide_eq_true (by omega)
             have q1:(0:Int)<=(t:Int):=by omega
             have q2:(t:Int)<(n:Int)+64:=by omega
             have q3:(t:Int)<(n:Int):=by omega
             obtain⟨g,rfl,-⟩:=(HF.out j _ HV.out).lies (by omega)
             obtain⟨xs,hcel,hrg⟩:=(HF.out j _ HV.out).getU (show t<vn (.slice (some ⟨g,0,none⟩) n c) from htn)
             have HCEL:=hid hcel
             have HRG:=hid hrg
             clear hcel hrg
             have hxs:xs=[.int .i64 (mk j t),.int .i64 0,.int .i64 0,.int .i64 0,.slice none 0 0,.slice none 0 0,.bool false,.int .i64 0,.int .i64 0,.int .i64 0,.slice none 0 0,.slice none 0 0]:=HCEL.out
             subst hxs
             have c0:∀n':GrownB wr.heap.size wr,n'.it.cell? ⟨g,t*12,none⟩=some (.int .i64 (mk j t)):=GrownB.cell (aD HB.out _ _ _ (aM (HRG.out 0 _ rfl)) (HRG.out 0 _ rfl)) (Nat.lt_of_lt_of_le (aM (HRG.out 0 _ rfl)) HB.out.size)
             have c1:∀n':GrownB wr.heap.size wr,n'.it.cell? ⟨g,t*12+1,none⟩=some (.int .i64 0):=GrownB.cell (aD HB.out _ _ _ (aM (HRG.out 1 _ rfl)) (HRG.out 1 _ rfl)) (Nat.lt_of_lt_of_le (aM (HRG.out 1 _ rfl)) HB.out.size)
             have c2:∀n':GrownB wr.heap.size wr,n'.it.cell? ⟨g,t*12+2,none⟩=some (.int .i64 0):=GrownB.cell (aD HB.out _ _ _ (aM (HRG.out 2 _ rfl)) (HRG.out 2 _ rfl)) (Nat.lt_of_lt_of_le (aM (HRG.out 2 _ rfl)) HB.out.size)
             have c3:∀n':GrownB wr.heap.size wr,n'.it.cell? ⟨g,t*12+3,none⟩=some (.int .i64 0):=GrownB.cell (aD HB.out _ _ _ (aM (HRG.out 3 _ rfl)) (HRG.out 3 _ rfl)) (Nat.lt_of_lt_of_le (aM (HRG.out 3 _ rfl)) HB.out.size)
             have c4:∀n':GrownB wr.heap.size wr,n'.it.cell? ⟨g,t*12+4,none⟩=some (.slice none 0 0):=GrownB.cell (aD HB.out _ _ _ (aM (HRG.out 4 _ rfl)) (HRG.out 4 _ rfl)) (Nat.lt_of_lt_of_le (aM (HRG.out 4 _ rfl)) HB.out.size)
             have c5:∀n':GrownB wr.heap.size wr,n'.it.cell? ⟨g,t*12+5,none⟩=some (.slice none 0 0):=GrownB.cell (aD HB.out _ _ _ (aM (HRG.out 5 _ rfl)) (HRG.out 5 _ rfl)) (Nat.lt_of_lt_of_le (aM (HRG.out 5 _ rfl)) HB.out.size)
             have c6:∀n':GrownB wr.heap.size wr,n'.it.cell? ⟨g,t*12+6,none⟩=some (.bool false):=GrownB.cell (aD HB.out _ _ _ (aM (HRG.out 6 _ rfl)) (HRG.out 6 _ rfl)) (Nat.lt_of_lt_of_le (aM (HRG.out 6 _ rfl)) HB.out.size)
             have c7:∀n':GrownB wr.heap.size wr,n'.it.cell? ⟨g,t*12+7,none⟩=some (.int .i64 0):=GrownB.cell (aD HB.out _ _ _ (aM (HRG.out 7 _ rfl)) (HRG.out 7 _ rfl)) (Nat.lt_of_lt_of_le (aM (HRG.out 7 _ rfl)) HB.out.size)
             have c8:∀n':GrownB wr.heap.size wr,n'.it.cell? ⟨g,t*12+8,none⟩=some (.int .i64 0):=GrownB.cell (aD HB.out _ _ _ (aM (HRG.out 8 _ rfl)) (HRG.out 8 _ rfl)) (Nat.lt_of_lt_of_le (aM (HRG.out 8 _ rfl)) HB.out.size)
             have c9:∀n':GrownB wr.heap.size wr,n'.it.cell? ⟨g,t*12+9,none⟩=some (.int .i64 0):=GrownB.cell (aD HB.out _ _ _ (aM (HRG.out 9 _ rfl)) (HRG.out 9 _ rfl)) (Nat.lt_of_lt_of_le (aM (HRG.out 9 _ rfl)) HB.out.size)
             have c10:∀n':GrownB wr.heap.size wr,n'.it.cell? ⟨g,t*12+10,none⟩=some (.slice none 0 0):=GrownB.cell (aD HB.out _ _ _ (aM (HRG.out 10 _ rfl)) (HRG.out 10 _ rfl)) (Nat.lt_of_lt_of_le (aM (HRG.out 10 _ rfl)) HB.out.size)
             have c11:∀n':GrownB wr.heap.size wr,n'.it.cell? ⟨g,t*12+11,none⟩=some (.slice none 0 0):=GrownB.cell (aD HB.out _ _ _ (aM (HRG.out 11 _ rfl)) (HRG.out 11 _ rfl)) (Nat.lt_of_lt_of_le (aM (HRG.out 11 _ rfl)) HB.out.size)
             obtain⟨xs,hcel,hrg⟩:=HE.out.getU (show t<vn (.slice (some ⟨g,0,none⟩) n c)+0 from htn)
             have HCEL2:=hid hcel
             have HRG2:=hid hrg
             clear hcel hrg
             have hxs:xs=[.int .i64 (mk j t),.int .i64 0,.int .i64 0,.int .i64 0,.slice none 0 0,.slice none 0 0,.bool false,.int .i64 0,.int .i64 0,.int .i64 0,.slice none 0 0,.slice none 0 0]:=HCEL2.out
             subst hxs
             have d0:∀n':GrownB wr.heap.size wr,n'.it.cell? ⟨h,t*12,none⟩=some (.int .i64 (mk j t)):=GrownB.cell (aD HB.out _ _ _ (aM (HRG2.out 0 _ rfl)) (HRG2.out 0 _ rfl)) (Nat.lt_of_lt_of_le (aM (HRG2.out 0 _ rfl)) HB.out.size)
             have d1:∀n':GrownB wr.heap.size wr,n'.it.cell? ⟨h,t*12+1,none⟩=some (.int .i64 0):=GrownB.cell (aD HB.out _ _ _ (aM (HRG2.out 1 _ rfl)) (HRG2.out 1 _ rfl)) (Nat.lt_of_lt_of_le (aM (HRG2.out 1 _ rfl)) HB.out.size)
             have d2:∀n':GrownB wr.heap.size wr,n'.it.cell? ⟨h,t*12+2,none⟩=some (.int .i64 0):=GrownB.cell (aD HB.out _ _ _ (aM (HRG2.out 2 _ rfl)) (HRG2.out 2 _ rfl)) (Nat.lt_of_lt_of_le (aM (HRG2.out 2 _ rfl)) HB.out.size)
             have d3:∀n':GrownB wr.heap.size wr,n'.it.cell? ⟨h,t*12+3,none⟩=some (.int .i64 0):=GrownB.cell (aD HB.out _ _ _ (aM (HRG2.out 3 _ rfl)) (HRG2.out 3 _ rfl)) (Nat.lt_of_lt_of_le (aM (HRG2.out 3 _ rfl)) HB.out.size)
             have d4:∀n':GrownB wr.heap.size wr,n'.it.cell? ⟨h,t*12+4,none⟩=some (.slice none 0 0):=GrownB.cell (aD HB.out _ _ _ (aM (HRG2.out 4 _ rfl)) (HRG2.out 4 _ rfl)) (Nat.lt_of_lt_of_le (aM (HRG2.out 4 _ rfl)) HB.out.size)
             have d5:∀n':GrownB wr.heap.size wr,n'.it.cell? ⟨h,t*12+5,none⟩=some (.slice none 0 0):=GrownB.cell (aD HB.out _ _ _ (aM (HRG2.out 5 _ rfl)) (HRG2.out 5 _ rfl)) (Nat.lt_of_lt_of_le (aM (HRG2.out 5 _ rfl)) HB.out.size)
             have d6:∀n':GrownB wr.heap.size wr,n'.it.cell? ⟨h,t*12+6,none⟩=some (.bool false):=GrownB.cell (aD HB.out _ _ _ (aM (HRG2.out 6 _ rfl)) (HRG2.out 6 _ rfl)) (Nat.lt_of_lt_of_le (aM (HRG2.out 6 _ rfl)) HB.out.size)
             have d7:∀n':GrownB wr.heap.size wr,n'.it.cell? ⟨h,t*12+7,none⟩=some (.int .i64 0):=GrownB.cell (aD HB.out _ _ _ (aM (HRG2.out 7 _ rfl)) (HRG2.out 7 _ rfl)) (Nat.lt_of_lt_of_le (aM (HRG2.out 7 _ rfl)) HB.out.size)
             have d8:∀n':GrownB wr.heap.size wr,n'.it.cell? ⟨h,t*12+8,none⟩=some (.int .i64 0):=GrownB.cell (aD HB.out _ _ _ (aM (HRG2.out 8 _ rfl)) (HRG2.out 8 _ rfl)) (Nat.lt_of_lt_of_le (aM (HRG2.out 8 _ rfl)) HB.out.size)
             have d9:∀n':GrownB wr.heap.size wr,n'.it.cell? ⟨h,t*12+9,none⟩=some (.int .i64 0):=GrownB.cell (aD HB.out _ _ _ (aM (HRG2.out 9 _ rfl)) (HRG2.out 9 _ rfl)) (Nat.lt_of_lt_of_le (aM (HRG2.out 9 _ rfl)) HB.out.size)
             have d10:∀n':GrownB wr.heap.size wr,n'.it.cell? ⟨h,t*12+10,none⟩=some (.slice none 0 0):=GrownB.cell (aD HB.out _ _ _ (aM (HRG2.out 10 _ rfl)) (HRG2.out 10 _ rfl)) (Nat.lt_of_lt_of_le (aM (HRG2.out 10 _ rfl)) HB.out.size)
             have d11:∀n':GrownB wr.heap.size wr,n'.it.cell? ⟨h,t*12+11,none⟩=some (.slice none 0 0):=GrownB.cell (aD HB.out _ _ _ (aM (HRG2.out 11 _ rfl)) (HRG2.out 11 _ rfl)) (Nat.lt_of_lt_of_le (aM (HRG2.out 11 _ rfl)) HB.out.size)
             have hgB:=GrownB.cell hug (aM hug)
             have hlB:=GrownB.cell hul (aM hul)
             clear hug hul
             go_wp2_with fail
             refine cG wr.heap.size [0,1,2,3,4,5,6,7,8] (by decide) (by kernel_rfl) (by kernel_rfl) (by kernel_rfl) (by kernel_rfl) (λ _ _ d _ _ h=>by cases d<;>exact h) ?_
             simp only[List.map_cons,List.map_nil,List.getD_cons_zero,List.getD_cons_succ,bar,bD,List.size_toArray,List.length_cons,List.length_nil,Nat.zero_add,Nat.reduceAdd,if_true,if_false,Bool.false_eq_true]
             repeat (go_big_quiet_step (fail))
             refine wpQuiet_nil ?_
             clear c0 c1 c2 c3 c4 c5 c6 c7 c8 c9 c10 c11
             refine aJ (i:=9) (fuel:=16) (by kernel_rfl) rfl (by rfl) (λ K' hK=>?_)
             go_simp
             refine (HMK.out j t _ (by omega) (by omega)).mono ?_
             rintro e wx ⟨ys,rfl,hcy,hbx⟩
             have hAx:Below wr.heap.size wr wx:=aA (aR wr) hbx
             refine hK.out _ _ ⟨⟨wx,hAx⟩,rfl⟩ (λ _=>?_)
             clear hK K'
             refine aJ (i:=10) (fuel:=15) (by kernel_rfl) rfl (by rfl) (λ K' hK=>?_)
             go_simp
             refine (HSM.out _ wx _ _ (KC_ok.below HCEL.out (aA HB.out hAx)) hcy).mono ?_
             rintro e wy ⟨rfl,hby⟩
             have hAy:Below wr.heap.size wr wy:=aA hAx hby
             refine hK.out _ _ ⟨⟨wy,hAy⟩,rfl⟩ (λ _=>?_)
             clear hK K' hcy hbx hby hAx
             refine bJ (by kernel_rfl) (λ _ _ d _ _ h=>by cases d<;>exact h) ⟨⟨wy,hAy⟩,rfl⟩ 4 [11,12,13,14,15,16,17,18,19,20,21] _ _ (by kernel_rfl) (by kernel_rfl) ?_
             simp only[List.map_cons,List.map_nil,List.getD_cons_zero,List.getD_cons_succ,bar,bD,List.size_toArray,List.length_cons,List.length_nil,Nat.zero_add,Nat.reduceAdd,if_true,if_false,Bool.false_eq_true]
             repeat (go_big_quiet_step (fail))
             refine wpQuiet_nil ?_
             clear d0 d1 d2 d3 d4 d5 d6 d7 d8 d9 d10 d11 hgB
             refine aJ (i:=22) (fuel:=3) (by kernel_rfl) rfl (by rfl) (λ K' hK=>?_)
             go_simp
             refine (HMK.out j t _ (by omega) (by omega)).mono ?_
             rintro e wz ⟨ys,rfl,hcy,hbz⟩
             have hAz:Below wr.heap.size wr wz:=aA hAy hbz
             refine hK.out _ _ ⟨⟨wz,hAz⟩,rfl⟩ (λ _=>?_)
             clear hK K'
             refine aJ (i:=23) (fuel:=2) (by kernel_rfl) rfl (by rfl) (λ K' hK=>?_)
             go_simp
             refine (HSM.out _ wz _ _ (KC_ok.below HCEL2.out (aA HB.out hAz)) hcy).mono ?_
             rintro e wv ⟨rfl,hbv⟩
             have hAv:Below wr.heap.size wr wv:=aA hAz hbv
             refine hK.out _ _ ⟨⟨wv,hAv⟩,rfl⟩ (λ _=>?_)
             clear hK K' hcy hbz hbv hAz
             refine bJ (by kernel_rfl) (λ _ _ d _ _ h=>by cases d<;>exact h) ⟨⟨wv,hAv⟩,rfl⟩ 0 [24,25] _ _ (by kernel_rfl) (by kernel_rfl) ?_
             simp only[List.map_cons,List.map_nil,List.getD_cons_zero,List.getD_cons_succ,bar,bD,List.size_toArray,List.length_cons,List.length_nil,Nat.zero_add,Nat.reduceAdd,if_true,if_false,Bool.false_eq_true]
             repeat (go_big_quiet_step (fail))
             refine wpQuiet_nil ?_
             refine wpAnyH_done (by kernel_rfl) ?_ _
             have HAV:=hid hAv
             clear hAv hAy
             go_wp2_with fail
             go_roundw
             case rel=>exact⟨t+1,by go_num,by omega,aA HB.out HAV.out⟩
             case measure=>simp[intOf];omega
            ·have r2:decide ((t:Int)<(n:Int))=false:=decide_eq_false (by omega)
             clear hug hul
             go_wp2_with fail
             go_roundw
             case rel=>exact⟨j+1,by go_num,by omega,HB.out⟩
             case measure=>simp[intOf];omega
          ·have r1:decide ((j:Int)<(m:Int))=false:=decide_eq_false (by omega)
           have HB:=hid hB
           clear hB
           go_wp2_with fail
           go_ret
           exact⟨rfl,HT.out.trans (Tn.of_below HB.out)⟩
end
section
open Go.RowKit
def mY(f:Nat->List Value)(c:List Value):Nat->List Value:=λ j=>if j=15 then f 15++c else f j
theorem EN(f:Nat->List Value)(p l t c p' l' t':List Value):dC (mY (dC f p l t) c) p' l' t'=dC (mY f c) (p++p') (l++l') (t++t'):=by
 funext j
 unfold dC mY
 by_cases h7:j=7
 ·simp[h7]
 ·by_cases h8:j=8
  ·simp[h8]
  ·by_cases h9:j=9
   ·simp[h9]
   ·simp[h7,h8,h9]
theorem EO(f:Nat->List Value)(c d:List Value):mY (mY f c) d=mY f (c++d):=by
 funext j
 unfold mY
 by_cases h:j=15
 ·simp[h]
 ·simp[h]
structure VC where
 us:List Value
 vl:Value
 vk:Value
 x:VT
 us':List Value
 vl':Value
 vk':Value
 x':VT
def VC.P(c:VC):List Value:=(c.us++c.x.P)++(c.us'++c.x'.P)
def VC.L(c:VC):List Value:=(c.vl :: c.x.L)++(c.vl' :: c.x'.L)
def VC.T(c:VC):List Value:=(c.vk :: c.x.T)++(c.vk' :: c.x'.T)
def VC.size(c:VC):Nat:=c.us.length+c.x.size+c.us'.length+c.x'.size+4
theorem VC.lens(c:VC):c.P.length<=c.size/\c.L.length<=c.size/\c.T.length<=c.size:=by
 have h1:=c.x.lens
 have h2:=c.x'.lens
 simp only[VC.P,VC.L,VC.T,VC.size,List.length_append,List.length_cons]
 omega
structure VC.At (F:Mem) (hi:Nat) (c:VC) (b o:Nat):Prop where
 n:∃n0 n1 n2 n3,F b o=some (.int .i64 n0)/\F b (o+1)=some (.int .i64 n1)/\F b (o+2)=some (.int .i64 n2)/\F b (o+3)=some (.int .i64 n3)
 vl:F b (o+4)=some c.vl
 vk:F b (o+5)=some c.vk
 m:∃n0 n1 n2 n3,F b (o+6)=some (.bool n0)/\F b (o+7)=some (.int .i64 n1)/\F b (o+8)=some (.int .i64 n2)/\F b (o+9)=some (.int .i64 n3)
 vl':F b (o+10)=some c.vl'
 vk':F b (o+11)=some c.vk'
 l:GL F hi c.vl c.us
 k:GK F hi c.vk c.x
 l':GL F hi c.vl' c.us'
 k':GK F hi c.vk' c.x'
def CsP(l:List VC):List Value:=l.flatMap VC.P
def CsL(l:List VC):List Value:=l.flatMap VC.L
def CsT(l:List VC):List Value:=l.flatMap VC.T
def CsS(l:List VC):Nat:=(l.map VC.size).sum
theorem G7(l:List VC):l.length<=CsS l/\(CsP l).length<=CsS l/\(CsL l).length<=CsS l/\(CsT l).length<=CsS l:=by
 induction l with
 | nil=>exact⟨Nat.le_refl _,Nat.le_refl _,Nat.le_refl _,Nat.le_refl _⟩
 | cons a l ih =>
  have:=a.lens
  have h:1<=a.size:=by unfold VC.size;omega
  simp only[CsP,CsL,CsT,CsS,List.flatMap_cons,List.map_cons,List.sum_cons,List.length_append,List.length_cons] at ih ⊢
  omega
def GCs(F:Mem)(hi:Nat)(l:List VC)(b o:Nat):Prop:=∀(i:Nat) (c:VC),l[i]? = some c->c.At F hi b (o+i*12)
theorem tM(β B0:Nat)(F:Mem)(f:Nat->List Value)(n0 n1 n2:Int)(us:List Value)(p q:Option Addr)(n c m d:Nat)(y:VT)(w:World)(h:BagAt w β B0 f)(hF:Lies F B0 w)(hB:B0<=w.heap.size)(hl:GL F B0 (.slice p n c) us)(hk:GK F B0 (.slice q m d) y)
  (hn7:(f 7).length+us.length+y.size<=1000000000) (hn8:(f 8).length+1+y.size<=1000000000) (hn9:(f 9).length+y.size+1<=1000000000) :
  Calls Tryz.prog 130 #[.pointer (some ⟨β,0,none⟩),.agg #[.int .i64 n0,.int .i64 n1,.int .i64 n2,.slice p n c,.slice q m d]] w λ e w'=>e=.returned (.tuple #[])/\BagAt w' β B0 (dC f (us++y.P) (.slice p n c :: y.L) (.slice q m d :: y.T))/\PF B0 w w' :=
 vM β B0 F f n0 n1 n2 us p q n c m d y w h hF hB hl (by omega) (by omega) λ w' g1 g2 g3=>A5 β B0 F (y.size+1) y _ _ w' (Nat.lt_succ_self _) g1 g2 g3 hk (by simp[dC];omega) (by simp[dC];omega) (by simp[dC];omega)
theorem CU:(89:Nat)≠114/\∀i,i<17->(89:Nat)≠tyB i:=by decide
theorem L4(β B0:Nat)(F:Mem)(f:Nat->List Value)(lv n0 n1 n2 m0 m1 m2:Int)(hh:Bool)(us us':List Value)(p q p' q':Option Addr)(n c m d n' c' m' d':Nat)(y y':VT)(w:World)(h:BagAt w β B0 f)(hF:Lies F B0 w)(hB:B0<=w.heap.size)
  (hl:GL F B0 (.slice p n c) us) (hk:GK F B0 (.slice q m d) y) (hl':GL F B0 (.slice p' n' c') us') (hk':GK F B0 (.slice q' m' d') y')
  (hn7:(f 7).length+(us.length+y.size+us'.length+y'.size+4)<=1000000000) (hn8:(f 8).length+(us.length+y.size+us'.length+y'.size+4)<=1000000000) (hn9:(f 9).length+(us.length+y.size+us'.length+y'.size+4)<=1000000000) :
  Calls Tryz.prog 189 #[.pointer (some ⟨β,0,none⟩),.agg #[.int .i64 lv,.int .i64 n0,.int .i64 n1,.int .i64 n2,.slice p n c,.slice q m d,.bool hh,.int .i64 m0,.int .i64 m1,.int .i64 m2,.slice p' n' c',.slice q' m' d']] w λ e w'=>e=.returned (.tuple #[]) /\
   BagAt w' β B0 (dC f ((us++y.P)++(us'++y'.P)) ((.slice p n c :: y.L)++(.slice p' n' c' :: y'.L)) ((.slice q m d :: y.T)++(.slice q' m' d' :: y'.T)))/\PF B0 w w':=by
 obtain⟨cs,hcs⟩:∃cs:Array Value,cs=#[.int .i64 lv,.int .i64 n0,.int .i64 n1,.int .i64 n2,.slice p n c,.slice q m d,.bool hh,.int .i64 m0,.int .i64 m1,.int .i64 m2,.slice p' n' c',.slice q' m' d']:=⟨_,rfl⟩
 have hb:=aB w (.cells cs 89)
 have hg:=heap_alloc_new w (.cells cs 89)
 obtain⟨W,hW⟩:∃W,w.alloc (.cells cs 89)=W:=⟨_,rfl⟩
 obtain⟨g,hgs⟩:∃g,w.heap.size=g:=⟨_,rfl⟩
 rw[hW] at hb hg
 rw[hgs] at hg
 have HP:=hid (tM β B0 F f n0 n1 n2 us p q n c m d y W (h.below hb) (hF.on (hb.mono hB)) (Nat.le_trans hB hb.size) hl hk (by omega) (by omega) (by omega))
 have HK:Hid (∀w',BagAt w' β B0 (dC f (us++y.P) (.slice p n c :: y.L) (.slice q m d :: y.T))->Lies F B0 w'->B0<=w'.heap.size->Calls Tryz.prog 130 #[.pointer (some ⟨β,0,none⟩),.agg #[.int .i64 m0,.int .i64 m1,.int .i64 m2,.slice p' n' c',.slice q' m' d']] w' λ e w2=>e=.returned (.tuple #[])/\BagAt w2 β B0 (dC (dC f (us++y.P) (.slice p n c :: y.L) (.slice q m d :: y.T)) (us'++y'.P) (.slice p' n' c' :: y'.L) (.slice q' m' d' :: y'.T))/\PF B0 w' w2):=hid λ w' g1 g2 g3=>by
  have e1:=y.lens
  exact tM β B0 F _ m0 m1 m2 us' p' q' n' c' m' d' y' w' g1 g2 g3 hl' hk' (by simp[dC];omega) (by simp[dC];omega) (by simp[dC];omega)
 have HB:=hid (PF.of_below hb hB)
 have HG:=hid hg
 have HF:=hid hF
 have HBS:=hid hB
 have HCS:=hid hcs
 subst hcs
 have HW:=hid hW
 have x1:W.cell? ⟨g,1,none⟩=some (.int .i64 n0):=by simp[World.cell?,hg]
 have x2:W.cell? ⟨g,2,none⟩=some (.int .i64 n1):=by simp[World.cell?,hg]
 have x3:W.cell? ⟨g,3,none⟩=some (.int .i64 n2):=by simp[World.cell?,hg]
 have x4:W.cell? ⟨g,4,none⟩=some (.slice p n c):=by simp[World.cell?,hg]
 have x5:W.cell? ⟨g,5,none⟩=some (.slice q m d):=by simp[World.cell?,hg]
 clear h hb hg hl hF hk hl' hk' hB hn7 hn8 hn9
 go_enter Tryz.func189,Tryz.ntmps189
 go_wp2_with fail
 refine HP.out.mono ?_
 rintro e w1 ⟨rfl,h1,h2⟩
 have z7:w1.cell? ⟨g,7,none⟩=some (.int .i64 m0):=by rw[h2.cell CU HG.out];rfl
 have z8:w1.cell? ⟨g,8,none⟩=some (.int .i64 m1):=by rw[h2.cell CU HG.out];rfl
 have z9:w1.cell? ⟨g,9,none⟩=some (.int .i64 m2):=by rw[h2.cell CU HG.out];rfl
 have z10:w1.cell? ⟨g,10,none⟩=some (.slice p' n' c'):=by rw[h2.cell CU HG.out];rfl
 have z11:w1.cell? ⟨g,11,none⟩=some (.slice q' m' d'):=by rw[h2.cell CU HG.out];rfl
 have H2:=HB.out.trans h2
 have HKK:=hid (HK.out w1 h1 (HF.out.on H2.below) (Nat.le_trans HBS.out H2.below.size))
 have HH2:=hid H2
 clear h1 h2 H2 x1 x2 x3 x4 x5
 go_wp2_with fail
 refine HKK.out.mono ?_
 rintro e w3 ⟨rfl,h3,h4⟩
 rw[lR] at h3
 have H3:=hid h3
 have H4:=hid (HH2.out.trans h4)
 clear h3 h4
 go_wp2_with fail
 go_end0
 exact⟨rfl,H3.out,H4.out⟩
theorem A8(β B0:Nat)(F:Mem)(f:Nat->List Value)(v:Value)(x:List VC)(w:World)(h:BagAt w β B0 f)(hF:Lies F B0 w)(hB:B0<=w.heap.size)(hv:FO B0 v x.length λ b o=>GCs F B0 x b o)(hn15:(f 15).length+1<=1000000000)
  (hn7:(f 7).length+CsS x<=1000000000) (hn8:(f 8).length+CsS x<=1000000000) (hn9:(f 9).length+CsS x<=1000000000) :
  Calls Tryz.prog 108 #[.pointer (some ⟨β,0,none⟩),v] w λ e w'=>e=.returned (.tuple #[])/\BagAt w' β B0 (dC (mY f [v]) (CsP x) (CsL x) (CsT x))/\PF B0 w w':=by
 obtain⟨p,c,rfl,hc1,hc2,hlie⟩:=hv
 unfold maxLen at hc2
 have hxs:=G7 x
 obtain⟨v,v',w2,hc3,hc4,hr,⟨a,m,d,rfl⟩,⟨u,hc5⟩,hf3,hbag,hbel⟩:=h.put (P:=Tryz.prog) (i:=15) KCS_sty rfl rfl 62 (by decide) (.slice p x.length c) rfl (by omega) hB
 obtain⟨n,hus⟩:∃n,x.length=n:=⟨_,rfl⟩
 have HN:=hid hus
 rw[hus] at hr hbag hlie hc1 hxs ⊢
 have hbag':BagAt (w2.setCell ⟨β,15,none⟩ (.slice a m d)) β B0 (mY f [.slice p n c]):=hbag
 obtain⟨G,hG⟩:∃G,mY f [.slice p n c]=G:=⟨_,rfl⟩
 have hG7:G 7=f 7/\G 8=f 8/\G 9=f 9:=by rw[<-hG];exact⟨rfl,rfl,rfl⟩
 rw[hG] at hbag' ⊢
 obtain⟨g7,g8,g9⟩:=hG7
 rw[<-g7] at hn7
 rw[<-g8] at hn8
 rw[<-g9] at hn9
 have HBAG:=hid hbag'
 have HBEL:=hid hbel
 have HLIE:=hid hlie
 have HF:=hid (hF.on hbel.below)
 clear hbag hbag' hbel h hlie hF hus hG g7 g8 g9
 obtain⟨wb,hwb⟩:∃wb,w2.setCell ⟨β,15,none⟩ (.slice a m d)=wb:=⟨_,rfl⟩
 rw[hwb] at HBAG HBEL HF
 go_enter Tryz.func108,Tryz.ntmps108
 go_wp2_with (at_builtin;refine wpList_append_run rfl _ _ 62 rfl _ _ _ rfl rfl hr ?_)
 clear hwb hc3 hc4 hr hc5 hf3
 go_loopw [4] (λ i wr=>∃x1 x2:List VC,x1++x2=x/\i=.int .i64 x1.length/\BagAt wr β B0 (dC G (CsP x1) (CsL x1) (CsT x1))/\PF B0 wb wr) (λ i _=>n-(intOf i).toNat)
 case atStart=>exact⟨[],x,rfl,rfl,by rw[show dC G (CsP []) (CsL []) (CsT [])=G from KN G];exact HBAG.out,PF.refl _ _⟩
 case round =>
  clear HBAG
  obtain⟨x1,x2,hxx,rfl,hG,hL⟩:=hrel
  obtain⟨j,hj⟩:∃j,x1.length=j:=⟨_,rfl⟩
  rw[hj]
  have hlen:x1.length+x2.length=n:=by rw[<-List.length_append,hxx];exact HN.out
  have HJ:=hid hj
  cases x2 with
  | nil =>
   obtain rfl:j=n:=by rw[<-hj];simpa using hlen
   have r1:decide ((j:Int)<(j:Int))=false:=decide_eq_false (by omega)
   have HG:=hid hG
   have HL:=hid hL
   rw[show x1=x from by rw[<-hxx];simp] at HG
   clear hG hL hxx hj hlen
   go_wp2_with fail
   go_end0
   exact⟨rfl,HG.out,HBEL.out.trans HL.out⟩
  | cons cc r =>
   have hlt:j<n:=by rw[<-hj];simp at hlen;omega
   have r1:decide ((j:Int)<(n:Int))=true:=decide_eq_true (by omega)
   obtain⟨b,o,rfl,hb0,hGC⟩:=HLIE.out (by omega)
   have hcc:x[j]? = some cc:=by rw[<-hxx,List.getElem?_append_right (by omega)];simp[hj]
   have hAt:=hGC j cc hcc
   have hsz:CsS x1+(cc.size+CsS r)=CsS x:=by rw[<-hxx];simp[CsS]
   have hln:=G7 x1
   have hcl:=cc.lens
   obtain⟨us,vl,vk,y,us',vl',vk',y'⟩:=cc
   obtain⟨⟨lv,n0,n1,n2,k0,k1,k2,k3⟩,k4,k5,⟨hh,m0,m1,m2,k6,k7,k8,k9⟩,k10,k11,gl,gk,gl',gk'⟩:=hAt
   simp only at k4 k5 k10 k11 gl gk gl' gk'
   obtain⟨p1,c1,rfl,-⟩:=id gl
   obtain⟨q1,d1,rfl,-⟩:=id gk
   obtain⟨p2,c2,rfl,-⟩:=id gl'
   obtain⟨q2,d2,rfl,-⟩:=id gk'
   have hFl:=HF.out.on hL.below
   have e0:=aC (hFl _ _ _ hb0 k0)
   have e1:=aC (hFl _ _ _ hb0 k1)
   have e2:=aC (hFl _ _ _ hb0 k2)
   have e3:=aC (hFl _ _ _ hb0 k3)
   have e4:=aC (hFl _ _ _ hb0 k4)
   have e5:=aC (hFl _ _ _ hb0 k5)
   have e6:=aC (hFl _ _ _ hb0 k6)
   have e7:=aC (hFl _ _ _ hb0 k7)
   have e8:=aC (hFl _ _ _ hb0 k8)
   have e9:=aC (hFl _ _ _ hb0 k9)
   have e10:=aC (hFl _ _ _ hb0 k10)
   have e11:=aC (hFl _ _ _ hb0 k11)
   have hBr:B0<=wr.heap.size:=Nat.le_trans hB (Nat.le_trans HBEL.out.below.size hL.below.size)
   have hszc:us.length+y.size+us'.length+y'.size+4+CsS x1<=CsS x:=by simp only[VC.size] at hsz;omega
   have HO:=hid (L4 β B0 F _ lv n0 n1 n2 m0 m1 m2 hh us us' p1 q1 p2 q2 us.length c1 y.len d1 us'.length c2 y'.len d2 y y' wr hG hFl hBr gl gk gl' gk' (by simp[dC];omega) (by simp[dC];omega) (by simp[dC];omega))
   rw[lR] at HO
   obtain⟨z,hz⟩:∃z,x1++[(⟨us,.slice p1 us.length c1,.slice q1 y.len d1,y,us',.slice p2 us'.length c2,.slice q2 y'.len d2,y'⟩:VC)]=z:=⟨_,rfl⟩
   have eP:CsP x1++((us++y.P)++(us'++y'.P))=CsP z:=by rw[<-hz];simp[CsP,VC.P]
   have eL:CsL x1++((.slice p1 us.length c1 :: y.L)++(.slice p2 us'.length c2 :: y'.L))=CsL z:=by rw[<-hz];simp[CsL,VC.L]
   have eT:CsT x1++((.slice q1 y.len d1 :: y.T)++(.slice q2 y'.len d2 :: y'.T))=CsT z:=by rw[<-hz];simp[CsT,VC.T]
   rw[eP,eL,eT] at HO
   have HJ1:Hid (z.length=j+1):=hid (by rw[<-hz];simp[hj])
   have HX2:Hid (z++r=x):=hid (by rw[<-hz,List.append_assoc];exact hxx)
   have HLL:=hid hL
   obtain⟨u1,hu1⟩:∃u1,us.length=u1:=⟨_,rfl⟩
   obtain⟨u2,hu2⟩:∃u2,y.len=u2:=⟨_,rfl⟩
   obtain⟨u3,hu3⟩:∃u3,us'.length=u3:=⟨_,rfl⟩
   obtain⟨u4,hu4⟩:∃u4,y'.len=u4:=⟨_,rfl⟩
   rw[hu1,hu2,hu3,hu4] at HO
   rw[hu1] at e4
   rw[hu2] at e5
   rw[hu3] at e10
   rw[hu4] at e11
   clear k0 k1 k2 k3 k4 k5 k6 k7 k8 k9 k10 k11 gl gk gl' gk' hFl hBr eP eL eT hL hG hxx hsz hln hz hj HJ hszc hcl hcc hGC hu1 hu2 hu3 hu4 hlen
   go_wp2_with fail
   refine HO.out.mono ?_
   rintro e w3 ⟨rfl,h1,h2⟩
   have H1:=hid h1
   have H2:=hid (HLL.out.trans h2)
   clear h1 h2 HO HLL e0 e1 e2 e3 e4 e5 e6 e7 e8 e9 e10 e11
   go_wp2_with fail
   go_roundw
   case rel=>exact⟨z,r,HX2.out,by rw[HJ1.out];go_num,H1.out,H2.out⟩
   case measure=>simp[intOf];omega
theorem AC(β B0 N:Nat)(f:Nat->List Value)(BP BL BT BC:List Nat)(w:World)(h:BagAt w β B0 f)(hf:∀i,i≠7->i≠8->i≠9->i≠15->f i=[])(hN:N<=1000000000)(hP:Ows w 0 2 77 N (f 7) BP)(hL:Ows w 0 1 43 N (f 8) BL)(hT:Ows w 0 5 26 N (f 9) BT)(hC:Ows w 0 12 89 N (f 15) BC)
  (nP:BP.Nodup) (nL:BL.Nodup) (nT:BT.Nodup) (nC:BC.Nodup) (l7:(f 7).length<=1000000000) (l8:(f 8).length<=1000000000) (l9:(f 9).length<=1000000000) (l15:(f 15).length<=1000000000) :
  Calls Tryz.prog 69 #[.pointer (some ⟨β,0,none⟩)] w λ e w'=>e=.returned (.bool true)/\Tb (λ b=>b∈BP++(BL++(BT++BC))) w w':=by
 have HFN:=hid hf
 have HG0:=hid h
 have HP0:=hid hP
 have HL0:=hid hL
 have HT0:=hid hT
 have HC0:=hid hC
 have HX0:Hid (Tb (λ b=>b∈BP++(BL++(BT++BC))) w w):=hid (Tb.of_below (Below.refl _ _))
 clear h hf hP hL hT hC
 have c0:=HG0.out.none_ (i:=0) (by decide) (HFN.out 0 (by decide) (by decide) (by decide) (by decide))
 go_enter Tryz.func69,Tryz.ntmps69
 go_wp2_with fail
 refine (F8 _).mono ?_
 rintro e w1 ⟨rfl,hb⟩
 have HG1:=hid (HG0.out.below hb)
 have HP1:=hid (HP0.out.kept λ b hm=>hb.block b (by obtain⟨-,cur,q⟩:=HP0.out.typed b hm;exact aV q))
 have HL1:=hid (HL0.out.kept λ b hm=>hb.block b (by obtain⟨-,cur,q⟩:=HL0.out.typed b hm;exact aV q))
 have HT1:=hid (HT0.out.kept λ b hm=>hb.block b (by obtain⟨-,cur,q⟩:=HT0.out.typed b hm;exact aV q))
 have HC1:=hid (HC0.out.kept λ b hm=>hb.block b (by obtain⟨-,cur,q⟩:=HC0.out.typed b hm;exact aV q))
 have HX1:Hid (Tb (λ b=>b∈BP++(BL++(BT++BC))) w w1):=hid (HX0.out.trans (Tb.of_below hb))
 clear hb c0 HG0 HX0 HP0 HL0 HT0 HC0
 have c1:=HG1.out.none_ (i:=1) (by decide) (HFN.out 1 (by decide) (by decide) (by decide) (by decide))
 go_wp2_with fail
 refine (F7 _).mono ?_
 rintro e w2 ⟨rfl,hb⟩
 have HG2:=hid (HG1.out.below hb)
 have HP2:=hid (HP1.out.kept λ b hm=>hb.block b (by obtain⟨-,cur,q⟩:=HP1.out.typed b hm;exact aV q))
 have HL2:=hid (HL1.out.kept λ b hm=>hb.block b (by obtain⟨-,cur,q⟩:=HL1.out.typed b hm;exact aV q))
 have HT2:=hid (HT1.out.kept λ b hm=>hb.block b (by obtain⟨-,cur,q⟩:=HT1.out.typed b hm;exact aV q))
 have HC2:=hid (HC1.out.kept λ b hm=>hb.block b (by obtain⟨-,cur,q⟩:=HC1.out.typed b hm;exact aV q))
 have HX2:Hid (Tb (λ b=>b∈BP++(BL++(BT++BC))) w w2):=hid (HX1.out.trans (Tb.of_below hb))
 clear hb c1 HG1 HX1 HP1 HL1 HT1 HC1
 have c2:=HG2.out.none_ (i:=2) (by decide) (HFN.out 2 (by decide) (by decide) (by decide) (by decide))
 go_wp2_with fail
 refine (F6 _).mono ?_
 rintro e w3 ⟨rfl,hb⟩
 have HG3:=hid (HG2.out.below hb)
 have HP3:=hid (HP2.out.kept λ b hm=>hb.block b (by obtain⟨-,cur,q⟩:=HP2.out.typed b hm;exact aV q))
 have HL3:=hid (HL2.out.kept λ b hm=>hb.block b (by obtain⟨-,cur,q⟩:=HL2.out.typed b hm;exact aV q))
 have HT3:=hid (HT2.out.kept λ b hm=>hb.block b (by obtain⟨-,cur,q⟩:=HT2.out.typed b hm;exact aV q))
 have HC3:=hid (HC2.out.kept λ b hm=>hb.block b (by obtain⟨-,cur,q⟩:=HC2.out.typed b hm;exact aV q))
 have HX3:Hid (Tb (λ b=>b∈BP++(BL++(BT++BC))) w w3):=hid (HX2.out.trans (Tb.of_below hb))
 clear hb c2 HG2 HX2 HP2 HL2 HT2 HC2
 have c3:=HG3.out.none_ (i:=3) (by decide) (HFN.out 3 (by decide) (by decide) (by decide) (by decide))
 go_wp2_with fail
 refine (F5 _).mono ?_
 rintro e w4 ⟨rfl,hb⟩
 have HG4:=hid (HG3.out.below hb)
 have HP4:=hid (HP3.out.kept λ b hm=>hb.block b (by obtain⟨-,cur,q⟩:=HP3.out.typed b hm;exact aV q))
 have HL4:=hid (HL3.out.kept λ b hm=>hb.block b (by obtain⟨-,cur,q⟩:=HL3.out.typed b hm;exact aV q))
 have HT4:=hid (HT3.out.kept λ b hm=>hb.block b (by obtain⟨-,cur,q⟩:=HT3.out.typed b hm;exact aV q))
 have HC4:=hid (HC3.out.kept λ b hm=>hb.block b (by obtain⟨-,cur,q⟩:=HC3.out.typed b hm;exact aV q))
 have HX4:Hid (Tb (λ b=>b∈BP++(BL++(BT++BC))) w w4):=hid (HX3.out.trans (Tb.of_below hb))
 clear hb c3 HG3 HX3 HP3 HL3 HT3 HC3
 have c4:=HG4.out.none_ (i:=4) (by decide) (HFN.out 4 (by decide) (by decide) (by decide) (by decide))
 go_wp2_with fail
 refine (F4 _).mono ?_
 rintro e w5 ⟨rfl,hb⟩
 have HG5:=hid (HG4.out.below hb)
 have HP5:=hid (HP4.out.kept λ b hm=>hb.block b (by obtain⟨-,cur,q⟩:=HP4.out.typed b hm;exact aV q))
 have HL5:=hid (HL4.out.kept λ b hm=>hb.block b (by obtain⟨-,cur,q⟩:=HL4.out.typed b hm;exact aV q))
 have HT5:=hid (HT4.out.kept λ b hm=>hb.block b (by obtain⟨-,cur,q⟩:=HT4.out.typed b hm;exact aV q))
 have HC5:=hid (HC4.out.kept λ b hm=>hb.block b (by obtain⟨-,cur,q⟩:=HC4.out.typed b hm;exact aV q))
 have HX5:Hid (Tb (λ b=>b∈BP++(BL++(BT++BC))) w w5):=hid (HX4.out.trans (Tb.of_below hb))
 clear hb c4 HG4 HX4 HP4 HL4 HT4 HC4
 have c5:=HG5.out.none_ (i:=5) (by decide) (HFN.out 5 (by decide) (by decide) (by decide) (by decide))
 go_wp2_with fail
 refine (F3 _).mono ?_
 rintro e w6 ⟨rfl,hb⟩
 have HG6:=hid (HG5.out.below hb)
 have HP6:=hid (HP5.out.kept λ b hm=>hb.block b (by obtain⟨-,cur,q⟩:=HP5.out.typed b hm;exact aV q))
 have HL6:=hid (HL5.out.kept λ b hm=>hb.block b (by obtain⟨-,cur,q⟩:=HL5.out.typed b hm;exact aV q))
 have HT6:=hid (HT5.out.kept λ b hm=>hb.block b (by obtain⟨-,cur,q⟩:=HT5.out.typed b hm;exact aV q))
 have HC6:=hid (HC5.out.kept λ b hm=>hb.block b (by obtain⟨-,cur,q⟩:=HC5.out.typed b hm;exact aV q))
 have HX6:Hid (Tb (λ b=>b∈BP++(BL++(BT++BC))) w w6):=hid (HX5.out.trans (Tb.of_below hb))
 clear hb c5 HG5 HX5 HP5 HL5 HT5 HC5
 have c6:=HG6.out.none_ (i:=6) (by decide) (HFN.out 6 (by decide) (by decide) (by decide) (by decide))
 go_wp2_with fail
 refine (F2 _).mono ?_
 rintro e w7 ⟨rfl,hb⟩
 have HG7:=hid (HG6.out.below hb)
 have HP7:=hid (HP6.out.kept λ b hm=>hb.block b (by obtain⟨-,cur,q⟩:=HP6.out.typed b hm;exact aV q))
 have HL7:=hid (HL6.out.kept λ b hm=>hb.block b (by obtain⟨-,cur,q⟩:=HL6.out.typed b hm;exact aV q))
 have HT7:=hid (HT6.out.kept λ b hm=>hb.block b (by obtain⟨-,cur,q⟩:=HT6.out.typed b hm;exact aV q))
 have HC7:=hid (HC6.out.kept λ b hm=>hb.block b (by obtain⟨-,cur,q⟩:=HC6.out.typed b hm;exact aV q))
 have HX7:Hid (Tb (λ b=>b∈BP++(BL++(BT++BC))) w w7):=hid (HX6.out.trans (Tb.of_below hb))
 clear hb c6 HG6 HX6 HP6 HL6 HT6 HC6
 obtain⟨L7,q7,d7,c7,g7,m7,a7,b7⟩:=HG7.out.list (i:=7) (by decide) (K:=KP) (by decide) (by decide) HP7.out KP.em
 have HF7:=hid (O8 (f 7) L7 q7 d7 w7 l7 g7 m7 (λ k v hv=>⟨(a7 k v hv).1,Nat.le_trans (a7 k v hv).2 hN⟩) b7 (HP7.out.rows (K:=KP) (by decide)) (HP7.out.dist nP))
 clear g7 m7 a7 b7
 go_wp2_with fail
 refine HF7.out.mono ?_
 rintro e w8 ⟨rfl,hb⟩
 have hty:∀b,InV (f 7) b->∃cur,w7.heap[b]? = some (Obj.cells cur 77 (0,0)):=λ b hm=>(HP7.out.typed b (HP7.out.inV hm)).2
 have HG8:=hid (HG7.out.tb hb.tb ty77 hty)
 have HL8:=hid (HL7.out.kept λ b hm=>by obtain⟨-,cur,q⟩:=HL7.out.typed b hm;rw[hb.tb.other hty q (by decide)];exact q.symm)
 have HT8:=hid (HT7.out.kept λ b hm=>by obtain⟨-,cur,q⟩:=HT7.out.typed b hm;rw[hb.tb.other hty q (by decide)];exact q.symm)
 have HC8:=hid (HC7.out.kept λ b hm=>by obtain⟨-,cur,q⟩:=HC7.out.typed b hm;rw[hb.tb.other hty q (by decide)];exact q.symm)
 have HX8:=hid (HX7.out.trans (hb.tb.mono λ b _ hm=>List.mem_append_left _ (HP7.out.inV hm)))
 clear hb hty c7 HG7 HX7 HF7 HP7 HL7 HT7 HC7
 obtain⟨L8,q8,d8,c8,g8,m8,a8,b8⟩:=HG8.out.list (i:=8) (by decide) (K:=KL) (by decide) (by decide) HL8.out KL.em
 have HF8:=hid (O7 (f 8) L8 q8 d8 w8 l8 g8 m8 (λ k v hv=>⟨(a8 k v hv).1,Nat.le_trans (a8 k v hv).2 hN⟩) b8 (HL8.out.rows (K:=KL) (by decide)) (HL8.out.dist nL))
 clear g8 m8 a8 b8
 go_wp2_with fail
 refine HF8.out.mono ?_
 rintro e w9 ⟨rfl,hb⟩
 have hty:∀b,InV (f 8) b->∃cur,w8.heap[b]? = some (Obj.cells cur 43 (0,0)):=λ b hm=>(HL8.out.typed b (HL8.out.inV hm)).2
 have HG9:=hid (HG8.out.tb hb.tb ty43 hty)
 have HT9:=hid (HT8.out.kept λ b hm=>by obtain⟨-,cur,q⟩:=HT8.out.typed b hm;rw[hb.tb.other hty q (by decide)];exact q.symm)
 have HC9:=hid (HC8.out.kept λ b hm=>by obtain⟨-,cur,q⟩:=HC8.out.typed b hm;rw[hb.tb.other hty q (by decide)];exact q.symm)
 have HX9:=hid (HX8.out.trans (hb.tb.mono λ b _ hm=>List.mem_append_right _ (List.mem_append_left _ (HL8.out.inV hm))))
 clear hb hty c8 HG8 HX8 HF8 HL8 HT8 HC8
 obtain⟨L9,q9,d9,c9,g9,m9,a9,b9⟩:=HG9.out.list (i:=9) (by decide) (K:=KT) (by decide) (by decide) HT9.out KT.em
 have HF9:=hid (O6 (f 9) L9 q9 d9 w9 l9 g9 m9 (λ k v hv=>⟨(a9 k v hv).1,Nat.le_trans (a9 k v hv).2 hN⟩) b9 (HT9.out.rows (K:=KT) (by decide)) (HT9.out.dist nT))
 clear g9 m9 a9 b9
 go_wp2_with fail
 refine HF9.out.mono ?_
 rintro e w10 ⟨rfl,hb⟩
 have hty:∀b,InV (f 9) b->∃cur,w9.heap[b]? = some (Obj.cells cur 26 (0,0)):=λ b hm=>(HT9.out.typed b (HT9.out.inV hm)).2
 have HG10:=hid (HG9.out.tb hb.tb ty26 hty)
 have HC10:=hid (HC9.out.kept λ b hm=>by obtain⟨-,cur,q⟩:=HC9.out.typed b hm;rw[hb.tb.other hty q (by decide)];exact q.symm)
 have HX10:=hid (HX9.out.trans (hb.tb.mono λ b _ hm=>List.mem_append_right _ (List.mem_append_right _ (List.mem_append_left _ (HT9.out.inV hm)))))
 clear hb hty c9 HG9 HX9 HF9 HT9 HC9
 have c10:=HG10.out.none_ (i:=10) (by decide) (HFN.out 10 (by decide) (by decide) (by decide) (by decide))
 go_wp2_with fail
 refine (E9 _).mono ?_
 rintro e w11 ⟨rfl,hb⟩
 have HG11:=hid (HG10.out.below hb)
 have HC11:=hid (HC10.out.kept λ b hm=>hb.block b (by obtain⟨-,cur,q⟩:=HC10.out.typed b hm;exact aV q))
 have HX11:Hid (Tb (λ b=>b∈BP++(BL++(BT++BC))) w w11):=hid (HX10.out.trans (Tb.of_below hb))
 clear hb c10 HG10 HX10 HC10
 have c11:=HG11.out.none_ (i:=11) (by decide) (HFN.out 11 (by decide) (by decide) (by decide) (by decide))
 go_wp2_with fail
 refine (E8 _).mono ?_
 rintro e w12 ⟨rfl,hb⟩
 have HG12:=hid (HG11.out.below hb)
 have HC12:=hid (HC11.out.kept λ b hm=>hb.block b (by obtain⟨-,cur,q⟩:=HC11.out.typed b hm;exact aV q))
 have HX12:Hid (Tb (λ b=>b∈BP++(BL++(BT++BC))) w w12):=hid (HX11.out.trans (Tb.of_below hb))
 clear hb c11 HG11 HX11 HC11
 have c12:=HG12.out.none_ (i:=12) (by decide) (HFN.out 12 (by decide) (by decide) (by decide) (by decide))
 go_wp2_with fail
 refine (E7 _).mono ?_
 rintro e w13 ⟨rfl,hb⟩
 have HG13:=hid (HG12.out.below hb)
 have HC13:=hid (HC12.out.kept λ b hm=>hb.block b (by obtain⟨-,cur,q⟩:=HC12.out.typed b hm;exact aV q))
 have HX13:Hid (Tb (λ b=>b∈BP++(BL++(BT++BC))) w w13):=hid (HX12.out.trans (Tb.of_below hb))
 clear hb c12 HG12 HX12 HC12
 have c13:=HG13.out.none_ (i:=13) (by decide) (HFN.out 13 (by decide) (by decide) (by decide) (by decide))
 go_wp2_with fail
 refine (E6 _).mono ?_
 rintro e w14 ⟨rfl,hb⟩
 have HG14:=hid (HG13.out.below hb)
 have HC14:=hid (HC13.out.kept λ b hm=>hb.block b (by obtain⟨-,cur,q⟩:=HC13.out.typed b hm;exact aV q))
 have HX14:Hid (Tb (λ b=>b∈BP++(BL++(BT++BC))) w w14):=hid (HX13.out.trans (Tb.of_below hb))
 clear hb c13 HG13 HX13 HC13
 have c14:=HG14.out.none_ (i:=14) (by decide) (HFN.out 14 (by decide) (by decide) (by decide) (by decide))
 go_wp2_with fail
 refine (E5 _).mono ?_
 rintro e w15 ⟨rfl,hb⟩
 have HG15:=hid (HG14.out.below hb)
 have HC15:=hid (HC14.out.kept λ b hm=>hb.block b (by obtain⟨-,cur,q⟩:=HC14.out.typed b hm;exact aV q))
 have HX15:Hid (Tb (λ b=>b∈BP++(BL++(BT++BC))) w w15):=hid (HX14.out.trans (Tb.of_below hb))
 clear hb c14 HG14 HX14 HC14
 obtain⟨L15,q15,d15,c15,g15,m15,a15,b15⟩:=HG15.out.list (i:=15) (by decide) (K:=KC) (by decide) (by decide) HC15.out KC.em
 have HF15:=hid (O2 (f 15) L15 q15 d15 w15 l15 g15 m15 (λ k v hv=>⟨(a15 k v hv).1,Nat.le_trans (a15 k v hv).2 hN⟩) b15 (HC15.out.rows (K:=KC) (by decide)) (HC15.out.dist nC))
 clear g15 m15 a15 b15
 go_wp2_with fail
 refine HF15.out.mono ?_
 rintro e w16 ⟨rfl,hb⟩
 have hty:∀b,InV (f 15) b->∃cur,w15.heap[b]? = some (Obj.cells cur 89 (0,0)):=λ b hm=>(HC15.out.typed b (HC15.out.inV hm)).2
 have HG16:=hid (HG15.out.tb hb.tb CU hty)
 have HX16:=hid (HX15.out.trans (hb.tb.mono λ b _ hm=>List.mem_append_right _ (List.mem_append_right _ (List.mem_append_right _ (HC15.out.inV hm)))))
 clear hb hty c15 HG15 HX15 HF15 HC15
 have c16:=HG16.out.none_ (i:=16) (by decide) (HFN.out 16 (by decide) (by decide) (by decide) (by decide))
 go_wp2_with fail
 refine (E4 _).mono ?_
 rintro e w17 ⟨rfl,hb⟩
 have HG17:=hid (HG16.out.below hb)
 have HX17:Hid (Tb (λ b=>b∈BP++(BL++(BT++BC))) w w17):=hid (HX16.out.trans (Tb.of_below hb))
 clear hb c16 HG16 HX16
 go_wp2_with fail
 go_ret
 exact⟨rfl,HX17.out⟩
end
section
open Go.RowKit
attribute [local simp] ty_p ty_l ty_t kH tDs bN Tm.ts kI oI ac_skip ac_label ac_region ac_seq ac_cond ac_block ac_loop ac_exit ac_ret seqK_n seqK_r seqK_e vo_nil vo_cons blkK JP oN I8 gA gB lG ev gU fF St.out A7 kX upd dD sU K0 asC oH jO tY lF tD qU pV tb Dc.tk Dc.dp Dc.over Dc.app Dc.ln Dc.ds Dc.sing Dc.cont AV.cont Ds.hd Value.oneCell' DE pP C0 AV.imp Dc.imp φOf dY AV.isLL AV.list AV.app AV.arg AV.isL AV.ren Dc.ren Dc.lent tmC tmA tsA iA lo? abin AV.nth Dc.own Dc.toks bP rI Z6 τOf
attribute [local simp] AV.room R8 Ds.len Ds.dp
theorem ib1(i:Nat):((i:Int) == 1)=(i == 1):=by
 by_cases h:i=1
 ·subst h;rfl
 ·have h2:((i:Int) == 1)=false:=by rw[beq_eq_false_iff_ne];omega
  have h3:(i == 1)=false:=by rw[beq_eq_false_iff_ne];exact h
  rw[h2,h3]
theorem ib2(i:Nat):((i:Int) == 2)=(i == 2):=by
 by_cases h:i=2
 ·subst h;rfl
 ·have h2:((i:Int) == 2)=false:=by rw[beq_eq_false_iff_ne];omega
  have h3:(i == 2)=false:=by rw[beq_eq_false_iff_ne];exact h
  rw[h2,h3]
theorem k228(k:Int)(i:Nat):HH 228 [iA k,iA i] (.v (.bool (binds k i))):=by
 refine ab Tryz.func228 Tryz.ntmps228 Tryz.results228 rfl (by decide) (by simp) rfl rfl ?_
 by_cases h4:k=4
 ·subst h4;simp[binds,ib1,ib2];exact⟨[],by simp⟩
 by_cases h5:k=5
 ·subst h5;simp[binds,ib1,ib2];exact⟨[],by simp⟩
 by_cases h12:k=12
 ·subst h12;simp[binds,ib1,ib2];exact⟨[],by simp⟩
 by_cases h16:k=16
 ·subst h16;simp[binds,ib1,ib2];exact⟨[],by simp⟩
 by_cases h18:k=18
 ·subst h18;simp[binds,ib1,ib2];exact⟨[],by simp⟩
 by_cases h7:k=7
 ·subst h7;simp[binds,ib1,ib2];exact⟨[],by simp⟩
 simp[binds,h4,h5,h12,h16,h18,h7]
 exact⟨[],by simp⟩
theorem N6(t:Tm)(i d:Nat)(hd:d<=200000000000):HH 205 [tmL t,iA i,iA d] (iA (aU t.h.k i d)):=by
 refine ab Tryz.func205 Tryz.ntmps205 Tryz.results205 rfl (by decide) (by simp) rfl rfl ?_
 have hw:IntKind.i64.wrap ((d:Int)+1)=d+1:=by rw[IntKind.wrap_i64];omega
 simp
 refine aE (k228 t.h.k i) ?_ ?_ ?_<;>simp
 cases hb:binds t.h.k i<;>simp[hb,aU,hw]
 all_goals exact⟨[],by simp⟩
theorem oG{h:Hd}{y r:Ts}:∀ {a:Ts},(a.app (.cons h y r)).fits->h.fits/\y.fits
 | .nil,hf=>⟨hf.1,hf.2.1⟩
 | .cons _ _ _,hf=>oG hf.2.2
theorem nK{h:Hd}{y r:Ts}:∀ {a:Ts},aH h.l+y.size+1<=(a.app (.cons h y r)).size
 | .nil=>by simp only[Ts.app,Ts.size];omega
 | .cons _ _ a=>by have:=nK (h:=h) (y:=y) (r:=r) (a:=a);simp only[Ts.app,Ts.size];omega
theorem oZ:∀t:Ts,t.len<=t.size
 | .nil=>Nat.le_refl _
 | .cons _ _ r=>by have:=oZ r;simp only[Ts.len,Ts.size];omega
theorem P5(x y:Ds):Ds.dp x.len (x.app y)=y:=by
 induction x with
 | nil=>cases y<;>rfl
 | lit v r ih=>exact ih
 | row sz e x s r _ _ ih=>exact ih
theorem dp_lvs{l a b:List Lv}(h:a++b=l):(bN ty l).dp a.length=bN ty b:=by
 rw[<-h,lL]
 have:=eI ty a
 rw[<-this]
 exact P5 _ _
def GU(l a:List Lv):St:=bP [(0,.c (.row none 1 43 (bN ty l) .nil)),(3,.c (.blk 22 (a.length+1) 1 43 (.seg none (bN ty a) .nil) .nil)),(4,iA a.length)] [] [(22,a.length+1)]
theorem k229(l:List Lv)(hs:aH l<=200000000):HH 229 [.c (.row none 1 43 (bN ty l) .nil)] (.c (.row none 1 43 (bN ty l) .nil)):=by
 have hll:l.length<=200000000:=by
  have e:∀a:List Lv,a.length<=aH a:=by
   intro a
   induction a with
   | nil=>exact Nat.zero_le _
   | cons p r ih=>simp only[List.length_cons,aH];omega
  exact Nat.le_trans (e l) hs
 refine ab Tryz.func229 Tryz.ntmps229 Tryz.results229 rfl (by decide) (by simp) rfl rfl ?_
 simp
 refine lp (α:={ q:List Lv×List Lv // q.1++q.2=l }) (λ q=>GU l q.1.1) (λ q=>q.1.2.length) ⟨([],l),rfl⟩ ?_ ?_
 ·refine aI [((22,0),[(22,0)])] ?_ ?_ ?_<;>simp[AV.ok,Dc.ok]
 ·rintro⟨⟨a,q⟩,hq⟩
  simp only at hq
  cases q with
  | nil =>
   have e:a=l:=by rw[<-hq];simp
   subst e
   simp[GU,eI,Ds.app_nil]
   exact⟨[],by simp⟩
  | cons t q =>
   have h1:a.length<l.length:=by rw[<-hq];simp
   have h2:=dp_lvs hq
   have h3:t.length<=200000000:=by
    have:aH (a++t :: q)<=200000000:=by rw[hq];exact hs
    have e:∀a b:List Lv,aH (a++b)=aH a+aH b:=by
     intro a b
     induction a with
     | nil=>simp[aH]
     | cons p r ih=>simp only[List.cons_append,aH,ih];omega
    rw[e] at this
    simp only[aH] at this
    omega
   have hw:IntKind.i64.wrap ((a.length:Int)+1)=a.length+1:=by rw[IntKind.wrap_i64];omega
   simp[GU,eI,h1,h2]
   refine⟨by omega,by rw[jZ];omega,by omega,a++[t],q,by simp,by rw[List.append_assoc];exact hq,?_⟩
   refine aI [((22,0),[(22,0)])] ?_ ?_ ?_<;>simp[AV.ok,Dc.ok,hw,lL,Ds.app_nil]
theorem Y3(h:Hd)(x k:Ts)(hs:aH h.l<=200000000):HH 206 [tmL ⟨h,x⟩,tsA none k] (tmL ⟨h,k⟩):=by
 refine ab Tryz.func206 Tryz.ntmps206 Tryz.results206 rfl (by decide) (by simp) rfl rfl ?_
 simp
 refine aE (k229 h.l hs) ?_ ?_ ?_<;>simp
 exact⟨[],by simp⟩
def kE(n f:Int)(d:Nat)(t:Tm):Tm:=⟨t.h.lift n f d,t.x.lift n f t.h.k 0 d⟩
theorem Ts.lift_app(n f:Int):∀(a b:Ts) (pk:Int) (i d:Nat),(a.app b).lift n f pk i d=(a.lift n f pk i d).app (b.lift n f pk (i+a.len) d)
 | .nil,b,pk,i,d=>rfl
 | .cons h x r,b,pk,i,d=>by
  have:=Ts.lift_app n f r b pk (i+1) d
  simp only[Ts.app,Ts.lift,Ts.len,this]
  rw[show i+1+r.len=i+(r.len+1) by omega]
def mV(n f:Int)(d:Nat)(H:Hd)(x a:Ts):St:=bP [(1,iA n),(2,iA f),(3,iA d),(4,.bx 5 0),(8,.bx 9 0),(9,.c (.blk 55 (a.len+1) 5 26 (.seg none (tDs ty (a.lift n f H.k 0 d)) .nil) .nil)),(10,iA a.len)] [(5,26,tmC none none H x),(9,26,.lit (.int .i64 0) (.lit (.int .i64 0) (.lit (.int .i64 0) (.nilr 1 43 (.nilr 5 26 .nil)))))] [(55,a.len+1)]
theorem q128(n f:Int):∀(M:Nat) (t:Tm) (d:Nat),t.size<M->t.fits->t.size+d<=200000000->HH 128 [tmL t,iA n,iA f,iA d] (tmL (kE n f d t)):=by
 intro M
 induction M with
 | zero=>intro t d h;omega
 | succ M ih =>
  rintro⟨⟨hk,hn,ha,hl⟩,x⟩ d hM hf hs
  have dx:x.len*5 / 5=x.len:=by omega
  have hxl:x.len<=200000000:=by have:=oZ x;unfold Tm.size at hs;simp only at hs;omega
  have hll:aH hl<=200000000:=by unfold Tm.size at hs;simp only at hs;omega
  have hnb : -9223372036854775808<=hn/\hn<=9223372036854775807:=hf.1.2.1
  have w1:(d:Int)<=hn->IntKind.i64.wrap (hn-d)=hn-d:=λ h=>by rw[IntKind.wrap_i64];omega
  obtain⟨N,hN⟩:∃N,(Hd.lift ⟨hk,hn,ha,hl⟩ n f d)=⟨hk,N,ha,hl⟩:=by
   unfold Hd.lift;split
   ·exact⟨_,rfl⟩
   ·exact⟨_,rfl⟩
  have hN2:=hN
  unfold Hd.lift at hN2
  have e1:kE n f d ⟨⟨hk,hn,ha,hl⟩,x⟩=⟨⟨hk,N,ha,hl⟩,x.lift n f hk 0 d⟩:=by unfold kE;rw[hN]
  rw[e1]
  have hsz:x.size<=Tm.size ⟨⟨hk,hn,ha,hl⟩,x⟩:=by unfold Tm.size;simp only;omega
  refine ab Tryz.func128 Tryz.ntmps128 Tryz.results128 rfl (by decide) (by simp) rfl rfl ?_
  simp only at hN2
  by_cases c1:hk=1
  ·subst c1
   by_cases c2:(d:Int)<=hn
   ·by_cases c3:f<=hn-d
    ·rw[if_pos ⟨rfl,c2,c3⟩] at hN2
     have hN3:IntKind.i64.wrap (hn+n)=N:=by injection hN2
     simp[c2,w1 c2,c3,hN3]
     refine lp (α:={ q:Ts×Ts // q.1.app q.2=x }) (λ q=>mV n f d ⟨1,N,ha,hl⟩ x q.1.1) (λ q=>q.1.2.len) ⟨(.nil,x),rfl⟩ ?_ ?_
     ·refine aI [((55,0),[(55,0)])] ?_ ?_ ?_<;>simp[Ts.lift,Ts.len,AV.ok,Dc.ok]
     ·rintro⟨⟨a,r⟩,hq⟩
      simp only at hq
      cases r with
      | nil =>
       have e:a=x:=by rw[<-hq];exact (Ts.app_nil a).symm
       subst e
       simp[mV,aF,dx]
       refine aE (Y3 ⟨1,N,ha,hl⟩ a (a.lift n f 1 0 d) hll) ?_ ?_ ?_<;>simp[Ds.app_nil]
       exact⟨[],by simp⟩
      | cons hh hx r =>
       have h1:a.len<x.len:=by rw[<-hq];simp[Ts.app_len,Ts.len]
       have h2:(tDs ty x).dp (a.len*5)=tDs ty (.cons hh hx r):=by rw[<-hq,bC,<-aF ty];exact P5 _ _
       have h3:hh.fits/\hx.fits:=oG (a:=a) (by rw[hq];exact hf.2)
       have h4:aH hh.l+hx.size+1<=x.size:=by rw[<-hq];exact nK
       have hw:IntKind.i64.wrap ((a.len:Int)+1)=a.len+1:=by rw[IntKind.wrap_i64];omega
       have hdp:aU 1 a.len d<=d+1:=by unfold aU;split<;>omega
       have hne:tDs ty ((a.app (.cons hh hx .nil)).lift n f 1 0 d)=(tDs ty (a.lift n f 1 0 d)).app (tDs ty (kE n f (aU 1 a.len d) ⟨hh,hx⟩).ts):=by
        rw[Ts.lift_app,bC,Nat.zero_add];rfl
       have hsz2:(⟨hh,hx⟩:Tm).size+1<=x.size:=h4
       have ihh:=ih ⟨hh,hx⟩ (aU 1 a.len d) (by omega) h3 (by omega)
       generalize kE n f (aU 1 a.len d) ⟨hh,hx⟩=P at *
       simp[mV,aF,dx,h1,h2]
       refine⟨by kernel_rfl,by omega,?_⟩
       refine aE (N6 ⟨⟨1,N,ha,hl⟩,x⟩ a.len d (by omega)) ?_ ?_ ?_<;>simp
       refine aE ihh ?_ ?_ ?_<;>simp
       refine⟨by rw[aF,Ts.lift_len];omega,a.app (.cons hh hx .nil),r,by simp[Ts.len],by rw[Ts.app_assoc];exact hq,?_⟩
       refine aI [((55,0),[(55,0)])] ?_ ?_ ?_<;>simp[Ts.len,Ts.app_len,AV.ok,Dc.ok,hw,hne]
    ·rw[if_neg λ h=>c3 h.2.2] at hN2
     have hN3:hn=N:=by injection hN2
     subst hN3
     simp[c2,w1 c2,c3]
     refine lp (α:={ q:Ts×Ts // q.1.app q.2=x }) (λ q=>mV n f d ⟨1,hn,ha,hl⟩ x q.1.1) (λ q=>q.1.2.len) ⟨(.nil,x),rfl⟩ ?_ ?_
     ·refine aI [((55,0),[(55,0)])] ?_ ?_ ?_<;>simp[Ts.lift,Ts.len,AV.ok,Dc.ok]
     ·rintro⟨⟨a,r⟩,hq⟩
      simp only at hq
      cases r with
      | nil =>
       have e:a=x:=by rw[<-hq];exact (Ts.app_nil a).symm
       subst e
       simp[mV,aF,dx]
       refine aE (Y3 ⟨1,hn,ha,hl⟩ a (a.lift n f 1 0 d) hll) ?_ ?_ ?_<;>simp[Ds.app_nil]
       exact⟨[],by simp⟩
      | cons hh hx r =>
       have h1:a.len<x.len:=by rw[<-hq];simp[Ts.app_len,Ts.len]
       have h2:(tDs ty x).dp (a.len*5)=tDs ty (.cons hh hx r):=by rw[<-hq,bC,<-aF ty];exact P5 _ _
       have h3:hh.fits/\hx.fits:=oG (a:=a) (by rw[hq];exact hf.2)
       have h4:aH hh.l+hx.size+1<=x.size:=by rw[<-hq];exact nK
       have hw:IntKind.i64.wrap ((a.len:Int)+1)=a.len+1:=by rw[IntKind.wrap_i64];omega
       have hdp:aU 1 a.len d<=d+1:=by unfold aU;split<;>omega
       have hne:tDs ty ((a.app (.cons hh hx .nil)).lift n f 1 0 d)=(tDs ty (a.lift n f 1 0 d)).app (tDs ty (kE n f (aU 1 a.len d) ⟨hh,hx⟩).ts):=by
        rw[Ts.lift_app,bC,Nat.zero_add];rfl
       have hsz2:(⟨hh,hx⟩:Tm).size+1<=x.size:=h4
       have ihh:=ih ⟨hh,hx⟩ (aU 1 a.len d) (by omega) h3 (by omega)
       generalize kE n f (aU 1 a.len d) ⟨hh,hx⟩=P at *
       simp[mV,aF,dx,h1,h2]
       refine⟨by kernel_rfl,by omega,?_⟩
       refine aE (N6 ⟨⟨1,hn,ha,hl⟩,x⟩ a.len d (by omega)) ?_ ?_ ?_<;>simp
       refine aE ihh ?_ ?_ ?_<;>simp
       refine⟨by rw[aF,Ts.lift_len];omega,a.app (.cons hh hx .nil),r,by simp[Ts.len],by rw[Ts.app_assoc];exact hq,?_⟩
       refine aI [((55,0),[(55,0)])] ?_ ?_ ?_<;>simp[Ts.len,Ts.app_len,AV.ok,Dc.ok,hw,hne]
   ·rw[if_neg λ h=>c2 h.2.1] at hN2
    have hN3:hn=N:=by injection hN2
    subst hN3
    simp[c2]
    refine lp (α:={ q:Ts×Ts // q.1.app q.2=x }) (λ q=>mV n f d ⟨1,hn,ha,hl⟩ x q.1.1) (λ q=>q.1.2.len) ⟨(.nil,x),rfl⟩ ?_ ?_
    ·refine aI [((55,0),[(55,0)])] ?_ ?_ ?_<;>simp[Ts.lift,Ts.len,AV.ok,Dc.ok]
    ·rintro⟨⟨a,r⟩,hq⟩
     simp only at hq
     cases r with
     | nil =>
      have e:a=x:=by rw[<-hq];exact (Ts.app_nil a).symm
      subst e
      simp[mV,aF,dx]
      refine aE (Y3 ⟨1,hn,ha,hl⟩ a (a.lift n f 1 0 d) hll) ?_ ?_ ?_<;>simp[Ds.app_nil]
      exact⟨[],by simp⟩
     | cons hh hx r =>
      have h1:a.len<x.len:=by rw[<-hq];simp[Ts.app_len,Ts.len]
      have h2:(tDs ty x).dp (a.len*5)=tDs ty (.cons hh hx r):=by rw[<-hq,bC,<-aF ty];exact P5 _ _
      have h3:hh.fits/\hx.fits:=oG (a:=a) (by rw[hq];exact hf.2)
      have h4:aH hh.l+hx.size+1<=x.size:=by rw[<-hq];exact nK
      have hw:IntKind.i64.wrap ((a.len:Int)+1)=a.len+1:=by rw[IntKind.wrap_i64];omega
      have hdp:aU 1 a.len d<=d+1:=by unfold aU;split<;>omega
      have hne:tDs ty ((a.app (.cons hh hx .nil)).lift n f 1 0 d)=(tDs ty (a.lift n f 1 0 d)).app (tDs ty (kE n f (aU 1 a.len d) ⟨hh,hx⟩).ts):=by
       rw[Ts.lift_app,bC,Nat.zero_add];rfl
      have hsz2:(⟨hh,hx⟩:Tm).size+1<=x.size:=h4
      have ihh:=ih ⟨hh,hx⟩ (aU 1 a.len d) (by omega) h3 (by omega)
      generalize kE n f (aU 1 a.len d) ⟨hh,hx⟩=P at *
      simp[mV,aF,dx,h1,h2]
      refine⟨by kernel_rfl,by omega,?_⟩
      refine aE (N6 ⟨⟨1,hn,ha,hl⟩,x⟩ a.len d (by omega)) ?_ ?_ ?_<;>simp
      refine aE ihh ?_ ?_ ?_<;>simp
      refine⟨by rw[aF,Ts.lift_len];omega,a.app (.cons hh hx .nil),r,by simp[Ts.len],by rw[Ts.app_assoc];exact hq,?_⟩
      refine aI [((55,0),[(55,0)])] ?_ ?_ ?_<;>simp[Ts.len,Ts.app_len,AV.ok,Dc.ok,hw,hne]
  ·rw[if_neg λ h=>c1 h.1] at hN2
   have hN3:hn=N:=by injection hN2
   subst hN3
   simp[c1]
   refine lp (α:={ q:Ts×Ts // q.1.app q.2=x }) (λ q=>mV n f d ⟨hk,hn,ha,hl⟩ x q.1.1) (λ q=>q.1.2.len) ⟨(.nil,x),rfl⟩ ?_ ?_
   ·refine aI [((55,0),[(55,0)])] ?_ ?_ ?_<;>simp[Ts.lift,Ts.len,AV.ok,Dc.ok]
   ·rintro⟨⟨a,r⟩,hq⟩
    simp only at hq
    cases r with
    | nil =>
     have e:a=x:=by rw[<-hq];exact (Ts.app_nil a).symm
     subst e
     simp[mV,aF,dx]
     refine aE (Y3 ⟨hk,hn,ha,hl⟩ a (a.lift n f hk 0 d) hll) ?_ ?_ ?_<;>simp[Ds.app_nil]
     exact⟨[],by simp⟩
    | cons hh hx r =>
     have h1:a.len<x.len:=by rw[<-hq];simp[Ts.app_len,Ts.len]
     have h2:(tDs ty x).dp (a.len*5)=tDs ty (.cons hh hx r):=by rw[<-hq,bC,<-aF ty];exact P5 _ _
     have h3:hh.fits/\hx.fits:=oG (a:=a) (by rw[hq];exact hf.2)
     have h4:aH hh.l+hx.size+1<=x.size:=by rw[<-hq];exact nK
     have hw:IntKind.i64.wrap ((a.len:Int)+1)=a.len+1:=by rw[IntKind.wrap_i64];omega
     have hdp:aU hk a.len d<=d+1:=by unfold aU;split<;>omega
     have hne:tDs ty ((a.app (.cons hh hx .nil)).lift n f hk 0 d)=(tDs ty (a.lift n f hk 0 d)).app (tDs ty (kE n f (aU hk a.len d) ⟨hh,hx⟩).ts):=by
      rw[Ts.lift_app,bC,Nat.zero_add];rfl
     have hsz2:(⟨hh,hx⟩:Tm).size+1<=x.size:=h4
     have ihh:=ih ⟨hh,hx⟩ (aU hk a.len d) (by omega) h3 (by omega)
     generalize kE n f (aU hk a.len d) ⟨hh,hx⟩=P at *
     simp[mV,aF,dx,h1,h2]
     refine⟨by kernel_rfl,by omega,?_⟩
     refine aE (N6 ⟨⟨hk,hn,ha,hl⟩,x⟩ a.len d (by omega)) ?_ ?_ ?_<;>simp
     refine aE ihh ?_ ?_ ?_<;>simp
     refine⟨by rw[aF,Ts.lift_len];omega,a.app (.cons hh hx .nil),r,by simp[Ts.len],by rw[Ts.app_assoc];exact hq,?_⟩
     refine aI [((55,0),[(55,0)])] ?_ ?_ ?_<;>simp[Ts.len,Ts.app_len,AV.ok,Dc.ok,hw,hne]
theorem h63(t:Tm)(n f:Int)(hf:t.fits)(hs:t.size<=200000000):HH 63 [tmL t,iA n,iA f] (tmL (t.lift n f)):=by
 have q:=q128 n f _ t 0 (Nat.lt_succ_self _) hf hs
 change HH 128 _ (tmL (t.lift n f)) at q
 refine ab Tryz.func63 Tryz.ntmps63 Tryz.results63 rfl (by decide) (by simp) rfl rfl ?_
 simp
 refine aE q ?_ ?_ ?_<;>simp
 exact⟨[],by simp⟩
theorem oD(t:Tm)(hf:t.fits)(hs:t.size<=200000000):HH 63 [tmL t,iA 0,iA 0] (tmL t):=by
 have:=h63 t 0 0 hf hs
 rwa [Tm.lift0 hf] at this
end
section
open Go.RowKit
attribute [local simp] ty_p ty_l ty_t kH tDs bN Tm.ts kI oI ac_skip ac_label ac_region ac_seq ac_cond ac_block ac_loop ac_exit ac_ret seqK_n seqK_r seqK_e vo_nil vo_cons blkK JP oN I8 gA gB lG ev gU fF St.out A7 kX upd dD sU K0 asC oH jO tY lF tD qU pV tb Dc.tk Dc.dp Dc.over Dc.app Dc.ln Dc.ds Dc.sing Dc.cont AV.cont Ds.hd Value.oneCell' DE pP C0 AV.imp Dc.imp φOf dY AV.isLL AV.list AV.app AV.arg AV.isL AV.ren Dc.ren Dc.lent tmC tmA tsA iA lo? abin AV.nth Dc.own Dc.toks
theorem g129(k:Int)(x:Ds):HH 129 [iA k,.c (.row none 5 26 x .nil)] (.agg (.lit (.int .i64 k) (.lit (.int .i64 0) (.lit (.int .i64 0) (.nilr 1 43 (.row none 5 26 x .nil)))))):=by
 refine ab Tryz.func129 Tryz.ntmps129 Tryz.results129 rfl (by decide) (by simp) rfl rfl ?_
 simp
 exact⟨[],by simp⟩
theorem g62(n:Int):HH 62 [iA n] (.agg (.lit (.int .i64 22) (.lit (.int .i64 n) (.lit (.int .i64 0) (.nilr 1 43 (.nilr 5 26 .nil)))))):=by
 refine ab Tryz.func62 Tryz.ntmps62 Tryz.results62 rfl (by decide) (by simp) rfl rfl ?_
 simp
 exact⟨[],by simp⟩
theorem g65(k n:Int):HH 65 [iA k,iA n] (.agg (.lit (.int .i64 23) (.lit (.int .i64 k) (.lit (.int .i64 n) (.nilr 1 43 (.nilr 5 26 .nil)))))):=by
 refine ab Tryz.func65 Tryz.ntmps65 Tryz.results65 rfl (by decide) (by simp) rfl rfl ?_
 simp
 exact⟨[],by simp⟩
theorem g66(k:Int)(t:Tm):HH 66 [iA k,tmL t] (tmL ⟨kH k,t.ts⟩):=by
 refine ab Tryz.func66 Tryz.ntmps66 Tryz.results66 rfl (by decide) (by simp) rfl rfl ?_
 simp
 refine aE (g129 k (tDs ty t.ts)) ?_ ?_ ?_<;>simp
 exact⟨[],by simp⟩
theorem g64(k:Int)(t u:Tm):HH 64 [iA k,tmL t,tmL u] (tmL ⟨kH k,.cons t.h t.x u.ts⟩):=by
 refine ab Tryz.func64 Tryz.ntmps64 Tryz.results64 rfl (by decide) (by simp) rfl rfl ?_
 simp
 refine aE (g129 k (tDs ty (.cons t.h t.x u.ts))) ?_ ?_ ?_<;>simp
 exact⟨[],by simp⟩
theorem yJ:∀(n:Nat) (t:Tm),(dQ n t).len=n
 | 0,_=>rfl
 | 1,_=>rfl
 | n+2,t=>by simp[dQ,Ts.len,yJ (n+1)]
theorem JW(k:Int)(t:Tm)(hk:0<=k/\k<=100)(h:t.fits):Tm.fits ⟨kH k,t.ts⟩ :=
 ⟨⟨⟨by show -9223372036854775808<=k;omega,by show k<=9223372036854775807;omega⟩,⟨by show (-9223372036854775808:Int)<=0;decide,by show (0:Int)<=9223372036854775807;decide⟩,⟨by show (-9223372036854775808:Int)<=0;decide,by show (0:Int)<=9223372036854775807;decide⟩,λ p hp=>by cases hp⟩,h.1,h.2,trivial⟩
theorem nZ(k:Int)(t:Tm):Tm.size ⟨kH k,t.ts⟩=t.size+1:=by
 simp[Tm.size,Tm.ts,Ts.size,kH,aH];omega
theorem g21:∀(m:Nat) (n:Int) (t:Tm),n.toNat=m->t.fits->n<=1000000->t.size+n.toNat<=100000000->HH 21 [tmL t,iA n] (tsA none (dQ n.toNat t)):=by
 intro m
 induction m with
 | zero =>
  intro n t hm hf hn hs
  refine ab Tryz.func21 Tryz.ntmps21 Tryz.results21 rfl (by decide) (by simp) rfl rfl ?_
  rw[hm]
  simp[show n<1 by omega,dQ]
  exact⟨[],by simp⟩
 | succ m ih =>
  intro n t hm hf hn hs
  refine ab Tryz.func21 Tryz.ntmps21 Tryz.results21 rfl (by decide) (by simp) rfl rfl ?_
  by_cases h1:n=1
  ·subst h1
   simp
   refine aE (oD t hf (by omega)) ?_ ?_ ?_<;>simp
   exact⟨rfl,[],by simp⟩
  ·have hw:IntKind.i64.wrap (n-1)=n-1:=by rw[IntKind.wrap_i64];omega
   obtain⟨k,rfl⟩:∃k,m=k+1:=⟨m-1,by omega⟩
   have hk:(n-1).toNat=k+1:=by omega
   have hr:=ih (n-1) ⟨kH 15,t.ts⟩ (by omega) (JW 15 t (by decide) hf) (by omega) (by rw[nZ];omega)
   rw[hk] at hr
   have hl:(tDs ty (dQ (k+1) ⟨kH 15,t.ts⟩)).len=(k+1)*5:=by rw[aF,yJ]
   rw[hm]
   simp[h1,show ¬n<1 by omega]
   refine⟨by kernel_rfl,?_⟩
   refine aE (oD t hf (by omega)) ?_ ?_ ?_<;>simp
   refine aE (g66 14 t) ?_ ?_ ?_<;>simp
   refine aE (oD t hf (by omega)) ?_ ?_ ?_<;>simp
   refine aE (g66 15 t) ?_ ?_ ?_<;>simp
   refine aE hr ?_ ?_ ?_<;>simp[hw]
   refine⟨?_,?_,[],by simp⟩
   ·exact (show 5+(tDs ty (dQ (k+1) ⟨kH 15,t.ts⟩)).len<=100000000000 by omega)
   ·rw[Ds.app_nil];rfl
end
section
open Go.RowKit
attribute [local simp] ty_p ty_l ty_t kH tDs bN Tm.ts kI oI ac_skip ac_label ac_region ac_seq ac_cond ac_block ac_loop ac_exit ac_ret seqK_n seqK_r seqK_e vo_nil vo_cons blkK JP oN I8 gA gB lG ev gU fF St.out A7 kX upd dD sU K0 asC oH jO tY lF tD qU pV tb Dc.tk Dc.dp Dc.over Dc.app Dc.ln Dc.ds Dc.sing Dc.cont AV.cont Ds.hd Value.oneCell' DE pP C0 AV.imp Dc.imp φOf dY AV.isLL AV.list AV.app AV.arg AV.isL AV.ren Dc.ren Dc.lent tmC tmA tsA iA lo? abin AV.nth Dc.own Dc.toks bP rI Z6 τOf
attribute [local simp] AV.room R8 Ds.len Ds.dp
theorem GB(x:Ds):Ds.tk x.len x=x:=by
 induction x with
 | nil=>rfl
 | lit v r ih=>simp only[Ds.len,Ds.tk,ih]
 | row sz e x s r _ _ ih=>simp only[Ds.len,Ds.tk,ih]
theorem GC(r:Ts):Ds.tk ((((tDs ty r).len+1+1+1+1+1) / 5-1)*5) (tDs ty r)=tDs ty r:=by
 have e:(((tDs ty r).len+1+1+1+1+1) / 5-1)*5=(tDs ty r).len:=by rw[aF];omega
 rw[e,GB]
theorem h17:∀(t:Ts),t.fits->t.size<=200000000->HH 17 [tsA none t] (tmL (tup t)):=by
 intro t
 induction t with
 | nil =>
  intro _ _
  refine ab Tryz.func17 Tryz.ntmps17 Tryz.results17 rfl (by decide) (by simp) rfl rfl ?_
  simp
  refine aE (g62 1) ?_ ?_ ?_<;>simp[tup,jN,oI]
  exact⟨[],by simp⟩
 | cons h x r _ ih =>
  intro hf hs
  have hs1:1+aH h.l+x.size+r.size<=200000000:=by simpa[Ts.size] using hs
  have hl:=oZ r
  have d0:(r.len*5+5) / 5=r.len+1:=by omega
  have q1:=oD ⟨h,x⟩ ⟨hf.1,hf.2.1⟩ (by unfold Tm.size;simp only;omega)
  refine ab Tryz.func17 Tryz.ntmps17 Tryz.results17 rfl (by decide) (by simp) rfl rfl ?_
  cases hr:r with
  | nil =>
   simp
   refine aE q1 ?_ ?_ ?_<;>simp[tup,jN]
   exact⟨[],by simp⟩
  | cons h2 x2 r2 =>
   rw[<-hr]
   have hrl:0<r.len:=by rw[hr];simp[Ts.len]
   have q2:=ih hf.2.2 (by omega)
   have q3:=g64 12 ⟨h,x⟩ (tup r)
   have e1:tup (.cons h x r)=⟨kH 12,.cons h x (tup r).ts⟩:=jT 12 (kI 1) h x r hrl
   rw[e1]
   clear e1 ih
   generalize tup r=R at *
   have m0:¬((r.len:Int)+1=0):=by omega
   have m1:¬((r.len:Int)+1=1):=by omega
   have n2:¬r.len=0:=by omega
   simp[aF,d0,m0,m1,n2]
   refine⟨by kernel_rfl,?_⟩
   refine aE q1 ?_ ?_ ?_<;>simp
   refine⟨by rw[aF];omega,?_⟩
   simp only[GC]
   refine aE q2 ?_ ?_ ?_<;>simp
   refine aE q3 ?_ ?_ ?_<;>simp
   exact⟨[],by simp⟩
theorem h18:∀(t:Ts),t.fits->t.size<=200000000->HH 18 [tsA none t] (tmL (sG t)):=by
 intro t
 induction t with
 | nil =>
  intro _ _
  refine ab Tryz.func18 Tryz.ntmps18 Tryz.results18 rfl (by decide) (by simp) rfl rfl ?_
  simp
  refine aE (g65 0 1) ?_ ?_ ?_<;>simp[sG,jN,oI]
  exact⟨[],by simp⟩
 | cons h x r _ ih =>
  intro hf hs
  have hs1:1+aH h.l+x.size+r.size<=200000000:=by simpa[Ts.size] using hs
  have hl:=oZ r
  have d0:(r.len*5+5) / 5=r.len+1:=by omega
  have q1:=oD ⟨h,x⟩ ⟨hf.1,hf.2.1⟩ (by unfold Tm.size;simp only;omega)
  refine ab Tryz.func18 Tryz.ntmps18 Tryz.results18 rfl (by decide) (by simp) rfl rfl ?_
  cases hr:r with
  | nil =>
   simp
   refine aE q1 ?_ ?_ ?_<;>simp[sG,jN]
   exact⟨[],by simp⟩
  | cons h2 x2 r2 =>
   rw[<-hr]
   have hrl:0<r.len:=by rw[hr];simp[Ts.len]
   have q2:=ih hf.2.2 (by omega)
   have q3:=g64 13 ⟨h,x⟩ (sG r)
   have e1:sG (.cons h x r)=⟨kH 13,.cons h x (sG r).ts⟩:=jT 13 (oI 0 1) h x r hrl
   rw[e1]
   clear e1 ih
   generalize sG r=R at *
   have m0:¬((r.len:Int)+1=0):=by omega
   have m1:¬((r.len:Int)+1=1):=by omega
   have n2:¬r.len=0:=by omega
   simp[aF,d0,m0,m1,n2]
   refine⟨by kernel_rfl,?_⟩
   refine aE q1 ?_ ?_ ?_<;>simp
   refine⟨by rw[aF];omega,?_⟩
   simp only[GC]
   refine aE q2 ?_ ?_ ?_<;>simp
   refine aE q3 ?_ ?_ ?_<;>simp
   exact⟨[],by simp⟩
end
section
open Go.RowKit
theorem rep_tm{F:Mem}{w:World}{t:Tm}{v:Value}(h:RepV (bE F w) (tmL t) [v]):RMx F w.heap.size v t.h t.x:=by
 obtain⟨ys,e,h⟩:=h
 obtain⟨-,_,rfl,-,_,rfl,-,_,rfl,-,v1,_,rfl,h1,-,-,v2,_,rfl,h2,-,rfl⟩:=h
 cases e
 obtain⟨p,n,c,rfl,-⟩:=id h1
 obtain⟨p',n',c',rfl,-⟩:=id h2
 exact⟨p,n,c,p',n',c',rfl,h1,h2⟩
theorem FX{g:Gh}{t:Tm}{v:Value}(h:RMx g.F g.w.heap.size v t.h t.x):RepV g (tmL t) [v]:=by
 obtain⟨p,n,c,p',n',c',rfl,h1,h2⟩:=h
 exact⟨_,rfl,rfl,_,rfl,rfl,_,rfl,rfl,_,rfl,cT _,_,_,rfl,h1,Gh.Ow_none,bQ _,_,_,rfl,h2,Gh.Ow_none,rfl⟩
theorem k218(k:Int)(t:Ts)(b:Tm):HH 218 [.agg (.row none 5 26 (tDs ty t) .nil),iA k,tmL b] (tmL (aK k t b)):=by
 refine⟨bO Tryz.func218 (by decide) rfl,rfl,λ F w vs hF hG hv=>?_⟩
 obtain⟨u,v,z,rfl,h1,h2,h3⟩:=M6 hv
 rw[lQ h2]
 obtain⟨ys,e1,-,v1,_,rfl,h4,-,rfl⟩:=h1
 cases e1
 have hb:=rep_tm h3
 obtain⟨p,n,c,p',n',c',rfl,-,-⟩:=id hb
 refine (FL k v1 t _ _ _ _ _ b w F hF h4 hb).mono ?_
 rintro e w' ⟨v,rfl,h5,h6⟩
 exact⟨v,λ _=>[],rfl,h5,FX h6,λ k b hb=>(by cases hb),λ k k' b hb=>(by cases hb)⟩
theorem k166(l:List Ts)(hl:l.length<=400000000)(hn:(gR l).len<=400000000):HH 166 [.c (.row none 1 22 (aZ l) .nil)] (.c (.row none 5 26 (tDs ty (gR l)) .nil)):=by
 refine⟨bO Tryz.func166 (by decide) rfl,rfl,λ F w vs hF hG hv=>?_⟩
 obtain⟨u,rfl,h1⟩:=kD hv
 obtain⟨-,v1,_,e1,h4,-,-⟩:=h1
 cases e1
 refine (Z0 l u w F hF h4 hl hn).mono ?_
 rintro e w' ⟨v,rfl,h5,h6⟩
 exact⟨v,λ _=>[],rfl,h5,⟨bQ _,v,[],rfl,h6,Gh.Ow_none,rfl⟩,λ k b hb=>(by cases hb),λ k k' b hb=>(by cases hb)⟩
theorem fU(p:Lv):(bR p).good:=by
 induction p with
 | nil=>trivial
 | cons a r ih=>exact⟨rfl,rfl,ih⟩
theorem k202(p:Lv)(hn:p.length<=200000000):HH 202 [.c (.row none 2 77 (bR p) .nil)] (.c (.row none 2 77 (bR p) .nil)):=by
 refine⟨bO Tryz.func202 (by decide) rfl,rfl,λ F w vs hF hG hv=>?_⟩
 obtain⟨u,rfl,h1⟩:=kD hv
 obtain⟨-,v1,_,e1,h4,-,-⟩:=h1
 cases e1
 refine (oK p u w (h4.mono (λ b o v _ hv=>hF b o v hv) (Nat.le_refl _)) hn).mono ?_
 rintro e w' ⟨v,S,rfl,h5,h6,h7⟩
 obtain⟨v',_,e2,h8,-⟩:=Vs.res (F:=F) (fp:=λ _=>[]) (Nat.le_refl _) h6
 cases e2
 exact⟨v,λ _=>[],rfl,h5,⟨fU p,v,[],rfl,h8,Gh.Ow_none,rfl⟩,λ k b hb=>(by cases hb),λ k k' b hb=>(by cases hb)⟩
theorem k16(t:Tm):HH 16 [tmL t,tmL t] (.v (.bool true)):=by
 refine⟨bO Tryz.func16 (by decide) rfl,rfl,λ F w vs hF hG hv=>?_⟩
 obtain⟨u,v,rfl,h1,h2⟩:=lN hv
 refine (gV t.h t.x u v w (kZ hF h1) (kZ hF h2)).mono ?_
 rintro e w' ⟨rfl,h5⟩
 exact⟨_,λ _=>[],rfl,h5,rfl,λ k b hb=>(by cases hb),λ k k' b hb=>(by cases hb)⟩
theorem k12n:HH 12 [.v (.slice none 0 0)] (tmO (tup .nil)):=by
 obtain⟨h1,h2,h3⟩:=h12 .nil trivial (by decide)
 refine⟨h1,h2,λ F w vs hF hG hv=>h3 F w vs hF hG ?_⟩
 obtain⟨u,rfl,h4⟩:=kD hv
 have e:u=.slice none 0 0:=by simpa[RepV] using h4
 subst e
 exact⟨_,[],rfl,⟨trivial,_,[],rfl,Rd.none_ _ _ _,Gh.Ow_none,rfl⟩,rfl⟩
def lvB(l:List Lv):Bool:=l.all λ p=>p.all λ q=>inB q.1 && inB q.2
def hdB(h:Hd):Bool:=inB h.k && (inB h.n && (inB h.a && lvB h.l))
theorem KH{h:Hd}(hb:hdB h=true):h.fits:=by
 simp only[hdB,Bool.and_eq_true] at hb
 refine⟨wG hb.1,wG hb.2.1,wG hb.2.2.1,λ p hp q hq=>?_⟩
 have:=List.all_eq_true.1 (List.all_eq_true.1 hb.2.2.2 p hp) q hq
 simp only[Bool.and_eq_true] at this
 exact⟨wG this.1,wG this.2⟩
def yB:Ts->Bool
 | .nil=>true
 | .cons h x r=>hdB h && (yB x && yB r)
theorem qQ:∀ {t:Ts},yB t=true->t.fits
 | .nil,_=>trivial
 | .cons h x r,hb=>by
  simp only[yB,Bool.and_eq_true] at hb
  exact⟨KH hb.1,qQ hb.2.1,qQ hb.2.2⟩
def GA(t:Tm):Bool:=(hdB t.h && yB t.x) && decide (t.size<=100000000)
theorem FZ{t:Tm}(h:GA t=true):t.fits/\t.size<=100000000:=by
 simp only[GA,Bool.and_eq_true,decide_eq_true_eq] at h
 exact⟨⟨KH h.1.1,qQ h.1.2⟩,h.2⟩
def BO(a:AV):Option AV:=match a with
 | .cons (.agg d) (.cons (.v (.int .i64 n)) (.cons (.v (.int .i64 f)) .nil))=>match tmB d with
  | some t=>if GA t then some (tmL (t.lift n f)) else none
  | none=>none
 | _=>none
theorem M7{a r:AV}(h:BO a=some r):Holds Tryz.prog KA 60 a r/\Holds Tryz.prog KA 63 a r:=by
 unfold BO at h
 split at h
 ·rename_i d n f
  split at h
  ·rename_i t ht
   split at h
   ·rename_i hf
    cases h
    obtain⟨h1,h2⟩:=FZ hf
    rw[T5 ht]
    exact⟨(h60 t n f h1 h2).frz,(h63 t n f h1 (by omega)).frz⟩
   ·cases h
  ·cases h
 ·cases h
def tupB(a:AV):Option AV:=match a with
 | .cons (.c d) .nil=>match tsB d with
  | some t=>if yB t && decide (t.size<=100000000) then some (tmL (tup t)) else none
  | none=>none
 | .cons (.v (.slice none 0 0)) .nil=>some (tmL (tup .nil))
 | _=>none
theorem tupB_ok{a r:AV}(h:tupB a=some r):Holds Tryz.prog KA 12 a r:=by
 unfold tupB at h
 split at h
 ·rename_i d
  split at h
  ·rename_i t ht
   split at h
   ·rename_i hf
    cases h
    simp only[Bool.and_eq_true,decide_eq_true_eq] at hf
    rw[FW ht]
    exact (h12 t (qQ hf.1) hf.2).frz
   ·cases h
  ·cases h
 ·cases h;exact k12n.frz
 ·cases h
def zY(r:AV):Bool:=match r with
 | .c (.row none _ _ _ .nil)=>true
 | .c (.nilr _ _ .nil)=>true
 | .v (.slice none 0 0)=>true
 | _=>false
theorem U3{r:AV}(h:zY r=true):r.frz=r/\∀g v,RepV g r [v]->∃p n c,v=.slice p n c:=by
 unfold zY at h
 split at h
 ·refine⟨rfl,?_⟩
  rintro g v ⟨-,v1,_,e,⟨p,n,c,rfl,-⟩,-⟩
  cases e
  exact⟨p,n,c,rfl⟩
 ·refine⟨rfl,?_⟩
  rintro g v ⟨_,e,-⟩
  cases e
  exact⟨_,_,_,rfl⟩
 ·refine⟨rfl,λ g v h=>?_⟩
  cases h
  exact⟨_,_,_,rfl⟩
 ·cases h
def zQ(call:Nat->AV->Option AV)(a:AV):Option AV:=match a with
 | .cons (.fn (.func g) x y) .nil=>if x.isLL && (x.unl && y.unl) then match call g (x.app y) with
   | some r=>if zY r then some r else none
   | none=>none
  else none
 | _=>none
theorem yC{call:Nat->AV->Option AV}(hc:∀f a r,call f a=some r->Holds Tryz.prog KA f a r){a r:AV}(h:zQ call a=some r):Holds Tryz.prog KA 79 a r/\Holds Tryz.prog KA 112 a r:=by
 unfold zQ at h
 split at h
 ·split at h
  ·rename_i hb
   simp only[Bool.and_eq_true] at hb
   split at h
   ·rename_i r' hr
    split at h
    ·rename_i hs
     cases h
     obtain⟨h1,h2⟩:=U3 hs
     have h3:=qR hb.1 hb.2.1 hb.2.2 (hc _ _ _ hr) h2
     have h4:=zP hb.1 hb.2.1 hb.2.2 (hc _ _ _ hr) h2
     rw[h1] at h3 h4
     exact⟨h3,h4⟩
    ·cases h
   ·cases h
  ·cases h
 ·cases h
def AG(a:AV):Option AV:=match a with
 | .cons (.agg d) (.cons (.v (.int .i64 k)) (.cons (.agg b) .nil))=>match tsB d,tmB b with
  | some t,some b=>some (tmL (aK k t b))
  | _,_=>none
 | _=>none
theorem tsB_d{d:Dc}{t:Ts}(h:tsB d=some t):d=.row none 5 26 (tDs ty t) .nil:=by
 have:=FW h
 injection this
theorem FM{a r:AV}(h:AG a=some r):Holds Tryz.prog KA 218 a r:=by
 unfold AG at h
 split at h
 ·split at h
  ·rename_i t b ht hb
   cases h
   rw[T5 hb,tsB_d ht]
   exact k218 _ t b
  ·cases h
 ·cases h
def U6:Ds->List Ts
 | .row _ _ x _ r=>FU x :: U6 r
 | _=>[]
def G9(a:AV):Option AV:=match a with
 | .cons (.c (.row none 1 22 x .nil)) .nil=>let l:=U6 x;if x.eqB (aZ l) && (decide (l.length<=400000000) && decide ((gR l).len<=400000000)) then some (.c (.row none 5 26 (tDs ty (gR l)) .nil)) else none
 | _=>none
theorem Z1{a r:AV}(h:G9 a=some r):Holds Tryz.prog KA 166 a r:=by
 unfold G9 at h
 split at h
 ·rename_i x
  simp only at h
  obtain⟨l,hl⟩:∃l,U6 x=l:=⟨_,rfl⟩
  rw[hl] at h
  split at h
  ·rename_i hb
   cases h
   simp only[Bool.and_eq_true,decide_eq_true_eq] at hb
   rw[Ds.eqB_ok hb.1]
   exact k166 l hb.2.1 hb.2.2
  ·cases h
 ·cases h
def Z4(a:AV):Option AV:=match a with
 | .cons (.c (.row none 2 77 x .nil)) .nil=>let p:=ptOf x;if x.eqB (bR p) && decide (p.length<=200000000) then some (.c (.row none 2 77 (bR p) .nil)) else none
 | _=>none
theorem EY{a r:AV}(h:Z4 a=some r):Holds Tryz.prog KA 202 a r:=by
 unfold Z4 at h
 split at h
 ·rename_i x
  simp only at h
  obtain⟨p,hp⟩:∃p,ptOf x=p:=⟨_,rfl⟩
  rw[hp] at h
  split at h
  ·rename_i hb
   cases h
   simp only[Bool.and_eq_true,decide_eq_true_eq] at hb
   rw[Ds.eqB_ok hb.1]
   exact k202 p hb.2
  ·cases h
 ·cases h
def IQ(a:AV):Option AV:=match a with
 | .cons (.agg x) (.cons (.agg y) .nil)=>match tmB x with
  | some _=>if x.eqB y then some (.v (.bool true)) else none
  | none=>none
 | _=>none
theorem IP{a r:AV}(h:IQ a=some r):Holds Tryz.prog KA 16 a r:=by
 unfold IQ at h
 split at h
 ·split at h
  ·rename_i t ht
   split at h
   ·rename_i hb
    cases h
    rw[<-Dc.eqB_ok hb,T5 ht]
    exact k16 t
   ·cases h
  ·cases h
 ·cases h
def oC:Hand
 | 60=>some λ _=>BO
 | 63=>some λ _=>BO
 | 12=>some λ _=>tupB
 | 79=>some zQ
 | 112=>some zQ
 | 218=>some λ _=>AG
 | 166=>some λ _=>G9
 | 202=>some λ _=>Z4
 | 16=>some λ _=>IQ
 | _=>none
theorem hand_ok:∀call,(∀f a r,call f a=some r->Holds Tryz.prog KA f a r)->∀f g,oC f=some g->∀a r,g call a=some r->Holds Tryz.prog KA f a r:=by
 intro call hc f g hg a r h
 unfold oC at hg
 split at hg
 all_goals cases hg
 ·exact (M7 h).1
 ·exact (M7 h).2
 ·exact tupB_ok h
 ·exact (yC hc h).1
 ·exact (yC hc h).2
 ·exact FM h
 ·exact Z1 h
 ·exact EY h
 ·exact IP h
theorem JI (f : Nat) (fn : Func) (h : Tryz.prog.funcs[f]? = some fn) : fn.name ≠ "runtime.NumGoroutine" := by
 have : (Tryz.prog.funcs.toList.all fun fn => fn.name != "runtime.NumGoroutine") = true := by kernel_rfl
 have:=List.all_eq_true.1 this fn (List.mem_of_getElem? (by simpa using h))
 simpa using this
theorem work(n:Nat){f:Nat}{a r:AV}(h:(M4 Tryz.prog tb oC n).1 f a=some r):Holds Tryz.prog KA f a r:=(BK qA iD mixed JI hand_ok n).1 f a r h
end
section
open Go.RowKit
theorem g9:HH 9 [] (.v (.bool true)):=work 10000000 (by kernel_rfl)
end
end Go.Proofs.YtkcmapimcgppmaaGreatDoor
