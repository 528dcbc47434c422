import Derived.Test.YtjhkikmonejkjaaGreatDoorP54b
import Derived.Test.YtjhkikmonejkjaaGreatDoorV17g
import Derived.Test.YtjhkikmonejkjaaGreatDoorV14d
set_option linter.unusedVariables false
set_option linter.unusedSimpArgs false
set_option maxRecDepth 20000
open Go.Proofs.Tryz renaming prog→Ya
namespace Go.Proofs.YtjhkikmonejkjaaGreatDoor
open Go.Abs Go.RowKit
def dw (v:V3):List PC:= [pS v.1,pI v.2.1,pI v.2.2]
abbrev Bu (V:List V3):AV:=bZ dw V
def NV (t:T3):List PC:= [pS t.1]
def OJ (t:T3):List PC:= [ce t.2.1]
def Ky (t:T3):List PC:= [ce t.2.2]
def Pz (V:List V3):List PC:= [cZ dw V]
abbrev Nu (L:List T3) (W:List (List V3)):AV:= .agg [.pure (cZ NV L),.pure (cZ OJ L),.pure (cZ Ky L),.pure (cZ Pz W)]
abbrev IY (L:List T3) (W:List (List V3)):bm:= .var [.pure (cZ NV L),.pure (cZ OJ L),.pure (cZ Ky L),.pure (cZ Pz W)]
noncomputable def Pn (L:List T3) (s:ByteArray):Int:=iY (λt:T3=>t.1=s) L
theorem GT {L:List T3} {s:ByteArray} {x:List Int×List Int} (h:dQ L s=some x): ∃i,∃hi:i<L.length,Pn L s=i∧L[i].2=x:=by
 unfold Pn
 rcases nc (λt:T3=>t.1=s) L with⟨_,h2⟩|⟨i,hi,h1,h2,h3⟩
 ·exfalso
  unfold dQ at h
  have:L.find? (λt=>decide (t.1=s))=none:=List.find?_eq_none.2 λt ht=>by simpa using h2 t ht
  rw[this]at h
  cases h
 ·refine⟨i,hi,h1, ?_⟩
  have:L.find? (λt=>decide (t.1=s))=some L[i]:=List.find?_eq_some_iff_getElem.2 ⟨by simpa using h2,i,hi,rfl,λj hj=>by simpa using h3 j hj⟩
  unfold dQ at h
  rw[this]at h
  exact Option.some.inj h
theorem QQ {L:List T3} {W:List (List V3)} {r:List AV} (h:fL (Nu L W::r)):L.length≤9223372036854775807∧W.length≤9223372036854775807:=by
 have:=h.1
 simp[eW,jP,ft]at this
 omega
theorem sY (L:List T3) (W:List (List V3)) (s:ByteArray):af Ya xJ [Nu L W,S s] (I (Pn L s)):=by
 refine af.of E3 (by simp) λhb=>aa ?_
 have hl:=(QQ hb).1
 simp only[wW]
 clear hb
 repeat' first|simp(disch:=omega)only[go_sem]|((with_reducible refine ab ?_ ?_)<;>intro h<;>try first|omega|simp(disch:=omega)only[go_sem, *])
 refine ai (λk:Nat=>⟨[(1,S s),(2,.c (.ptr 0 0)),(5,I k)], [(0,IY L W)],1,0⟩) (λk=>k≤L.length∧bI (λj=> ∀h:j<L.length,¬L[j].1=s) k) (λk=>L.length-k) ⟨0, [],⟨by omega,.zero⟩,by simp⟩ ?_
 rintro k ⟨hk,A⟩
 refine aa ?_
 by_cases o:k<L.length
 ·have HN:=Lib.hid λh=>lv (p:= λt:T3=>t.1=s) o h λj hj=>A j hj (by omega)
  have HA:=Lib.hid A
  clear A
  by_cases he:L[k].1=s
  ·have e:=HN.out he
   clear HN HA
   repeat' first|simp(disch:=omega)only[go_sem,ac o,NV,wrap_i64,aj,he,decide_true]|((with_reducible refine ab ?_ ?_)<;>intro h<;>try first|omega|simp(disch:=omega)only[go_sem, *,ac o,NV,wrap_i64,aj,he,decide_true])
   rw[Pn,e]
  ·clear HN
   repeat' first|simp(disch:=omega)only[go_sem,ac o,NV,wrap_i64,aj,he,decide_false]|((with_reducible refine ab ?_ ?_)<;>intro h<;>try first|omega|simp(disch:=omega)only[go_sem, *,ac o,NV,wrap_i64,aj,he,decide_false])
   exact⟨k+1, [],⟨by omega,HA.out.succ λ_=>he⟩,by omega,by simp⟩
 ·have HN:=Lib.hid (gK (p:= λt:T3=>t.1=s) λj hj=>A j (by omega) hj)
  clear A
  repeat' first|simp(disch:=omega)only[go_sem]|((with_reducible refine ab ?_ ?_)<;>intro h<;>try first|omega|simp(disch:=omega)only[go_sem, *])
  rw[Pn,HN.out]
theorem BH (V:List V3) (x:Int):af Ya ur [Bu V,I x] (Go.Abs.B (decide (x∈V.map (·.2.2)))):=by
 refine af.of Dx (by simp) λhb=>aa ?_
 have hl:=iQ hb
 simp only[ul]
 clear hb
 repeat' first|simp(disch:=omega)only[go_sem]|((with_reducible refine ab ?_ ?_)<;>intro h<;>try first|omega|simp(disch:=omega)only[go_sem, *])
 refine ai (λk:Nat=>⟨[(0,Bu V),(1,I x),(5,I k)], [],0,0⟩) (λk=>k≤V.length∧bI (λj=> ∀h:j<V.length,¬V[j].2.2=x) k) (λk=>V.length-k) ⟨0, [],⟨by omega,.zero⟩,by simp⟩ ?_
 rintro k ⟨hk,A⟩
 refine aa ?_
 by_cases o:k<V.length
 ·have HA:=Lib.hid A
  clear A
  by_cases he:V[k].2.2=x
  ·rw[decide_eq_true (List.mem_map.2 ⟨_,List.getElem_mem o,he⟩)]
   clear HA
   repeat' first|simp(disch:=omega)only[go_sem,ac o,dw,wrap_i64,he]|((with_reducible refine ab ?_ ?_)<;>intro h<;>try first|omega|simp(disch:=omega)only[go_sem, *,ac o,dw,wrap_i64,he])
  ·repeat' first|simp(disch:=omega)only[go_sem,ac o,dw,wrap_i64,he]|((with_reducible refine ab ?_ ?_)<;>intro h<;>try first|omega|simp(disch:=omega)only[go_sem, *,ac o,dw,wrap_i64,he])
   exact⟨k+1, [],⟨by omega,HA.out.succ λ_=>he⟩,by omega,by simp⟩
 ·rw[decide_eq_false λh=>by
   obtain⟨v,hv,e⟩:=List.mem_map.1 h
   obtain⟨j,hj,rfl⟩:=List.mem_iff_getElem.1 hv
   exact A j (by omega) hj e]
  clear A
  repeat' first|simp(disch:=omega)only[go_sem]|((with_reducible refine ab ?_ ?_)<;>intro h<;>try first|omega|simp(disch:=omega)only[go_sem, *])
theorem tu {a:Ex} {j:Nat} (s:ByteArray) (hj:j<a.idx.length):af Ya xp [gc a,I j,S s] (Go.Abs.B (decide (d8 a.idx[j] s))):=by
 refine af.of EO (by simp) λhb=>aa ?_
 simp only[wT]
 clear hb
 have g1:=ac (f:=dN) hj
 generalize a.idx[j]=x at*
 obtain⟨⟨K,l⟩,f,ats⟩:=x
 simp only[dN]at g1
 by_cases h1:f=mC
 ·by_cases h2:K=0
  ·by_cases h3:l.length=1
   ·obtain⟨⟨t,b⟩,rfl⟩: ∃m,l= [m]:=by match l,h3 with| [m],_=>exact⟨m,rfl⟩
    by_cases h4:t=s
    ·by_cases h5:b=1
     ·rw[decide_eq_true (show d8 ((K, [(t,b)]),f,ats) s from⟨h1,h2,by rw[h4,h5]⟩)]
      subst h1 h2 h4 h5
      repeat' first|simp(disch:=omega)only[go_sem,g1,mP,Int.toNat_zero,aj,decide_true]|((with_reducible refine ab ?_ ?_)<;>intro h<;>try first|omega|simp(disch:=omega)only[go_sem, *,g1,mP,Int.toNat_zero,aj,decide_true])
     ·rw[decide_eq_false (show ¬d8 ((K, [(t,b)]),f,ats) s from λh=>h5 (by have:=h.2.2;simp at this;exact this.2))]
      subst h1 h2 h4
      repeat' first|simp(disch:=omega)only[go_sem,g1,mP,Int.toNat_zero,aj,decide_true,h5]|((with_reducible refine ab ?_ ?_)<;>intro h<;>try first|omega|simp(disch:=omega)only[go_sem, *,g1,mP,Int.toNat_zero,aj,decide_true,h5])
    ·rw[decide_eq_false (show ¬d8 ((K, [(t,b)]),f,ats) s from λh=>h4 (by have:=h.2.2;simp at this;exact this.1))]
     subst h1 h2
     repeat' first|simp(disch:=omega)only[go_sem,g1,mP,Int.toNat_zero,aj,decide_true,decide_false,h4]|((with_reducible refine ab ?_ ?_)<;>intro h<;>try first|omega|simp(disch:=omega)only[go_sem, *,g1,mP,Int.toNat_zero,aj,decide_true,decide_false,h4])
   ·rw[decide_eq_false (show ¬d8 ((K,l),f,ats) s from λh=>h3 (by have:=h.2.2;simp only at this;rw[this];rfl))]
    have hC: ¬(l.length:Int)=1:=by omega
    subst h1 h2
    clear h3
    repeat' first|simp(disch:=omega)only[go_sem,g1,aj,decide_true,hC]|((with_reducible refine ab ?_ ?_)<;>intro h<;>try first|omega|simp(disch:=omega)only[go_sem, *,g1,aj,decide_true,hC])
  ·rw[decide_eq_false (show ¬d8 ((K,l),f,ats) s from λh=>h2 h.2.1)]
   subst h1
   repeat' first|simp(disch:=omega)only[go_sem,g1,aj,decide_true,h2]|((with_reducible refine ab ?_ ?_)<;>intro h<;>try first|omega|simp(disch:=omega)only[go_sem, *,g1,aj,decide_true,h2])
 ·rw[decide_eq_false (show ¬d8 ((K,l),f,ats) s from λh=>h1 h.1)]
  repeat' first|simp(disch:=omega)only[go_sem,g1,aj,decide_false,h1]|((with_reducible refine ab ?_ ?_)<;>intro h<;>try first|omega|simp(disch:=omega)only[go_sem, *,g1,aj,decide_false,h1])
abbrev EU (l:List Ex):AV:= .c (.pure (.slice (l.map Ex.row)))
theorem SN {e a:Ex} (h:a∈e.args):a.sz<e.sz:=by
 rw[Ex.sz_eq e]
 have key: ∀l:List Ex,a∈l→a.sz≤Ex.szs l:=by
  intro l
  induction l with
  |nil=>intro h;cases h
  |cons b r ih=>
   intro h
   rw[Ex.szs]
   rcases List.mem_cons.1 h with rfl|h
   ·omega
   ·have:=ih h;omega
 have:=key _ h
 omega
def Fa (e:Ex) (k:Nat):List (List PC):=(e::Ex.pres (e.args.take k)).map Ex.row
theorem ns (e:Ex):e.sz≤100000→af Ya rZ [gc e] (EU e.pre):=by
 refine Ex.ind (p:= λe=>e.sz≤100000→af Ya rZ [gc e] (EU e.pre)) (λe IH hz=> ?_) e
 refine af.of G0 (by simp) λhb=>aa ?_
 have hD:=Ex.sz_eq e
 have hE:=Ex.szs_len e.args
 have hl: ∀k,(Ex.pres (e.args.take k)).length≤100000:= λk=>by
  rw[Ex.pres_length λa _=>Ex.pre_length a]
  have:Ex.szs (e.args.take k)≤Ex.szs e.args:=by
   conv=>rhs;rw[←List.take_append_drop k e.args,Ex.szs_append]
   omega
  omega
 have hS:e.args.length≤100000:=by omega
 have N:=Ex.row_eq e
 have HE:=Lib.hid (Ex.pre_eq e)
 simp only[Ao]
 clear hb
 repeat' first|simp(disch:=omega)only[go_sem]|((with_reducible refine ab ?_ ?_)<;>intro h<;>try first|omega|simp(disch:=omega)only[go_sem, *])
 refine ai (λk:Nat=>match k with
  |0=>⟨[(1,.c (.ptr 0 0)),(3,.c (.tsl [e.row])),(4,I 0)], [(0,tL e)],1,0⟩
  |k+1=>⟨[(1,.c (.ptr 0 0)),(3,.c (.ref 1)),(4,I ((k+1:Nat):Int))], [(1,.arr 66 13 (Fa e (k+1))),(0,tL e)],2,0⟩) (λk=>k≤e.args.length) (λk=>e.args.length-k) ⟨0, [],by omega,by simp[N]⟩ ?_
 intro k hk
 have F: ∀a:Ex,bV 13 (a.pre.map Ex.row):= λa=>aG λx=>by rw[Ex.row_eq];rfl
 have G:bV 13 [e.row]:=ak (by rw[N];rfl)
 by_cases o:k<e.args.length
 ·have hm:=List.getElem_mem o
  have c:=IH _ hm (by have:=SN hm;omega)
  have g1:=ac (f:=Ex.row) o
  rw[Ex.row_eq]at g1
  have hn:e.args[k].pre.map Ex.row≠ []:=by rw[Ex.pre_eq];simp
  have hF:=Ex.pre_length e.args[k]
  have hU:e.args[k].sz≤100000:=by have:=SN hm;omega
  have F:=F e.args[k]
  have ht:=Ex.pres_take o
  cases k with
  |zero=>
   refine aa ?_
   have HT:=Lib.hid (show e.row::e.args[0].pre.map Ex.row=Fa e 1 by rw[Fa,ht];simp[Ex.pres])
   clear IH ht hl N HE hD
   repeat' first|simp(disch:=omega)only[go_sem,g1,Int.toNat_zero,wrap_i64]|((with_reducible refine ab ?_ ?_)<;>intro h<;>try first|omega|simp(disch:=omega)only[go_sem, *,g1,Int.toNat_zero,wrap_i64])|refine ae c rfl (.inr rfl) ?_|refine cQ G F hn (by simp;omega) (by simp;omega) ?_
   rw[HT.out]
   exact⟨1, [],by omega,by omega,by simp⟩
  |succ k=>
   refine aa ?_
   have hV:=hl (k+1)
   have HT:=Lib.hid (show Fa e (k+1)++e.args[k+1].pre.map Ex.row=Fa e (k+1+1) by rw[Fa,Fa,ht];simp)
   have hW:(Fa e (k+1)).length≤100001:=by simp[Fa];omega
   clear IH ht hl N HE hD G
   repeat' first|simp(disch:=omega)only[go_sem,g1,wrap_i64]|((with_reducible refine ab ?_ ?_)<;>intro h<;>try first|omega|simp(disch:=omega)only[go_sem, *,g1,wrap_i64])|refine ae c rfl (.inr rfl) ?_|refine aF rfl (by intro h;cases h) F (by simp;omega) (by simp;omega) ?_
   rw[HT.out]
   have hw:IntKind.wrap .i64 ((k:Int)+1+1)=(k:Int)+1+1:=wrap_i64 (by omega)
   exact⟨k+1+1, [(1,2)],by omega,by omega,by simp[hw]⟩
 ·have he:Ex.pres (e.args.take k)=Ex.pres e.args:=by rw[List.take_of_length_le (by omega)]
  cases k with
  |zero=>
   refine aa ?_
   have h0:e.args= []:=List.eq_nil_of_length_eq_zero (by omega)
   clear IH hl N
   repeat' first|simp(disch:=omega)only[go_sem]|((with_reducible refine ab ?_ ?_)<;>intro h<;>try first|omega|simp(disch:=omega)only[go_sem, *])
   rw[HE.out,h0]
   rfl
  |succ k=>
   refine aa ?_
   clear IH hl N
   repeat' first|simp(disch:=omega)only[go_sem]|((with_reducible refine ab ?_ ?_)<;>intro h<;>try first|omega|simp(disch:=omega)only[go_sem, *])
   rw[Fa,he,HE.out]
set_option maxHeartbeats 1000000 in
theorem zS {L:List T3} {W:List (List V3)} {d:jA} {done:List V3} {s:ByteArray} {many:Int} (hz:d.body.sz≤100000) (hx: ∀a∈d.body.pre,a.idx.length≤1000) (hr:Me L d.body.pre):af Ya ru [Nu L W,sK d,Bu done,S s,I many] (I (ef L s many (done.map (·.2.2)) d.body.pre)):=by
 refine af.of BL (by simp) λhb=>aa ?_
 have cA:=ns d.body hz
 have hF:d.body.pre.length≤100000:=by rw[Ex.pre_length];exact hz
 have cT:= λx=>BH done x
 generalize done.map (·.2.2)=tk at*
 obtain⟨R,hR⟩: ∃R,R=ef L s many tk (d.body.pre.drop 0):=⟨_,rfl⟩
 have H:ef L s many tk d.body.pre=R:=hR.symm
 rw[H]
 have HR:Hid (ef L s many tk (d.body.pre.drop 0)=R):=Lib.hid hR.symm
 clear hR H hz hb
 simp only[sP]
 generalize Q:d.body.pre=pre at*
 clear Q
 repeat' first|simp(disch:=omega)only[go_sem]|((with_reducible refine ab ?_ ?_)<;>intro h<;>try first|omega|simp(disch:=omega)only[go_sem, *])|refine ae cA rfl (.inr rfl) ?_
 refine ai (λk:Nat=>⟨[(2,Bu done),(3,S s),(4,I many),(5,.c (.ptr 0 0)),(11,EU pre),(12,I k)], [(0,IY L W)],1,0⟩) (λk=>k≤pre.length∧Hid (ef L s many tk (pre.drop k)=R)) (λk=>pre.length-k) ⟨0, [],⟨by omega,HR⟩,by simp⟩ ?_
 clear HR cA
 rintro k ⟨hk,hG⟩
 refine aa ?_
 have hd:=hG.out
 clear hG
 by_cases o:k<pre.length
 ·have g1:=ac (f:=Ex.row) o
  have Y:=hr _ (List.getElem_mem o)
  rw[Ex.row_eq]at g1
  by_cases h3:pre[k].op=3
  ·have hH:=hx _ (List.getElem_mem o)
   rw[GK o h3]at hd
   obtain⟨ds,sp,h4,h5,h6⟩:=Y h3
   obtain⟨i,hi,h7,h8⟩:=GT h4
   have cF:=sY L W pre[k].name
   rw[h7]at cF
   obtain⟨hY,hI⟩:=Gf h4 h5 h6
   have gd:(L.map OJ)[i]? =some [ce ds]:=by rw[ac (f:=OJ) hi,OJ,h8]
   have gs:(L.map Ky)[i]? =some [ce sp]:=by rw[ac (f:=Ky) hi,Ky,h8]
   have cU:= λj (hj:j<pre[k].idx.length)=>tu s hj
   have HC:=Lib.hid hI
   generalize iE L pre[k]=C at*
   obtain⟨rest,u⟩: ∃r,r=ef L s many tk (pre.drop (k+1)):=⟨_,rfl⟩
   rw[←u]at hd
   have HQ:=Lib.hid u
   have HD0:=Lib.hid hd
   clear hd hr Y h4 h7 h8 hi hI u hx
   repeat' first|simp(disch:=omega)only[go_sem,g1,h3]|((with_reducible refine ab ?_ ?_)<;>intro h<;>try first|omega|simp(disch:=omega)only[go_sem, *,g1,h3])|refine ae cF rfl (.inl rfl) ?_
   clear h3
   refine ai (λj:Nat=>⟨[(2,Bu done),(3,S s),(4,I many),(5,.c (.ptr 0 0)),(11,EU pre),(12,I k),(13,I i),(14,I j)], [(0,IY L W)],1,0⟩) (λj=>j≤pre[k].idx.length∧Hid (rf s many tk (C.drop j) rest=R)) (λj=>pre[k].idx.length-j) ⟨0, [],⟨by omega,HD0⟩,by simp⟩ ?_
   clear HD0 cF
   rintro j ⟨hj,y⟩
   refine aa ?_
   have g:=y.out
   clear y
   by_cases q:j<pre[k].idx.length
   ·have O:j<C.length:=by omega
    have hJ:j<ds.length:=by omega
    have hK:j<sp.length:=by omega
    have D:=HC.out j O q hJ hK
    have cu:=cU j q
    have ct:=cT sp[j]
    have gj1:=ac (f:= λn:Int=> [pI n]) hJ
    have gj2:=ac (f:= λn:Int=> [pI n]) hK
    clear cU HC cT
    generalize ds[j]=dd at*
    generalize sp[j]=x at*
    by_cases c1:0≤x
    ·by_cases c2:d8 pre[k].idx[j] s
     ·rw[decide_eq_true c2]at cu
      by_cases c3:dd=many
      ·by_cases c4:x∈tk
       ·rw[decide_eq_true c4]at ct
        rw[mJ O (by rw[D];exact λh=>h.2.2.2 c4)]at g
        have HD:=Lib.hid g
        clear g D
        repeat' first|simp(disch:=omega)only[go_sem,g1,gd,gs,gj1,gj2,wrap_i64,c1,c3]|((with_reducible refine ab ?_ ?_)<;>intro h<;>try first|omega|simp(disch:=omega)only[go_sem, *,g1,gd,gs,gj1,gj2,wrap_i64,c1,c3])|refine ae cu rfl (.inl rfl) ?_|refine ae ct rfl (.inl rfl) ?_
        exact⟨j+1, [],⟨by omega,HD⟩,by omega,by simp⟩
       ·rw[decide_eq_false c4]at ct
        rw[II O (by rw[D];exact⟨c1,c2,c3,c4⟩),D]at g
        simp only at g
        subst g
        clear D
        repeat' first|simp(disch:=omega)only[go_sem,g1,gd,gs,gj1,gj2,wrap_i64,c1,c3]|((with_reducible refine ab ?_ ?_)<;>intro h<;>try first|omega|simp(disch:=omega)only[go_sem, *,g1,gd,gs,gj1,gj2,wrap_i64,c1,c3])|refine ae cu rfl (.inl rfl) ?_|refine ae ct rfl (.inl rfl) ?_
      ·rw[mJ O (by rw[D];exact λh=>c3 h.2.2.1)]at g
       have HD:=Lib.hid g
       clear g D
       repeat' first|simp(disch:=omega)only[go_sem,g1,gd,gs,gj1,gj2,wrap_i64,c1,c3]|((with_reducible refine ab ?_ ?_)<;>intro h<;>try first|omega|simp(disch:=omega)only[go_sem, *,g1,gd,gs,gj1,gj2,wrap_i64,c1,c3])|refine ae cu rfl (.inl rfl) ?_|refine ae ct rfl (.inl rfl) ?_
       exact⟨j+1, [],⟨by omega,HD⟩,by omega,by simp⟩
     ·rw[decide_eq_false c2]at cu
      rw[mJ O (by rw[D];exact λh=>c2 h.2.1)]at g
      have HD:=Lib.hid g
      clear g D
      repeat' first|simp(disch:=omega)only[go_sem,g1,gd,gs,gj1,gj2,wrap_i64,c1]|((with_reducible refine ab ?_ ?_)<;>intro h<;>try first|omega|simp(disch:=omega)only[go_sem, *,g1,gd,gs,gj1,gj2,wrap_i64,c1])|refine ae cu rfl (.inl rfl) ?_|refine ae ct rfl (.inl rfl) ?_
      exact⟨j+1, [],⟨by omega,HD⟩,by omega,by simp⟩
    ·rw[mJ O (by rw[D];exact λh=>c1 h.1)]at g
     have HD:=Lib.hid g
     clear g D
     repeat' first|simp(disch:=omega)only[go_sem,g1,gd,gs,gj1,gj2,wrap_i64,c1]|((with_reducible refine ab ?_ ?_)<;>intro h<;>try first|omega|simp(disch:=omega)only[go_sem, *,g1,gd,gs,gj1,gj2,wrap_i64,c1])|refine ae cu rfl (.inl rfl) ?_|refine ae ct rfl (.inl rfl) ?_
     exact⟨j+1, [],⟨by omega,HD⟩,by omega,by simp⟩
   ·rw[JB (by omega)]at g
    have HD:=Lib.hid (HQ.out.symm.trans g)
    clear g cU HC cT
    repeat' first|simp(disch:=omega)only[go_sem,g1,wrap_i64]|((with_reducible refine ab ?_ ?_)<;>intro h<;>try first|omega|simp(disch:=omega)only[go_sem, *,g1,wrap_i64])
    exact⟨k+1, [],⟨by omega,HD⟩,by omega,by simp⟩
  ·rw[Gj o h3]at hd
   have HD:=Lib.hid hd
   clear hd Y hr
   repeat' first|simp(disch:=omega)only[go_sem,g1,h3,wrap_i64]|((with_reducible refine ab ?_ ?_)<;>intro h<;>try first|omega|simp(disch:=omega)only[go_sem, *,g1,h3,wrap_i64])
   exact⟨k+1, [],⟨by omega,HD⟩,by omega,by simp⟩
 ·rw[Jw (by omega)]at hd
  subst hd
  clear hr
  repeat' first|simp(disch:=omega)only[go_sem]|((with_reducible refine ab ?_ ?_)<;>intro h<;>try first|omega|simp(disch:=omega)only[go_sem, *])
theorem FP {l:List ByteArray} {s:ByteArray} (h: ∀x∈l,cH x s=true):s∉l:= λhm=>by
 have:=h s hm
 exact kS s this
theorem mj {l:List ByteArray} {s:ByteArray} (hs:yc l) (hl:l.length≤1000000):af Ya xn [.c (.pure (b6 l)),S s] (.c (.pure (b6 (gA l s)))):=by
 refine af.of EQ (by simp) λhb=>aa ?_
 obtain⟨R,hR⟩: ∃R,R=gA l s:=⟨_,rfl⟩
 rw[←hR]
 have HR:=Lib.hid hR
 have HS:=Lib.hid hs
 simp only[yw]
 clear hb hR hs
 repeat' first|simp(disch:=omega)only[go_sem]|((with_reducible refine ab ?_ ?_)<;>intro h<;>try first|omega|simp(disch:=omega)only[go_sem, *])
 refine ai (λp:Nat=>⟨[(0,.c (.pure (b6 l))),(1,S s),(5,I p)], [],0,0⟩) (λp=>p≤l.length∧Hid (∀x∈l.take p,cH x s=true)) (λp=>l.length-p) ⟨0, [],⟨by omega,Lib.hid (by simp)⟩,by simp⟩ ?_
 rintro p ⟨hp,HD⟩
 refine aa ?_
 have F:bV 1 (l.map λs=> [pS s]):=aG λ_=>rfl
 have G:bV 1 ((l.map λs=> [pS s]).take p):=by rw[←List.map_take];exact aG λ_=>rfl
 have X:bV 1 ((l.map λs=> [pS s]).drop p):=by rw[←List.map_drop];exact aG λ_=>rfl
 have T:(l.map λs=> [pS s]).take l.length=l.map λs=> [pS s]:=List.take_of_length_le (by simp)
 have fin:gA l s=l.take p++s::l.drop p→Hid ((l.map λs=> [pS s]).take p++ [[pS s]]++(l.map λs=> [pS s]).drop p=R.map λs=> [pS s]):= λh=>Lib.hid (by
  rw[HR.out,h,←List.map_take,←List.map_drop]
  simp)
 by_cases o:p<l.length
 ·have g1:=ac (f:= λs:ByteArray=> [pS s]) o
  by_cases h1:cH l[p] s=true
  ·have HD':=Lib.hid (Nj HS.out o h1)
   have J:Op.bytesLess l[p].toList s.toList=true:=h1
   clear fin HD HR HS h1
   repeat' first|simp(disch:=omega)only[go_sem,g1,wrap_i64,J]|((with_reducible refine ab ?_ ?_)<;>intro h<;>try first|omega|simp(disch:=omega)only[go_sem, *,g1,wrap_i64,J])
   exact⟨p+1, [],⟨by omega,HD'⟩,by omega,by simp⟩
  ·have J:Op.bytesLess l[p].toList s.toList=false:=by simpa[cH]using h1
   by_cases h2:l[p]=s
   ·have e:R=l:=by rw[HR.out,gA,if_pos (h2▸List.getElem_mem o)]
    subst e
    have hL:Op.bytesLess s.toList s.toList=false:=by rw[h2]at J;exact J
    clear fin HD HR HS h1
    repeat' first|simp(disch:=omega)only[go_sem,g1,wrap_i64,h2,hL,aj,decide_true]|((with_reducible refine ab ?_ ?_)<;>intro h<;>try first|omega|simp(disch:=omega)only[go_sem, *,g1,wrap_i64,h2,hL,aj,decide_true])
   ·have hn:s∉l:= λhm=>by
     rw[←List.take_append_drop p l]at hm
     rcases List.mem_append.1 hm with hm|hm
     ·exact FP HD.out hm
     ·rw[List.drop_eq_getElem_cons o]at hm
      rcases List.mem_cons.1 hm with e|hm
      ·exact h2 e.symm
      ·obtain⟨j,hj,e⟩:=List.mem_iff_getElem.1 hm
       rw[List.getElem_drop]at e
       have:=List.pairwise_iff_getElem.1 HS.out p (p+1+j) o (by rw[List.length_drop]at hj;omega) (by omega)
       rw[e]at this
       exact h1 this
    have h3:cH s l[p]=true:=by
     rcases Ge l[p] s with h|h|h
     ·exact absurd h h1
     ·exact absurd h h2
     ·exact h
    have h4: ∀x∈l.drop p,cH s x=true:= λx hx=>by
     obtain⟨j,hj,e⟩:=List.mem_iff_getElem.1 hx
     rw[List.getElem_drop]at e
     rw[List.length_drop]at hj
     by_cases hM:j=0
     ·subst hM
      rw[←e]
      exact h3
     ·have:=List.pairwise_iff_getElem.1 HS.out p (p+j) o (by omega) (by omega)
      rw[e]at this
      exact m6 h3 this
    have HF:=fin (LD HS.out hn h4 HD.out)
    have hN:((l.map λs=> [pS s]).take p).length≤1000000:=by simp;omega
    have hQ:((l.map λs=> [pS s]).drop p).length≤1000000:=by simp;omega
    clear fin HD HR HS h1 hn h3 h4
    repeat' first|simp(disch:=omega)only[go_sem,wrap_i64,g1,J,h2,aj,decide_false,F,T,Option.getD_none,Option.getD_some,Option.isSome_none,false_and,Int.toNat_zero,List.drop_zero]|((with_reducible refine ab ?_ ?_)<;>intro h<;>try first|omega|simp(disch:=omega)only[go_sem, *,wrap_i64,g1,J,h2,aj,decide_false,F,T,Option.getD_none,Option.getD_some,Option.isSome_none,false_and,Int.toNat_zero,List.drop_zero])|apply au|(with_reducible refine az (λh=> ?_) ?_)|refine G3 G (by omega) (by omega) ?_|refine aF rfl (by intro h;cases h) (ak rfl) (by simp;omega) (by simp;omega) ?_|refine aF rfl (by intro h;cases h) X (by simp;omega) (by simp;omega) ?_
    all_goals rw[HF.out]
 ·have Z:p=l.length:=by omega
  have hn:s∉l:= λhm=>FP (s:=s) HD.out (by rw[Z,List.take_of_length_le (Nat.le_refl _)];exact hm)
  have HF:=fin (LD HS.out hn (by rw[Z];simp) HD.out)
  have hN:((l.map λs=> [pS s]).take p).length≤1000000:=by simp;omega
  have hQ:((l.map λs=> [pS s]).drop p).length≤1000000:=by simp;omega
  clear fin HD HR HS hn Z
  repeat' first|simp(disch:=omega)only[go_sem,wrap_i64,F,T,Option.getD_none,Option.getD_some,Option.isSome_none,false_and,Int.toNat_zero,List.drop_zero]|((with_reducible refine ab ?_ ?_)<;>intro h<;>try first|omega|simp(disch:=omega)only[go_sem, *,wrap_i64,F,T,Option.getD_none,Option.getD_some,Option.isSome_none,false_and,Int.toNat_zero,List.drop_zero])|apply au|(with_reducible refine az (λh=> ?_) ?_)|refine G3 G (by omega) (by omega) ?_|refine aF rfl (by intro h;cases h) (ak rfl) (by simp;omega) (by simp;omega) ?_|refine aF rfl (by intro h;cases h) X (by simp;omega) (by simp;omega) ?_
  all_goals rw[HF.out]
def fI (l:List Ix):List ByteArray:=(l.map (·.2.1)).filter λs=>decide (s≠mC)
theorem Ps {l:List Ex} {k:Nat} (h:k<l.length):ld (l.drop k)=(if l[k].op=3 then [l[k].name]else [])++(fI l[k].idx++ld (l.drop (k+1))):=by
 rw[List.drop_eq_getElem_cons h,ld,List.flatMap_cons,SA,List.append_assoc]
 rfl
theorem zi {l:List Ix} {j:Nat} (h:j<l.length) (hn:l[j].2.1≠mC):fI (l.drop j)=l[j].2.1::fI (l.drop (j+1)):=by
 rw[List.drop_eq_getElem_cons h,fI,List.map_cons,List.filter_cons,if_pos (by simpa using hn)]
 rfl
theorem F7 {l:List Ix} {j:Nat} (h:j<l.length) (hn:l[j].2.1=mC):fI (l.drop j)=fI (l.drop (j+1)):=by
 rw[List.drop_eq_getElem_cons h,fI,List.map_cons,List.filter_cons,if_neg (by simp[hn])]
 rfl
theorem Fz {e:Ex} {l:List ByteArray} (hl:l.length≤1000000000):bb Ya uC [.c (.ref 2)] [(2,.arr 9 1 (bJ l)),(1,.var [.ref 2]),(0,tL e)] 3 (.c (.ref 3)) [(3,.arr 9 1 (bJ (vn (wB l)))),(1,.var [.ref 2]),(0,tL e)] 4:=by
 refine bb.of C3 (by simp) λ_=>aa ?_
 simp only[uU]
 repeat' first|simp(disch:=omega)only[go_sem]|((with_reducible refine ab ?_ ?_)<;>intro h<;>try first|omega|simp(disch:=omega)only[go_sem, *])|refine aU (TU rfl (by omega)) ?_|refine aU (NQ rfl) ?_
 all_goals rfl
set_option maxHeartbeats 1000000 in
theorem D3 {e:Ex} (hl:(ld e.pre).length≤1000000000) (hx: ∀a∈e.pre,a.idx.length≤1000):af Ya xh [gc e] (iA (vn (wB (ld e.pre)))):=by
 refine af.of ER (by simp) λhb=>aa ?_
 obtain⟨R,hR⟩: ∃R,R= []++ld (e.pre.drop 0):=⟨_,rfl⟩
 have H:ld e.pre=R:=hR.symm
 rw[H]at hl ⊢
 have HR:=Lib.hid hR
 simp only[yy]
 clear hb hR H
 repeat' first|simp(disch:=omega)only[go_sem]|((with_reducible refine ab ?_ ?_)<;>intro h<;>try first|omega|simp(disch:=omega)only[go_sem, *])|refine ae (gx e) rfl (.inr rfl) ?_
 refine jn 1 0 9 1 _ rfl rfl (by decide) ?_
 refine ji 2 [(3,.c (.ptr 1 0))] (λk (acc:List ByteArray)=>([(2,.arr 9 1 (bJ acc)),(1,.var [.ref 2]),(0,tL e)],3)) (λk acc=>Hid (R=acc++ld (e.pre.drop k))) rfl rfl rfl (gp e) ?_ ⟨by simp,by simp⟩ (by simp[j8,kf,du,cz,dM,rn,yv,c9,ba,dk,dh,bC,dn,cG,aD,am,kW,j9,dl]) ⟨[], [],HR,by simp⟩ ?_ ?_
 ·intro x hx
  obtain⟨a,_,rfl⟩:=List.mem_map.1 hx
  rfl
 ·intro k x acc hA hk
  obtain⟨a,ha,rfl⟩: ∃a,e.pre[k]? =some a∧ [gc a]=x:=by
   rw[List.getElem?_map]at hA
   exact Option.map_eq_some_iff.1 hA
  obtain⟨o,rfl⟩:=List.getElem?_eq_some_iff.1 ha
  have hd:=hk.out
  rw[Ps o]at hd
  have hH:=hx _ (List.getElem_mem o)
  clear hA ha hk HR hx
  obtain⟨rest,u⟩: ∃r,r=ld (e.pre.drop (k+1)):=⟨_,rfl⟩
  rw[←u]at hd
  have HQ:=Lib.hid u
  clear u
  generalize e.pre[k]=a at*
  have hT:acc.length≤1000000000:=by
   rw[hd]at hl
   simp at hl
   omega
  by_cases h3:a.op=3
  ·rw[if_pos h3]at hd
   have HD0:Hid (R=(acc++ [a.name])++(fI (a.idx.drop 0)++rest)):=Lib.hid (by rw[hd];simp)
   clear hd
   repeat' first|simp(disch:=omega)only[go_sem,h3]|((with_reducible refine ab ?_ ?_)<;>intro h<;>try first|omega|simp(disch:=omega)only[go_sem, *,h3])|refine aF rfl (by intro h;cases h) (ak rfl) (by simp;omega) (by simp;omega) ?_
   refine ai (λx:Nat×List ByteArray=>⟨[(3,.c (.ptr 1 0)),(19,bZ dN a.idx),(20,I a.idx.length),(21,I x.1)], [(2,.arr 9 1 (bJ x.2)),(1,.var [.ref 2]),(0,tL e)],3,2⟩) (λx=>x.1≤a.idx.length∧Hid (R=x.2++(fI (a.idx.drop x.1)++rest))) (λx=>a.idx.length-x.1) ⟨(0,acc++ [a.name]), [(2,4)],⟨Nat.zero_le _,HD0⟩,by simp⟩ ?_
   rintro⟨j,acc2⟩ ⟨hj,y⟩
   simp only at hj y
   refine aa ?_
   have g:=y.out
   clear y HD0
   by_cases q:j<a.idx.length
   ·have g2:=ac (f:=dN) q
    have hE:acc2.length≤1000000000:=by
     rw[g]at hl
     simp at hl
     omega
    by_cases hn:a.idx[j].2.1=mC
    ·rw[F7 q hn]at g
     have HD:=Lib.hid g
     clear g hl
     repeat' first|simp(disch:=omega)only[go_sem,g2,dN,aj,hn,decide_true,wrap_i64]|((with_reducible refine ab ?_ ?_)<;>intro h<;>try first|omega|simp(disch:=omega)only[go_sem, *,g2,dN,aj,hn,decide_true,wrap_i64])
     exact⟨(j+1,acc2), [],⟨q,HD⟩,by show _-_<_-_;omega,by simp⟩
    ·rw[zi q hn]at g
     have HD:Hid (R=(acc2++ [a.idx[j].2.1])++(fI (a.idx.drop (j+1))++rest)):=Lib.hid (by rw[g];simp)
     clear g hl
     repeat' first|simp(disch:=omega)only[go_sem,g2,dN,aj,hn,decide_false,wrap_i64]|((with_reducible refine ab ?_ ?_)<;>intro h<;>try first|omega|simp(disch:=omega)only[go_sem, *,g2,dN,aj,hn,decide_false,wrap_i64])|refine aF rfl (by intro h;cases h) (ak rfl) (by simp;omega) (by simp;omega) ?_
     exact⟨(j+1,acc2++ [a.idx[j].2.1]), [(2,4)],⟨q,HD⟩,by show _-_<_-_;omega,by simp⟩
   ·rw[show fI (a.idx.drop j)= [] by rw[List.drop_of_length_le (by omega)];rfl,List.nil_append]at g
    rw[HQ.out]at g
    have HD:=Lib.hid g
    clear g hl
    repeat' first|simp(disch:=omega)only[go_sem]|((with_reducible refine ab ?_ ?_)<;>intro h<;>try first|omega|simp(disch:=omega)only[go_sem, *])
    exact⟨acc2, [],HD,by simp⟩
  ·rw[if_neg h3,List.nil_append]at hd
   have HD0:Hid (R=acc++(fI (a.idx.drop 0)++rest)):=Lib.hid hd
   clear hd
   repeat' first|simp(disch:=omega)only[go_sem,h3]|((with_reducible refine ab ?_ ?_)<;>intro h<;>try first|omega|simp(disch:=omega)only[go_sem, *,h3])
   refine ai (λx:Nat×List ByteArray=>⟨[(3,.c (.ptr 1 0)),(19,bZ dN a.idx),(20,I a.idx.length),(21,I x.1)], [(2,.arr 9 1 (bJ x.2)),(1,.var [.ref 2]),(0,tL e)],3,2⟩) (λx=>x.1≤a.idx.length∧Hid (R=x.2++(fI (a.idx.drop x.1)++rest))) (λx=>a.idx.length-x.1) ⟨(0,acc), [],⟨Nat.zero_le _,HD0⟩,by simp⟩ ?_
   rintro⟨j,acc2⟩ ⟨hj,y⟩
   simp only at hj y
   refine aa ?_
   have g:=y.out
   clear y HD0
   by_cases q:j<a.idx.length
   ·have g2:=ac (f:=dN) q
    have hE:acc2.length≤1000000000:=by
     rw[g]at hl
     simp at hl
     omega
    by_cases hn:a.idx[j].2.1=mC
    ·rw[F7 q hn]at g
     have HD:=Lib.hid g
     clear g hl
     repeat' first|simp(disch:=omega)only[go_sem,g2,dN,aj,hn,decide_true,wrap_i64]|((with_reducible refine ab ?_ ?_)<;>intro h<;>try first|omega|simp(disch:=omega)only[go_sem, *,g2,dN,aj,hn,decide_true,wrap_i64])
     exact⟨(j+1,acc2), [],⟨q,HD⟩,by show _-_<_-_;omega,by simp⟩
    ·rw[zi q hn]at g
     have HD:Hid (R=(acc2++ [a.idx[j].2.1])++(fI (a.idx.drop (j+1))++rest)):=Lib.hid (by rw[g];simp)
     clear g hl
     repeat' first|simp(disch:=omega)only[go_sem,g2,dN,aj,hn,decide_false,wrap_i64]|((with_reducible refine ab ?_ ?_)<;>intro h<;>try first|omega|simp(disch:=omega)only[go_sem, *,g2,dN,aj,hn,decide_false,wrap_i64])|refine aF rfl (by intro h;cases h) (ak rfl) (by simp;omega) (by simp;omega) ?_
     exact⟨(j+1,acc2++ [a.idx[j].2.1]), [(2,4)],⟨q,HD⟩,by show _-_<_-_;omega,by simp⟩
   ·rw[show fI (a.idx.drop j)= [] by rw[List.drop_of_length_le (by omega)];rfl,List.nil_append]at g
    rw[HQ.out]at g
    have HD:=Lib.hid g
    clear g hl
    repeat' first|simp(disch:=omega)only[go_sem]|((with_reducible refine ab ?_ ?_)<;>intro h<;>try first|omega|simp(disch:=omega)only[go_sem, *])
    exact⟨acc2, [],HD,by simp⟩
 ·intro acc hk
  have hd:=hk.out
  rw[List.length_map,List.drop_of_length_le (Nat.le_refl _)]at hd
  simp only[ld,List.flatMap_nil,List.append_nil]at hd
  subst hd
  clear hk HR hx
  repeat' first|simp(disch:=omega)only[go_sem]|((with_reducible refine ab ?_ ?_)<;>intro h<;>try first|omega|simp(disch:=omega)only[go_sem, *])|refine aU (Fz hl) ?_
set_option maxHeartbeats 1000000 in
theorem Bm {e:Ex} (hz:e.sz≤100000) (hl:(ld e.pre).length≤1000000) (hx: ∀a∈e.pre,a.idx.length≤1000):af Ya uG [gc e] (iA (ff (ld e.pre))):=by
 refine af.of C8 (by simp) λhb=>aa ?_
 have cA:=ns e hz
 have hF:e.pre.length≤100000:=by rw[Ex.pre_length];exact hz
 obtain⟨R,hR⟩: ∃R,R=(ld (e.pre.drop 0)).foldl gA []:=⟨_,rfl⟩
 have H:ff (ld e.pre)=R:=hR.symm
 rw[H]
 have HR:=Lib.hid hR
 simp only[vl]
 clear hb hR H hz
 generalize Q:e.pre=pre at*
 clear Q
 repeat' first|simp(disch:=omega)only[go_sem]|((with_reducible refine ab ?_ ?_)<;>intro h<;>try first|omega|simp(disch:=omega)only[go_sem, *])|refine ae cA rfl (.inr rfl) ?_
 refine QY 3 rfl ?_
 refine ai (λx:Nat×List ByteArray=>⟨[(3,iA x.2),(4,EU pre),(5,I x.1)], [],0,0⟩) (λx=>x.1≤pre.length∧yc x.2∧x.2.length+(ld (pre.drop x.1)).length≤1000000∧Hid (R=(ld (pre.drop x.1)).foldl gA x.2)) (λx=>pre.length-x.1) ⟨(0, []), [],⟨Nat.zero_le _,List.Pairwise.nil,by simpa using hl,HR⟩,by simp⟩ ?_
 clear HR cA
 rintro⟨k,S1⟩ ⟨hk,P,M,hr⟩
 simp only at hk P M hr
 refine aa ?_
 have hd:=hr.out
 clear hr hl
 by_cases o:k<pre.length
 ·have g1:=ac (f:=Ex.row) o
  rw[Ex.row_eq]at g1
  have hH:=hx _ (List.getElem_mem o)
  rw[Ps o]at hd M
  obtain⟨rest,u⟩: ∃r,r=ld (pre.drop (k+1)):=⟨_,rfl⟩
  rw[←u]at hd M
  have HQ:=Lib.hid u
  clear u hx
  by_cases h3:pre[k].op=3
  ·rw[if_pos h3,List.singleton_append,List.foldl_cons]at hd
   rw[if_pos h3,List.singleton_append,List.length_cons,List.length_append]at M
   have hi:=w5 (a:=S1) (s:=pre[k].name)
   have w:(gA S1 pre[k].name).length+((fI (pre[k].idx.drop 0)).length+rest.length)≤1000000:=by rw[List.drop_zero];omega
   have cW:=mj (s:=pre[k].name) P (by omega)
   have z:=Lib.hid (y0 (s:=pre[k].name) P)
   have HD0:Hid (R=(fI (pre[k].idx.drop 0)++rest).foldl gA (gA S1 pre[k].name)):=Lib.hid (by rw[List.drop_zero];exact hd)
   clear hd M P hi
   repeat' first|simp(disch:=omega)only[go_sem,g1,h3]|((with_reducible refine ab ?_ ?_)<;>intro h<;>try first|omega|simp(disch:=omega)only[go_sem, *,g1,h3])|refine ae cW rfl (.inr rfl) ?_
   clear h3 cW
   refine ai (λx:Nat×List ByteArray=>⟨[(3,iA x.2),(4,EU pre),(5,I k),(6,I x.1)], [],0,0⟩) (λx=>x.1≤pre[k].idx.length∧yc x.2∧x.2.length+((fI (pre[k].idx.drop x.1)).length+rest.length)≤1000000∧Hid (R=(fI (pre[k].idx.drop x.1)++rest).foldl gA x.2)) (λx=>pre[k].idx.length-x.1) ⟨(0,gA S1 pre[k].name), [],⟨Nat.zero_le _,z.out,w,HD0⟩,by simp⟩ ?_
   clear w z
   rintro⟨j,S2⟩ ⟨hj,z,w,y⟩
   simp only at hj z w y
   refine aa ?_
   have g:=y.out
   clear y HD0
   by_cases q:j<pre[k].idx.length
   ·have g2:=ac (f:=dN) q
    by_cases hn:pre[k].idx[j].2.1=mC
    ·rw[F7 q hn]at g
     have E:S2.length+((fI (pre[k].idx.drop (j+1))).length+rest.length)≤1000000:=by rw[F7 q hn]at w;exact w
     have HD:=Lib.hid g
     clear g w
     repeat' first|simp(disch:=omega)only[go_sem,g1,g2,dN,aj,hn,decide_true,wrap_i64]|((with_reducible refine ab ?_ ?_)<;>intro h<;>try first|omega|simp(disch:=omega)only[go_sem, *,g1,g2,dN,aj,hn,decide_true,wrap_i64])
     exact⟨(j+1,S2), [],⟨q,z,E,HD⟩,by show _-_<_-_;omega,by simp⟩
    ·rw[zi q hn,List.cons_append,List.foldl_cons]at g
     have hi:=w5 (a:=S2) (s:=pre[k].idx[j].2.1)
     have E:(gA S2 pre[k].idx[j].2.1).length+((fI (pre[k].idx.drop (j+1))).length+rest.length)≤1000000:=by rw[zi q hn,List.length_cons]at w;omega
     have cW:=mj (s:=pre[k].idx[j].2.1) z (by omega)
     have hB:=Lib.hid (y0 (s:=pre[k].idx[j].2.1) z)
     have HD:=Lib.hid g
     clear g w z
     repeat' first|simp(disch:=omega)only[go_sem,g1,g2,dN,aj,hn,decide_false,wrap_i64]|((with_reducible refine ab ?_ ?_)<;>intro h<;>try first|omega|simp(disch:=omega)only[go_sem, *,g1,g2,dN,aj,hn,decide_false,wrap_i64])|refine ae cW rfl (.inr rfl) ?_
     exact⟨(j+1,gA S2 pre[k].idx[j].2.1), [],⟨q,hB.out,E,HD⟩,by show _-_<_-_;omega,by simp⟩
   ·rw[show fI (pre[k].idx.drop j)= [] by rw[List.drop_of_length_le (by omega)];rfl,List.nil_append,HQ.out]at g
    have E:S2.length+(ld (pre.drop (k+1))).length≤1000000:=by rw[←HQ.out];omega
    have HD:=Lib.hid g
    clear g w
    repeat' first|simp(disch:=omega)only[go_sem,g1,wrap_i64]|((with_reducible refine ab ?_ ?_)<;>intro h<;>try first|omega|simp(disch:=omega)only[go_sem, *,g1,wrap_i64])
    exact⟨(k+1,S2), [],⟨o,z,E,HD⟩,by show _-_<_-_;omega,by simp⟩
  ·rw[if_neg h3,List.nil_append]at hd
   rw[if_neg h3,List.nil_append,List.length_append]at M
   have w:S1.length+((fI (pre[k].idx.drop 0)).length+rest.length)≤1000000:=by rw[List.drop_zero];omega
   have HD0:Hid (R=(fI (pre[k].idx.drop 0)++rest).foldl gA S1):=Lib.hid (by rw[List.drop_zero];exact hd)
   clear hd M
   repeat' first|simp(disch:=omega)only[go_sem,g1,h3]|((with_reducible refine ab ?_ ?_)<;>intro h<;>try first|omega|simp(disch:=omega)only[go_sem, *,g1,h3])
   clear h3
   refine ai (λx:Nat×List ByteArray=>⟨[(3,iA x.2),(4,EU pre),(5,I k),(6,I x.1)], [],0,0⟩) (λx=>x.1≤pre[k].idx.length∧yc x.2∧x.2.length+((fI (pre[k].idx.drop x.1)).length+rest.length)≤1000000∧Hid (R=(fI (pre[k].idx.drop x.1)++rest).foldl gA x.2)) (λx=>pre[k].idx.length-x.1) ⟨(0,S1), [],⟨Nat.zero_le _,P,w,HD0⟩,by simp⟩ ?_
   clear w P
   rintro⟨j,S2⟩ ⟨hj,z,w,y⟩
   simp only at hj z w y
   refine aa ?_
   have g:=y.out
   clear y HD0
   by_cases q:j<pre[k].idx.length
   ·have g2:=ac (f:=dN) q
    by_cases hn:pre[k].idx[j].2.1=mC
    ·rw[F7 q hn]at g
     have E:S2.length+((fI (pre[k].idx.drop (j+1))).length+rest.length)≤1000000:=by rw[F7 q hn]at w;exact w
     have HD:=Lib.hid g
     clear g w
     repeat' first|simp(disch:=omega)only[go_sem,g1,g2,dN,aj,hn,decide_true,wrap_i64]|((with_reducible refine ab ?_ ?_)<;>intro h<;>try first|omega|simp(disch:=omega)only[go_sem, *,g1,g2,dN,aj,hn,decide_true,wrap_i64])
     exact⟨(j+1,S2), [],⟨q,z,E,HD⟩,by show _-_<_-_;omega,by simp⟩
    ·rw[zi q hn,List.cons_append,List.foldl_cons]at g
     have hi:=w5 (a:=S2) (s:=pre[k].idx[j].2.1)
     have E:(gA S2 pre[k].idx[j].2.1).length+((fI (pre[k].idx.drop (j+1))).length+rest.length)≤1000000:=by rw[zi q hn,List.length_cons]at w;omega
     have cW:=mj (s:=pre[k].idx[j].2.1) z (by omega)
     have hB:=Lib.hid (y0 (s:=pre[k].idx[j].2.1) z)
     have HD:=Lib.hid g
     clear g w z
     repeat' first|simp(disch:=omega)only[go_sem,g1,g2,dN,aj,hn,decide_false,wrap_i64]|((with_reducible refine ab ?_ ?_)<;>intro h<;>try first|omega|simp(disch:=omega)only[go_sem, *,g1,g2,dN,aj,hn,decide_false,wrap_i64])|refine ae cW rfl (.inr rfl) ?_
     exact⟨(j+1,gA S2 pre[k].idx[j].2.1), [],⟨q,hB.out,E,HD⟩,by show _-_<_-_;omega,by simp⟩
   ·rw[show fI (pre[k].idx.drop j)= [] by rw[List.drop_of_length_le (by omega)];rfl,List.nil_append,HQ.out]at g
    have E:S2.length+(ld (pre.drop (k+1))).length≤1000000:=by rw[←HQ.out];omega
    have HD:=Lib.hid g
    clear g w
    repeat' first|simp(disch:=omega)only[go_sem,g1,wrap_i64]|((with_reducible refine ab ?_ ?_)<;>intro h<;>try first|omega|simp(disch:=omega)only[go_sem, *,g1,wrap_i64])
    exact⟨(k+1,S2), [],⟨o,z,E,HD⟩,by show _-_<_-_;omega,by simp⟩
 ·rw[List.drop_of_length_le (by omega)]at hd
  simp only[ld,List.flatMap_nil,List.foldl_nil]at hd
  subst hd
  clear hx
  repeat' first|simp(disch:=omega)only[go_sem]|((with_reducible refine ab ?_ ?_)<;>intro h<;>try first|omega|simp(disch:=omega)only[go_sem, *])
end Go.Proofs.YtjhkikmonejkjaaGreatDoor
