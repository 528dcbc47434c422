import Derived.Test.YtigdjhnndaokjaaGreatDoorV14d
import Derived.Test.YtigdjhnndaokjaaGreatDoorV17e
set_option linter.unusedVariables false
set_option linter.unusedSimpArgs false
set_option maxHeartbeats 4000000
set_option maxRecDepth 1000000
open Go.Proofs.Tryz renaming prog→Pa0
namespace Go.Proofs.YtigdjhnndaokjaaGreatDoor
open Go.Abs Go.RowKit
abbrev TT (p:bu) (K:KL):AV:= .c (.cptr [bj p.sizes,dp cP p.wher,dp ef p.params,dp bU p.defs,bj p.outs,.fmap .str none (Kb K)])
abbrev X5 (p:bu) (m:Nat):bP:= .var [.pure (bj p.sizes),.pure (dp cP p.wher),.pure (dp ef p.params),.pure (dp bU p.defs),.pure (bj p.outs),.mref m]
abbrev mK (K:KL):bP:= .map .str none (lA K)
variable {p:bu}{K:KL}
theorem rW {mem:List (Nat×bP)} {c m:Nat} {rest rest':List AV} (h2:ar mem c=some (X5 p m)) (h1:ar mem m=some (mK K)) (hr:bk mem rest=some rest'):bk mem (.c (.ptr c 0)::rest)=some (TT p K::rest'):=by
 simp[bk,cK,c8,cQ,h2,bz,dh,co,h1,VF,hr]
theorem fy (rl:List (Nat×Nat)): ∀K:KL,List.map (λx:MK×List AC=>(x.1,List.map (c7 rl) x.2)) (lA K)=lA K
 | []=>rfl
 |x::r=>by
  have ih:=fy rl r
  simp only[lA,zB8]at ih ⊢
  rw[ih]
  rfl
theorem lr (N:Nat): ∀K:KL,Xl N (lA K)
 | []=>trivial
 |x::r=>⟨⟨trivial,trivial⟩,lr N r⟩
theorem Uf (N:Nat):Xl N []:=trivial
def Kn (p:bu) (vars:List ByteArray) (K:KL):Prop:= ∀s,xi K s≠0↔s∈vars∨s∈p.sizes
variable {vars:List ByteArray}
theorem gl (hK:Kn p vars K) (l:iB):ac Pa0 ig [TT p K,iK l.1 l.2] (I (fT p vars [l])):=by
 refine ac.of xb zR6 λhb=>aa ?_
 have hl:=vZ hb.2.1
 rw[oS]
 conv in nr=>cbv
 repeat' first|simp(disch:=omega)only[go_sem, *]|apply ab<;>intro h<;>try omega
 refine al (λk:Nat=>⟨[(10,I k),(9,I l.2.length),(8,.c (.pure (bQ l.2))),(0,TT p K)], [],0,0⟩) (λk=>k≤l.2.length∧ct (λi=> ∀h:i<l.2.length,l.2[i].1∈vars∨l.2[i].1∈p.sizes) k) (λk=>l.2.length-k) ⟨0, [],⟨by omega,.zero⟩,by simp⟩ ?_
 rintro k ⟨hk,f⟩
 refine aa ?_
 by_cases n:k<l.2.length
 ·have hm:=vI l.2[k].1 K
  rw[←LX]at hm
  have q:=hK l.2[k].1
  cases hL:lh K l.2[k].1 with
  |none=>
   rw[hL]at hm
   rw[qM hL]at q
   rw[if_neg (show ¬j0 vars p.sizes l from λh=>(q.2 (h _ (zA6 n))) rfl)]
   clear hL q f
   exact yC7
  |some j=>
   rw[hL]at hm
   rw[kj hL]at q
   clear hL
   by_cases hj:j=0
   ·rw[if_neg (show ¬j0 vars p.sizes l from λh=>(q.2 (h _ (zA6 n))) hj)]
    clear q f
    exact yC4
   ·have HA:=Lib.hid (f.succ λ_=>q.1 hj)
    clear q f
    repeat' first|simp(disch:=omega)only[go_sem, *,ae n,mP,wrap_i64,hm,zE1,hj]|apply ab<;>intro h<;>try omega
    exact⟨k+1, [],⟨by omega,HA.out⟩,by omega,by simp⟩
 ·have q:j0 vars p.sizes l:= λm hm=>by
   obtain⟨i,hi,rfl⟩:=zC2.1 hm
   exact f i zR5 hi
  rw[if_pos q]
  clear f q
  exact zW0
theorem tO (hf:iD p) (hK:Kn p vars K) (x:Ix):ac Pa0 gK [TT p K,aIx x] (I (jj p vars x)):=by
 refine ac.of uW zR6 λhb=>aa ?_
 have hl:x.2.2.length≤9223372036854775807:=by
  have:=hb.2.1
  simp[fB,om,f5]at this
  omega
 have cF:=gl hK x.1
 conv in lC=>cbv
 by_cases u:x.2.1=⟨⟨[]⟩⟩
 ·rw[Pn u]
  rw[oS]at cF
  repeat' first|simp(disch:=omega)only[go_sem, *,u]|apply ab<;>intro h<;>try omega|refine ak cF ?_
 ·clear cF
  have hF:=lZ hf x.2.1
  cases M:cY p x.2.1 with
  |none=>
   rw[Jz u M]
   rw[M]at hF
   clear M
   repeat' first|simp(disch:=omega)only[go_sem, *,u]|apply ab<;>intro h<;>try omega|refine dH hF ?_
  |some r=>
   obtain⟨t,d⟩:=r
   rw[JK u M]
   rw[M]at hF
   clear M
   by_cases ht:t.1=3
   ·rw[if_neg (zA5 ht)]
    by_cases hd:x.2.2.length=d.length
    ·rw[if_neg (zA5 hd)]
     have Q:(x.2.2.length:Int)=d.length:=by omega
     clear hd
     repeat' first|simp(disch:=omega)only[go_sem, *,u,ht,Q]|apply ab<;>intro h<;>try omega|refine dH hF ?_
     refine al (λk:Nat=>⟨[(46,I k),(45,I x.2.2.length),(44,qH x.2.2),(0,TT p K)], [],0,0⟩) (λk=>k≤x.2.2.length∧ct (λi=> ∀h:i<x.2.2.length,j0 vars p.sizes x.2.2[i]) k) (λk=>x.2.2.length-k) ⟨0, [],⟨by omega,.zero⟩,by rw[Q];simp⟩ ?_
     clear Q hF ht u
     rintro k ⟨hk,f⟩
     refine aa ?_
     by_cases n:k<x.2.2.length
     ·have cF:=gl hK x.2.2[k]
      rw[oS]at cF
      by_cases q:j0 vars p.sizes x.2.2[k]
      ·rw[if_pos q]at cF
       have HA:=Lib.hid (f.succ λ_=>q)
       clear f q
       repeat' first|simp(disch:=omega)only[go_sem, *,ae n,bT,wrap_i64]|apply ab<;>intro h<;>try omega|refine ak cF ?_
       exact⟨k+1, [],⟨by omega,HA.out⟩,by omega,by simp⟩
      ·rw[if_neg q]at cF
       have hR:fT p vars x.2.2=9:=if_neg λh=>q (h _ (zA6 n))
       rw[hR]
       clear f q hR
       repeat' first|simp(disch:=omega)only[go_sem, *,ae n,bT,wrap_i64]|apply ab<;>intro h<;>try omega|refine ak cF ?_
     ·have hR:fT p vars x.2.2=0:=if_pos λl hm=>by
       obtain⟨i,hi,rfl⟩:=zC2.1 hm
       exact f i zR5 hi
      rw[hR]
      clear f hR
      exact zW0
    ·rw[if_pos hd]
     have Q: ¬(x.2.2.length:Int)=d.length:=by omega
     clear hd
     repeat' first|simp(disch:=omega)only[go_sem, *,u,ht,Q]|apply ab<;>intro h<;>try omega|refine dH hF ?_
   ·rw[if_pos ht]
    repeat' first|simp(disch:=omega)only[go_sem, *,u,ht]|apply ab<;>intro h<;>try omega|refine dH hF ?_
theorem vu (hf:iD p) (hK:Kn p vars K) (e:Ex):ac Pa0 gW [TT p K,fp e] (SQ (m6 p vars e)):=by
 refine ac.of xc zR6 λhb=>aa ?_
 have hl:=(dq hb.2).2
 conv in nj=>cbv
 have hF:=lZ hf e.name
 cases w:cY p e.name with
 |none=>
  rw[w]at hF
  rw[Mj w]
  clear w
  repeat' first|simp(disch:=omega)only[go_sem, *]|apply ab<;>intro h<;>try omega|refine dH hF ?_
  try rfl
 |some r=>
  obtain⟨t,dims⟩:=r
  rw[w]at hF
  by_cases J:e.idx.length=dims.length
  ·have F:(dims.length:Int)=e.idx.length:=by omega
   have HF:=Lib.hid w
   have HL:=Lib.hid J
   clear J w
   repeat' first|simp(disch:=omega)only[go_sem, *,F]|apply ab<;>intro h<;>try omega|refine dH hF ?_
   refine al (λk:Nat=>⟨[(36,I k),(35,I e.idx.length),(34,.c (.pure (dp gS e.idx))),(6,.c (.ptr 2 0)),(4,.c (.ptr 1 0)),(0,TT p K)], [(2,bTy t),(1,bTy jK),(0,zO e)],3,0⟩) (λk=>k≤e.idx.length∧Hid (dz ((e.idx.map (jj p vars)).take k)=0)) (λk=>e.idx.length-k) ⟨0, [],⟨by omega,by show _=_;simp[dz]⟩,by simp[jK]⟩ ?_
   clear hF F
   rintro k ⟨hk,f⟩
   refine aa ?_
   by_cases n:k<e.idx.length
   ·have cI:=tO hf hK e.idx[k]
    by_cases hz:jj p vars e.idx[k]=0
    ·have HN:Hid (dz ((e.idx.map (jj p vars)).take (k+1))=0):=OF n f.out hz
     clear HF HL f
     repeat' first|simp(disch:=omega)only[go_sem, *,ae n,gS,wrap_i64,hz]|apply ab<;>intro h<;>try omega|refine ak cI ?_
     exact⟨k+1, [],⟨by omega,HN⟩,by omega,by simp[jK]⟩
    ·rw[Pg HF.out HL.out (PB n f.out hz) hz]
     clear HF HL f
     repeat' first|simp(disch:=omega)only[go_sem, *,ae n,gS,wrap_i64,hz]|apply ab<;>intro h<;>try omega|refine ak cI ?_
     try rfl
   ·have hz:=f.out
    rw[zB6 zR8]at hz
    rw[Tf HF.out HL.out hz]
    clear HF HL f hz
    exact zW0
  ·have F: ¬(dims.length:Int)=e.idx.length:=by omega
   rw[OW w J]
   clear J w
   repeat' first|simp(disch:=omega)only[go_sem, *,F]|apply ab<;>intro h<;>try omega|refine dH hF ?_
   try rfl
theorem pq (a:Ty):ac Pa0 fj [Hl a,Hl a] (I 0):=by
 refine ac.of lG zR6 λhb=>aa ?_
 conv in gY=>cbv
 exact zW0
theorem nC {a b:Ty} (h: ¬a=b):ac Pa0 fj [Hl a,Hl b] (I 10):=by
 refine ac.of lG zR6 λhb=>aa ?_
 conv in gY=>cbv
 have HN:=Lib.hid h
 clear h
 repeat' first|simp(disch:=omega)only[go_sem, *]|apply ab<;>intro h<;>try omega
 all_goals first
  |exact absurd (yK h) HN.out
  |rfl
set_option maxRecDepth 20000
set_option maxRecDepth 1000000
theorem zG (hf:iD p) (hK:Kn p vars K) (e:Ex):jY e→ac Pa0 jJ [TT p K,fp e] (SQ (fC p vars e)):=by
 refine Ex.ind (p:= λe=>jY e→ac Pa0 jJ [TT p K,fp e] (SQ (fC p vars e))) (λe ih hr=> ?_) e
 refine ac.of Ai zR6 λhb=>aa ?_
 have hl:=(dq hb.2).1
 obtain⟨ha,W,X,_⟩:=np hr
 have hG:e.args.length≤3:=by rcases C0 W X with h|h|h|h|h|h<;>omega
 have HA:=Lib.hid ha
 clear ha
 simp only[qi]
 repeat' first|simp(disch:=omega)only[go_sem, *]|apply ab<;>intro h<;>try omega
 refine dc 6 58 5 rfl zR9 ?_
 refine al (λs:Nat×List Ty=>⟨[(15,I s.1),(14,I e.args.length),(13,.c (.pure (.slice (e.args.map Ex.row)))),(6,.c (.ref 2)),(4,.c (.ptr 1 0)),(3,.c (.ptr 0 0)),(0,TT p K)], [(2,.arr 58 5 (s.2.map tyP)),(1,bTy jK),(0,zO e)],3,0⟩) (λs=>s.1≤e.args.length∧Hid (eF p vars (e.args.take s.1)= .inr s.2)) (λs=>e.args.length-s.1) ⟨(0, []), [],⟨by omega,by show _=_;simp[eF]⟩,by simp[jK]⟩ ?_
 rintro⟨k,ts⟩ ⟨hk,f⟩
 refine aa ?_
 simp only at hk f
 by_cases n:k<e.args.length
 ·have Y:=ih _ (zA6 n) (ei hr (zA6 n))
  have y:ts.length=k:=by
   have:=ub f.out
   rw[this,zI2]
   omega
  by_cases h0:(fC p vars e.args[k]).2=0
  ·have hn:=Lh n f.out h0
   have HN:=Lib.hid hn
   clear ih hr f hn
   generalize fC p vars e.args[k]=r at*
   have ht:ts.map tyP++ [tyP r.1]=(ts++ [r.1]).map tyP:=by simp
   simp only[tyP]at ht
   have HT:=Lib.hid ht
   clear ht
   repeat' first|simp(disch:=omega)only[go_sem, *,ae n,Ex.row_eq,wrap_i64,h0]|apply ab<;>intro h<;>try omega|refine ak Y ?_|refine aP rfl zS0 (aE rfl) zR8 zR8 ?_
   rw[HT.out]
   exact⟨(k+1,ts++ [r.1]), [(2,5)],⟨by omega,HN⟩,by show _-_<_-_;omega,by simp⟩
  ·have hn:=JM n f.out h0
   have hR:fC p vars e=(jK,(fC p vars e.args[k]).2):=by conv=>lhs;rw[zT,hn]
   rw[hR]
   clear ih hr f hn hR
   generalize fC p vars e.args[k]=r at*
   repeat' first|simp(disch:=omega)only[go_sem, *,ae n,Ex.row_eq,wrap_i64,h0]|apply ab<;>intro h<;>try omega|refine ak Y ?_
   try rfl
 ·have v:=f.out
  rw[zB6 zR5]at v
  have y:=ub v
  have hR:fC p vars e=bh p vars e ts:=by conv=>lhs;rw[zT,v]
  have z:=vu hf hK e
  have C:=gl hK e.lin
  clear ih hr f v
  have v:=HA.out
  clear HA
  rcases C0 W X with⟨g|g|g,h2⟩|⟨g|g|g,h2⟩|⟨g,h2⟩|⟨g,h2⟩|⟨g,h2⟩|⟨g,h2⟩
  ·rw[hR.trans (show bh p vars e ts=(e.ty,0) by simp[bh,g])]
   clear hR y h2 v z C
   exact zY7
  ·rw[hR.trans (show bh p vars e ts=((3,0,0,0,0),fT p vars [e.lin]) by simp[bh,g])]
   clear hR y h2 v z
   repeat' first|simp(disch:=omega)only[go_sem, *,g]|apply ab<;>intro h<;>try omega|refine ak C ?_
  ·rw[hR.trans (show bh p vars e ts=m6 p vars e by simp[bh,g])]
   clear hR y h2 v C
   simp only[fp,g]at z
   repeat' first|simp(disch:=omega)only[go_sem, *,g]|apply ab<;>intro h<;>try omega|refine ak z ?_
  ·obtain⟨a,rfl⟩:=aeI (l:=ts) zR5
   rw[hR.trans (show bh p vars e [a]=(a,0) by simp[bh,g])]
   clear hR y h2 v z C
   exact yE5
  ·rw[hR.trans (show bh p vars e ts=(e.ty,0) by simp[bh,g])]
   clear hR y h2 v z C
   exact zY7
  ·rw[hR.trans (show bh p vars e ts=(jK,0) by simp[bh,g])]
   clear hR y h2 v z C
   repeat' first|simp(disch:=omega)only[go_sem, *,g]|apply ab<;>intro h<;>try omega
   try rfl
  ·obtain⟨a,b,c,rfl⟩:=ael (l:=ts) zR5
   by_cases A:b=c
   ·subst A
    rw[hR.trans (show bh p vars e [a,b,b]=(b,0) by simp[bh,g])]
    have cs:=pq b
    clear hR y h2 v z C
    exact zZ0
   ·rw[hR.trans (show bh p vars e [a,b,c]=(b,10) by simp[bh,g,A])]
    have cs:=nC A
    clear hR y h2 v z C A
    exact zZ0
  ·obtain⟨a,b,rfl⟩:=abe (l:=ts) zR5
   rcases g with g|g|g
   all_goals
    by_cases A:a=b
    ·subst A
     rw[hR.trans (show bh p vars e [a,a]=(jK,0) by simp[bh,g])]
     have cs:=pq a
     clear hR y h2 v z C
     repeat' first|simp(disch:=omega)only[go_sem, *,g,zB3,show Int.toNat 1=1 from rfl]|apply ab<;>intro h<;>try omega|refine ak cs ?_
     try rfl
    ·rw[hR.trans (show bh p vars e [a,b]=(jK,10) by simp[bh,g,A])]
     have cs:=nC A
     clear hR y h2 v z C A
     repeat' first|simp(disch:=omega)only[go_sem, *,g,zB3,show Int.toNat 1=1 from rfl]|apply ab<;>intro h<;>try omega|refine ak cs ?_
     try rfl
  ·rcases g with g|g
   all_goals
    rw[hR.trans (show bh p vars e ts=(jK,0) by simp[bh,g])]
    clear hR y h2 v z C
    repeat' first|simp(disch:=omega)only[go_sem, *,g]|apply ab<;>intro h<;>try omega
    try rfl
  ·obtain⟨a,b,rfl⟩:=abe (l:=ts) zR5
   have h3: ¬e.op=1∧ ¬e.op=2∧ ¬e.op=3∧ ¬e.op=12∧ ¬e.op=8∧ ¬e.op=11∧ ¬16≤e.op∧ ¬13≤e.op∧ ¬e.op=13∧ ¬e.op=14∧ ¬e.op=15∧ ¬e.op=16∧ ¬e.op=17∧ ¬e.op=18:=by omega
   obtain⟨g1,g2,g3,g4,g5,g6,g7,g8,g9,g10,g11,g12,g13,g14⟩:=h3
   clear g
   by_cases A:a=b
   ·subst A
    rw[hR.trans (show bh p vars e [a,a]=(a,0) by simp[bh,g1,g2,g3,g4,g5,g6,g7,g8])]
    have cs:=pq a
    clear hR y h2 v z C g7 g8
    exact zY6
   ·rw[hR.trans (show bh p vars e [a,b]=(a,10) by simp[bh,g1,g2,g3,g4,g5,g6,g7,g8,A])]
    have cs:=nC A
    clear hR y h2 v z C A g7 g8
    exact zY6
theorem adn (p:bu) (vars:List ByteArray):Kn p vars (na (na [] 1 p.sizes) 3 vars):= λs=>by
 rw[uq,uq,LK]
 by_cases h1:s∈vars
 ·simp[h1]
 ·by_cases h2:s∈p.sizes
  ·simp[h1,h2]
  ·simp[h1,h2]
theorem pN (hf:iD p) (vars:List ByteArray) {e:Ex} (hD: ∀a∈e.pre,bD a.val):ac Pa0 mf [fL p,.c (.pure (bj vars)),fp e] (SQ (be p vars e)):=by
 refine ac.of Eg zR6 λhb=>aa ?_
 have hl:vars.length≤9223372036854775807:=by
  have:=hb.2.1
  simp[fB,f5]at this
  omega
 have hI:p.sizes.length≤9223372036854775807:=by
  have:=hb.1
  simp[fB,om,f5]at this
  omega
 conv in tJ=>cbv
 have hv:=Fc hD
 by_cases h1:hO e=0
 ·by_cases h2:aM e.op
  ·have hR:be p vars e=(jK,10):=by unfold be;rw[if_neg (zA5 h1),if_pos h2]
   rw[hR]
   clear hR
   repeat' first|simp(disch:=omega)only[go_sem, *,h1,h2,decide_true]|apply ab<;>intro h<;>try omega|refine ak hv ?_|refine ak (gX e) ?_
   try rfl
  ·have cO:=zG hf (adn p vars) e (tL h1)
   have CO:=Lib.hid cO
   clear cO
   have hR: ∀x,(fC p vars e).2=x→x≠0→be p vars e=(jK,x):= λx hx h0=>by unfold be;rw[if_neg (zA5 h1),if_neg h2,hx,if_pos h0]
   have Z:(fC p vars e).2=0→be p vars e=((fC p vars e).1,0):= λh0=>by unfold be;rw[if_neg (zA5 h1),if_neg h2,if_neg (zA5 h0)]
   have HR:=Lib.hid hR
   have HR0:=Lib.hid Z
   clear hR Z
   repeat' first|simp(disch:=omega)only[go_sem, *,h1,h2,decide_false]|apply ab<;>intro h<;>try omega|refine ak hv ?_|refine ak (gX e) ?_
   refine al (λk:Nat=>⟨[(32,I k),(31,I p.sizes.length),(30,.c (.pure (bj p.sizes))),(9,.c (.ptr 4 0)),(6,.c (.ptr 2 0)),(5,.c (.ptr 1 0)),(1,.c (.pure (bj vars)))], [(4,X5 p 3),(3,.map .str none (lA (na [] 1 (p.sizes.take k)))),(2,bTy jK),(1,zO e),(0,dK p)],5,0⟩) (λk=>k≤p.sizes.length) (λk=>p.sizes.length-k) ⟨0, [],by omega,by simp[jK,na,lA,Uf]⟩ ?_
   clear h1 h2 hv
   intro k hk
   refine aa ?_
   by_cases n:k<p.sizes.length
   ·repeat' first|simp(disch:=omega)only[go_sem, *,ae n,wrap_i64,PZ,←Fo n]|apply ab<;>intro h<;>try omega
    exact⟨k+1, [],by omega,by omega,by simp[jK,fy,lr]⟩
   ·have V:k=p.sizes.length:=by omega
    subst V
    rw[zM8]
    repeat clear n
    repeat clear hk
    repeat' first|simp(disch:=omega)only[go_sem, *]|apply ab<;>intro h<;>try omega
    refine al (λk:Nat=>⟨[(44,I k),(43,I vars.length),(42,.c (.pure (bj vars))),(9,.c (.ptr 4 0)),(6,.c (.ptr 2 0)),(5,.c (.ptr 1 0))], [(4,X5 p 3),(3,.map .str none (lA (na (na [] 1 p.sizes) 3 (vars.take k)))),(2,bTy jK),(1,zO e),(0,dK p)],5,0⟩) (λk=>k≤vars.length) (λk=>vars.length-k) ⟨0, [],by omega,by simp[jK,na,fy,lr]⟩ ?_
    intro k hk
    refine aa ?_
    by_cases n:k<vars.length
    ·repeat' first|simp(disch:=omega)only[go_sem, *,ae n,wrap_i64,PZ,←Fo n]|apply ab<;>intro h<;>try omega
     exact⟨k+1, [],by omega,by omega,by simp[jK,fy,lr]⟩
    ·have V:k=vars.length:=by omega
     subst V
     rw[zM8]
     repeat clear n
     repeat clear hk
     repeat' first|simp(disch:=omega)only[go_sem, *]|apply ab<;>intro h<;>try omega
     refine ah CO.out (rW (m:=3) rfl rfl rfl) (.inl rfl) ?_
     by_cases h3:(fC p vars e).2=0
     ·rw[HR0.out h3]
      clear HR HR0 CO
      generalize fC p vars e=r at*
      repeat' first|simp(disch:=omega)only[go_sem, *,h3]|apply ab<;>intro h<;>try omega
     ·rw[HR.out _ rfl h3]
      clear HR HR0 CO
      generalize fC p vars e=r at*
      repeat' first|simp(disch:=omega)only[go_sem, *,h3]|apply ab<;>intro h<;>try omega
      try rfl
 ·have hR:be p vars e=(jK,hO e):=by unfold be;rw[if_pos h1]
  rw[hR]
  clear hR
  repeat' first|simp(disch:=omega)only[go_sem, *,h1]|apply ab<;>intro h<;>try omega|refine ak hv ?_
  try rfl
set_option maxRecDepth 20000
set_option maxRecDepth 1000000
def Kc (p:bu) (K:KL):Prop:= ∀s,xi K s=1↔s∈p.sizes
theorem eU (hK:Kc p K) (l:iB):ac Pa0 fX [TT p K,iK l.1 l.2] (I (bL p.sizes l)):=by
 refine ac.of sR zR6 λhb=>aa ?_
 have hl:=vZ hb.2.1
 unfold bL
 conv in kp=>cbv
 by_cases D:gN l.2
 ·rw[if_neg (zA5 D)]
  have cV:=cw l.1 l.2
  rw[if_pos D]at cV
  clear D
  repeat' first|simp(disch:=omega)only[go_sem, *]|apply ab<;>intro h<;>try omega|refine ak cV ?_
  refine al (λk:Nat=>⟨[(13,I k),(12,I l.2.length),(11,.c (.pure (bQ l.2))),(0,TT p K)], [],0,0⟩) (λk=>k≤l.2.length∧ct (λi=> ∀h:i<l.2.length,l.2[i].1∈p.sizes) k) (λk=>l.2.length-k) ⟨0, [],⟨by omega,.zero⟩,by simp⟩ ?_
  clear cV
  rintro k ⟨hk,f⟩
  refine aa ?_
  by_cases n:k<l.2.length
  ·have hm:=vI l.2[k].1 K
   rw[←LX]at hm
   have q:=hK l.2[k].1
   have R: ¬l.2[k].1∈p.sizes→ ¬j0 [] p.sizes l:= λh h2=>h ((h2 _ (zA6 n)).resolve_left zR6)
   cases hL:lh K l.2[k].1 with
   |none=>
    rw[hL]at hm
    rw[qM hL]at q
    rw[if_pos (R λh=>absurd (q.2 h) zR9)]
    clear hL q f R
    exact yC7
   |some j=>
    rw[hL]at hm
    rw[kj hL]at q
    clear hL
    by_cases hj:j=1
    ·have HA:=Lib.hid (f.succ λ_=>q.1 hj)
     clear q f R
     repeat' first|simp(disch:=omega)only[go_sem, *,ae n,mP,wrap_i64,hm,zE1,hj]|apply ab<;>intro h<;>try omega
     exact⟨k+1, [],⟨by omega,HA.out⟩,by omega,by simp⟩
    ·rw[if_pos (R λh=>hj (q.2 h))]
     clear q f R
     exact yC4
  ·have q:j0 [] p.sizes l:= λm hm=>by
    obtain⟨i,hi,rfl⟩:=zC2.1 hm
    exact .inr (f i zR5 hi)
   rw[if_neg (zA5 q)]
   clear f q
   exact zW0
 ·rw[if_pos D]
  have cV:=cw l.1 l.2
  rw[if_neg D]at cV
  clear D
  exact yD7
theorem lS (hK:Kc p K) (c:MZ):ac Pa0 ed [TT p K,W7 c] (I (bL p.sizes c.1)):=by
 refine ac.of nh zR6 λhb=>aa ?_
 have cV:=uk c
 have cS:=eU hK c.1
 conv in gD=>cbv
 by_cases D:gN c.1.2
 ·rw[if_pos D]at cV
  clear D
  generalize bL p.sizes c.1=r at*
  repeat' first|simp(disch:=omega)only[go_sem, *]|apply ab<;>intro h<;>try omega|refine ak cV ?_|refine ak cS ?_
 ·rw[if_neg D]at cV
  rw[show bL p.sizes c.1=1 from if_pos D]
  clear D
  exact yD7
def zA (o:List ByteArray):List (MK×List AC):=o.map λa=>(MK.str a.data.toList, [.pure (pB true)])
theorem Vr (s:ByteArray): ∀o:List ByteArray,iv (zA o) (.str s.data.toList)=if s∈o then some [.pure (pB true)]else none
 | []=>rfl
 |a::r=>by
  have ih:=Vr s r
  simp only[zA,zB8,iv]at ih ⊢
  by_cases h:a=s
  ·rw[if_pos (sm.2 h),if_pos (by rw[h];exact zC5)]
  ·rw[if_neg (λe=>h (sm.1 e)),ih]
   by_cases h2:s∈r
   ·rw[if_pos h2,if_pos (zC3 _ h2)]
   ·rw[if_neg h2,if_neg]
    intro hm
    rcases zD7.1 hm with rfl|hm
    ·exact h rfl
    ·exact h2 hm
theorem YX (s:ByteArray): ∀o:List ByteArray,¬s∈o→DS (zA o) (.str s.data.toList) [.pure (pB true)]=zA (o++ [s])
 | [],_=>rfl
 |a::r,h=>by
  have ih:=YX s r λhm=>h (zC3 _ hm)
  simp only[zA,zB8,DS,zD2]at ih ⊢
  rw[if_neg (λe=>h (by rw[←sm.1 e];exact zC5)),ih]
theorem Zu (rl:List (Nat×Nat)): ∀o:List ByteArray,List.map (λx:MK×List AC=>(x.1,List.map (c7 rl) x.2)) (zA o)=zA o
 | []=>rfl
 |x::r=>by
  have ih:=Zu rl r
  simp only[zA,zB8]at ih ⊢
  rw[ih]
  rfl
theorem acQ (N:Nat): ∀o:List ByteArray,Xl N (zA o)
 | []=>trivial
 |x::r=>⟨⟨trivial,trivial⟩,acQ N r⟩
variable {taken:List ByteArray}{s:ByteArray}
theorem TL (h: ¬oE s):aQ taken s=7:=if_pos h
theorem Kk (h:oE s) (h2:s∈taken):aQ taken s=8:=by unfold aQ;rw[if_neg (zA5 h),if_pos h2]
theorem T9 (h:oE s) (h2: ¬s∈taken):aQ taken s=0:=by unfold aQ;rw[if_neg (zA5 h),if_neg h2]
theorem rV (hK:Kc p K) (d:lH) (hA:d.dims.length≤1000) (hB:d.red.length≤1000):ac Pa0 gk [TT p K,NC d] (I (bE p.sizes p.sizes (d.dims++d.red))):=by
 refine ac.of uB zR6 λhb=>aa ?_
 have cC:=MF d.dims d.red hA hB
 have hJ:(d.dims++d.red).length≤2000:=by simp;omega
 conv in lc=>cbv
 generalize d.dims++d.red=L at*
 repeat' first|simp(disch:=omega)only[go_sem, *]|apply ab<;>intro h<;>try omega|refine dH cC ?_
 refine al (λk:Nat=>⟨[(17,I k),(16,I L.length),(15,bF gw L),(5,.c (.mref 1)),(0,TT p K)], [(1,.map .str none (zA ((L.take k).map (·.1)))),(0,Fu d)],2,0⟩) (λk=>k≤L.length∧Hid (bE p.sizes p.sizes (L.take k)=0)) (λk=>L.length-k) ⟨0, [],⟨by omega,by show _=_;simp[bE]⟩,by simp[zA,Uf]⟩ ?_
 clear cC hA hB
 rintro k ⟨hk,f⟩
 refine aa ?_
 by_cases n:k<L.length
 ·have G:= λh1=>xy (sizes:=p.sizes) n f.out h1
  have O:= λh1 h2=>xZ (sizes:=p.sizes) n f.out h1 h2
  have P:= λh1 h2=>Lib.hid (yF (sizes:=p.sizes) n f.out h1 h2)
  have cS:=eU hK L[k].2
  have q:=hK L[k].1
  have hm:=vI L[k].1 K
  rw[←LX]at hm
  have H:=Vr L[k].1 ((L.take k).map (·.1))
  have E:=YX L[k].1 ((L.take k).map (·.1))
  have hC:(L.take (k+1)).map (·.1)=(L.take k).map (·.1)++ [L[k].1]:=by rw[zB5 n,zC8];rfl
  rw[←hC]at E
  clear f hC
  by_cases hi:oE L[k].1
  ·by_cases ho:L[k].1∈(L.take k).map (·.1)
   ·rw[if_pos ho]at H
    have hE:=Kk (taken:=p.sizes++(L.take k).map (·.1)) hi (zE5 _ ho)
    rw[G (by rw[hE];decide),hE]
    clear G O P E q hm ho hE
    repeat' first|simp(disch:=omega)only[go_sem, *,ae n,gw,wrap_i64,hi,decide_true,H]|apply ab<;>intro h<;>try omega|refine ak (bB _) ?_
   ·rw[if_neg ho]at H
    have E:=E ho
    by_cases hs:L[k].1∈p.sizes
    ·have hE:=Kk (taken:=p.sizes++(L.take k).map (·.1)) hi (zF5 _ hs)
     have hg:=q.2 hs
     rw[G (by rw[hE];decide),hE]
     cases hL:lh K L[k].1 with
     |none=>
      rw[qM hL]at hg
      exact absurd hg zR9
     |some j=>
      rw[kj hL]at hg
      rw[hL,hg]at hm
      clear G O P E q ho hE hs hL hg
      repeat' first|simp(disch:=omega)only[go_sem, *,ae n,gw,wrap_i64,hi,decide_true,H,hm,zE1]|apply ab<;>intro h<;>try omega|refine ak (bB _) ?_
    ·have hE:aQ (p.sizes++(L.take k).map (·.1)) L[k].1=0:=T9 hi λh=>(zE7.1 h).elim hs ho
     have hg: ¬xi K L[k].1=1:= λh=>hs (q.1 h)
     have T:(iv (qI (Kb K)) (.str L[k].1.data.toList)=none)∨ ∃j,iv (qI (Kb K)) (.str L[k].1.data.toList)=some [.pure (pI j)]∧ ¬j=1:=by
      rw[hm]
      cases hL:lh K L[k].1 with
      |none=>exact .inl rfl
      |some j=>exact .inr ⟨j,rfl,λh=>hg ((kj hL).trans h)⟩
     by_cases h2:bL p.sizes L[k].2=0
     ·have HN:=P hE h2
      rw[h2]at cS
      clear G O P q ho hE hs hm hg h2
      rcases T with hm|⟨j,hm,hj⟩
      ·repeat' first|simp(disch:=omega)only[go_sem, *,ae n,gw,wrap_i64,hi,decide_true,H,hm,E]|apply ab<;>intro h<;>try omega|refine ak (bB _) ?_|refine ak cS ?_
       exact⟨k+1, [],⟨by omega,HN⟩,by omega,by simp[Zu,acQ]⟩
      ·repeat' first|simp(disch:=omega)only[go_sem, *,ae n,gw,wrap_i64,hi,decide_true,H,hm,E,hj]|apply ab<;>intro h<;>try omega|refine ak (bB _) ?_|refine ak cS ?_
       exact⟨k+1, [],⟨by omega,HN⟩,by omega,by simp[Zu,acQ]⟩
     ·rw[O hE h2]
      clear G O P q ho hE hs hm hg
      rcases T with hm|⟨j,hm,hj⟩
      ·repeat' first|simp(disch:=omega)only[go_sem, *,ae n,gw,wrap_i64,hi,decide_true,H,hm,E,h2]|apply ab<;>intro h<;>try omega|refine ak (bB _) ?_|refine ak cS ?_
      ·repeat' first|simp(disch:=omega)only[go_sem, *,ae n,gw,wrap_i64,hi,decide_true,H,hm,E,hj,h2]|apply ab<;>intro h<;>try omega|refine ak (bB _) ?_|refine ak cS ?_
  ·have hE:=TL (taken:=p.sizes++(L.take k).map (·.1)) hi
   rw[G (by rw[hE];decide),hE]
   clear G O P E q hm hE
   repeat' first|simp(disch:=omega)only[go_sem, *,ae n,gw,wrap_i64,hi,decide_false]|apply ab<;>intro h<;>try omega|refine ak (bB _) ?_
 ·have hz:=f.out
  rw[zB6 zR5]at hz
  rw[hz]
  clear hz f
  exact zW0
end Go.Proofs.YtigdjhnndaokjaaGreatDoor
