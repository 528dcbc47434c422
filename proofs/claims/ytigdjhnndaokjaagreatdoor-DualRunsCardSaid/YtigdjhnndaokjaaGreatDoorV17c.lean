import Derived.Test.YtigdjhnndaokjaaGreatDoorV14c
set_option linter.unusedVariables false
set_option linter.unusedSimpArgs false
set_option maxHeartbeats 4000000
set_option maxRecDepth 1000000
open Go.Proofs.Tryz renaming prog→Pa0
namespace Go.Proofs.YtigdjhnndaokjaaGreatDoor
open Go.Abs Go.RowKit
theorem wZ (l:List aG) (hl:l.length≤1000):ac Pa0 dA [.c (.pure (bQ l))] (.c (.pure (bQ l))):=by
 refine ac.of kr zR6 λhb=>aa ?_
 conv in fe=>cbv
 repeat' first|simp(disch:=omega)only[go_sem, *,zM6,List.drop_nil]|apply zA1<;>intro h<;>try omega|refine no a6 (aD λx=>rfl) zR8 zR8 ?_
 cases l with
 |nil=>rfl
 |cons m r=>exact absurd (h _ zC5) (by simp[mP])
theorem nb (l:iB) (hl:l.2.length≤1000):ac Pa0 jU [iK l.1 l.2] (iK l.1 l.2):=by
 refine ac.of An zR6 λhb=>aa ?_
 conv in py=>cbv
 repeat' first|simp(disch:=omega)only[go_sem, *]|apply zA1<;>intro h<;>try omega|refine dH (wZ l.2 hl) ?_
theorem xg (ls:List iB) (hn:ls.length≤1000) (hl: ∀l∈ls,l.2.length≤1000):ac Pa0 iZ [qH ls] (qH ls):=by
 refine ac.of zo zR6 λhb=>aa ?_
 conv in og=>cbv
 repeat' first|simp(disch:=omega)only[go_sem, *]|apply ab<;>intro h<;>try omega
 refine dc 3 62 2 rfl zR9 ?_
 refine al (λk:Nat=>⟨[(8,I k),(7,I ls.length),(6,qH ls),(3,.c (.ref 0))], [(0,.arr 62 2 ((ls.take k).map bT))],1,0⟩) (λk=>k≤ls.length) (λk=>ls.length-k) ⟨0, [],by omega,by simp⟩ ?_
 intro k hk
 refine aa ?_
 by_cases o:k<ls.length
 ·have hc:=nb ls[k] (hl _ (zA6 o))
  have ht:(ls.take k).map bT++ [bT ls[k]]=(ls.take (k+1)).map bT:=by rw[zB5 o,zC8];rfl
  simp only[bT]at ht
  have HT:=Lib.hid ht
  clear ht hl
  repeat' first|simp(disch:=omega)only[go_sem, *,ae o,bT,wrap_i64]|apply ab<;>intro h<;>try omega|refine dH hc ?_|refine aP rfl zS0 (aE rfl) zR8 zR8 ?_
  rw[HT.out]
  exact⟨k+1, [(0,2)],by omega,by omega,by simp⟩
 ·repeat' first|simp(disch:=omega)only[go_sem, *]|apply ab<;>intro h<;>try omega
  rw[zB6 zR5]
theorem xh (d:lH) (s:ByteArray):ac Pa0 ew [NC d,.c (.cptr [pS s])] (Go.Abs.B (uM (d.name=s))):=by
 refine ac.of zK zR6 λhb=>aa ?_
 conv in oq=>cbv
 repeat' first|simp(disch:=omega)only[go_sem, *,eK]|apply ab<;>intro h<;>try omega
 all_goals(refine BC ?_;clear hb;simp only[Bool.not_eq_true',H6,Hw,reduceCtorEq,false_iff,true_iff,not_exists,not_and,Classical.not_not,decide_eq_true_iff,decide_eq_false_iff_not];first|done|grind [])
theorem tc (s:ByteArray) (xs:List lH):ac Pa0 dn [bF bU xs,.c (.clo ew [.cptr [pS s]])] (I (oz (λd=>d.name=s) xs)):=by
 refine ac.of i6 zR6 λhb=>aa ?_
 have hl:=Js hb
 conv in eM=>cbv
 repeat' first|simp(disch:=omega)only[go_sem, *]|apply ab<;>intro h<;>try omega
 refine al (λk:Nat=>⟨[(0,bF bU xs),(1,.c (.clo ew [.cptr [pS s]])),(7,I xs.length),(8,I k)], [],0,0⟩) (λk=>k≤xs.length∧ct (λj=> ∀h:j<xs.length,¬xs[j].name=s) k) (λk=>xs.length-k) ⟨0, [],⟨by omega,.zero⟩,by simp⟩ ?_
 rintro k ⟨hk,g⟩
 refine aa ?_
 by_cases o:k<xs.length
 ·have HN:=Lib.hid λh=>yC (p:= λd:lH=>d.name=s) o h λj hj=>g j hj zR5
  have HA:=Lib.hid g
  clear g
  repeat' first|simp(disch:=omega)only[go_sem, *,ae o,bU,wrap_i64]|apply ab<;>intro h<;>try omega|refine ak (xh _ _) ?_
  ·rw[HN.out h]
  ·exact⟨k+1, [],⟨by omega,HA.out.succ λ_=>h⟩,by omega,by simp⟩
 ·have HN:=Lib.hid (qy (p:= λd:lH=>d.name=s) λj hj=>g j zR5 hj)
  clear g
  repeat' first|simp(disch:=omega)only[go_sem, *]|apply ab<;>intro h<;>try omega
  rw[HN.out]
theorem oB (p:bu) (s:ByteArray):ac Pa0 kF [fL p,S s] (I (oz (λd=>d.name=s) p.defs)):=by
 refine ac.of Cv zR6 λhb=>aa ?_
 conv in rr=>cbv
 repeat' first|simp(disch:=omega)only[go_sem, *]|apply ab<;>intro h<;>try omega|refine ak (tc s p.defs) ?_
abbrev Yw (x:Option (Ty×List iB)):AV:=match x with
 |some (t,l)=> .tup [Hl t,qH l,Go.Abs.B true]
 |none=> .tup [Hl jK,.c (.pure (.slice [])),Go.Abs.B false]
variable {p:bu}{s:ByteArray}{k:Nat}
theorem Fn (hk:k<p.params.length) (h:p.params[k].1=s) (hn: ∀j (hj:j<k),¬(p.params[j]' zR5).1=s):cY p s=some p.params[k].2:=by
 have:p.params.find? (λx=>decide (x.1=s))=some p.params[k]:=by
  rw[zM3]
  exact⟨by simpa using h,k,hk,rfl,λj hj=>by simpa using hn j hj⟩
 rw[cY,this]
theorem zP (h0: ∀j (hj:j<p.params.length),¬p.params[j].1=s) (hk:k<p.defs.length) (h:p.defs[k].name=s) (hn: ∀j (hj:j<k),¬(p.defs[j]' zR5).name=s):cY p s=some (p.defs[k].ty,p.defs[k].dims.map (·.2)):=by
 have e1:p.params.find? (λx=>decide (x.1=s))=none:=by
  rw[zK4]
  intro x hx
  obtain⟨j,hj,rfl⟩:=zC2.1 hx
  simpa using h0 j hj
 have e2:p.defs.find? (λd=>decide (d.name=s))=some p.defs[k]:=by
  rw[zM3]
  exact⟨by simpa using h,k,hk,rfl,λj hj=>by simpa using hn j hj⟩
 rw[cY,e1]
 simp only[e2]
theorem Cm (h0: ∀j (hj:j<p.params.length),¬p.params[j].1=s) (h1: ∀d∈p.defs,¬d.name=s):cY p s=none:=by
 have e1:p.params.find? (λx=>decide (x.1=s))=none:=by
  rw[zK4]
  intro x hx
  obtain⟨j,hj,rfl⟩:=zC2.1 hx
  simpa using h0 j hj
 have e2:p.defs.find? (λd=>decide (d.name=s))=none:=by
  rw[zK4]
  intro x hx
  simpa using h1 x hx
 rw[cY,e1]
 simp only[e2]
theorem lZ (hf:iD p) (s:ByteArray):ac Pa0 pX [fL p,S s] (Yw (cY p s)):=by
 refine ac.of Ii zR6 λhb=>aa ?_
 have hl:p.params.length≤9223372036854775807∧p.defs.length≤9223372036854775807:=by
  have:=hb.1
  simp[fB,om,f5]at this
  omega
 conv in yq=>cbv
 repeat' first|simp(disch:=omega)only[go_sem, *]|apply ab<;>intro h<;>try omega
 refine al (λk:Nat=>⟨[(16,I k),(15,I p.params.length),(14,bF ef p.params),(4,.c (.ptr 1 0)),(2,.c (.ptr 0 0)),(1,S s)], [(1,.var [.pure (pI 0),.pure (pI 0),.pure (pI 0),.pure (pI 0),.pure (pI 0)]),(0,dK p)],2,0⟩) (λk=>k≤p.params.length∧ct (λj=> ∀h:j<p.params.length,¬p.params[j].1=s) k) (λk=>p.params.length-k) ⟨0, [],⟨by omega,.zero⟩,by simp⟩ ?_
 rintro k ⟨hk,g⟩
 refine aa ?_
 by_cases o:k<p.params.length
 ·have A:=hf.1 _ (zA6 o)
  have G:=xg p.params[k].2.2 zR5 (λl hl=>by have:=A.2 l hl;omega)
  by_cases he:p.params[k].1=s
  ·have HN:=Lib.hid (Fn o he λj hj=>g j hj zR5)
   clear g hf A
   repeat' first|simp(disch:=omega)only[go_sem, *,ae o,ef,eK,he,decide_true,wrap_i64,]|apply zA1<;>intro h<;>try omega|refine dH G ?_
   all_goals(rw[HN.out])
  ·have HA:=Lib.hid g
   clear g hf A G
   repeat' first|simp(disch:=omega)only[go_sem, *,ae o,ef,eK,he,decide_false,wrap_i64]|apply ab<;>intro h<;>try omega
   exact⟨k+1, [],⟨by omega,HA.out.succ λ_=>he⟩,by omega,by simp⟩
 ·have h0: ∀j (hj:j<p.params.length),¬p.params[j].1=s:= λj hj=>g j zR5 hj
  rcases rc (λd:lH=>d.name=s) p.defs with⟨g1,g2⟩|⟨i,hi,g1,g2,g3⟩
  ·have HN:=Lib.hid (Cm h0 g2)
   clear g hf h0 g2
   have D:=oB p s
   rw[g1]at D
   clear g1
   repeat' first|simp(disch:=omega)only[go_sem, *]|apply ab<;>intro h<;>try omega|refine ak D ?_
   all_goals(rw[HN.out];try rfl)
  ·have A:=hf.2 _ (zA6 hi)
   have HN:=Lib.hid (zP h0 hi g2 g3)
   have D:=oB p s
   rw[g1]at D
   have HF:=Lib.hid A
   clear g hf h0 g1 g2 g3 A
   repeat' first|simp(disch:=omega)only[go_sem, *,ae hi,bU]|apply ab<;>intro h<;>try omega|refine ak D ?_
   refine dc 10 62 2 rfl zR9 ?_
   refine al (λk:Nat=>⟨[(42,I k),(41,I p.defs[i].dims.length),(40,bF gw p.defs[i].dims),(10,.c (.ref 2)),(9,I i),(4,.c (.ptr 1 0)),(2,.c (.ptr 0 0))], [(2,.arr 62 2 ((p.defs[i].dims.take k).map λa=>bT a.2)),(1,.var [.pure (pI 0),.pure (pI 0),.pure (pI 0),.pure (pI 0),.pure (pI 0)]),(0,dK p)],3,0⟩) (λk=>k≤p.defs[i].dims.length) (λk=>p.defs[i].dims.length-k) ⟨0, [],by omega,by simp⟩ ?_
   intro k hk
   refine aa ?_
   by_cases o:k<p.defs[i].dims.length
   ·have hc:=nb p.defs[i].dims[k].2 (by have:=HF.out.2.2.1 _ (zA6 o);omega)
    have hd:=HF.out.1
    have ht:(p.defs[i].dims.take k).map (λa:iF=>bT a.2)++ [bT p.defs[i].dims[k].2]=(p.defs[i].dims.take (k+1)).map λa=>bT a.2:=by rw[zB5 o,zC8];rfl
    simp only[bT]at ht
    have HT:=Lib.hid ht
    clear ht HF
    repeat' first|simp(disch:=omega)only[go_sem, *,ae hi,bU,ae o,gw,bT,wrap_i64]|apply ab<;>intro h<;>try omega|refine dH hc ?_|refine aP rfl zS0 (aE rfl) zR8 zR8 ?_
    rw[HT.out]
    exact⟨k+1, [(2,4)],by omega,by omega,by simp[bT]⟩
   ·repeat' first|simp(disch:=omega)only[go_sem, *,ae hi,bU]|apply ab<;>intro h<;>try omega
    rw[HN.out,zB6 zR5]
    simp[zL1,zH3]
theorem kL {d:lH} (h1:d.dims.length≤1000) (h2:d.red.length≤1000):ac Pa0 ic [NC d] (.c (.pure (bj (aR d)))):=by
 refine ac.of wX zR6 λhb=>aa ?_
 have hC:=MF d.dims d.red h1 h2
 have z:(d.dims++d.red).length≤2000:=by simp;omega
 have hi:aR d=(d.dims++d.red).map (·.1):=rfl
 generalize d.dims++d.red=ax at*
 rw[hi]
 clear hi
 conv in nc=>cbv
 repeat' first|simp(disch:=omega)only[go_sem, *]|apply ab<;>intro h<;>try omega|refine dH hC ?_
 refine dc 3 9 1 rfl zR9 ?_
 refine al (λk:Nat=>⟨[(13,I k),(12,I ax.length),(11,bF gw ax),(3,.c (.ref 1))], [(1,.arr 9 1 ((ax.take k).map λa=> [pS a.1])),(0,Fu d)],2,0⟩) (λk=>k≤ax.length) (λk=>ax.length-k) ⟨0, [],by omega,by simp⟩ ?_
 intro k hk
 refine aa ?_
 by_cases o:k<ax.length
 ·have ht:(ax.take k).map (λa:iF=> [pS a.1])++ [[pS ax[k].1]]=(ax.take (k+1)).map λa=> [pS a.1]:=by rw[zB5 o,zC8];rfl
  have HT:=Lib.hid ht
  clear ht hC
  repeat' first|simp(disch:=omega)only[go_sem, *,ae o,gw,wrap_i64]|apply ab<;>intro h<;>try omega|refine aP rfl zS0 (aE rfl) zR8 zR8 ?_
  rw[HT.out]
  exact⟨k+1, [(1,3)],by omega,by omega,by simp⟩
 ·repeat' first|simp(disch:=omega)only[go_sem, *]|apply ab<;>intro h<;>try omega
  rw[zB6 zR5]
  simp[zL1,zH3]
theorem Mk (a:Nat):ac Pa0 fk [.c (.pure (.slice [[pI a]]))] (I a):=by
 refine ac.of lw zR6 λhb=>aa ?_
 conv in il=>cbv
 repeat' first|simp(disch:=omega)only[go_sem, *,zB3,zB0]|apply ab<;>intro h<;>try omega
 refine al (λ_:Unit=>⟨[(4,I 1),(3,I a),(0,.c (.pure (.slice [[pI a]])))], [],0,0⟩) (λ_=>True) (λ_=>0) ⟨(), [],trivial,by simp⟩ ?_
 intro _ _
 refine aa ?_
 exact zW0
theorem KU (a b:Nat):ac Pa0 fk [.c (.pure (.slice [[pI a], [pI b]]))] (I (max a b:Nat)):=by
 refine ac.of lw zR6 λhb=>aa ?_
 conv in il=>cbv
 repeat' first|simp(disch:=omega)only[go_sem, *,zB3,zB0]|apply ab<;>intro h<;>try omega
 refine al (λk:Nat=>⟨[(4,I k),(3,I (if k=1 then a else max a b:Nat)),(0,.c (.pure (.slice [[pI a], [pI b]])))], [],0,0⟩) (λk=>k=1∨k=2) (λk=>2-k) ⟨1, [],.inl rfl,by simp⟩ ?_
 rintro k (rfl|rfl)
 ·refine aa ?_
  repeat' first|simp(disch:=omega)only[go_sem, *,wrap_i64,show Int.toNat 1=1 from rfl]|apply ab<;>intro h<;>try omega
  rw[show max (a:Int) (b:Int)=((max a b:Nat):Int) by omega]
  exact⟨2, [],.inr rfl,by omega,by simp⟩
 ·refine aa ?_
  exact zY1
theorem y5 {t:Ty} (n:Nat):ac Pa0 f8 [Hl t,.c (.pure (.slice [[pI n]]))] (I (if ¬cj t then 10 else if 6<n then 11 else 0)):=by
 refine ac.of oc zR6 λhb=>aa ?_
 conv in jG=>cbv
 repeat' first|simp(disch:=omega)only[go_sem, *]|apply ab<;>intro h<;>try omega|refine ak (bt t) ?_|refine ak (Mk n) ?_
 all_goals(repeat' split)<;>first|rfl|omega|simp_all
theorem zl {t:Ty} (n m:Nat):ac Pa0 f8 [Hl t,.c (.pure (.slice [[pI n], [pI m]]))] (I (if ¬cj t then 10 else if 6<n∨6<m then 11 else 0)):=by
 refine ac.of oc zR6 λhb=>aa ?_
 conv in jG=>cbv
 repeat' first|simp(disch:=omega)only[go_sem, *]|apply ab<;>intro h<;>try omega|refine ak (bt t) ?_|refine ak (KU n m) ?_
 all_goals(repeat' split)<;>first|rfl|omega|simp_all
theorem Gk (d:lH):ac Pa0 qA [NC d] (I (iI d)):=by
 refine ac.of IS zR6 λhb=>aa ?_
 conv in yP=>cbv
 repeat' first|simp(disch:=omega)only[go_sem, *]|apply ab<;>intro h<;>try omega
 all_goals(refine IE ?_;unfold iI;grind)
theorem CQ (p:bu):ac Pa0 lY [fL p] (Go.Abs.B (decide (p.sizes.length≤64∧p.params.length≤64∧p.defs.length≤64∧p.outs.length≤64∧p.wher.length≤256))):=by
 refine ac.of E4 zR6 λhb=>aa ?_
 conv in tn=>cbv
 repeat' first|simp(disch:=omega)only[go_sem, *]|apply ab<;>intro h<;>try omega
 all_goals(refine BD ?_;simp only[zQ4,reduceCtorEq,false_iff];omega)
set_option maxRecDepth 20000
set_option maxRecDepth 1000000
theorem jz (l:iB) (vars sizes:List ByteArray):ac Pa0 sF [iK l.1 l.2,.c (.pure (bj vars)),.c (.pure (bj sizes))] (Go.Abs.B (decide (j0 vars sizes l))):=by
 refine ac.of KF zR6 λhb=>aa ?_
 have hl:=vZ hb.1
 conv in Az=>cbv
 repeat' first|simp(disch:=omega)only[go_sem, *]|apply ab<;>intro h<;>try omega
 refine al (λk:Nat=>⟨[(7,I k),(3,.c (.ptr 0 0)),(2,.c (.pure (bj sizes))),(1,.c (.pure (bj vars)))], [(0,.var [.pure (pI l.1),.pure (bQ l.2)])],1,0⟩) (λk=>k≤l.2.length∧ct (λi=> ∀h:i<l.2.length,l.2[i].1∈vars∨l.2[i].1∈sizes) k) (λk=>l.2.length-k) ⟨0, [],⟨by omega,.zero⟩,by simp⟩ ?_
 rintro k ⟨hk,g⟩
 refine aa ?_
 by_cases o:k<l.2.length
 ·repeat' first|simp(disch:=omega)only[go_sem, *,ae o,mP,wrap_i64]|apply ab<;>intro h<;>try omega|refine ak (kI _ _) ?_
  ·exact⟨k+1, [],⟨by omega,g.succ λ_=> .inl h⟩,by omega,by simp⟩
  ·exact⟨k+1, [],⟨by omega,g.succ λ_=> .inr h⟩,by omega,by simp⟩
  ·refine BD ⟨λh=> zT0,λh'=> ?_⟩
   have:=h' _ (zA6 o)
   simp_all
 ·repeat' first|simp(disch:=omega)only[go_sem, *]|apply ab<;>intro h<;>try omega
  refine BD ⟨λ_ m hm=> ?_,λ_=>rfl⟩
  obtain⟨i,hi,rfl⟩:=zC2.1 hm
  exact g i zR5 hi
theorem wS (p:bu) (vars:List ByteArray) (ls:List iB):ac Pa0 rQ [fL p,.c (.pure (bj vars)),qH ls] (I (fT p vars ls)):=by
 refine ac.of Jp zR6 λhb=>aa ?_
 have hl:ls.length≤9223372036854775807:=by
  have:=hb.2.2.1
  simpa[fB,f5]using this
 conv in BE=>cbv
 repeat' first|simp(disch:=omega)only[go_sem, *]|apply ab<;>intro h<;>try omega
 refine al (λk:Nat=>⟨[(7,I k),(3,.c (.ptr 0 0)),(2,qH ls),(1,.c (.pure (bj vars)))], [(0,dK p)],1,0⟩) (λk=>k≤ls.length∧ct (λi=> ∀h:i<ls.length,j0 vars p.sizes ls[i]) k) (λk=>ls.length-k) ⟨0, [],⟨by omega,.zero⟩,by simp⟩ ?_
 rintro k ⟨hk,g⟩
 refine aa ?_
 by_cases o:k<ls.length
 ·repeat' first|simp(disch:=omega)only[go_sem, *,ae o,bT,wrap_i64]|apply ab<;>intro h<;>try omega|refine ak (jz _ _ _) ?_
  ·exact⟨k+1, [],⟨by omega,g.succ λ_=>h⟩,by omega,by simp⟩
  ·exact IE (if_neg λh'=>h (h' _ (zA6 o))).symm
 ·repeat' first|simp(disch:=omega)only[go_sem, *]|apply ab<;>intro h<;>try omega
  refine IE (if_pos λx hx=> ?_).symm
  obtain⟨i,hi,rfl⟩:=zC2.1 hx
  exact g i zR5 hi
theorem pR (hf:iD p) (s:ByteArray):ac Pa0 Dr [fL p,S s] (Yw (cY p s)):=by
 refine ac.of M4 zR6 λhb=>aa ?_
 have hl:p.params.length≤9223372036854775807∧p.defs.length≤9223372036854775807:=by
  have:=hb.1
  simp[fB,om,f5]at this
  omega
 simp only[Dc]
 repeat' first|simp(disch:=omega)only[go_sem, *]|apply ab<;>intro h<;>try omega
 refine al (λk:Nat=>⟨[(7,I k),(4,.c (.ptr 1 0)),(2,.c (.ptr 0 0)),(1,S s)], [(1,.var [.pure (pI 0),.pure (pI 0),.pure (pI 0),.pure (pI 0),.pure (pI 0)]),(0,dK p)],2,0⟩) (λk=>k≤p.params.length∧ct (λj=> ∀h:j<p.params.length,¬p.params[j].1=s) k) (λk=>p.params.length-k) ⟨0, [],⟨by omega,.zero⟩,by simp⟩ ?_
 rintro k ⟨hk,g⟩
 refine aa ?_
 by_cases o:k<p.params.length
 ·by_cases he:p.params[k].1=s
  ·have HN:=Lib.hid (Fn o he λj hj=>g j hj zR5)
   clear g hf
   repeat' first|simp(disch:=omega)only[go_sem, *,ae o,ef,eK,he,decide_true,wrap_i64,]|apply zA1<;>intro h<;>try omega
   all_goals(rw[HN.out];try rfl)
  ·have HA:=Lib.hid g
   clear g hf
   repeat' first|simp(disch:=omega)only[go_sem, *,ae o,ef,eK,he,decide_false,wrap_i64]|apply ab<;>intro h<;>try omega
   exact⟨k+1, [],⟨by omega,HA.out.succ λ_=>he⟩,by omega,by simp⟩
 ·have h0: ∀j (hj:j<p.params.length),¬p.params[j].1=s:= λj hj=>g j zR5 hj
  have H0:=Lib.hid h0
  clear g h0
  repeat' first|simp(disch:=omega)only[go_sem, *]|apply ab<;>intro h<;>try omega
  refine al (λk:Nat=>⟨[(8,I k),(4,.c (.ptr 1 0)),(2,.c (.ptr 0 0)),(1,S s)], [(1,.var [.pure (pI 0),.pure (pI 0),.pure (pI 0),.pure (pI 0),.pure (pI 0)]),(0,dK p)],2,0⟩) (λk=>k≤p.defs.length∧ct (λj=> ∀h:j<p.defs.length,¬p.defs[j].name=s) k) (λk=>p.defs.length-k) ⟨0, [],⟨by omega,.zero⟩,by simp⟩ ?_
  rintro i ⟨hk,g⟩
  refine aa ?_
  by_cases hi:i<p.defs.length
  ·by_cases he:p.defs[i].name=s
   ·have HN:=Lib.hid (zP H0.out hi he λj hj=>g j hj zR5)
    have HF:=Lib.hid (hf.2 _ (zA6 hi))
    clear g hf
    repeat' first|simp(disch:=omega)only[go_sem, *,ae hi,bU,eK,he,decide_true,wrap_i64]|apply ab<;>intro h<;>try omega
    refine dc 9 62 2 rfl zR9 ?_
    refine al (λk:Nat=>⟨[(10,I k),(9,.c (.ref 2)),(8,I i),(4,.c (.ptr 1 0)),(2,.c (.ptr 0 0))], [(2,.arr 62 2 ((p.defs[i].dims.take k).map λa=>bT a.2)),(1,.var [.pure (pI 0),.pure (pI 0),.pure (pI 0),.pure (pI 0),.pure (pI 0)]),(0,dK p)],3,0⟩) (λk=>k≤p.defs[i].dims.length) (λk=>p.defs[i].dims.length-k) ⟨0, [],by omega,by simp⟩ ?_
    intro k hk
    refine aa ?_
    by_cases o:k<p.defs[i].dims.length
    ·have hd:=HF.out.1
     have ht:(p.defs[i].dims.take k).map (λa:iF=>bT a.2)++ [bT p.defs[i].dims[k].2]=(p.defs[i].dims.take (k+1)).map λa=>bT a.2:=by rw[zB5 o,zC8];rfl
     simp only[bT]at ht
     have HT:=Lib.hid ht
     clear ht HF
     repeat' first|simp(disch:=omega)only[go_sem, *,ae hi,bU,ae o,gw,bT,wrap_i64]|apply ab<;>intro h<;>try omega|refine aP rfl zS0 (aE rfl) zR8 zR8 ?_
     rw[HT.out]
     exact⟨k+1, [(2,3)],by omega,by omega,by simp[bT]⟩
    ·repeat' first|simp(disch:=omega)only[go_sem, *,ae hi,bU]|apply ab<;>intro h<;>try omega
     rw[HN.out,zB6 zR5]
     simp[zL1,zH3]
   ·have HA:=Lib.hid g
    clear g hf
    repeat' first|simp(disch:=omega)only[go_sem, *,ae hi,bU,eK,he,decide_false,wrap_i64]|apply ab<;>intro h<;>try omega
    exact⟨i+1, [],⟨by omega,HA.out.succ λ_=>he⟩,by omega,by simp⟩
  ·have HN:=Lib.hid (Cm H0.out λd hd=>by
    obtain⟨j,hj,rfl⟩:=zC2.1 hd
    exact g j zR5 hj)
   clear g hf
   repeat' first|simp(disch:=omega)only[go_sem, *]|apply ab<;>intro h<;>try omega
   rw[HN.out]
   try rfl
set_option maxRecDepth 20000
set_option maxRecDepth 1000000
abbrev bTy (t:Ty):bP:= .var [.pure (pI t.1),.pure (pI t.2.1),.pure (pI t.2.2.1),.pure (pI t.2.2.2.1),.pure (pI t.2.2.2.2)]
abbrev SQ (x:Ty×Int):AV:= .tup [Hl x.1,I x.2]
theorem oS {vars:List ByteArray} {l:iB}:fT p vars [l]=if j0 vars p.sizes l then 0 else 9:=by
 unfold fT
 simp only[zG1,forall_eq]
variable {l:List Ix}{f:Ix→Int}
theorem OF (h:k<l.length) (hf:dz ((l.map f).take k)=0) (hz:f l[k]=0):dz ((l.map f).take (k+1))=0:=by
 rw[jL zS9 hf,zJ2,hz]
theorem PB (h:k<l.length) (hf:dz ((l.map f).take k)=0) (hz:f l[k]≠0):dz (l.map f)=f l[k]:=by
 have:=qk (l:=l.map f) (k:=k) zS9 hf (by simpa using hz)
 rw[this,zJ2]
section
variable {p : bu} {vars : List ByteArray} {e : Ex} {t : Ty} {dims : List iB}
theorem Mj (h:cY p e.name=none):m6 p vars e=(jK,9):=by unfold m6;rw[h]
theorem OW (h:cY p e.name=some (t,dims)) (hl: ¬e.idx.length=dims.length):m6 p vars e=(jK,11):=by
 unfold m6
 rw[h]
 exact if_pos hl
theorem Pg (h:cY p e.name=some (t,dims)) (hl:e.idx.length=dims.length) {x:Int} (he:dz (e.idx.map (jj p vars))=x) (hx:x≠0):m6 p vars e=(jK,x):=by
 unfold m6
 rw[h]
 simp only[he]
 rw[if_neg (zA5 hl),if_pos hx]
theorem Tf (h:cY p e.name=some (t,dims)) (hl:e.idx.length=dims.length) (he:dz (e.idx.map (jj p vars))=0):m6 p vars e=(t,0):=by
 unfold m6
 rw[h]
 simp only[he]
 rw[if_neg (zA5 hl),if_neg zR6]
variable {x:Ix}
theorem Pn (h:x.2.1=⟨⟨[]⟩⟩):jj p vars x=if j0 vars p.sizes x.1 then 0 else 9:=by
 unfold jj
 rw[if_pos h,oS]
theorem Jz (h: ¬x.2.1=⟨⟨[]⟩⟩) (hf:cY p x.2.1=none):jj p vars x=9:=by
 unfold jj
 rw[if_neg h,hf]
theorem JK (h: ¬x.2.1=⟨⟨[]⟩⟩) (hf:cY p x.2.1=some (t,dims)):jj p vars x=if t.1≠3 then 10 else if x.2.2.length≠dims.length then 11 else fT p vars x.2.2:=by
 unfold jj
 rw[if_neg h,hf]
end
theorem MS (hf:iD p) (vars:List ByteArray) (e:Ex):ac Pa0 ve [fL p,.c (.pure (bj vars)),fp e] (SQ (m6 p vars e)):=by
 refine ac.of M7 zR6 λhb=>aa ?_
 have hl:=(dq hb.2.2).2
 conv in Dx=>cbv
 have hF:=pR hf e.name
 cases w:cY p e.name with
 |none=>
  rw[w]at hF
  rw[Mj w]
  clear w
  repeat' first|simp(disch:=omega)only[go_sem, *]|apply ab<;>intro h<;>try omega|refine dH hF ?_
  rfl
 |some r=>
  obtain⟨t,dims⟩:=r
  rw[w]at hF
  by_cases z:e.idx.length=dims.length
  ·have y:(dims.length:Int)=e.idx.length:=by omega
   have HF:=Lib.hid w
   have HL:=Lib.hid z
   clear z w
   repeat' first|simp(disch:=omega)only[go_sem, *,y]|apply ab<;>intro h<;>try omega|refine dH hF ?_
   refine al (λk:Nat=>⟨[(11,I k),(8,.c (.ptr 3 0)),(6,.c (.ptr 2 0)),(5,.c (.ptr 1 0)),(3,.c (.ptr 0 0)),(1,.c (.pure (bj vars)))], [(3,bTy t),(2,bTy jK),(1,zO e),(0,dK p)],4,0⟩) (λk=>k≤e.idx.length∧Hid (dz ((e.idx.map (jj p vars)).take k)=0)) (λk=>e.idx.length-k) ⟨0, [],⟨by omega,by show _=_;simp[dz]⟩,by simp[jK]⟩ ?_
   clear hF y
   rintro k ⟨hk,g⟩
   refine aa ?_
   by_cases o:k<e.idx.length
   ·have q: ∀x,jj p vars e.idx[k]=x→x≠0→m6 p vars e=(jK,x):= λx h1 h2=>Pg HF.out HL.out ((PB o g.out (by rw[h1];exact h2)).trans h1) h2
    have v:jj p vars e.idx[k]=0→Hid (dz ((e.idx.map (jj p vars)).take (k+1))=0):= λh=>OF o g.out h
    clear HF HL g
    by_cases u:e.idx[k].2.1=⟨⟨[]⟩⟩
    ·have hE:=Pn (p:=p) (vars:=vars) u
     by_cases E:j0 vars p.sizes e.idx[k].1
     ·rw[if_pos E]at hE
      have HN:=v hE
      clear q v hE
      repeat' first|simp(disch:=omega)only[go_sem, *,ae o,gS,wrap_i64,u,E,decide_true]|apply ab<;>intro h<;>try omega|refine ak (jz _ _ _) ?_
      exact⟨k+1, [],⟨by omega,HN⟩,by omega,by simp[jK]⟩
     ·rw[if_neg E]at hE
      have hS:=q _ hE zR5
      rw[hS]
      clear q v hE hS
      repeat' first|simp(disch:=omega)only[go_sem, *,ae o,gS,wrap_i64,u,E,decide_false]|apply ab<;>intro h<;>try omega|refine ak (jz _ _ _) ?_
      try rfl
    ·have hF:=pR hf e.idx[k].2.1
     cases C:cY p e.idx[k].2.1 with
     |none=>
      have hS:=q _ (Jz u C) zR5
      rw[hS]
      rw[C]at hF
      clear q v hS C
      repeat' first|simp(disch:=omega)only[go_sem, *,ae o,gS,wrap_i64,u]|apply ab<;>intro h<;>try omega|refine dH hF ?_
      try rfl
     |some r=>
      obtain⟨t',d'⟩:=r
      have hE:=JK (vars:=vars) u C
      rw[C]at hF
      clear C
      by_cases ht:t'.1=3
      ·rw[if_neg (zA5 ht)]at hE
       by_cases hd:e.idx[k].2.2.length=d'.length
       ·rw[if_neg (zA5 hd)]at hE
        have F:(d'.length:Int)=e.idx[k].2.2.length:=by omega
        have H:=wS p vars e.idx[k].2.2
        clear hd
        by_cases hz:fT p vars e.idx[k].2.2=0
        ·have HN:=v (hE.trans hz)
         clear q v hE
         repeat' first|simp(disch:=omega)only[go_sem, *,ae o,gS,wrap_i64,u,ht,F,hz]|apply ab<;>intro h<;>try omega|refine dH hF ?_|refine ak H ?_
         exact⟨k+1, [],⟨by omega,HN⟩,by omega,by simp[jK]⟩
        ·have hS:=q _ hE hz
         rw[hS]
         clear q v hE hS
         repeat' first|simp(disch:=omega)only[go_sem, *,ae o,gS,wrap_i64,u,ht,F,hz]|apply ab<;>intro h<;>try omega|refine dH hF ?_|refine ak H ?_
         try rfl
       ·rw[if_pos hd]at hE
        have hS:=q _ hE zR5
        have F: ¬(d'.length:Int)=e.idx[k].2.2.length:=by omega
        rw[hS]
        clear q v hE hS hd
        repeat' first|simp(disch:=omega)only[go_sem, *,ae o,gS,wrap_i64,u,ht,F]|apply ab<;>intro h<;>try omega|refine dH hF ?_
        try rfl
      ·rw[if_pos ht]at hE
       have hS:=q _ hE zR5
       rw[hS]
       clear q v hE hS
       repeat' first|simp(disch:=omega)only[go_sem, *,ae o,gS,wrap_i64,u,ht]|apply ab<;>intro h<;>try omega|refine dH hF ?_
       try rfl
   ·have hz:=g.out
    rw[zB6 zR8]at hz
    rw[Tf HF.out HL.out hz]
    clear HF HL g hz
    exact zW0
  ·have y: ¬(dims.length:Int)=e.idx.length:=by omega
   rw[OW w z]
   clear z w
   repeat' first|simp(disch:=omega)only[go_sem, *,y]|apply ab<;>intro h<;>try omega|refine dH hF ?_
   try rfl
end Go.Proofs.YtigdjhnndaokjaaGreatDoor
