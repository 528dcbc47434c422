import Derived.Test.YtigdjhnndaokjaaGreatDoorV17e
set_option linter.unusedVariables false
set_option linter.unusedSimpArgs false
set_option maxHeartbeats 4000000
set_option maxRecDepth 1000000
open Go.Proofs.Tryz renaming prog→Pa0
namespace Go.Proofs.YtigdjhnndaokjaaGreatDoor
open Go.Abs Go.RowKit
theorem oo (d:lH):ac Pa0 k9 [NC d] (I (iI d)):=by
 refine ac.of B5 zR6 λhb=>aa ?_
 conv in ri=>cbv
 repeat' first|simp(disch:=omega)only[go_sem, *,VW]|apply ab<;>intro h<;>try omega
 all_goals(refine IE ?_;unfold iI;grind)
theorem ie {d:lH} (h1:d.dims.length≤1000) (h2:d.red.length≤1000):ac Pa0 j5 [NC d] (.c (.pure (bj (aR d)))):=by
 refine ac.of Aw zR6 λhb=>aa ?_
 conv in o8=>cbv
 repeat' first|simp(disch:=omega)only[go_sem, *]|apply ab<;>intro h<;>try omega
 refine dc 3 9 1 rfl zR9 ?_
 refine al (λk:Nat=>⟨[(4,I k),(3,.c (.ref 1)),(1,.c (.ptr 0 0))], [(1,.arr 9 1 ((d.dims.take k).map λa=> [pS a.1])),(0,Fu d)],2,0⟩) (λk=>k≤d.dims.length) (λk=>d.dims.length-k) ⟨0, [],by omega,by simp⟩ ?_
 intro k hk
 refine aa ?_
 by_cases f:k<d.dims.length
 ·have ht:(d.dims.take k).map (λa:iF=> [pS a.1])++ [[pS d.dims[k].1]]=(d.dims.take (k+1)).map λa=> [pS a.1]:=by rw[zB5 f,zC8];rfl
  have HT:=Lib.hid ht
  clear ht
  repeat' first|simp(disch:=omega)only[go_sem, *,ae f,gw,wrap_i64]|apply ab<;>intro h<;>try omega|refine aP rfl zS0 (aE rfl) zR8 zR8 ?_
  rw[HT.out]
  exact⟨k+1, [(1,2)],by omega,by omega,by simp⟩
 ·repeat' first|simp(disch:=omega)only[go_sem, *]|apply ab<;>intro h<;>try omega
  refine al (λk:Nat=>⟨[(5,I k),(3,.c (.ref 1)),(1,.c (.ptr 0 0))], [(1,.arr 9 1 (d.dims.map (λa=> [pS a.1])++(d.red.take k).map λa=> [pS a.1])),(0,Fu d)],2,0⟩) (λk=>k≤d.red.length) (λk=>d.red.length-k) ⟨0, [],by omega,by rw[zB6 zR5];simp⟩ ?_
  clear f hk
  intro k hk
  refine aa ?_
  by_cases f:k<d.red.length
  ·have ht:d.dims.map (λa:iF=> [pS a.1])++(d.red.take k).map (λa:iF=> [pS a.1])++ [[pS d.red[k].1]]=d.dims.map (λa:iF=> [pS a.1])++(d.red.take (k+1)).map λa=> [pS a.1]:=by rw[zB5 f,zC8,zE4];rfl
   have HT:=Lib.hid ht
   clear ht
   repeat' first|simp(disch:=omega)only[go_sem, *,ae f,gw,wrap_i64]|apply ab<;>intro h<;>try omega|refine aP rfl zS0 (aE rfl) zR8 zR8 ?_
   rw[HT.out]
   exact⟨k+1, [(1,2)],by omega,by omega,by simp⟩
  ·repeat' first|simp(disch:=omega)only[go_sem, *]|apply ab<;>intro h<;>try omega
   rw[zB6 zR5]
   simp[aR,zL1,zH3]
variable {p:bu}
theorem mF (hf:iD p) (o:m9 p) (hc:gE p) {k:Nat} (hk:k<p.defs.length) (taken:List ByteArray):ac Pa0 GA [fL p,I k,.c (.pure (bj taken))] (I (bq p k taken p.defs[k])):=by
 refine ac.of QG zR6 λhb=>aa ?_
 have cT:=ui (Hi hf k) (aR p.defs[k]) (o _ (zA6 hk))
 have A:=hc.1
 have q:dO 22 (p.defs.map bU):=aD λx=>rfl
 simp only[GX]
 by_cases h1:aQ taken p.defs[k].name=0
 ·by_cases h2:cj p.defs[k].ty
  ·by_cases h3:6<p.defs[k].dims.length∨6<p.defs[k].red.length
   ·rw[show bq p k taken p.defs[k]=11 by unfold bq;rw[if_neg (zA5 h1),if_neg (zA5 h2),if_pos h3]]
    repeat' first|simp(disch:=omega)only[go_sem, *,ae hk,bU,h1,h2,decide_true]|apply ab<;>intro h<;>try omega|refine ak (ay _ _) ?_|refine ak (aY p.defs[k].ty) ?_
   ·by_cases hd:p.defs[k].dims= []
    ·have cA:=yL p.defs[k].red p.sizes zR5 zR5
     have cR:=oo p.defs[k]
     have cI:=ie (d:=p.defs[k]) zR5 zR5
     simp only[NC,hd]at cR cI
     by_cases h4:bE p.sizes p.sizes (p.defs[k].dims++p.defs[k].red)=0
     ·by_cases h5:iI p.defs[k]=0
      ·have hT:(be (cd p k) (aR p.defs[k]) p.defs[k].body)=(be {p with wher:= [],defs:=p.defs.take k,outs:= []} (aR p.defs[k]) p.defs[k].body):=rfl
       by_cases h6:(be (cd p k) (aR p.defs[k]) p.defs[k].body).2=0
       ·by_cases h7:(be (cd p k) (aR p.defs[k]) p.defs[k].body).1=p.defs[k].ty
        ·rw[show bq p k taken p.defs[k]=0 by unfold bq;rw[if_neg (zA5 h1),if_neg (zA5 h2),if_neg h3,if_neg (zA5 h4),if_neg (zA5 h5),←hT,if_neg (zA5 h6),if_neg (zA5 h7)]]
         clear hT
         generalize be (cd p k) (aR p.defs[k]) p.defs[k].body=r at*
         obtain⟨r1,r2⟩:=r
         simp only at h6 h7
         subst h7
         have i:bE p.sizes p.sizes p.defs[k].red=0:=by rw[hd,zD4]at h4;exact h4
         exact zW8
        ·rw[show bq p k taken p.defs[k]=10 by unfold bq;rw[if_neg (zA5 h1),if_neg (zA5 h2),if_neg h3,if_neg (zA5 h4),if_neg (zA5 h5),←hT,if_neg (zA5 h6),if_pos h7]]
         clear hT
         generalize be (cd p k) (aR p.defs[k]) p.defs[k].body=r at*
         have i:bE p.sizes p.sizes p.defs[k].red=0:=by rw[hd,zD4]at h4;exact h4
         repeat' first|simp(disch:=omega)only[go_sem, *,ae hk,bU,h1,h2,i,h5,h6,decide_true,←zF9,q,zD3,zA8,hd]|apply zA1<;>intro h<;>try omega|refine ak (ay _ _) ?_|refine ak (aY p.defs[k].ty) ?_|refine ak cA ?_|refine jn a6 ?_|refine no a6 (aD λx=>rfl) zR8 zR8 ?_|refine ak cR ?_|refine dH cI ?_|refine ak cT ?_
         all_goals first
          |exact absurd (yK h) h7
          |rfl
       ·rw[show bq p k taken p.defs[k]=(be (cd p k) (aR p.defs[k]) p.defs[k].body).2 by unfold bq;rw[if_neg (zA5 h1),if_neg (zA5 h2),if_neg h3,if_neg (zA5 h4),if_neg (zA5 h5),←hT,if_pos h6]]
        clear hT
        generalize be (cd p k) (aR p.defs[k]) p.defs[k].body=r at*
        have i:bE p.sizes p.sizes p.defs[k].red=0:=by rw[hd,zD4]at h4;exact h4
        exact zW8
      ·rw[show bq p k taken p.defs[k]=iI p.defs[k] by unfold bq;rw[if_neg (zA5 h1),if_neg (zA5 h2),if_neg h3,if_neg (zA5 h4),if_pos h5]]
       have i:bE p.sizes p.sizes p.defs[k].red=0:=by rw[hd,zD4]at h4;exact h4
       repeat' first|simp(disch:=omega)only[go_sem, *,ae hk,bU,h1,h2,i,h5,decide_true,hd]|apply zA1<;>intro h<;>try omega|refine ak (ay _ _) ?_|refine ak (aY p.defs[k].ty) ?_|refine ak cA ?_|refine jn a6 ?_|refine no a6 (aD λx=>rfl) zR8 zR8 ?_|refine ak cR ?_
     ·rw[show bq p k taken p.defs[k]=bE p.sizes p.sizes (p.defs[k].dims++p.defs[k].red) by unfold bq;rw[if_neg (zA5 h1),if_neg (zA5 h2),if_neg h3,if_pos h4]]
      have i: ¬bE p.sizes p.sizes p.defs[k].red=0:=by rw[hd,zD4]at h4;exact h4
      repeat' first|simp(disch:=omega)only[go_sem, *,ae hk,bU,h1,h2,i,decide_true,hd]|apply zA1<;>intro h<;>try omega|refine ak (ay _ _) ?_|refine ak (aY p.defs[k].ty) ?_|refine ak cA ?_|refine jn a6 ?_|refine no a6 (aD λx=>rfl) zR8 zR8 ?_
    ·have cA:=yL (p.defs[k].dims++p.defs[k].red) p.sizes zR8 zR5
     rw[show bF gw (p.defs[k].dims++p.defs[k].red)= .c (.pure (.slice (p.defs[k].dims.map gw++p.defs[k].red.map gw))) by show AV.c (.pure (.slice (List.map gw (_++_))))=_;rw[zC8]]at cA
     have cR:=oo p.defs[k]
     have cI:=ie (d:=p.defs[k]) zR5 zR5
     by_cases h4:bE p.sizes p.sizes (p.defs[k].dims++p.defs[k].red)=0
     ·by_cases h5:iI p.defs[k]=0
      ·have hT:(be (cd p k) (aR p.defs[k]) p.defs[k].body)=(be {p with wher:= [],defs:=p.defs.take k,outs:= []} (aR p.defs[k]) p.defs[k].body):=rfl
       by_cases h6:(be (cd p k) (aR p.defs[k]) p.defs[k].body).2=0
       ·by_cases h7:(be (cd p k) (aR p.defs[k]) p.defs[k].body).1=p.defs[k].ty
        ·rw[show bq p k taken p.defs[k]=0 by unfold bq;rw[if_neg (zA5 h1),if_neg (zA5 h2),if_neg h3,if_neg (zA5 h4),if_neg (zA5 h5),←hT,if_neg (zA5 h6),if_neg (zA5 h7)]]
         clear hT
         generalize be (cd p k) (aR p.defs[k]) p.defs[k].body=r at*
         obtain⟨r1,r2⟩:=r
         simp only at h6 h7
         subst h7
         have i:bE p.sizes p.sizes (p.defs[k].dims++p.defs[k].red)=0:=h4
         exact zW7
        ·rw[show bq p k taken p.defs[k]=10 by unfold bq;rw[if_neg (zA5 h1),if_neg (zA5 h2),if_neg h3,if_neg (zA5 h4),if_neg (zA5 h5),←hT,if_neg (zA5 h6),if_pos h7]]
         clear hT
         generalize be (cd p k) (aR p.defs[k]) p.defs[k].body=r at*
         have i:bE p.sizes p.sizes (p.defs[k].dims++p.defs[k].red)=0:=h4
         repeat' first|simp(disch:=omega)only[go_sem, *,ae hk,bU,h1,h2,i,h5,h6,decide_true,←zF9,q,zD3,zA8]|apply zA1<;>intro h<;>try omega|refine ak (ay _ _) ?_|refine ak (aY p.defs[k].ty) ?_|refine ak cA ?_|refine gO a6 (aD λx=>rfl) zU4 zR8 zR8 ?_|refine aP rfl zS0 (aD λx=>rfl) zR8 zR8 ?_|refine ak cR ?_|refine dH cI ?_|refine ak cT ?_
         all_goals first
          |exact absurd (yK h) h7
          |rfl
       ·rw[show bq p k taken p.defs[k]=(be (cd p k) (aR p.defs[k]) p.defs[k].body).2 by unfold bq;rw[if_neg (zA5 h1),if_neg (zA5 h2),if_neg h3,if_neg (zA5 h4),if_neg (zA5 h5),←hT,if_pos h6]]
        clear hT
        generalize be (cd p k) (aR p.defs[k]) p.defs[k].body=r at*
        have i:bE p.sizes p.sizes (p.defs[k].dims++p.defs[k].red)=0:=h4
        exact zW7
      ·rw[show bq p k taken p.defs[k]=iI p.defs[k] by unfold bq;rw[if_neg (zA5 h1),if_neg (zA5 h2),if_neg h3,if_neg (zA5 h4),if_pos h5]]
       have i:bE p.sizes p.sizes (p.defs[k].dims++p.defs[k].red)=0:=h4
       repeat' first|simp(disch:=omega)only[go_sem, *,ae hk,bU,h1,h2,i,h5,decide_true]|apply zA1<;>intro h<;>try omega|refine ak (ay _ _) ?_|refine ak (aY p.defs[k].ty) ?_|refine ak cA ?_|refine gO a6 (aD λx=>rfl) zU4 zR8 zR8 ?_|refine aP rfl zS0 (aD λx=>rfl) zR8 zR8 ?_|refine ak cR ?_
     ·rw[show bq p k taken p.defs[k]=bE p.sizes p.sizes (p.defs[k].dims++p.defs[k].red) by unfold bq;rw[if_neg (zA5 h1),if_neg (zA5 h2),if_neg h3,if_pos h4]]
      have i: ¬bE p.sizes p.sizes (p.defs[k].dims++p.defs[k].red)=0:=h4
      repeat' first|simp(disch:=omega)only[go_sem, *,ae hk,bU,h1,h2,i,decide_true]|apply zA1<;>intro h<;>try omega|refine ak (ay _ _) ?_|refine ak (aY p.defs[k].ty) ?_|refine ak cA ?_|refine gO a6 (aD λx=>rfl) zU4 zR8 zR8 ?_|refine aP rfl zS0 (aD λx=>rfl) zR8 zR8 ?_
  ·rw[show bq p k taken p.defs[k]=10 by unfold bq;rw[if_neg (zA5 h1),if_pos h2]]
   repeat' first|simp(disch:=omega)only[go_sem, *,ae hk,bU,h1,h2,decide_false]|apply ab<;>intro h<;>try omega|refine ak (ay _ _) ?_|refine ak (aY p.defs[k].ty) ?_
 ·rw[show bq p k taken p.defs[k]=aQ taken p.defs[k].name by unfold bq;rw[if_pos h1]]
  repeat' first|simp(disch:=omega)only[go_sem, *,ae hk,bU,h1]|apply ab<;>intro h<;>try omega|refine ak (ay _ _) ?_|refine ak (aY p.defs[k].ty) ?_
set_option maxRecDepth 20000
set_option maxRecDepth 1000000
theorem zY (l:List ByteArray):dO 1 (l.map λs=> [pS s]):=aD λx=>rfl
theorem Ht (p:bu):ac Pa0 rN [fL p] (I (if gE p then ow p else 2)):=by
 refine ac.of Md zR6 λhb=>aa ?_
 conv in A9=>cbv
 by_cases hc:gE p
 ·rw[if_pos hc]
  have h1: ¬(p.sizes.length:Int)>64:=by have:=hc.1;omega
  have h2: ¬(p.params.length:Int)>64:=by have:=hc.2.1;omega
  have h3: ¬(p.defs.length:Int)>64:=by have:=hc.2.2.1;omega
  have h4: ¬(p.outs.length:Int)>64:=by have:=hc.2.2.2.1;omega
  have h5: ¬(p.wher.length:Int)>256:=by have:=hc.2.2.2.2;omega
  clear hc
  repeat' first|simp(disch:=omega)only[go_sem, *]|apply ab<;>intro h<;>try omega
  refine al (λk:Nat=>⟨[(3,I k),(1,.c (.ptr 0 0))], [(0,dK p)],1,0⟩) (λk=>k≤p.sizes.length∧ct (λj=>YD p j=0) k) (λk=>p.sizes.length-k) ⟨0, [],⟨by omega,.zero⟩,by simp⟩ ?_
  clear h2 h3 h4 h5
  rintro k ⟨hk,e⟩
  refine aa ?_
  by_cases f:k<p.sizes.length
  ·have hs:=UF f
   by_cases hz:aQ (p.sizes.take k) p.sizes[k]=0
   ·have HA:=Lib.hid (e.succ (hs.trans hz))
    clear e hs
    repeat' first|simp(disch:=omega)only[go_sem, *,ae f,wrap_i64,←zF9,zY,zD3,zA8,hz]|apply ab<;>intro h<;>try omega|refine ak (ay p.sizes[k] (p.sizes.take k)) ?_
    exact⟨k+1, [],⟨by omega,HA.out⟩,by omega,by simp⟩
   ·rw[Ss f e hs hz]
    clear e hs
    repeat' first|simp(disch:=omega)only[go_sem, *,ae f,wrap_i64,←zF9,zY,zD3,zA8,hz]|apply ab<;>intro h<;>try omega|refine ak (ay p.sizes[k] (p.sizes.take k)) ?_
  ·rw[RO λj hj=>e j zR5]
   clear e
   exact zW0
 ·rw[if_neg hc]
  have w: ¬((p.sizes.length:Int)≤64∧(p.params.length:Int)≤64∧(p.defs.length:Int)≤64∧(p.outs.length:Int)≤64∧(p.wher.length:Int)≤256):= λh=>hc (by unfold gE;omega)
  clear hc
  have HC:=Lib.hid w
  clear w
  repeat' first|simp(disch:=omega)only[go_sem, *]|apply ab<;>intro h<;>try omega
  all_goals(exfalso;have:=HC.out;omega)
def tkV (nx:Nat) (l:List ByteArray):AV:=if l= []then .c (.tsl [])else .c (.ref nx)
def tkM (nx:Nat) (l:List ByteArray) (m:List (Nat×bP)):List (Nat×bP):=if l= []then m else(nx,.arr 9 1 (l.map λs=> [pS s]))::m
def tkN (nx:Nat) (l:List ByteArray):Nat:=if l= []then nx else nx+1
variable {fr:List (Nat×AV)}{mem:List (Nat×bP)}{nx:Nat}{l:List ByteArray}
theorem Jk {t:Nat}:Ro fr t mem nx l=⟨(t,tkV nx l)::fr,tkM nx l mem,tkN nx l,0⟩:=by
 unfold Ro tkV tkM tkN
 split<;>rfl
theorem S7 {b:bP}:ar (tkM 1 l [(0,b)]) 0=some b:=by
 unfold tkM
 split
 ·rfl
 ·rfl
theorem adB {bytes:Nat} {y:AV} {ys:List ByteArray} {K:vJ (AV→St→Prop)} (h1:ys.length*bytes≤140737488355328) (h2:ys.length≤140737488355328)
  (hk:K.out (tkV nx ys) ⟨fr,tkM nx ys mem,tkN nx ys,0⟩): @Nn 9 1 bytes (.c (.tsl [])) y (ys.map λs=> [pS s]) ⟨fr,mem,nx,0⟩ K:=by
 by_cases h:ys= []
 ·subst h
  exact jn a6 hk
 ·unfold tkV tkM tkN at hk
  rw[if_neg h,if_neg h,if_neg h]at hk
  exact gO a6 (aD λx=>rfl) zS9 (by simpa using h1) zV5 hk
theorem RW:eD p 0=p.sizes:=by simp[eD]
theorem S9:eh p 0=eD p p.params.length:=by rw[Rw,RJ]
theorem pV (hf:iD p) (o:m9 p):ac Pa0 ml [fL p] (.tup [I (bA p).1,I (bA p).2]):=by
 refine ac.of En zR6 λhb=>aa ?_
 rw[show tR= (s_ [o_ 1 (.box (.t 0)),o_ 2 (w_ 0),o_ 3 (w_ 0)] (.seq (s_ [o_ 17 (L_ 5 1),o_ 18 (C_ 115 [.t 17]),m_ 4 18] (s_ [m_ 19 4,o_ 20 (Q_ .neq 19 0)] (y_ 20 (s_ [m_ 21 4,o_ 2 (w_ 0),m_ 3 21] .ret) .skip))) (.seq (s_ [o_ 5 (w_ 0)] (.block 0 (.loop (.seq (s_ [m_ 22 5,o_ 23 (a_ 1 1),o_ 24 (l_ 23),o_ 25 (z_ 24),o_ 26 (q_ 22 25)] (X_ 26 0)) (.seq (.block 1 (.seq (.draw [[P_ 29 (a_ 1 1),P_ 30 (l_ 29),M_ 31 5,P_ 32 (x_ 3 30 31),P_ 33 (a_ 0 32),P_ 34 (L_ 2 33),P_ 35 (a_ 0 1),P_ 36 (l_ 35),P_ 37 (.call false false (f_ 116) [.t 34, .t 36]),M_ 6 37]]) (s_ [m_ 38 6,o_ 39 (Q_ .neq 38 0)] (y_ 39 (s_ [m_ 40 6,o_ 2 (w_ 1),m_ 3 40] .ret) .skip)))) (r_ [m_ 27 5,o_ 28 (j_ 27),m_ 5 28])))))) (s_ [o_ 41 (.bslice 1 []),o_ 42 (a_ 0 1),o_ 43 (l_ 42),o_ 44 (.app 9 1 16 (.t 41) (.t 43)),m_ 7 44] (s_ [o_ 8 (w_ 2)] (.seq (s_ [o_ 9 (w_ 0)] (.block 2 (.loop (.seq (s_ [m_ 45 9,o_ 46 (a_ 2 1),o_ 47 (l_ 46),o_ 48 (z_ 47),o_ 49 (q_ 45 48)] (X_ 49 2)) (.seq (.block 3 (.seq (.seq (.draw [[P_ 52 (a_ 2 1),P_ 53 (l_ 52),M_ 54 9,P_ 55 (x_ 7 53 54),P_ 56 (L_ 7 55),P_ 57 (a_ 0 1),P_ 58 (l_ 57),M_ 59 7,P_ 60 (.call false false (f_ 117) [.t 56, .t 58, .t 59]),M_ 10 60]]) (s_ [m_ 61 10,o_ 62 (Q_ .neq 61 0)] (y_ 62 (s_ [m_ 63 8,m_ 64 10,m_ 2 63,m_ 3 64] .ret) .skip))) (s_ [m_ 65 7,o_ 66 (a_ 2 1),o_ 67 (l_ 66),m_ 68 9,o_ 69 (x_ 7 67 68),o_ 70 (a_ 0 69),o_ 71 (l_ 70),o_ 72 (.bslice 1 [.t 71]),o_ 73 (.app 9 1 16 (.t 65) (.t 72)),m_ 7 73] (r_ [m_ 74 8,o_ 75 (j_ 74),m_ 8 75])))) (r_ [m_ 50 9,o_ 51 (j_ 50),m_ 9 51])))))) (.seq (s_ [o_ 11 (w_ 0)] (.block 4 (.loop (.seq (s_ [m_ 76 11,o_ 77 (a_ 3 1),o_ 78 (l_ 77),o_ 79 (z_ 78),o_ 80 (q_ 76 79)] (X_ 80 4)) (.seq (.block 5 (.seq (s_ [o_ 83 (L_ 5 1),m_ 84 11,m_ 85 7,o_ 86 (C_ 118 [.t 83, .t 84, .t 85]),m_ 12 86] (s_ [m_ 87 12,o_ 88 (Q_ .neq 87 0)] (y_ 88 (s_ [m_ 89 8,m_ 90 12,m_ 2 89,m_ 3 90] .ret) .skip))) (s_ [m_ 91 7,o_ 92 (a_ 3 1),o_ 93 (l_ 92),m_ 94 11,o_ 95 (x_ 22 93 94),o_ 96 (a_ 0 95),o_ 97 (l_ 96),o_ 98 (.bslice 1 [.t 97]),o_ 99 (.app 9 1 16 (.t 91) (.t 98)),m_ 7 99] (r_ [m_ 100 8,o_ 101 (j_ 100),m_ 8 101])))) (r_ [m_ 81 11,o_ 82 (j_ 81),m_ 11 82])))))) (.seq (s_ [o_ 13 (w_ 0)] (.block 6 (.loop (.seq (s_ [m_ 102 13,o_ 103 (a_ 4 1),o_ 104 (l_ 103),o_ 105 (z_ 104),o_ 106 (q_ 102 105)] (X_ 106 6)) (.seq (.block 7 (.seq (.seq (.draw [[P_ 110 (L_ 5 1),P_ 111 (a_ 4 1),P_ 112 (l_ 111),M_ 113 13,P_ 114 (x_ 1 112 113),P_ 115 (l_ 114),P_ 116 (.call false false (f_ 119) [.t 110, .t 115]),M_ 109 116,P_ 117 (e_ 109 0),P_ 118 (e_ 109 1),P_ 119 (e_ 109 2), (true,o_ 14 (.box (.k (.agg [i_ 0,i_ 0,i_ 0,i_ 0,i_ 0])))),U_ (S_ 5 14 117),M_ 15 118,M_ 16 119]]) (s_ [m_ 120 16,o_ 121 (.un .not (.t 120))] (y_ 121 (s_ [m_ 122 8,m_ 2 122,o_ 3 (w_ 9)] .ret) .skip))) (.seq (.seq (.draw [[P_ 123 (a_ 4 1),P_ 124 (l_ 123),M_ 125 13,P_ 126 (.slc 1 (.t 124) .none (.some (.t 125)) .none),P_ 127 (a_ 4 1),P_ 128 (l_ 127),M_ 129 13,P_ 130 (x_ 1 128 129),P_ 131 (l_ 130),P_ 132 (.call false false (f_ 120) [.t 126, .t 131])]]) (y_ 132 (s_ [m_ 133 8,m_ 2 133,o_ 3 (w_ 8)] .ret) .skip)) (r_ [m_ 134 8,o_ 135 (j_ 134),m_ 8 135])))) (r_ [m_ 107 13,o_ 108 (j_ 107),m_ 13 108])))))) (s_ [o_ 2 (w_ 0),o_ 3 (w_ 0)] .ret))))))))) from by kernel_rfl]
 have cS:=Ht p
 by_cases hc:gE p
 ·rw[if_pos hc]at cS
  by_cases hs:ow p=0
  ·rw[hs]at cS
   have C:=hc.1
   have D:=hc.2.1
   have E:=hc.2.2.1
   have F:=hc.2.2.2.1
   have G:=hc.2.2.2.2
   have HC:=Lib.hid hc
   have HS:=Lib.hid hs
   clear hc hs
   repeat' first|simp(disch:=omega)only[go_sem, *]|apply ab<;>intro h<;>try omega|refine ak cS ?_
   refine al (λk:Nat=>⟨[(5,I k),(1,.c (.ptr 0 0))], [(0,dK p)],1,0⟩) (λk=>k≤p.wher.length∧Hid (dz ((p.wher.map λc=>bL p.sizes c.1).take k)=0)) (λk=>p.wher.length-k) ⟨0, [],⟨by omega,by show _=_;simp[dz]⟩,by simp⟩ ?_
   clear cS
   rintro k ⟨hk,e⟩
   refine aa ?_
   by_cases f:k<p.wher.length
   ·have z:k<(p.wher.map λc=>bL p.sizes c.1).length:=by simpa using f
    have h4:=jL z e.out
    have h5:=qk z e.out
    rw[zJ2]at h4 h5
    clear e
    by_cases hz:bL p.sizes p.wher[k].1=0
    ·have HN:=Lib.hid (h4.trans hz)
     clear h4 h5
     repeat' first|simp(disch:=omega)only[go_sem, *,ae f,cP,wrap_i64,hz]|apply ab<;>intro h<;>try omega|refine ak (bX p.wher[k].1 _) ?_
     exact⟨k+1, [],⟨by omega,HN⟩,by omega,by simp⟩
    ·rw[zX HC.out HS.out (h5 hz) hz]
     clear h4 h5
     repeat' first|simp(disch:=omega)only[go_sem, *,ae f,cP,wrap_i64,hz]|apply ab<;>intro h<;>try omega|refine ak (bX p.wher[k].1 _) ?_
   have hw:yB p=0:=by
    have hz:=e.out
    rw[zB6 zR8]at hz
    exact hz
   have HW:=Lib.hid hw
   clear e hw
   repeat' first|simp(disch:=omega)only[go_sem, *]|apply ab<;>intro h<;>try omega|refine adB zR5 zR5 ?_
   repeat clear f
   repeat clear hk
   refine al (λk:Nat=>Ro [(8,I ((2:Int)+k)),(9,I k),(1,.c (.ptr 0 0))] 7 [(0,dK p)] 1 (eD p k)) (λk=>k≤p.params.length∧ct (λj=>Dg p j=0) k) (λk=>p.params.length-k) ⟨0, [],⟨by omega,.zero⟩,by rw[RW,Jk];unfold tkV tkM tkN;split<;>simp⟩ ?_
   rintro k ⟨hk,e⟩
   refine aa ?_
   have u:=(Pu k HC.out).1
   by_cases f:k<p.params.length
   ·have hs:=QY f
    by_cases hz:dX p.sizes (eD p k) p.params[k]=0
    ·have HA:=Lib.hid (e.succ (hs.trans hz))
     have n:=RF f
     have HN:Hid (eD p (k+1)≠ []):=by show _≠_;rw[n];simp
     clear e hs
     by_cases g:eD p k= []
     ·have hw:([[pS p.params[k].1]]:List (List PC))=(eD p (k+1)).map λs=> [pS s]:=by rw[n,g];rfl
      have HW:=Lib.hid hw
      rw[g]at hz ⊢
      clear hw n g
      rw[fN]
      repeat' first|simp(disch:=omega)only[go_sem, *,ae f,ef,wrap_i64,hz]|apply ab<;>intro h<;>try omega|refine ak (jt p.params[k] _ []) ?_|refine gO a6 (aE rfl) zR6 zR6 zR6 ?_
      refine⟨k+1, [],⟨by omega,HA.out⟩,by omega, ?_⟩
      rw[b7 HN.out,HW.out]
      simp
      try omega
     ·have hw:(eD p k).map (λs=> [pS s])++ [[pS p.params[k].1]]=(eD p (k+1)).map λs=> [pS s]:=by rw[n,zC8];rfl
      have HW:=Lib.hid hw
      rw[b7 g]
      clear hw n g
      repeat' first|simp(disch:=omega)only[go_sem, *,ae f,ef,wrap_i64,hz]|apply ab<;>intro h<;>try omega|refine ak (jt p.params[k] _ _) ?_|refine aP rfl zS0 (aE rfl) zR8 zR8 ?_
      refine⟨k+1, [(1,2)],⟨by omega,HA.out⟩,by omega, ?_⟩
      rw[b7 HN.out,HW.out]
      simp
      try omega
    ·rw[Cb HC.out HS.out HW.out f e hs hz]
     clear e hs
     by_cases g:eD p k= []
     ·rw[g]at hz ⊢
      clear g
      rw[fN]
      repeat' first|simp(disch:=omega)only[go_sem, *,ae f,ef,wrap_i64,hz]|apply ab<;>intro h<;>try omega|refine ak (jt p.params[k] _ []) ?_
     ·rw[b7 g]
      clear g
      repeat' first|simp(disch:=omega)only[go_sem, *,ae f,ef,wrap_i64,hz]|apply ab<;>intro h<;>try omega|refine ak (jt p.params[k] _ _) ?_
   have HP:Hid (∀j,j<p.params.length→Dg p j=0):= λj hj=>e j zR5
   have v:k=p.params.length:=by omega
   clear e u
   subst v
   repeat clear f
   repeat clear hk
   rw[Jk]
   repeat' first|simp(disch:=omega)only[go_sem, *,S7]|apply ab<;>intro h<;>try omega
   refine al (λk:Nat=>Ro [(8,I ((2:Int)+p.params.length+k)),(11,I k),(1,.c (.ptr 0 0))] 7 [(0,dK p)] 1 (eh p k)) (λk=>k≤p.defs.length∧ct (λj=>Do p j=0) k) (λk=>p.defs.length-k) ⟨0, [],⟨by omega,.zero⟩,by rw[S9,Jk];unfold tkV tkM tkN;split<;>simp⟩ ?_
   rintro k ⟨hk,e⟩
   refine aa ?_
   have u:=(Pu k HC.out).2
   by_cases f:k<p.defs.length
   ·have hs:=DD f
    by_cases hz:bq p k (eh p k) p.defs[k]=0
    ·have HA:=Lib.hid (e.succ (hs.trans hz))
     have n:=Sf f
     have HN:Hid (eh p (k+1)≠ []):=by show _≠_;rw[n];simp
     clear e hs
     by_cases g:eh p k= []
     ·have hw:([[pS p.defs[k].name]]:List (List PC))=(eh p (k+1)).map λs=> [pS s]:=by rw[n,g];rfl
      have HW:=Lib.hid hw
      rw[g]at hz ⊢
      clear hw n g
      rw[fN]
      repeat' first|simp(disch:=omega)only[go_sem, *,ae f,bU,wrap_i64,hz]|apply ab<;>intro h<;>try omega|refine ak (mF hf o HC.out f []) ?_|refine gO a6 (aE rfl) zR6 zR6 zR6 ?_
      refine⟨k+1, [],⟨by omega,HA.out⟩,by omega, ?_⟩
      rw[b7 HN.out,HW.out]
      simp
      try omega
     ·have hw:(eh p k).map (λs=> [pS s])++ [[pS p.defs[k].name]]=(eh p (k+1)).map λs=> [pS s]:=by rw[n,zC8];rfl
      have HW:=Lib.hid hw
      rw[b7 g]
      clear hw n g
      repeat' first|simp(disch:=omega)only[go_sem, *,ae f,bU,wrap_i64,hz]|apply ab<;>intro h<;>try omega|refine ak (mF hf o HC.out f _) ?_|refine aP rfl zS0 (aE rfl) zR8 zR8 ?_
      refine⟨k+1, [(1,2)],⟨by omega,HA.out⟩,by omega, ?_⟩
      rw[b7 HN.out,HW.out]
      simp
      try omega
    ·rw[Ca HC.out HS.out HW.out HP.out f e hs hz]
     clear e hs
     by_cases g:eh p k= []
     ·rw[g]at hz ⊢
      clear g
      rw[fN]
      repeat' first|simp(disch:=omega)only[go_sem, *,ae f,bU,wrap_i64,hz]|apply ab<;>intro h<;>try omega|refine ak (mF hf o HC.out f []) ?_
     ·rw[b7 g]
      clear g
      repeat' first|simp(disch:=omega)only[go_sem, *,ae f,bU,wrap_i64,hz]|apply ab<;>intro h<;>try omega|refine ak (mF hf o HC.out f _) ?_
   have HD:Hid (∀j,j<p.defs.length→Do p j=0):= λj hj=>e j zR5
   have v:k=p.defs.length:=by omega
   clear e u
   subst v
   repeat clear f
   repeat clear hk
   rw[Jk]
   repeat' first|simp(disch:=omega)only[go_sem, *,S7]|apply ab<;>intro h<;>try omega
   refine al (λk:Nat=>⟨[(8,I ((2:Int)+p.params.length+p.defs.length+k)),(13,I k),(1,.c (.ptr 0 0))], [(0,dK p)],1,0⟩) (λk=>k≤p.outs.length∧ct (λj=>Qh p j=0) k) (λk=>p.outs.length-k) ⟨0, [],⟨by omega,.zero⟩,by unfold tkV tkM tkN;split<;>simp⟩ ?_
   rintro k ⟨hk,e⟩
   refine aa ?_
   by_cases f:k<p.outs.length
   ·have hs:=Rb f
    have cF:=pR hf p.outs[k]
    have cB:=kI (p.outs.take k) p.outs[k]
    by_cases hn:cY p p.outs[k]=none
    ·rw[if_pos hn]at hs
     rw[pu HC.out HS.out HW.out HP.out HD.out f e hs zR9]
     rw[hn]at cF
     clear e hs hn
     repeat' first|simp(disch:=omega)only[go_sem, *,ae f,wrap_i64]|apply ab<;>intro h<;>try omega|refine dH cF ?_
    ·obtain⟨r,hr⟩: ∃r,cY p p.outs[k]=some r:=by
      cases h:cY p p.outs[k]with
      |none=>exact absurd h hn
      |some r=>exact⟨r,rfl⟩
     rw[if_neg hn]at hs
     rw[hr]at cF
     clear hn hr
     obtain⟨t,dims⟩:=r
     by_cases hm:p.outs[k]∈p.outs.take k
     ·rw[if_pos hm]at hs
      rw[pu HC.out HS.out HW.out HP.out HD.out f e hs zR9]
      clear e hs
      repeat' first|simp(disch:=omega)only[go_sem, *,ae f,wrap_i64,←zF9,zY,zD3,zA8,hm,decide_true]|apply ab<;>intro h<;>try omega|refine dH cF ?_|refine ak cB ?_
     ·rw[if_neg hm]at hs
      have HA:=Lib.hid (e.succ hs)
      clear e hs
      repeat' first|simp(disch:=omega)only[go_sem, *,ae f,wrap_i64,←zF9,zY,zD3,zA8,hm,decide_false]|apply ab<;>intro h<;>try omega|refine dH cF ?_|refine ak cB ?_
      exact⟨k+1, [],⟨by omega,HA.out⟩,by omega,by simp;omega⟩
   ·rw[Pa HC.out HS.out HW.out HP.out HD.out λj hj=>e j zR5]
    clear e
    exact zW0
  ·rw[Aa hc rfl hs]
   repeat' first|simp(disch:=omega)only[go_sem, *,hs]|apply ab<;>intro h<;>try omega|refine ak cS ?_
 ·rw[if_neg hc]at cS
  rw[vg hc]
  repeat' first|simp(disch:=omega)only[go_sem, *]|apply ab<;>intro h<;>try omega|refine ak cS ?_
end Go.Proofs.YtigdjhnndaokjaaGreatDoor
