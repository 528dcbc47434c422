import Derived.Test.YtigdjhnndaokjaaGreatDoorV17c
set_option linter.unusedVariables false
set_option linter.unusedSimpArgs false
set_option maxHeartbeats 4000000
set_option maxRecDepth 1000000
open Go.Proofs.Tryz renaming prog→Pa0
namespace Go.Proofs.YtigdjhnndaokjaaGreatDoor
open Go.Abs Go.RowKit
theorem J0 {p:bu} (hf:iD p) (vars:List ByteArray) (e:Ex):jY e→ac Pa0 oO [fL p,.c (.pure (bj vars)),fp e] (SQ (j9 p vars e)):=by
 refine Ex.ind (p:= λe=>jY e→ac Pa0 oO [fL p,.c (.pure (bj vars)),fp e] (SQ (j9 p vars e))) (λe ih hr=> ?_) e
 refine ac.of On zR6 λhb=>aa ?_
 have hl:=(dq hb.2.2).1
 obtain⟨ha,J,K,_⟩:=np hr
 have R:e.args.length≤3:=by rcases C0 J K with h|h|h|h|h|h<;>omega
 have HA:=Lib.hid ha
 clear ha
 conv in D9=>cbv
 repeat' first|simp(disch:=omega)only[go_sem, *]|apply ab<;>intro h<;>try omega
 refine dc 8 58 5 rfl zR9 ?_
 refine al (λs:Nat×List Ty=>⟨[(9,I s.1),(8,.c (.ref 3)),(6,.c (.ptr 2 0)),(5,.c (.ptr 1 0)),(3,.c (.ptr 0 0)),(1,.c (.pure (bj vars)))], [(3,.arr 58 5 (s.2.map tyP)),(2,bTy jK),(1,zO e),(0,dK p)],4,0⟩) (λs=>s.1≤e.args.length∧Hid (eF p vars (e.args.take s.1)= .inr s.2)) (λs=>e.args.length-s.1) ⟨(0, []), [],⟨by omega,by show _=_;simp[eF]⟩,by simp[jK]⟩ ?_
 rintro⟨k,ts⟩ ⟨hk,d⟩
 refine aa ?_
 simp only at hk d
 by_cases i:k<e.args.length
 ·have L:=ih _ (zA6 i) (ei hr (zA6 i))
  have n:ts.length=k:=by
   have:=ub d.out
   rw[this,zI2]
   omega
  by_cases h0:(fC p vars e.args[k]).2=0
  ·have hn:=Lh i d.out h0
   have G:(j9 p vars e.args[k]).2=0:=(o5 _).trans h0
   have ht:=Tw h0
   rw[←ht]at hn
   have HN:=Lib.hid hn
   clear ih hr d hn ht h0
   generalize j9 p vars e.args[k]=r at*
   have ht:ts.map tyP++ [tyP r.1]=(ts++ [r.1]).map tyP:=by simp
   simp only[tyP]at ht
   have HT:=Lib.hid ht
   clear ht
   repeat' first|simp(disch:=omega)only[go_sem, *,ae i,Ex.row_eq,wrap_i64,G]|apply ab<;>intro h<;>try omega|refine ak L ?_|refine aP rfl zS0 (aE rfl) zR8 zR8 ?_
   rw[HT.out]
   exact⟨(k+1,ts++ [r.1]), [(3,5)],⟨by omega,HN⟩,by show _-_<_-_;omega,by simp⟩
  ·have hn:=JM i d.out h0
   have G: ¬(j9 p vars e.args[k]).2=0:= λh=>h0 ((o5 _).symm.trans h)
   have hR:j9 p vars e=(jK,(j9 p vars e.args[k]).2):=by rw[o5];conv=>lhs;unfold j9;rw[hn]
   rw[hR]
   clear ih hr d hn h0 hR
   generalize j9 p vars e.args[k]=r at*
   repeat' first|simp(disch:=omega)only[go_sem, *,ae i,Ex.row_eq,wrap_i64,G]|apply ab<;>intro h<;>try omega|refine ak L ?_
   try rfl
 ·have j:=d.out
  rw[zB6 zR5]at j
  have n:=ub j
  have hR:j9 p vars e=zE e.op (bh p vars e ts):=by unfold j9;rw[j]
  have o:=MS hf vars e
  have u:=wS p vars [e.lin]
  clear ih hr d j
  have j:=HA.out
  clear HA
  rcases C0 J K with⟨g|g|g,h2⟩|⟨g|g|g,h2⟩|⟨g,h2⟩|⟨g,h2⟩|⟨g,h2⟩|⟨g,h2⟩
  ·rw[hR.trans (show zE e.op (bh p vars e ts)=(e.ty,0) by simp[zE,bh,g])]
   clear hR n h2 j o u
   exact zY7
  ·rw[hR.trans (show zE e.op (bh p vars e ts)=((3,0,0,0,0),fT p vars [e.lin]) by simp[zE,bh,g])]
   clear hR n h2 j o
   repeat' first|simp(disch:=omega)only[go_sem, *,g]|apply ab<;>intro h<;>try omega|refine ak u ?_
  ·have hz:zE 3 (m6 p vars e)=m6 p vars e:=by
    unfold m6 zE
    repeat' split
    all_goals first
     |rfl
     |simp_all
   rw[hR.trans (show zE e.op (bh p vars e ts)=m6 p vars e by simp[bh,g,hz])]
   clear hR n h2 j u hz
   simp only[fp,g]at o
   repeat' first|simp(disch:=omega)only[go_sem, *,g]|apply ab<;>intro h<;>try omega|refine ak o ?_
  ·obtain⟨a,rfl⟩:=aeI (l:=ts) zR5
   rw[hR.trans (show zE e.op (bh p vars e [a])=(a,0) by simp[zE,bh,g])]
   clear hR n h2 j o u
   exact yE5
  ·rw[hR.trans (show zE e.op (bh p vars e ts)=(e.ty,0) by simp[zE,bh,g])]
   clear hR n h2 j o u
   exact zY7
  ·rw[hR.trans (show zE e.op (bh p vars e ts)=(jK,0) by simp[zE,bh,g])]
   clear hR n h2 j o u
   repeat' first|simp(disch:=omega)only[go_sem, *,g]|apply ab<;>intro h<;>try omega
   try rfl
  ·obtain⟨a,b,c,rfl⟩:=ael (l:=ts) zR5
   by_cases w:b=c
   ·subst w
    rw[hR.trans (show zE e.op (bh p vars e [a,b,b])=(b,0) by simp[zE,bh,g])]
    clear hR n h2 j o u
    repeat' first|simp(disch:=omega)only[go_sem, *,g,zB3,show Int.toNat 1=1 from rfl,show Int.toNat 2=2 from rfl]|apply ab<;>intro h<;>try omega
   ·rw[hR.trans (show zE e.op (bh p vars e [a,b,c])=(jK,10) by simp[zE,bh,g,w])]
    clear hR n h2 j o u
    repeat' first|simp(disch:=omega)only[go_sem, *,g,zB3,show Int.toNat 1=1 from rfl,show Int.toNat 2=2 from rfl]|apply ab<;>intro h<;>try omega
    all_goals first
     |exact absurd (yK h) w
     |rfl
  ·obtain⟨a,b,rfl⟩:=abe (l:=ts) zR5
   have h3: ¬e.op=1∧ ¬e.op=2∧ ¬e.op=3∧ ¬e.op=12∧ ¬e.op=8∧ ¬e.op=11∧ ¬16≤e.op∧13≤e.op:=by omega
   obtain⟨g1,g2,g3,g4,g5,g6,g7,g8⟩:=h3
   clear g
   by_cases w:a=b
   ·subst w
    rw[hR.trans (show zE e.op (bh p vars e [a,a])=(jK,0) by simp[zE,bh,g1,g2,g3,g4,g5,g6,g7,g8])]
    clear hR n h2 j o u
    repeat' first|simp(disch:=omega)only[go_sem, *,zB3,show Int.toNat 1=1 from rfl]|apply ab<;>intro h<;>try omega
    try rfl
   ·rw[hR.trans (show zE e.op (bh p vars e [a,b])=(jK,10) by simp[zE,bh,g1,g2,g3,g4,g5,g6,g7,g8,w])]
    clear hR n h2 j o u
    repeat' first|simp(disch:=omega)only[go_sem, *,zB3,show Int.toNat 1=1 from rfl]|apply ab<;>intro h<;>try omega
    all_goals first
     |exact absurd (yK h) w
     |rfl
  ·have h3: ¬e.op=1∧ ¬e.op=2∧ ¬e.op=3∧ ¬e.op=12∧ ¬e.op=8∧ ¬e.op=11∧16≤e.op:=by omega
   obtain⟨g1,g2,g3,g4,g5,g6,g7⟩:=h3
   clear g
   rw[hR.trans (show zE e.op (bh p vars e ts)=(jK,0) by simp[zE,bh,g1,g2,g3,g4,g5,g6,g7])]
   clear hR n h2 j o u
   repeat' first|simp(disch:=omega)only[go_sem, *]|apply ab<;>intro h<;>try omega
   try rfl
  ·obtain⟨a,b,rfl⟩:=abe (l:=ts) zR5
   have h3: ¬e.op=1∧ ¬e.op=2∧ ¬e.op=3∧ ¬e.op=12∧ ¬e.op=8∧ ¬e.op=11∧ ¬16≤e.op∧ ¬13≤e.op:=by omega
   obtain⟨g1,g2,g3,g4,g5,g6,g7,g8⟩:=h3
   clear g
   by_cases w:a=b
   ·subst w
    rw[hR.trans (show zE e.op (bh p vars e [a,a])=(a,0) by simp[zE,bh,g1,g2,g3,g4,g5,g6,g7,g8])]
    clear hR n h2 j o u
    repeat' first|simp(disch:=omega)only[go_sem, *,zB3,show Int.toNat 1=1 from rfl]|apply ab<;>intro h<;>try omega
    try rfl
   ·rw[hR.trans (show zE e.op (bh p vars e [a,b])=(jK,10) by simp[zE,bh,g1,g2,g3,g4,g5,g6,g7,g8,w])]
    clear hR n h2 j o u
    repeat' first|simp(disch:=omega)only[go_sem, *,zB3,show Int.toNat 1=1 from rfl]|apply ab<;>intro h<;>try omega
    all_goals first
     |exact absurd (yK h) w
     |rfl
theorem ui {p:bu} (hf:iD p) (vars:List ByteArray) {e:Ex} (Q: ∀a∈e.pre,bD a.val):ac Pa0 qn [fL p,.c (.pure (bj vars)),fp e] (SQ (be p vars e)):=by
 refine ac.of IW zR6 λhb=>aa ?_
 conv in xV=>cbv
 have hv:=pL Q
 by_cases h1:hO e=0
 ·by_cases h2:aM e.op
  ·have hR:be p vars e=(jK,10):=by unfold be;rw[if_neg (zA5 h1),if_pos h2]
   rw[hR]
   clear hR
   repeat' first|simp(disch:=omega)only[go_sem, *,h1,h2,decide_true]|apply ab<;>intro h<;>try omega|refine ak hv ?_|refine ak (dL e) ?_
   try rfl
  ·have M:=J0 hf vars e (tL h1)
   by_cases h3:(fC p vars e).2=0
   ·have hR:be p vars e=((j9 p vars e).1,0):=by unfold be;rw[if_neg (zA5 h1),if_neg h2,if_neg (zA5 h3),Tw h3]
    have D:=(o5 (p:=p) (vars:=vars) e).trans h3
    rw[hR]
    clear hR h3
    generalize j9 p vars e=r at*
    repeat' first|simp(disch:=omega)only[go_sem, *,h1,h2,D,decide_false]|apply ab<;>intro h<;>try omega|refine ak hv ?_|refine ak (dL e) ?_|refine ak M ?_
    try rfl
   ·have hR:be p vars e=(jK,(j9 p vars e).2):=by unfold be;rw[if_neg (zA5 h1),if_neg h2,if_pos h3,o5]
    have D: ¬(j9 p vars e).2=0:= λh=>h3 ((o5 e).symm.trans h)
    rw[hR]
    clear hR h3
    generalize j9 p vars e=r at*
    repeat' first|simp(disch:=omega)only[go_sem, *,h1,h2,D,decide_false]|apply ab<;>intro h<;>try omega|refine ak hv ?_|refine ak (dL e) ?_|refine ak M ?_
    try rfl
 ·have hR:be p vars e=(jK,hO e):=by unfold be;rw[if_pos h1]
  rw[hR]
  clear hR
  repeat' first|simp(disch:=omega)only[go_sem, *,h1]|apply ab<;>intro h<;>try omega|refine ak hv ?_
  try rfl
set_option maxRecDepth 20000
set_option maxRecDepth 1000000
theorem ay (s:ByteArray) (taken:List ByteArray):ac Pa0 uK [S s,.c (.pure (bj taken))] (I (aQ taken s)):=by
 refine ac.of NN zR6 λhb=>aa ?_
 conv in DL=>cbv
 repeat' first|simp(disch:=omega)only[go_sem, *]|apply ab<;>intro h<;>try omega|refine ak (jd _) ?_|refine ak (kI _ _) ?_
 all_goals(refine IE ?_;unfold aQ;grind)
theorem bX (l:iB) (sizes:List ByteArray):ac Pa0 vK [iK l.1 l.2,.c (.pure (bj sizes))] (I (bL sizes l)):=by
 refine ac.of ND zR6 λhb=>aa ?_
 conv in DJ=>cbv
 repeat' first|simp(disch:=omega)only[go_sem, *]|apply ab<;>intro h<;>try omega|refine ak (fl _ _) ?_|refine ak (jz l [] sizes) ?_
 all_goals(refine IE ?_;unfold bL;grind)
theorem jt (x:gV) (sizes taken:List ByteArray):ac Pa0 rG [adK x,.c (.pure (bj sizes)),.c (.pure (bj taken))] (I (dX sizes taken x)):=by
 refine ac.of L7 zR6 λhb=>aa ?_
 conv in AQ=>cbv
 by_cases h1:aQ taken x.1=0
 ·by_cases h2:cj x.2.1
  ·by_cases h3:6<x.2.2.length
   ·have hR:dX sizes taken x=11:=by unfold dX;rw[if_neg (zA5 h1),if_neg (zA5 h2),if_pos h3]
    rw[hR]
    have D:(x.2.2.length:Int)>6:=by omega
    clear hR
    repeat' first|simp(disch:=omega)only[go_sem, *,h1,h2,D,decide_true]|apply ab<;>intro h<;>try omega|refine ak (ay _ _) ?_|refine ak (aY x.2.1) ?_
   ·have hR:dX sizes taken x=dz (x.2.2.map (bL sizes)):=by unfold dX;rw[if_neg (zA5 h1),if_neg (zA5 h2),if_neg h3]
    rw[hR]
    have D: ¬(x.2.2.length:Int)>6:=by omega
    clear hR
    repeat' first|simp(disch:=omega)only[go_sem, *,h1,h2,D,decide_true]|apply ab<;>intro h<;>try omega|refine ak (ay _ _) ?_|refine ak (aY x.2.1) ?_
    refine al (λk:Nat=>⟨[(8,I k),(3,.c (.ptr 0 0)),(1,.c (.pure (bj sizes)))], [(0,aae x)],1,0⟩) (λk=>k≤x.2.2.length∧Hid (dz ((x.2.2.map (bL sizes)).take k)=0)) (λk=>x.2.2.length-k) ⟨0, [],⟨by omega,by show _=_;simp[dz]⟩,by simp⟩ ?_
    clear h1 h2
    rintro k ⟨hk,d⟩
    refine aa ?_
    by_cases i:k<x.2.2.length
    ·have N:k<(x.2.2.map (bL sizes)).length:=by simpa using i
     have h4:=jL N d.out
     have h5:=qk N d.out
     rw[zJ2]at h4 h5
     clear d
     by_cases hz:bL sizes x.2.2[k]=0
     ·have HN:=Lib.hid (h4.trans hz)
      clear h4 h5
      repeat' first|simp(disch:=omega)only[go_sem, *,ae i,bT,wrap_i64,hz]|apply ab<;>intro h<;>try omega|refine ak (bX _ _) ?_
      exact⟨k+1, [],⟨by omega,HN⟩,by omega,by simp⟩
     ·rw[h5 hz]
      clear h4 h5
      repeat' first|simp(disch:=omega)only[go_sem, *,ae i,bT,wrap_i64,hz]|apply ab<;>intro h<;>try omega|refine ak (bX _ _) ?_
    ·have hz:=d.out
     rw[zB6 zR8]at hz
     rw[hz]
     clear hz d
     exact zW0
  ·have hR:dX sizes taken x=10:=by unfold dX;rw[if_neg (zA5 h1),if_pos h2]
   rw[hR]
   clear hR
   repeat' first|simp(disch:=omega)only[go_sem, *,h1,h2,decide_false]|apply ab<;>intro h<;>try omega|refine ak (ay _ _) ?_|refine ak (aY x.2.1) ?_
 ·have hR:dX sizes taken x=aQ taken x.1:=by unfold dX;rw[if_pos h1]
  rw[hR]
  clear hR
  repeat' first|simp(disch:=omega)only[go_sem, *,h1]|apply ab<;>intro h<;>try omega|refine ak (ay _ _) ?_
theorem Cp (sizes:List ByteArray): ∀(l r:List iF) (taken:List ByteArray),bE sizes taken (l++r)=if bE sizes taken l≠0 then bE sizes taken l else bE sizes (taken++l.map (·.1)) r
 | [],r,taken=>by simp[bE]
 |a::l,r,taken=>by
  have ih:=Cp sizes l r (taken++ [a.1])
  simp only[zD2,bE,zB8]
  rw[ih,zE4,List.singleton_append]
  by_cases h1:aQ taken a.1=0
  ·by_cases h2:bL sizes a.2=0
   ·simp only[h1,h2,ne_eq,not_true_eq_false,if_false]
   ·simp only[h1,h2,ne_eq,not_true_eq_false,if_false,not_false_eq_true,if_true]
  ·simp only[h1,ne_eq,not_false_eq_true,if_true]
variable {sizes:List ByteArray}{l:List iF}{k:Nat}
theorem yF (h:k<l.length) (h0:bE sizes sizes (l.take k)=0) (h1:aQ (sizes++(l.take k).map (·.1)) l[k].1=0) (h2:bL sizes l[k].2=0):bE sizes sizes (l.take (k+1))=0:=by
 rw[zB5 h,Cp,if_neg (zA5 h0)]
 simp only[bE]
 rw[if_neg (zA5 h1),if_neg (zA5 h2)]
theorem Eo (h:k<l.length) (h0:bE sizes sizes (l.take k)=0):bE sizes sizes l=bE sizes (sizes++(l.take k).map (·.1)) (l[k]::l.drop (k+1)):=by
 have:=Cp sizes (l.take k) (l[k]::l.drop (k+1)) sizes
 rw[←zC0 h,zF1,if_neg (zA5 h0)]at this
 rw[this,zC0 h]
theorem xy (h:k<l.length) (h0:bE sizes sizes (l.take k)=0) (h1:aQ (sizes++(l.take k).map (·.1)) l[k].1≠0):bE sizes sizes l=aQ (sizes++(l.take k).map (·.1)) l[k].1:=by
 rw[Eo h h0,bE,if_pos h1]
theorem xZ (h:k<l.length) (h0:bE sizes sizes (l.take k)=0) (h1:aQ (sizes++(l.take k).map (·.1)) l[k].1=0) (h2:bL sizes l[k].2≠0):bE sizes sizes l=bL sizes l[k].2:=by
 rw[Eo h h0,bE,if_neg (zA5 h1),if_pos h2]
abbrev Ro (fr:List (Nat×AV)) (t:Nat) (mem:List (Nat×bP)) (nx:Nat) (l:List ByteArray):St:=
 if l= []then⟨(t,.c (.tsl []))::fr,mem,nx,0⟩else⟨(t,.c (.ref nx))::fr,(nx,.arr 9 1 (l.map λs=> [pS s]))::mem,nx+1,0⟩
variable {fr:List (Nat×AV)}{mem:List (Nat×bP)}{nx:Nat}
theorem fN {t:Nat}:Ro fr t mem nx []=⟨(t,.c (.tsl []))::fr,mem,nx,0⟩:=if_pos rfl
theorem b7 {t:Nat} {l:List ByteArray} (h:l≠ []):Ro fr t mem nx l=⟨(t,.c (.ref nx))::fr,(nx,.arr 9 1 (l.map λs=> [pS s]))::mem,nx+1,0⟩:=if_neg h
def CN (sizes:List ByteArray) (l:List iF) (k:Nat):List ByteArray:=sizes++(l.take k).map (·.1)
theorem RV (h:k<l.length):CN sizes l (k+1)=CN sizes l k++ [l[k].1]:=by
 unfold CN
 rw[zB5 h,zC8,zE4]
 rfl
theorem Vh (k:Nat) (h:sizes.length≤100) (hl:l.length≤100):(CN sizes l k).length≤200:=by
 unfold CN
 simp
 omega
theorem SP:CN sizes l 0=sizes:=by simp[CN]
theorem yL (l:List iF) (sizes:List ByteArray) (hl:l.length≤100) (O:sizes.length≤100):ac Pa0 vq [bF gw l,.c (.pure (bj sizes))] (I (bE sizes sizes l)):=by
 refine ac.of Nl zR6 λhb=>aa ?_
 conv in Dd=>cbv
 by_cases H:sizes= []
 ·subst H
  repeat' first|simp(disch:=omega)only[go_sem, *]|apply ab<;>intro h<;>try omega|refine jn a6 ?_
  refine al (λk:Nat=>Ro [(6,I k),(1,.c (.pure (bj []))),(0,bF gw l)] 5 [] 0 (CN [] l k)) (λk=>k≤l.length∧Hid (bE [] [] (l.take k)=0)) (λk=>l.length-k) ⟨0, [],⟨by omega,by show _=_;simp[bE]⟩,by rw[SP,fN];simp⟩ ?_
  rintro k ⟨hk,d⟩
  refine aa ?_
  by_cases i:k<l.length
  ·have y:= λh1=>xy (sizes:= []) i d.out h1
   have z:= λh1 h2=>xZ (sizes:= []) i d.out h1 h2
   have E:= λh1 h2=>Lib.hid (yF (sizes:= []) i d.out h1 h2)
   rw[show []++(l.take k).map (·.1)=CN [] l k from rfl]at y z E
   have P:=Vh (sizes:= []) k O hl
   have m:=RV (sizes:= []) i
   have q:CN [] l (k+1)≠ []:=by rw[m];simp
   have A:aQ (CN [] l k) l[k].1=0→bL [] l[k].2=0→ ∃t':Nat,(t'≤l.length∧Hid (bE [] [] (l.take t')=0))∧l.length-t'<l.length-k∧t'=k+1:= λh1 h2=>⟨k+1,⟨by omega,E h1 h2⟩,by omega,rfl⟩
   clear d E
   by_cases h1:aQ (CN [] l k) l[k].1=0
   ·by_cases h2:bL [] l[k].2=0
    ·obtain⟨k',hI,C,v⟩:=A h1 h2
     clear y z A
     by_cases f:CN [] l k= []
     ·have hw:([[pS l[k].1]]:List (List PC))=(CN [] l k').map λs=> [pS s]:=by rw[v,m,f];rfl
      have HW:=Lib.hid hw
      have HK:=Lib.hid v
      have F:=h1
      rw[f]at F ⊢
      clear hw v m f h1
      rw[fN]
      repeat' first|simp(disch:=omega)only[go_sem, *,ae i,gw,wrap_i64,F,h2]|apply ab<;>intro h<;>try omega|refine ak (ay _ []) ?_|refine ak (bX _ _) ?_|refine gO a6 (aE rfl) zR6 zR6 zR6 ?_
      refine⟨k', [],hI,C, ?_⟩
      rw[b7 zU6,HW.out,show(k:Int)+1=(k':Nat) by rw[HK.out];omega]
      simp
     ·have hw:(CN [] l k).map (λs=> [pS s])++ [[pS l[k].1]]=(CN [] l k').map λs=> [pS s]:=by rw[v,m,zC8];rfl
      have HW:=Lib.hid hw
      have HK:=Lib.hid v
      rw[b7 f]
      clear hw v m f
      repeat' first|simp(disch:=omega)only[go_sem, *,ae i,gw,wrap_i64,h1,h2]|apply ab<;>intro h<;>try omega|refine ak (ay _ _) ?_|refine ak (bX _ _) ?_|refine aP rfl zS0 (aE rfl) zR8 zR8 ?_
      refine⟨k', [(0,1)],hI,C, ?_⟩
      rw[b7 zU6,HW.out,show(k:Int)+1=(k':Nat) by rw[HK.out];omega]
      simp
    ·rw[z h1 h2]
     clear y z A m q
     by_cases f:CN [] l k= []
     ·rw[f]at h1 ⊢
      clear f
      rw[fN]
      exact zZ2
     ·rw[b7 f]
      clear f
      exact zZ3
   ·rw[y h1]
    clear y z A m q
    by_cases f:CN [] l k= []
    ·rw[f]at h1 ⊢
     clear f
     rw[fN]
     exact yA9
    ·rw[b7 f]
     clear f
     exact yB0
  ·have hz:=d.out
   rw[zB6 zR5]at hz
   rw[hz]
   clear hz d
   by_cases f:CN [] l k= []
   ·rw[f,fN]
    clear f
    exact zW0
   ·rw[b7 f]
    clear f
    exact zW0
 ·repeat' first|simp(disch:=omega)only[go_sem, *]|apply ab<;>intro h<;>try omega|refine gO a6 (aD λx=>rfl) (by simpa using H) zR8 zR8 ?_
  refine al (λk:Nat=>Ro [(6,I k),(1,.c (.pure (bj sizes))),(0,bF gw l)] 5 [] 0 (CN sizes l k)) (λk=>k≤l.length∧Hid (bE sizes sizes (l.take k)=0)) (λk=>l.length-k) ⟨0, [],⟨by omega,by show _=_;simp[bE]⟩,by rw[SP,b7 H];simp⟩ ?_
  rintro k ⟨hk,d⟩
  refine aa ?_
  by_cases i:k<l.length
  ·have y:= λh1=>xy (sizes:=sizes) i d.out h1
   have z:= λh1 h2=>xZ (sizes:=sizes) i d.out h1 h2
   have E:= λh1 h2=>Lib.hid (yF (sizes:=sizes) i d.out h1 h2)
   rw[show sizes++(l.take k).map (·.1)=CN sizes l k from rfl]at y z E
   have P:=Vh (sizes:=sizes) k O hl
   have m:=RV (sizes:=sizes) i
   have q:CN sizes l (k+1)≠ []:=by rw[m];simp
   have A:aQ (CN sizes l k) l[k].1=0→bL sizes l[k].2=0→ ∃t':Nat,(t'≤l.length∧Hid (bE sizes sizes (l.take t')=0))∧l.length-t'<l.length-k∧t'=k+1:= λh1 h2=>⟨k+1,⟨by omega,E h1 h2⟩,by omega,rfl⟩
   clear d E
   by_cases h1:aQ (CN sizes l k) l[k].1=0
   ·by_cases h2:bL sizes l[k].2=0
    ·obtain⟨k',hI,C,v⟩:=A h1 h2
     clear y z A
     by_cases f:CN sizes l k= []
     ·have hw:([[pS l[k].1]]:List (List PC))=(CN sizes l k').map λs=> [pS s]:=by rw[v,m,f];rfl
      have HW:=Lib.hid hw
      have HK:=Lib.hid v
      have F:=h1
      rw[f]at F ⊢
      clear hw v m f h1
      rw[fN]
      repeat' first|simp(disch:=omega)only[go_sem, *,ae i,gw,wrap_i64,F,h2]|apply ab<;>intro h<;>try omega|refine ak (ay _ []) ?_|refine ak (bX _ _) ?_|refine gO a6 (aE rfl) zR6 zR6 zR6 ?_
      refine⟨k', [],hI,C, ?_⟩
      rw[b7 zU6,HW.out,show(k:Int)+1=(k':Nat) by rw[HK.out];omega]
      simp
     ·have hw:(CN sizes l k).map (λs=> [pS s])++ [[pS l[k].1]]=(CN sizes l k').map λs=> [pS s]:=by rw[v,m,zC8];rfl
      have HW:=Lib.hid hw
      have HK:=Lib.hid v
      rw[b7 f]
      clear hw v m f
      repeat' first|simp(disch:=omega)only[go_sem, *,ae i,gw,wrap_i64,h1,h2]|apply ab<;>intro h<;>try omega|refine ak (ay _ _) ?_|refine ak (bX _ _) ?_|refine aP rfl zS0 (aE rfl) zR8 zR8 ?_
      refine⟨k', [(0,1)],hI,C, ?_⟩
      rw[b7 zU6,HW.out,show(k:Int)+1=(k':Nat) by rw[HK.out];omega]
      simp
    ·rw[z h1 h2]
     clear y z A m q
     by_cases f:CN sizes l k= []
     ·rw[f]at h1 ⊢
      clear f
      rw[fN]
      exact zZ2
     ·rw[b7 f]
      clear f
      exact zZ3
   ·rw[y h1]
    clear y z A m q
    by_cases f:CN sizes l k= []
    ·rw[f]at h1 ⊢
     clear f
     rw[fN]
     exact yA9
    ·rw[b7 f]
     clear f
     exact yB0
  ·have hz:=d.out
   rw[zB6 zR5]at hz
   rw[hz]
   clear hz d
   by_cases f:CN sizes l k= []
   ·rw[f,fN]
    clear f
    exact zW0
   ·rw[b7 f]
    clear f
    exact zW0
end Go.Proofs.YtigdjhnndaokjaaGreatDoor
