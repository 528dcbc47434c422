import Derived.Test.YthbcbaembicdbaaGreatDoorV17c
set_option linter.unusedVariables false
set_option linter.unusedSimpArgs false
set_option maxHeartbeats 4000000
set_option maxRecDepth 1000000
namespace Go.Proofs.YthbcbaembicdbaaGreatDoor
open Go.Abs Go.RowKit
theorem Hp {p:bI} (hf:j0 p) (vars:List ByteArray) (e:Ex):i0 e→ac Tryz.prog sc [fO p,.c (.pure (c8 vars)),fJ e] (MU (jf p vars e)):=by
 refine Ex.ind (p:=λe=>i0 e→ac Tryz.prog sc [fO p,.c (.pure (c8 vars)),fJ e] (MU (jf p vars e))) (λe ih hr=> ?_) e
 refine ac.of I1 (by simp) λhb=>aa ?_
 have hl:=(eh hb.2.2).1
 obtain⟨ha,ho1,ho2,_⟩:=dY hr
 have ha3:e.args.length≤3:=by rcases zS ho1 ho2 with h|h|h|h|h|h<;>omega
 have HA:=Lib.hid ha
 clear ha
 conv in Ad=>cbv
 repeat' first|simp(disch:=omega) only[go_sem]|((with_reducible refine ab ?_ ?_)<;>intro h<;>try first|omega|simp(disch:=omega) only[go_sem, *])
 refine dR 8 67 5 rfl (by decide) ?_
 refine an (λs:Nat×List Ty=>⟨[(9,I s.1),(8,.c (.ref 3)),(6,.c (.ptr 2 0)),(5,.c (.ptr 1 0)),(3,.c (.ptr 0 0)),(1,.c (.pure (c8 vars)))], [(3,.arr 67 5 (s.2.map XM)),(2,Zl js),(1,Gy e),(0,eV p)],4,0⟩) (λs=>s.1≤e.args.length∧Hid (dO p vars (e.args.take s.1)= .inr s.2)) (λs=>e.args.length-s.1) ⟨(0, []), [],⟨by omega,by show _=_;simp[dO]⟩,by simp[js]⟩ ?_
 rintro⟨k,ts⟩ ⟨hk,hall⟩
 refine aa ?_
 simp only at hk hall
 by_cases hlt:k<e.args.length
 ·have hih:=ih _ (List.getElem_mem hlt) (iU hr (List.getElem_mem hlt))
  have hlk:ts.length=k:=by
   have:=qJ hall.out
   rw[this,List.length_take]
   omega
  by_cases h0:(eA p vars e.args[k]).2=0
  ·have hn:=Gz hlt hall.out h0
   have h0':(jf p vars e.args[k]).2=0:=(nn _).trans h0
   have ht:=Nl h0
   rw[←ht]at hn
   have HN:=Lib.hid hn
   clear ih hr hall hn ht h0
   generalize jf p vars e.args[k]=r at*
   have ht:ts.map XM++ [XM r.1]=(ts++ [r.1]).map XM:=by simp
   simp only[XM]at ht
   have HT:=Lib.hid ht
   clear ht
   repeat' first|simp(disch:=omega) only[go_sem,ah hlt,Ex.row_eq,wrap_i64,h0']|((with_reducible refine ab ?_ ?_)<;>intro h<;>try first|omega|simp(disch:=omega) only[go_sem, *,ah hlt,Ex.row_eq,wrap_i64,h0'])|(refine af hih rfl (.inl rfl) ?_)|(refine aJ rfl (by intro h;cases h) (aB rfl) (by simp;omega) (by simp;omega) ?_)
   rw[HT.out]
   exact⟨(k+1,ts++ [r.1]), [(3,5)],⟨by omega,HN⟩,by show _-_<_-_;omega,by simp⟩
  ·have hn:=GY hlt hall.out h0
   have h0': ¬(jf p vars e.args[k]).2=0:=λh=>h0 ((nn _).symm.trans h)
   have hR:jf p vars e=(js,(jf p vars e.args[k]).2):=by rw[nn];conv=>lhs;unfold jf;rw[hn]
   rw[hR]
   clear ih hr hall hn h0 hR
   generalize jf p vars e.args[k]=r at*
   repeat' first|simp(disch:=omega) only[go_sem,ah hlt,Ex.row_eq,wrap_i64,h0']|((with_reducible refine ab ?_ ?_)<;>intro h<;>try first|omega|simp(disch:=omega) only[go_sem, *,ah hlt,Ex.row_eq,wrap_i64,h0'])|(refine af hih rfl (.inl rfl) ?_)
   try rfl
 ·have hts:=hall.out
  rw[List.take_of_length_le (by omega)]at hts
  have hlk:=qJ hts
  have hR:jf p vars e=zE e.op (aZ p vars e ts):=by unfold jf;rw[hts]
  have hrd:=F3 hf vars e
  have hfo:=sZ p vars [e.lin]
  clear ih hr hall hts
  have hts:=HA.out
  clear HA
  rcases zS ho1 ho2 with⟨g|g|g,h2⟩|⟨g|g|g,h2⟩|⟨g,h2⟩|⟨g,h2⟩|⟨g,h2⟩|⟨g,h2⟩
  ·rw[hR.trans (show zE e.op (aZ p vars e ts)=(e.ty,0) by simp[zE,aZ,g])]
   clear hR hlk h2 hts hrd hfo
   repeat' first|simp(disch:=omega) only[go_sem,g]|((with_reducible refine ab ?_ ?_)<;>intro h<;>try first|omega|simp(disch:=omega) only[go_sem, *,g])
  ·rw[hR.trans (show zE e.op (aZ p vars e ts)=((3,0,0,0,0),dX p vars [e.lin]) by simp[zE,aZ,g])]
   clear hR hlk h2 hts hrd
   repeat' first|simp(disch:=omega) only[go_sem,g]|((with_reducible refine ab ?_ ?_)<;>intro h<;>try first|omega|simp(disch:=omega) only[go_sem, *,g])|(refine af hfo rfl (.inl rfl) ?_)
  ·have hz:zE 3 (gx p vars e)=gx p vars e:=by
    unfold gx zE
    repeat' split
    all_goals first
     |rfl
     |simp_all
   rw[hR.trans (show zE e.op (aZ p vars e ts)=gx p vars e by simp[aZ,g,hz])]
   clear hR hlk h2 hts hfo hz
   simp only[fJ,g]at hrd
   repeat' first|simp(disch:=omega) only[go_sem,g]|((with_reducible refine ab ?_ ?_)<;>intro h<;>try first|omega|simp(disch:=omega) only[go_sem, *,g])|(refine af hrd rfl (.inl rfl) ?_)
  ·obtain⟨a,rfl⟩:=abg (l:=ts) (by omega)
   rw[hR.trans (show zE e.op (aZ p vars e [a])=(a,0) by simp[zE,aZ,g])]
   clear hR hlk h2 hts hrd hfo
   repeat' first|simp(disch:=omega) only[go_sem,g,Int.toNat_zero]|((with_reducible refine ab ?_ ?_)<;>intro h<;>try first|omega|simp(disch:=omega) only[go_sem, *,g,Int.toNat_zero])
  ·rw[hR.trans (show zE e.op (aZ p vars e ts)=(e.ty,0) by simp[zE,aZ,g])]
   clear hR hlk h2 hts hrd hfo
   repeat' first|simp(disch:=omega) only[go_sem,g]|((with_reducible refine ab ?_ ?_)<;>intro h<;>try first|omega|simp(disch:=omega) only[go_sem, *,g])
  ·rw[hR.trans (show zE e.op (aZ p vars e ts)=(js,0) by simp[zE,aZ,g])]
   clear hR hlk h2 hts hrd hfo
   repeat' first|simp(disch:=omega) only[go_sem,g]|((with_reducible refine ab ?_ ?_)<;>intro h<;>try first|omega|simp(disch:=omega) only[go_sem, *,g])
   try rfl
  ·obtain⟨a,b,c,rfl⟩:=abG (l:=ts) (by omega)
   by_cases hbc:b=c
   ·subst hbc
    rw[hR.trans (show zE e.op (aZ p vars e [a,b,b])=(b,0) by simp[zE,aZ,g])]
    clear hR hlk h2 hts hrd hfo
    repeat' first|simp(disch:=omega) only[go_sem,g,Int.toNat_zero,show Int.toNat 1=1 from rfl,show Int.toNat 2=2 from rfl]|((with_reducible refine ab ?_ ?_)<;>intro h<;>try first|omega|simp(disch:=omega) only[go_sem, *,g,Int.toNat_zero,show Int.toNat 1=1 from rfl,show Int.toNat 2=2 from rfl])
   ·rw[hR.trans (show zE e.op (aZ p vars e [a,b,c])=(js,10) by simp[zE,aZ,g,hbc])]
    clear hR hlk h2 hts hrd hfo
    repeat' first|simp(disch:=omega) only[go_sem,g,Int.toNat_zero,show Int.toNat 1=1 from rfl,show Int.toNat 2=2 from rfl]|((with_reducible refine ab ?_ ?_)<;>intro h<;>try first|omega|simp(disch:=omega) only[go_sem, *,g,Int.toNat_zero,show Int.toNat 1=1 from rfl,show Int.toNat 2=2 from rfl])
    all_goals first
     |exact absurd (yX h) hbc
     |rfl
  ·obtain⟨a,b,rfl⟩:=YC (l:=ts) (by omega)
   have h3: ¬e.op=1∧ ¬e.op=2∧ ¬e.op=3∧ ¬e.op=12∧ ¬e.op=8∧ ¬e.op=11∧ ¬16≤e.op∧13≤e.op:=by omega
   obtain⟨g1,g2,g3,g4,g5,g6,g7,g8⟩:=h3
   clear g
   by_cases hbc:a=b
   ·subst hbc
    rw[hR.trans (show zE e.op (aZ p vars e [a,a])=(js,0) by simp[zE,aZ,g1,g2,g3,g4,g5,g6,g7,g8])]
    clear hR hlk h2 hts hrd hfo
    repeat' first|simp(disch:=omega) only[go_sem,Int.toNat_zero,show Int.toNat 1=1 from rfl]|((with_reducible refine ab ?_ ?_)<;>intro h<;>try first|omega|simp(disch:=omega) only[go_sem, *,Int.toNat_zero,show Int.toNat 1=1 from rfl])
    try rfl
   ·rw[hR.trans (show zE e.op (aZ p vars e [a,b])=(js,10) by simp[zE,aZ,g1,g2,g3,g4,g5,g6,g7,g8,hbc])]
    clear hR hlk h2 hts hrd hfo
    repeat' first|simp(disch:=omega) only[go_sem,Int.toNat_zero,show Int.toNat 1=1 from rfl]|((with_reducible refine ab ?_ ?_)<;>intro h<;>try first|omega|simp(disch:=omega) only[go_sem, *,Int.toNat_zero,show Int.toNat 1=1 from rfl])
    all_goals first
     |exact absurd (yX h) hbc
     |rfl
  ·have h3: ¬e.op=1∧ ¬e.op=2∧ ¬e.op=3∧ ¬e.op=12∧ ¬e.op=8∧ ¬e.op=11∧16≤e.op:=by omega
   obtain⟨g1,g2,g3,g4,g5,g6,g7⟩:=h3
   clear g
   rw[hR.trans (show zE e.op (aZ p vars e ts)=(js,0) by simp[zE,aZ,g1,g2,g3,g4,g5,g6,g7])]
   clear hR hlk h2 hts hrd hfo
   repeat' first|simp(disch:=omega) only[go_sem]|((with_reducible refine ab ?_ ?_)<;>intro h<;>try first|omega|simp(disch:=omega) only[go_sem, *])
   try rfl
  ·obtain⟨a,b,rfl⟩:=YC (l:=ts) (by omega)
   have h3: ¬e.op=1∧ ¬e.op=2∧ ¬e.op=3∧ ¬e.op=12∧ ¬e.op=8∧ ¬e.op=11∧ ¬16≤e.op∧ ¬13≤e.op:=by omega
   obtain⟨g1,g2,g3,g4,g5,g6,g7,g8⟩:=h3
   clear g
   by_cases hbc:a=b
   ·subst hbc
    rw[hR.trans (show zE e.op (aZ p vars e [a,a])=(a,0) by simp[zE,aZ,g1,g2,g3,g4,g5,g6,g7,g8])]
    clear hR hlk h2 hts hrd hfo
    repeat' first|simp(disch:=omega) only[go_sem,Int.toNat_zero,show Int.toNat 1=1 from rfl]|((with_reducible refine ab ?_ ?_)<;>intro h<;>try first|omega|simp(disch:=omega) only[go_sem, *,Int.toNat_zero,show Int.toNat 1=1 from rfl])
    try rfl
   ·rw[hR.trans (show zE e.op (aZ p vars e [a,b])=(js,10) by simp[zE,aZ,g1,g2,g3,g4,g5,g6,g7,g8,hbc])]
    clear hR hlk h2 hts hrd hfo
    repeat' first|simp(disch:=omega) only[go_sem,Int.toNat_zero,show Int.toNat 1=1 from rfl]|((with_reducible refine ab ?_ ?_)<;>intro h<;>try first|omega|simp(disch:=omega) only[go_sem, *,Int.toNat_zero,show Int.toNat 1=1 from rfl])
    all_goals first
     |exact absurd (yX h) hbc
     |rfl
theorem Cc {p:bI} (hf:j0 p) (vars:List ByteArray) {e:Ex} (h64: ∀a∈e.pre,tL a.val):ac Tryz.prog vV [fO p,.c (.pure (c8 vars)),fJ e] (MU (bu p vars e)):=by
 refine ac.of Eu (by simp) λhb=>aa ?_
 conv in wi=>cbv
 have hv:=yY h64
 by_cases h1:gZ e=0
 ·by_cases h2:mi e.op
  ·have hR:bu p vars e=(js,10):=by unfold bu;rw[if_neg (not_not_intro h1),if_pos h2]
   rw[hR]
   clear hR
   repeat' first|simp(disch:=omega) only[go_sem,h1,h2,decide_true]|((with_reducible refine ab ?_ ?_)<;>intro h<;>try first|omega|simp(disch:=omega) only[go_sem, *,h1,h2,decide_true])|(refine af hv rfl (.inl rfl) ?_)|(refine af (eT e) rfl (.inl rfl) ?_)
   try rfl
  ·have hnd:=Hp hf vars e (ro h1)
   by_cases h3:(eA p vars e).2=0
   ·have hR:bu p vars e=((jf p vars e).1,0):=by unfold bu;rw[if_neg (not_not_intro h1),if_neg h2,if_neg (not_not_intro h3),Nl h3]
    have h3':=(nn (p:=p) (vars:=vars) e).trans h3
    rw[hR]
    clear hR h3
    generalize jf p vars e=r at*
    repeat' first|simp(disch:=omega) only[go_sem,h1,h2,h3',decide_false]|((with_reducible refine ab ?_ ?_)<;>intro h<;>try first|omega|simp(disch:=omega) only[go_sem, *,h1,h2,h3',decide_false])|(refine af hv rfl (.inl rfl) ?_)|(refine af (eT e) rfl (.inl rfl) ?_)|(refine af hnd rfl (.inl rfl) ?_)
    try rfl
   ·have hR:bu p vars e=(js,(jf p vars e).2):=by unfold bu;rw[if_neg (not_not_intro h1),if_neg h2,if_pos h3,nn]
    have h3': ¬(jf p vars e).2=0:=λh=>h3 ((nn e).symm.trans h)
    rw[hR]
    clear hR h3
    generalize jf p vars e=r at*
    repeat' first|simp(disch:=omega) only[go_sem,h1,h2,h3',decide_false]|((with_reducible refine ab ?_ ?_)<;>intro h<;>try first|omega|simp(disch:=omega) only[go_sem, *,h1,h2,h3',decide_false])|(refine af hv rfl (.inl rfl) ?_)|(refine af (eT e) rfl (.inl rfl) ?_)|(refine af hnd rfl (.inl rfl) ?_)
    try rfl
 ·have hR:bu p vars e=(js,gZ e):=by unfold bu;rw[if_pos h1]
  rw[hR]
  clear hR
  repeat' first|simp(disch:=omega) only[go_sem,h1]|((with_reducible refine ab ?_ ?_)<;>intro h<;>try first|omega|simp(disch:=omega) only[go_sem, *,h1])|(refine af hv rfl (.inl rfl) ?_)
  try rfl
set_option maxRecDepth 1000000
theorem aG (s:ByteArray) (taken:List ByteArray):ac Tryz.prog Ao [S s,.c (.pure (c8 taken))] (I (aS taken s)):=by
 refine ac.of Je (by simp) λhb=>aa ?_
 conv in A2=>cbv
 repeat' first|simp(disch:=omega) only[go_sem, *]|((with_reducible apply ab)<;>intro h<;>try omega)|(refine aF (gn _) rfl rfl ?_)|(refine aF (ij _ _) rfl rfl ?_)
 all_goals(refine IE ?_;unfold aS;grind)
theorem cr (l:bY) (sizes:List ByteArray):ac Tryz.prog zY [dm l.1 l.2,.c (.pure (c8 sizes))] (I (bE sizes l)):=by
 refine ac.of IU (by simp) λhb=>aa ?_
 conv in AJ=>cbv
 repeat' first|simp(disch:=omega) only[go_sem, *]|((with_reducible apply ab)<;>intro h<;>try omega)|(refine aF (d9 _ _) rfl rfl ?_)|(refine aF (iI l [] sizes) rfl rfl ?_)
 all_goals(refine IE ?_;unfold bE;grind)
theorem iL (x:qZ) (sizes taken:List ByteArray):ac Tryz.prog yE [abO x,.c (.pure (c8 sizes)),.c (.pure (c8 taken))] (I (dN sizes taken x)):=by
 refine ac.of Ih (by simp) λhb=>aa ?_
 conv in yk=>cbv
 by_cases h1:aS taken x.1=0
 ·by_cases h2:nb x.2.1
  ·by_cases h3:6<x.2.2.length
   ·have hR:dN sizes taken x=11:=by unfold dN;rw[if_neg (not_not_intro h1),if_neg (not_not_intro h2),if_pos h3]
    rw[hR]
    have h3':(x.2.2.length:Int)>6:=by omega
    clear hR
    repeat' first|simp(disch:=omega) only[go_sem, *,h1,h2,h3',decide_true]|((with_reducible apply ab)<;>intro h<;>try omega)|(refine aF (aG _ _) rfl rfl ?_)|(refine aF (bW x.2.1) rfl rfl ?_)
   ·have hR:dN sizes taken x=de (x.2.2.map (bE sizes)):=by unfold dN;rw[if_neg (not_not_intro h1),if_neg (not_not_intro h2),if_neg h3]
    rw[hR]
    have h3': ¬(x.2.2.length:Int)>6:=by omega
    clear hR
    repeat' first|simp(disch:=omega) only[go_sem, *,h1,h2,h3',decide_true]|((with_reducible apply ab)<;>intro h<;>try omega)|(refine aF (aG _ _) rfl rfl ?_)|(refine aF (bW x.2.1) rfl rfl ?_)
    refine an (λk:Nat=>⟨[(8,I k),(3,.c (.ptr 0 0)),(1,.c (.pure (c8 sizes)))], [(0,Xh x)],1,0⟩) (λk=>k≤x.2.2.length∧Hid (de ((x.2.2.map (bE sizes)).take k)=0)) (λk=>x.2.2.length-k) ⟨0, [],⟨by omega,by show _=_;simp[de]⟩,by simp⟩ ?_
    clear h1 h2
    rintro k ⟨hk,hall⟩
    refine aa ?_
    by_cases hlt:k<x.2.2.length
    ·have hlm:k<(x.2.2.map (bE sizes)).length:=by simpa using hlt
     have h4:=iR hlm hall.out
     have h5:=oH hlm hall.out
     rw[List.getElem_map]at h4 h5
     clear hall
     by_cases hz:bE sizes x.2.2[k]=0
     ·have HN:=Lib.hid (h4.trans hz)
      clear h4 h5
      repeat' first|simp(disch:=omega) only[go_sem, *,ah hlt,cd,wrap_i64,hz]|((with_reducible apply ab)<;>intro h<;>try omega)|(refine aF (cr _ _) rfl rfl ?_)
      exact⟨k+1, [],⟨by omega,HN⟩,by omega,by simp⟩
     ·rw[h5 hz]
      clear h4 h5
      repeat' first|simp(disch:=omega) only[go_sem, *,ah hlt,cd,wrap_i64,hz]|((with_reducible apply ab)<;>intro h<;>try omega)|(refine aF (cr _ _) rfl rfl ?_)
    ·have hz:=hall.out
     rw[List.take_of_length_le (by simp;omega)]at hz
     rw[hz]
     clear hz hall
     repeat' first|simp(disch:=omega) only[go_sem, *]|((with_reducible apply ab)<;>intro h<;>try omega)
  ·have hR:dN sizes taken x=10:=by unfold dN;rw[if_neg (not_not_intro h1),if_pos h2]
   rw[hR]
   clear hR
   repeat' first|simp(disch:=omega) only[go_sem, *,h1,h2,decide_false]|((with_reducible apply ab)<;>intro h<;>try omega)|(refine aF (aG _ _) rfl rfl ?_)|(refine aF (bW x.2.1) rfl rfl ?_)
 ·have hR:dN sizes taken x=aS taken x.1:=by unfold dN;rw[if_pos h1]
  rw[hR]
  clear hR
  repeat' first|simp(disch:=omega) only[go_sem, *,h1]|((with_reducible apply ab)<;>intro h<;>try omega)|(refine aF (aG _ _) rfl rfl ?_)
theorem y4 (sizes:List ByteArray): ∀(l r:List iu) (taken:List ByteArray),bB sizes taken (l++r)=if bB sizes taken l≠0 then bB sizes taken l else bB sizes (taken++l.map (·.1)) r
 | [],r,taken=>by simp[bB]
 |a::l,r,taken=>by
  have ih:=y4 sizes l r (taken++ [a.1])
  simp only[List.cons_append,bB,List.map_cons]
  rw[ih,List.append_assoc,List.singleton_append]
  by_cases h1:aS taken a.1=0
  ·by_cases h2:bE sizes a.2=0
   ·simp only[h1,h2,ne_eq,not_true_eq_false,if_false]
   ·simp only[h1,h2,ne_eq,not_true_eq_false,if_false,not_false_eq_true,if_true]
  ·simp only[h1,ne_eq,not_false_eq_true,if_true]
theorem tY {sizes:List ByteArray} {l:List iu} {k:Nat} (h:k<l.length) (h0:bB sizes sizes (l.take k)=0) (h1:aS (sizes++(l.take k).map (·.1)) l[k].1=0) (h2:bE sizes l[k].2=0):bB sizes sizes (l.take (k+1))=0:=by
 rw[List.take_succ_eq_append_getElem h,y4,if_neg (not_not_intro h0)]
 simp only[bB]
 rw[if_neg (not_not_intro h1),if_neg (not_not_intro h2)]
theorem zC {sizes:List ByteArray} {l:List iu} {k:Nat} (h:k<l.length) (h0:bB sizes sizes (l.take k)=0):bB sizes sizes l=bB sizes (sizes++(l.take k).map (·.1)) (l[k]::l.drop (k+1)):=by
 have:=y4 sizes (l.take k) (l[k]::l.drop (k+1)) sizes
 rw[←List.drop_eq_getElem_cons h,List.take_append_drop,if_neg (not_not_intro h0)]at this
 rw[this,List.drop_eq_getElem_cons h]
theorem vz {sizes:List ByteArray} {l:List iu} {k:Nat} (h:k<l.length) (h0:bB sizes sizes (l.take k)=0) (h1:aS (sizes++(l.take k).map (·.1)) l[k].1≠0):bB sizes sizes l=aS (sizes++(l.take k).map (·.1)) l[k].1:=by
 rw[zC h h0,bB,if_pos h1]
theorem vX {sizes:List ByteArray} {l:List iu} {k:Nat} (h:k<l.length) (h0:bB sizes sizes (l.take k)=0) (h1:aS (sizes++(l.take k).map (·.1)) l[k].1=0) (h2:bE sizes l[k].2≠0):bB sizes sizes l=bE sizes l[k].2:=by
 rw[zC h h0,bB,if_neg (not_not_intro h1),if_pos h2]
abbrev NL (fr:List (Nat×AV)) (t:Nat) (mem:List (Nat×bc)) (nx:Nat) (l:List ByteArray):St:=
 if l= []then⟨(t,.c (.tsl []))::fr,mem,nx,0⟩else⟨(t,.c (.ref nx))::fr,(nx,.arr 9 1 (l.map λs=> [pS s]))::mem,nx+1,0⟩
theorem fI {fr:List (Nat×AV)} {t:Nat} {mem:List (Nat×bc)} {nx:Nat}:NL fr t mem nx []=⟨(t,.c (.tsl []))::fr,mem,nx,0⟩:=if_pos rfl
theorem cz {fr:List (Nat×AV)} {t:Nat} {mem:List (Nat×bc)} {nx:Nat} {l:List ByteArray} (h:l≠ []):NL fr t mem nx l=⟨(t,.c (.ref nx))::fr,(nx,.arr 9 1 (l.map λs=> [pS s]))::mem,nx+1,0⟩:=if_neg h
def yQ (sizes:List ByteArray) (l:List iu) (k:Nat):List ByteArray:=sizes++(l.take k).map (·.1)
theorem MX {sizes:List ByteArray} {l:List iu} {k:Nat} (h:k<l.length):yQ sizes l (k+1)=yQ sizes l k++ [l[k].1]:=by
 unfold yQ
 rw[List.take_succ_eq_append_getElem h,List.map_append,List.append_assoc]
 rfl
theorem RZ {sizes:List ByteArray} {l:List iu} (k:Nat) (h:sizes.length≤100) (hl:l.length≤100):(yQ sizes l k).length≤200:=by
 unfold yQ
 simp
 omega
theorem NE {sizes:List ByteArray} {l:List iu}:yQ sizes l 0=sizes:=by simp[yQ]
theorem uX (l:List iu) (sizes:List ByteArray) (hl:l.length≤100) (hsz:sizes.length≤100):ac Tryz.prog zJ [j5 fl l,.c (.pure (c8 sizes))] (I (bB sizes sizes l)):=by
 refine ac.of I9 (by simp) λhb=>aa ?_
 conv in z7=>cbv
 by_cases hne:sizes= []
 ·subst hne
  repeat' first|simp(disch:=omega) only[go_sem, *]|((with_reducible apply ab)<;>intro h<;>try omega)|(refine dI be ?_)
  refine an (λk:Nat=>NL [(6,I k),(1,.c (.pure (c8 []))),(0,j5 fl l)] 5 [] 0 (yQ [] l k)) (λk=>k≤l.length∧Hid (bB [] [] (l.take k)=0)) (λk=>l.length-k) ⟨0, [],⟨by omega,by show _=_;simp[bB]⟩,by rw[NE,fI];simp⟩ ?_
  rintro k ⟨hk,hall⟩
  refine aa ?_
  by_cases hlt:k<l.length
  ·have hn1:=λh1=>vz (sizes:= []) hlt hall.out h1
   have hn2:=λh1 h2=>vX (sizes:= []) hlt hall.out h1 h2
   have hn3:=λh1 h2=>Lib.hid (tY (sizes:= []) hlt hall.out h1 h2)
   rw[show []++(l.take k).map (·.1)=yQ [] l k from rfl]at hn1 hn2 hn3
   have hlen:=RZ (sizes:= []) k hsz hl
   have htk:=MX (sizes:= []) hlt
   have hne1:yQ [] l (k+1)≠ []:=by rw[htk];simp
   have hn4:aS (yQ [] l k) l[k].1=0→bE [] l[k].2=0→ ∃t':Nat,(t'≤l.length∧Hid (bB [] [] (l.take t')=0))∧l.length-t'<l.length-k∧t'=k+1:=λh1 h2=>⟨k+1,⟨by omega,hn3 h1 h2⟩,by omega,rfl⟩
   clear hall hn3
   by_cases h1:aS (yQ [] l k) l[k].1=0
   ·by_cases h2:bE [] l[k].2=0
    ·obtain⟨k',hI,hlt',hk'⟩:=hn4 h1 h2
     clear hn1 hn2 hn4
     by_cases htn:yQ [] l k= []
     ·have hw:([[pS l[k].1]]:List (List PC))=(yQ [] l k').map λs=> [pS s]:=by rw[hk',htk,htn];rfl
      have HW:=Lib.hid hw
      have HK:=Lib.hid hk'
      have h1':=h1
      rw[htn]at h1' ⊢
      clear hw hk' htk htn h1
      rw[fI]
      repeat' first|simp(disch:=omega) only[go_sem, *,ah hlt,fl,wrap_i64,h1',h2]|((with_reducible apply ab)<;>intro h<;>try omega)|(refine aF (aG _ []) rfl rfl ?_)|(refine aF (cr _ _) rfl rfl ?_)|(refine dv be (aB rfl) (by simp) (by simp) (by simp) ?_)
      refine⟨k', [],hI,hlt', ?_⟩
      rw[cz (by rw[HK.out];exact hne1),HW.out,show(k:Int)+1=(k':Nat) by rw[HK.out];omega]
      simp
     ·have hw:(yQ [] l k).map (λs=> [pS s])++ [[pS l[k].1]]=(yQ [] l k').map λs=> [pS s]:=by rw[hk',htk,List.map_append];rfl
      have HW:=Lib.hid hw
      have HK:=Lib.hid hk'
      rw[cz htn]
      clear hw hk' htk htn
      repeat' first|simp(disch:=omega) only[go_sem, *,ah hlt,fl,wrap_i64,h1,h2]|((with_reducible apply ab)<;>intro h<;>try omega)|(refine aF (aG _ _) rfl rfl ?_)|(refine aF (cr _ _) rfl rfl ?_)|(refine aJ rfl (by intro h;cases h) (aB rfl) (by simp;omega) (by simp;omega) ?_)
      refine⟨k', [(0,1)],hI,hlt', ?_⟩
      rw[cz (by rw[HK.out];exact hne1),HW.out,show(k:Int)+1=(k':Nat) by rw[HK.out];omega]
      simp
    ·rw[hn2 h1 h2]
     clear hn1 hn2 hn4 htk hne1
     by_cases htn:yQ [] l k= []
     ·rw[htn]at h1 ⊢
      clear htn
      rw[fI]
      repeat' first|simp(disch:=omega) only[go_sem, *,ah hlt,fl,wrap_i64,h1,h2]|((with_reducible apply ab)<;>intro h<;>try omega)|(refine aF (aG _ []) rfl rfl ?_)|(refine aF (cr _ _) rfl rfl ?_)
     ·rw[cz htn]
      clear htn
      repeat' first|simp(disch:=omega) only[go_sem, *,ah hlt,fl,wrap_i64,h1,h2]|((with_reducible apply ab)<;>intro h<;>try omega)|(refine aF (aG _ _) rfl rfl ?_)|(refine aF (cr _ _) rfl rfl ?_)
   ·rw[hn1 h1]
    clear hn1 hn2 hn4 htk hne1
    by_cases htn:yQ [] l k= []
    ·rw[htn]at h1 ⊢
     clear htn
     rw[fI]
     repeat' first|simp(disch:=omega) only[go_sem, *,ah hlt,fl,wrap_i64,h1]|((with_reducible apply ab)<;>intro h<;>try omega)|(refine aF (aG _ []) rfl rfl ?_)
    ·rw[cz htn]
     clear htn
     repeat' first|simp(disch:=omega) only[go_sem, *,ah hlt,fl,wrap_i64,h1]|((with_reducible apply ab)<;>intro h<;>try omega)|(refine aF (aG _ _) rfl rfl ?_)
  ·have hz:=hall.out
   rw[List.take_of_length_le (by omega)]at hz
   rw[hz]
   clear hz hall
   by_cases htn:yQ [] l k= []
   ·rw[htn,fI]
    clear htn
    repeat' first|simp(disch:=omega) only[go_sem, *]|((with_reducible apply ab)<;>intro h<;>try omega)
   ·rw[cz htn]
    clear htn
    repeat' first|simp(disch:=omega) only[go_sem, *]|((with_reducible apply ab)<;>intro h<;>try omega)
 ·repeat' first|simp(disch:=omega) only[go_sem, *]|((with_reducible apply ab)<;>intro h<;>try omega)|(refine dv be (av λx=>rfl) (by simpa using hne) (by simp;omega) (by simp;omega) ?_)
  refine an (λk:Nat=>NL [(6,I k),(1,.c (.pure (c8 sizes))),(0,j5 fl l)] 5 [] 0 (yQ sizes l k)) (λk=>k≤l.length∧Hid (bB sizes sizes (l.take k)=0)) (λk=>l.length-k) ⟨0, [],⟨by omega,by show _=_;simp[bB]⟩,by rw[NE,cz hne];simp⟩ ?_
  rintro k ⟨hk,hall⟩
  refine aa ?_
  by_cases hlt:k<l.length
  ·have hn1:=λh1=>vz (sizes:=sizes) hlt hall.out h1
   have hn2:=λh1 h2=>vX (sizes:=sizes) hlt hall.out h1 h2
   have hn3:=λh1 h2=>Lib.hid (tY (sizes:=sizes) hlt hall.out h1 h2)
   rw[show sizes++(l.take k).map (·.1)=yQ sizes l k from rfl]at hn1 hn2 hn3
   have hlen:=RZ (sizes:=sizes) k hsz hl
   have htk:=MX (sizes:=sizes) hlt
   have hne1:yQ sizes l (k+1)≠ []:=by rw[htk];simp
   have hn4:aS (yQ sizes l k) l[k].1=0→bE sizes l[k].2=0→ ∃t':Nat,(t'≤l.length∧Hid (bB sizes sizes (l.take t')=0))∧l.length-t'<l.length-k∧t'=k+1:=λh1 h2=>⟨k+1,⟨by omega,hn3 h1 h2⟩,by omega,rfl⟩
   clear hall hn3
   by_cases h1:aS (yQ sizes l k) l[k].1=0
   ·by_cases h2:bE sizes l[k].2=0
    ·obtain⟨k',hI,hlt',hk'⟩:=hn4 h1 h2
     clear hn1 hn2 hn4
     by_cases htn:yQ sizes l k= []
     ·have hw:([[pS l[k].1]]:List (List PC))=(yQ sizes l k').map λs=> [pS s]:=by rw[hk',htk,htn];rfl
      have HW:=Lib.hid hw
      have HK:=Lib.hid hk'
      have h1':=h1
      rw[htn]at h1' ⊢
      clear hw hk' htk htn h1
      rw[fI]
      repeat' first|simp(disch:=omega) only[go_sem, *,ah hlt,fl,wrap_i64,h1',h2]|((with_reducible apply ab)<;>intro h<;>try omega)|(refine aF (aG _ []) rfl rfl ?_)|(refine aF (cr _ _) rfl rfl ?_)|(refine dv be (aB rfl) (by simp) (by simp) (by simp) ?_)
      refine⟨k', [],hI,hlt', ?_⟩
      rw[cz (by rw[HK.out];exact hne1),HW.out,show(k:Int)+1=(k':Nat) by rw[HK.out];omega]
      simp
     ·have hw:(yQ sizes l k).map (λs=> [pS s])++ [[pS l[k].1]]=(yQ sizes l k').map λs=> [pS s]:=by rw[hk',htk,List.map_append];rfl
      have HW:=Lib.hid hw
      have HK:=Lib.hid hk'
      rw[cz htn]
      clear hw hk' htk htn
      repeat' first|simp(disch:=omega) only[go_sem, *,ah hlt,fl,wrap_i64,h1,h2]|((with_reducible apply ab)<;>intro h<;>try omega)|(refine aF (aG _ _) rfl rfl ?_)|(refine aF (cr _ _) rfl rfl ?_)|(refine aJ rfl (by intro h;cases h) (aB rfl) (by simp;omega) (by simp;omega) ?_)
      refine⟨k', [(0,1)],hI,hlt', ?_⟩
      rw[cz (by rw[HK.out];exact hne1),HW.out,show(k:Int)+1=(k':Nat) by rw[HK.out];omega]
      simp
    ·rw[hn2 h1 h2]
     clear hn1 hn2 hn4 htk hne1
     by_cases htn:yQ sizes l k= []
     ·rw[htn]at h1 ⊢
      clear htn
      rw[fI]
      repeat' first|simp(disch:=omega) only[go_sem, *,ah hlt,fl,wrap_i64,h1,h2]|((with_reducible apply ab)<;>intro h<;>try omega)|(refine aF (aG _ []) rfl rfl ?_)|(refine aF (cr _ _) rfl rfl ?_)
     ·rw[cz htn]
      clear htn
      repeat' first|simp(disch:=omega) only[go_sem, *,ah hlt,fl,wrap_i64,h1,h2]|((with_reducible apply ab)<;>intro h<;>try omega)|(refine aF (aG _ _) rfl rfl ?_)|(refine aF (cr _ _) rfl rfl ?_)
   ·rw[hn1 h1]
    clear hn1 hn2 hn4 htk hne1
    by_cases htn:yQ sizes l k= []
    ·rw[htn]at h1 ⊢
     clear htn
     rw[fI]
     repeat' first|simp(disch:=omega) only[go_sem, *,ah hlt,fl,wrap_i64,h1]|((with_reducible apply ab)<;>intro h<;>try omega)|(refine aF (aG _ []) rfl rfl ?_)
    ·rw[cz htn]
     clear htn
     repeat' first|simp(disch:=omega) only[go_sem, *,ah hlt,fl,wrap_i64,h1]|((with_reducible apply ab)<;>intro h<;>try omega)|(refine aF (aG _ _) rfl rfl ?_)
  ·have hz:=hall.out
   rw[List.take_of_length_le (by omega)]at hz
   rw[hz]
   clear hz hall
   by_cases htn:yQ sizes l k= []
   ·rw[htn,fI]
    clear htn
    repeat' first|simp(disch:=omega) only[go_sem, *]|((with_reducible apply ab)<;>intro h<;>try omega)
   ·rw[cz htn]
    clear htn
    repeat' first|simp(disch:=omega) only[go_sem, *]|((with_reducible apply ab)<;>intro h<;>try omega)
end Go.Proofs.YthbcbaembicdbaaGreatDoor
