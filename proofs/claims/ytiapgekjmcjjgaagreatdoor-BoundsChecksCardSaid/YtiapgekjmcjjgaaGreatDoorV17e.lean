import Derived.Test.YtiapgekjmcjjgaaGreatDoorV17c
set_option maxHeartbeats 4000000
set_option linter.unusedVariables false
set_option linter.unusedSimpArgs false
set_option maxRecDepth 1000000
open Go.Proofs.Tryz renaming prog→Ya
namespace Go.Proofs.YtiapgekjmcjjgaaGreatDoor
open Go.Abs Go.RowKit
theorem z6 {p:bG} (hf:iR p) (vars:List ByteArray) (e:Ex):iy e→ac Ya 139 [gy p,.c (.pure (c7 vars)),fE e] (Ie (iN p vars e)):=by
 refine Ex.ind (p:= λe=>iy e→ac Ya 139 [gy p,.c (.pure (c7 vars)),fE e] (Ie (iN p vars e))) (λe ih hr=> ?_) e
 refine ac.of Cf (by simp) λhb=>aa ?_
 have hl:=(ed hb.2.2).1
 obtain⟨ha,J,K,_⟩:=dP hr
 have R:e.args.length≤3:=by rcases uN J K with h|h|h|h|h|h<;>omega
 have HA:=Lib.hid ha
 clear ha
 conv in bh _ _=>cbv
 repeat' first|simp(disch:=omega)only[go_sem]|((with_reducible refine ab ?_ ?_)<;>intro h<;>try first|omega|simp(disch:=omega)only[go_sem, *])
 refine dv 8 45 5 rfl (by decide) ?_
 refine ai (λs:Nat×List Ty=>⟨[(9,I s.1),(8,.c (.ref 3)),(6,.c (.ptr 2 0)),(5,.c (.ptr 1 0)),(3,.c (.ptr 0 0)),(1,.c (.pure (c7 vars)))], [(3,.arr 45 5 (s.2.map Qo)),(2,RR iH),(1,zB e),(0,eJ p)],4,0⟩) (λs=>s.1≤e.args.length∧Hid (dN p vars (e.args.take s.1)= .inr s.2)) (λs=>e.args.length-s.1) ⟨(0, []), [],⟨by omega,by show _=_;simp[dN]⟩,by simp[iH]⟩ ?_
 rintro⟨k,ts⟩ ⟨hk,d⟩
 refine aa ?_
 simp only at hk d
 by_cases i:k<e.args.length
 ·have L:=ih _ (List.getElem_mem i) (il hr (List.getElem_mem i))
  have n:ts.length=k:=by
   have:=nC d.out
   rw[this,List.length_take]
   omega
  by_cases h0:(eD p vars e.args[k]).2=0
  ·have hn:=BH i d.out h0
   have F:(iN p vars e.args[k]).2=0:=(lh _).trans h0
   have ht:=Hf h0
   rw[←ht]at hn
   have HN:=Lib.hid hn
   clear ih hr d hn ht h0
   generalize iN p vars e.args[k]=r at*
   have ht:ts.map Qo++ [Qo r.1]=(ts++ [r.1]).map Qo:=by simp
   simp only[Qo]at ht
   have HT:=Lib.hid ht
   clear ht
   repeat' first|simp(disch:=omega)only[go_sem,ah i,Ex.row_eq,wrap_i64,F]|((with_reducible refine ab ?_ ?_)<;>intro h<;>try first|omega|simp(disch:=omega)only[go_sem, *,ah i,Ex.row_eq,wrap_i64,F])|refine bA L rfl (.inl rfl) ?_|refine aA rfl (by intro h;cases h) (an rfl) (by simp;omega) (by simp;omega) ?_
   rw[HT.out]
   exact⟨(k+1,ts++ [r.1]), [(3,5)],⟨by omega,HN⟩,by show _-_<_-_;omega,by simp⟩
  ·have hn:=Ai i d.out h0
   have F: ¬(iN p vars e.args[k]).2=0:= λh=>h0 ((lh _).symm.trans h)
   have hR:iN p vars e=(iH,(iN p vars e.args[k]).2):=by rw[lh];conv=>lhs;unfold iN;rw[hn]
   rw[hR]
   clear ih hr d hn h0 hR
   generalize iN p vars e.args[k]=r at*
   repeat' first|simp(disch:=omega)only[go_sem,ah i,Ex.row_eq,wrap_i64,F]|((with_reducible refine ab ?_ ?_)<;>intro h<;>try first|omega|simp(disch:=omega)only[go_sem, *,ah i,Ex.row_eq,wrap_i64,F])|refine bA L rfl (.inl rfl) ?_
   try rfl
 ·have j:=d.out
  rw[List.take_of_length_le (by omega)]at j
  have n:=nC j
  have hR:iN p vars e=zE e.op (aY p vars e ts):=by unfold iN;rw[j]
  have o:=Bf hf vars e
  have u:=o7 p vars [e.lin]
  clear ih hr d j
  have j:=HA.out
  clear HA
  rcases uN J K with⟨g|g|g,h2⟩|⟨g|g|g,h2⟩|⟨g,h2⟩|⟨g,h2⟩|⟨g,h2⟩|⟨g,h2⟩
  ·rw[hR.trans (show zE e.op (aY p vars e ts)=(e.ty,0) by simp[zE,aY,g])]
   clear hR n h2 j o u
   repeat' first|simp(disch:=omega)only[go_sem,g]|((with_reducible refine ab ?_ ?_)<;>intro h<;>try first|omega|simp(disch:=omega)only[go_sem, *,g])
  ·rw[hR.trans (show zE e.op (aY p vars e ts)=((3,0,0,0,0),dR p vars [e.lin]) by simp[zE,aY,g])]
   clear hR n h2 j o
   repeat' first|simp(disch:=omega)only[go_sem,g]|((with_reducible refine ab ?_ ?_)<;>intro h<;>try first|omega|simp(disch:=omega)only[go_sem, *,g])|refine bA u rfl (.inl rfl) ?_
  ·have hz:zE 3 (gc p vars e)=gc p vars e:=by
    unfold gc zE
    repeat' split
    all_goals first
     |rfl
     |simp_all
   rw[hR.trans (show zE e.op (aY p vars e ts)=gc p vars e by simp[aY,g,hz])]
   clear hR n h2 j u hz
   simp only[fE,g]at o
   repeat' first|simp(disch:=omega)only[go_sem,g]|((with_reducible refine ab ?_ ?_)<;>intro h<;>try first|omega|simp(disch:=omega)only[go_sem, *,g])|refine bA o rfl (.inl rfl) ?_
  ·obtain⟨a,rfl⟩:=Um (l:=ts) (by omega)
   rw[hR.trans (show zE e.op (aY p vars e [a])=(a,0) by simp[zE,aY,g])]
   clear hR n h2 j o u
   repeat' first|simp(disch:=omega)only[go_sem,g,Int.toNat_zero]|((with_reducible refine ab ?_ ?_)<;>intro h<;>try first|omega|simp(disch:=omega)only[go_sem, *,g,Int.toNat_zero])
  ·rw[hR.trans (show zE e.op (aY p vars e ts)=(e.ty,0) by simp[zE,aY,g])]
   clear hR n h2 j o u
   repeat' first|simp(disch:=omega)only[go_sem,g]|((with_reducible refine ab ?_ ?_)<;>intro h<;>try first|omega|simp(disch:=omega)only[go_sem, *,g])
  ·rw[hR.trans (show zE e.op (aY p vars e ts)=(iH,0) by simp[zE,aY,g])]
   clear hR n h2 j o u
   repeat' first|simp(disch:=omega)only[go_sem,g]|((with_reducible refine ab ?_ ?_)<;>intro h<;>try first|omega|simp(disch:=omega)only[go_sem, *,g])
   try rfl
  ·obtain⟨a,b,c,rfl⟩:=T6 (l:=ts) (by omega)
   by_cases w:b=c
   ·subst w
    rw[hR.trans (show zE e.op (aY p vars e [a,b,b])=(b,0) by simp[zE,aY,g])]
    clear hR n h2 j o u
    repeat' first|simp(disch:=omega)only[go_sem,g,Int.toNat_zero,show Int.toNat 1=1 from rfl,show Int.toNat 2=2 from rfl]|((with_reducible refine ab ?_ ?_)<;>intro h<;>try first|omega|simp(disch:=omega)only[go_sem, *,g,Int.toNat_zero,show Int.toNat 1=1 from rfl,show Int.toNat 2=2 from rfl])
   ·rw[hR.trans (show zE e.op (aY p vars e [a,b,c])=(iH,10) by simp[zE,aY,g,w])]
    clear hR n h2 j o u
    repeat' first|simp(disch:=omega)only[go_sem,g,Int.toNat_zero,show Int.toNat 1=1 from rfl,show Int.toNat 2=2 from rfl]|((with_reducible refine ab ?_ ?_)<;>intro h<;>try first|omega|simp(disch:=omega)only[go_sem, *,g,Int.toNat_zero,show Int.toNat 1=1 from rfl,show Int.toNat 2=2 from rfl])
    all_goals first
     |exact absurd (tG h) w
     |rfl
  ·obtain⟨a,b,rfl⟩:=RC (l:=ts) (by omega)
   have h3: ¬e.op=1∧ ¬e.op=2∧ ¬e.op=3∧ ¬e.op=12∧ ¬e.op=8∧ ¬e.op=11∧ ¬16≤e.op∧13≤e.op:=by omega
   obtain⟨g1,g2,g3,g4,g5,g6,g7,g8⟩:=h3
   clear g
   by_cases w:a=b
   ·subst w
    rw[hR.trans (show zE e.op (aY p vars e [a,a])=(iH,0) by simp[zE,aY,g1,g2,g3,g4,g5,g6,g7,g8])]
    clear hR n h2 j o u
    repeat' first|simp(disch:=omega)only[go_sem,Int.toNat_zero,show Int.toNat 1=1 from rfl]|((with_reducible refine ab ?_ ?_)<;>intro h<;>try first|omega|simp(disch:=omega)only[go_sem, *,Int.toNat_zero,show Int.toNat 1=1 from rfl])
    try rfl
   ·rw[hR.trans (show zE e.op (aY p vars e [a,b])=(iH,10) by simp[zE,aY,g1,g2,g3,g4,g5,g6,g7,g8,w])]
    clear hR n h2 j o u
    repeat' first|simp(disch:=omega)only[go_sem,Int.toNat_zero,show Int.toNat 1=1 from rfl]|((with_reducible refine ab ?_ ?_)<;>intro h<;>try first|omega|simp(disch:=omega)only[go_sem, *,Int.toNat_zero,show Int.toNat 1=1 from rfl])
    all_goals first
     |exact absurd (tG h) w
     |rfl
  ·have h3: ¬e.op=1∧ ¬e.op=2∧ ¬e.op=3∧ ¬e.op=12∧ ¬e.op=8∧ ¬e.op=11∧16≤e.op:=by omega
   obtain⟨g1,g2,g3,g4,g5,g6,g7⟩:=h3
   clear g
   rw[hR.trans (show zE e.op (aY p vars e ts)=(iH,0) by simp[zE,aY,g1,g2,g3,g4,g5,g6,g7])]
   clear hR n h2 j o u
   repeat' first|simp(disch:=omega)only[go_sem]|((with_reducible refine ab ?_ ?_)<;>intro h<;>try first|omega|simp(disch:=omega)only[go_sem, *])
   try rfl
  ·obtain⟨a,b,rfl⟩:=RC (l:=ts) (by omega)
   have h3: ¬e.op=1∧ ¬e.op=2∧ ¬e.op=3∧ ¬e.op=12∧ ¬e.op=8∧ ¬e.op=11∧ ¬16≤e.op∧ ¬13≤e.op:=by omega
   obtain⟨g1,g2,g3,g4,g5,g6,g7,g8⟩:=h3
   clear g
   by_cases w:a=b
   ·subst w
    rw[hR.trans (show zE e.op (aY p vars e [a,a])=(a,0) by simp[zE,aY,g1,g2,g3,g4,g5,g6,g7,g8])]
    clear hR n h2 j o u
    repeat' first|simp(disch:=omega)only[go_sem,Int.toNat_zero,show Int.toNat 1=1 from rfl]|((with_reducible refine ab ?_ ?_)<;>intro h<;>try first|omega|simp(disch:=omega)only[go_sem, *,Int.toNat_zero,show Int.toNat 1=1 from rfl])
    try rfl
   ·rw[hR.trans (show zE e.op (aY p vars e [a,b])=(iH,10) by simp[zE,aY,g1,g2,g3,g4,g5,g6,g7,g8,w])]
    clear hR n h2 j o u
    repeat' first|simp(disch:=omega)only[go_sem,Int.toNat_zero,show Int.toNat 1=1 from rfl]|((with_reducible refine ab ?_ ?_)<;>intro h<;>try first|omega|simp(disch:=omega)only[go_sem, *,Int.toNat_zero,show Int.toNat 1=1 from rfl])
    all_goals first
     |exact absurd (tG h) w
     |rfl
theorem wC {p:bG} (hf:iR p) (vars:List ByteArray) {e:Ex} (Q: ∀a∈e.pre,pE a.val):ac Ya 93 [gy p,.c (.pure (c7 vars)),fE e] (Ie (bv p vars e)):=by
 refine ac.of yE (by simp) λhb=>aa ?_
 conv in bh _ _=>cbv
 have hv:=tx Q
 by_cases h1:gG e=0
 ·by_cases h2:kj e.op
  ·have hR:bv p vars e=(iH,10):=by unfold bv;rw[if_neg (not_not_intro h1),if_pos h2]
   rw[hR]
   clear hR
   repeat' first|simp(disch:=omega)only[go_sem,h1,h2,decide_true]|((with_reducible refine ab ?_ ?_)<;>intro h<;>try first|omega|simp(disch:=omega)only[go_sem, *,h1,h2,decide_true])|refine bA hv rfl (.inl rfl) ?_|refine bA (eQ e) rfl (.inl rfl) ?_
   try rfl
  ·have M:=z6 hf vars e (m0 h1)
   by_cases h3:(eD p vars e).2=0
   ·have hR:bv p vars e=((iN p vars e).1,0):=by unfold bv;rw[if_neg (not_not_intro h1),if_neg h2,if_neg (not_not_intro h3),Hf h3]
    have A:=(lh (p:=p) (vars:=vars) e).trans h3
    rw[hR]
    clear hR h3
    generalize iN p vars e=r at*
    repeat' first|simp(disch:=omega)only[go_sem,h1,h2,A,decide_false]|((with_reducible refine ab ?_ ?_)<;>intro h<;>try first|omega|simp(disch:=omega)only[go_sem, *,h1,h2,A,decide_false])|refine bA hv rfl (.inl rfl) ?_|refine bA (eQ e) rfl (.inl rfl) ?_|refine bA M rfl (.inl rfl) ?_
    try rfl
   ·have hR:bv p vars e=(iH,(iN p vars e).2):=by unfold bv;rw[if_neg (not_not_intro h1),if_neg h2,if_pos h3,lh]
    have A: ¬(iN p vars e).2=0:= λh=>h3 ((lh e).symm.trans h)
    rw[hR]
    clear hR h3
    generalize iN p vars e=r at*
    repeat' first|simp(disch:=omega)only[go_sem,h1,h2,A,decide_false]|((with_reducible refine ab ?_ ?_)<;>intro h<;>try first|omega|simp(disch:=omega)only[go_sem, *,h1,h2,A,decide_false])|refine bA hv rfl (.inl rfl) ?_|refine bA (eQ e) rfl (.inl rfl) ?_|refine bA M rfl (.inl rfl) ?_
    try rfl
 ·have hR:bv p vars e=(iH,gG e):=by unfold bv;rw[if_pos h1]
  rw[hR]
  clear hR
  repeat' first|simp(disch:=omega)only[go_sem,h1]|((with_reducible refine ab ?_ ?_)<;>intro h<;>try first|omega|simp(disch:=omega)only[go_sem, *,h1])|refine bA hv rfl (.inl rfl) ?_
  try rfl
set_option maxRecDepth 20000
set_option maxRecDepth 1000000
theorem aC (s:ByteArray) (taken:List ByteArray):ac Ya 87 [S s,.c (.pure (c7 taken))] (I (aP taken s)):=by
 refine ac.of Ca (by simp) λhb=>aa ?_
 conv in bh _ _=>cbv
 repeat' first|simp(disch:=omega)only[go_sem, *]|apply ab<;>intro h<;>try omega|refine aq (fX _) rfl rfl ?_|refine aq (gM _ _) rfl rfl ?_
 all_goals(refine IE ?_;unfold aP;grind)
theorem cp (l:bW) (sizes:List ByteArray):ac Ya 45 [da l.1 l.2,.c (.pure (c7 sizes))] (I (bH sizes l)):=by
 refine ac.of Cm (by simp) λhb=>aa ?_
 conv in bh _ _=>cbv
 repeat' first|simp(disch:=omega)only[go_sem, *]|apply ab<;>intro h<;>try omega|refine aq (dA _ _) rfl rfl ?_|refine aq (ic l [] sizes) rfl rfl ?_
 all_goals(refine IE ?_;unfold bH;grind)
theorem ib (x:nP) (sizes taken:List ByteArray):ac Ya 46 [UV x,.c (.pure (c7 sizes)),.c (.pure (c7 taken))] (I (dL sizes taken x)):=by
 refine ac.of BM (by simp) λhb=>aa ?_
 conv in bh _ _=>cbv
 by_cases h1:aP taken x.1=0
 ·by_cases h2:kU x.2.1
  ·by_cases h3:6<x.2.2.length
   ·have hR:dL sizes taken x=11:=by unfold dL;rw[if_neg (not_not_intro h1),if_neg (not_not_intro h2),if_pos h3]
    rw[hR]
    have A:(x.2.2.length:Int)>6:=by omega
    clear hR
    repeat' first|simp(disch:=omega)only[go_sem, *,h1,h2,A,decide_true]|apply ab<;>intro h<;>try omega|refine aq (aC _ _) rfl rfl ?_|refine aq (bX x.2.1) rfl rfl ?_
   ·have hR:dL sizes taken x=de (x.2.2.map (bH sizes)):=by unfold dL;rw[if_neg (not_not_intro h1),if_neg (not_not_intro h2),if_neg h3]
    rw[hR]
    have A: ¬(x.2.2.length:Int)>6:=by omega
    clear hR
    repeat' first|simp(disch:=omega)only[go_sem, *,h1,h2,A,decide_true]|apply ab<;>intro h<;>try omega|refine aq (aC _ _) rfl rfl ?_|refine aq (bX x.2.1) rfl rfl ?_
    refine ai (λk:Nat=>⟨[(8,I k),(3,.c (.ptr 0 0)),(1,.c (.pure (c7 sizes)))], [(0,Pa x)],1,0⟩) (λk=>k≤x.2.2.length∧Hid (de ((x.2.2.map (bH sizes)).take k)=0)) (λk=>x.2.2.length-k) ⟨0, [],⟨by omega,by show _=_;simp[de]⟩,by simp⟩ ?_
    clear h1 h2
    rintro k ⟨hk,d⟩
    refine aa ?_
    by_cases i:k<x.2.2.length
    ·have N:k<(x.2.2.map (bH sizes)).length:=by simpa using i
     have h4:=ix N d.out
     have h5:=lY N d.out
     rw[List.getElem_map]at h4 h5
     clear d
     by_cases hz:bH sizes x.2.2[k]=0
     ·have HN:=Lib.hid (h4.trans hz)
      clear h4 h5
      repeat' first|simp(disch:=omega)only[go_sem, *,ah i,b9,wrap_i64,hz]|apply ab<;>intro h<;>try omega|refine aq (cp _ _) rfl rfl ?_
      exact⟨k+1, [],⟨by omega,HN⟩,by omega,by simp⟩
     ·rw[h5 hz]
      clear h4 h5
      repeat' first|simp(disch:=omega)only[go_sem, *,ah i,b9,wrap_i64,hz]|apply ab<;>intro h<;>try omega|refine aq (cp _ _) rfl rfl ?_
    ·have hz:=d.out
     rw[List.take_of_length_le (by simp;omega)]at hz
     rw[hz]
     clear hz d
     repeat' first|simp(disch:=omega)only[go_sem, *]|apply ab<;>intro h<;>try omega
  ·have hR:dL sizes taken x=10:=by unfold dL;rw[if_neg (not_not_intro h1),if_pos h2]
   rw[hR]
   clear hR
   repeat' first|simp(disch:=omega)only[go_sem, *,h1,h2,decide_false]|apply ab<;>intro h<;>try omega|refine aq (aC _ _) rfl rfl ?_|refine aq (bX x.2.1) rfl rfl ?_
 ·have hR:dL sizes taken x=aP taken x.1:=by unfold dL;rw[if_pos h1]
  rw[hR]
  clear hR
  repeat' first|simp(disch:=omega)only[go_sem, *,h1]|apply ab<;>intro h<;>try omega|refine aq (aC _ _) rfl rfl ?_
theorem uc (sizes:List ByteArray): ∀(l r:List gU) (taken:List ByteArray),bF sizes taken (l++r)=if bF sizes taken l≠0 then bF sizes taken l else bF sizes (taken++l.map (·.1)) r
 | [],r,taken=>by simp[bF]
 |a::l,r,taken=>by
  have ih:=uc sizes l r (taken++ [a.1])
  simp only[List.cons_append,bF,List.map_cons]
  rw[ih,List.append_assoc,List.singleton_append]
  by_cases h1:aP taken a.1=0
  ·by_cases h2:bH sizes a.2=0
   ·simp only[h1,h2,ne_eq,not_true_eq_false,if_false]
   ·simp only[h1,h2,ne_eq,not_true_eq_false,if_false,not_false_eq_true,if_true]
  ·simp only[h1,ne_eq,not_false_eq_true,if_true]
theorem rm {sizes:List ByteArray} {l:List gU} {k:Nat} (h:k<l.length) (h0:bF sizes sizes (l.take k)=0) (h1:aP (sizes++(l.take k).map (·.1)) l[k].1=0) (h2:bH sizes l[k].2=0):bF sizes sizes (l.take (k+1))=0:=by
 rw[List.take_succ_eq_append_getElem h,uc,if_neg (not_not_intro h0)]
 simp only[bF]
 rw[if_neg (not_not_intro h1),if_neg (not_not_intro h2)]
theorem uJ {sizes:List ByteArray} {l:List gU} {k:Nat} (h:k<l.length) (h0:bF sizes sizes (l.take k)=0):bF sizes sizes l=bF sizes (sizes++(l.take k).map (·.1)) (l[k]::l.drop (k+1)):=by
 have:=uc sizes (l.take k) (l[k]::l.drop (k+1)) sizes
 rw[←List.drop_eq_getElem_cons h,List.take_append_drop,if_neg (not_not_intro h0)]at this
 rw[this,List.drop_eq_getElem_cons h]
theorem rG {sizes:List ByteArray} {l:List gU} {k:Nat} (h:k<l.length) (h0:bF sizes sizes (l.take k)=0) (h1:aP (sizes++(l.take k).map (·.1)) l[k].1≠0):bF sizes sizes l=aP (sizes++(l.take k).map (·.1)) l[k].1:=by
 rw[uJ h h0,bF,if_pos h1]
theorem qT {sizes:List ByteArray} {l:List gU} {k:Nat} (h:k<l.length) (h0:bF sizes sizes (l.take k)=0) (h1:aP (sizes++(l.take k).map (·.1)) l[k].1=0) (h2:bH sizes l[k].2≠0):bF sizes sizes l=bH sizes l[k].2:=by
 rw[uJ h h0,bF,if_neg (not_not_intro h1),if_pos h2]
abbrev GD (fr:List (Nat×AV)) (t:Nat) (mem:List (Nat×bk)) (nx:Nat) (l:List ByteArray):St:=
 if l= []then⟨(t,.c (.tsl []))::fr,mem,nx,0⟩else⟨(t,.c (.ref nx))::fr,(nx,.arr 9 1 (l.map λs=> [pS s]))::mem,nx+1,0⟩
theorem fA {fr:List (Nat×AV)} {t:Nat} {mem:List (Nat×bk)} {nx:Nat}:GD fr t mem nx []=⟨(t,.c (.tsl []))::fr,mem,nx,0⟩:=if_pos rfl
theorem cz {fr:List (Nat×AV)} {t:Nat} {mem:List (Nat×bk)} {nx:Nat} {l:List ByteArray} (h:l≠ []):GD fr t mem nx l=⟨(t,.c (.ref nx))::fr,(nx,.arr 9 1 (l.map λs=> [pS s]))::mem,nx+1,0⟩:=if_neg h
def ul (sizes:List ByteArray) (l:List gU) (k:Nat):List ByteArray:=sizes++(l.take k).map (·.1)
theorem F8 {sizes:List ByteArray} {l:List gU} {k:Nat} (h:k<l.length):ul sizes l (k+1)=ul sizes l k++ [l[k].1]:=by
 unfold ul
 rw[List.take_succ_eq_append_getElem h,List.map_append,List.append_assoc]
 rfl
theorem Ln {sizes:List ByteArray} {l:List gU} (k:Nat) (h:sizes.length≤100) (hl:l.length≤100):(ul sizes l k).length≤200:=by
 unfold ul
 simp
 omega
theorem IA {sizes:List ByteArray} {l:List gU}:ul sizes l 0=sizes:=by simp[ul]
theorem qy (l:List gU) (sizes:List ByteArray) (hl:l.length≤100) (O:sizes.length≤100):ac Ya 91 [i6 fg l,.c (.pure (c7 sizes))] (I (bF sizes sizes l)):=by
 refine ac.of BV (by simp) λhb=>aa ?_
 conv in bh _ _=>cbv
 by_cases H:sizes= []
 ·subst H
  repeat' first|simp(disch:=omega)only[go_sem, *]|apply ab<;>intro h<;>try omega|refine dy aZ ?_
  refine ai (λk:Nat=>GD [(6,I k),(1,.c (.pure (c7 []))),(0,i6 fg l)] 5 [] 0 (ul [] l k)) (λk=>k≤l.length∧Hid (bF [] [] (l.take k)=0)) (λk=>l.length-k) ⟨0, [],⟨by omega,by show _=_;simp[bF]⟩,by rw[IA,fA];simp⟩ ?_
  rintro k ⟨hk,d⟩
  refine aa ?_
  by_cases i:k<l.length
  ·have y:= λh1=>rG (sizes:= []) i d.out h1
   have z:= λh1 h2=>qT (sizes:= []) i d.out h1 h2
   have E:= λh1 h2=>Lib.hid (rm (sizes:= []) i d.out h1 h2)
   rw[show []++(l.take k).map (·.1)=ul [] l k from rfl]at y z E
   have P:=Ln (sizes:= []) k O hl
   have m:=F8 (sizes:= []) i
   have q:ul [] l (k+1)≠ []:=by rw[m];simp
   have C:aP (ul [] l k) l[k].1=0→bH [] l[k].2=0→ ∃t':Nat,(t'≤l.length∧Hid (bF [] [] (l.take t')=0))∧l.length-t'<l.length-k∧t'=k+1:= λh1 h2=>⟨k+1,⟨by omega,E h1 h2⟩,by omega,rfl⟩
   clear d E
   by_cases h1:aP (ul [] l k) l[k].1=0
   ·by_cases h2:bH [] l[k].2=0
    ·obtain⟨k',hI,D,v⟩:=C h1 h2
     clear y z C
     by_cases f:ul [] l k= []
     ·have hw:([[pS l[k].1]]:List (List PC))=(ul [] l k').map λs=> [pS s]:=by rw[v,m,f];rfl
      have HW:=Lib.hid hw
      have HK:=Lib.hid v
      have G:=h1
      rw[f]at G ⊢
      clear hw v m f h1
      rw[fA]
      repeat' first|simp(disch:=omega)only[go_sem, *,ah i,fg,wrap_i64,G,h2]|apply ab<;>intro h<;>try omega|refine aq (aC _ []) rfl rfl ?_|refine aq (cp _ _) rfl rfl ?_|refine c8 aZ (an rfl) (by simp) (by simp) (by simp) ?_
      refine⟨k', [],hI,D, ?_⟩
      rw[cz (by rw[HK.out];exact q),HW.out,show(k:Int)+1=(k':Nat) by rw[HK.out];omega]
      simp
     ·have hw:(ul [] l k).map (λs=> [pS s])++ [[pS l[k].1]]=(ul [] l k').map λs=> [pS s]:=by rw[v,m,List.map_append];rfl
      have HW:=Lib.hid hw
      have HK:=Lib.hid v
      rw[cz f]
      clear hw v m f
      repeat' first|simp(disch:=omega)only[go_sem, *,ah i,fg,wrap_i64,h1,h2]|apply ab<;>intro h<;>try omega|refine aq (aC _ _) rfl rfl ?_|refine aq (cp _ _) rfl rfl ?_|refine aA rfl (by intro h;cases h) (an rfl) (by simp;omega) (by simp;omega) ?_
      refine⟨k', [(0,1)],hI,D, ?_⟩
      rw[cz (by rw[HK.out];exact q),HW.out,show(k:Int)+1=(k':Nat) by rw[HK.out];omega]
      simp
    ·rw[z h1 h2]
     clear y z C m q
     by_cases f:ul [] l k= []
     ·rw[f]at h1 ⊢
      clear f
      rw[fA]
      repeat' first|simp(disch:=omega)only[go_sem, *,ah i,fg,wrap_i64,h1,h2]|apply ab<;>intro h<;>try omega|refine aq (aC _ []) rfl rfl ?_|refine aq (cp _ _) rfl rfl ?_
     ·rw[cz f]
      clear f
      repeat' first|simp(disch:=omega)only[go_sem, *,ah i,fg,wrap_i64,h1,h2]|apply ab<;>intro h<;>try omega|refine aq (aC _ _) rfl rfl ?_|refine aq (cp _ _) rfl rfl ?_
   ·rw[y h1]
    clear y z C m q
    by_cases f:ul [] l k= []
    ·rw[f]at h1 ⊢
     clear f
     rw[fA]
     repeat' first|simp(disch:=omega)only[go_sem, *,ah i,fg,wrap_i64,h1]|apply ab<;>intro h<;>try omega|refine aq (aC _ []) rfl rfl ?_
    ·rw[cz f]
     clear f
     repeat' first|simp(disch:=omega)only[go_sem, *,ah i,fg,wrap_i64,h1]|apply ab<;>intro h<;>try omega|refine aq (aC _ _) rfl rfl ?_
  ·have hz:=d.out
   rw[List.take_of_length_le (by omega)]at hz
   rw[hz]
   clear hz d
   by_cases f:ul [] l k= []
   ·rw[f,fA]
    clear f
    repeat' first|simp(disch:=omega)only[go_sem, *]|apply ab<;>intro h<;>try omega
   ·rw[cz f]
    clear f
    repeat' first|simp(disch:=omega)only[go_sem, *]|apply ab<;>intro h<;>try omega
 ·repeat' first|simp(disch:=omega)only[go_sem, *]|apply ab<;>intro h<;>try omega|refine c8 aZ (ar λx=>rfl) (by simpa using H) (by simp;omega) (by simp;omega) ?_
  refine ai (λk:Nat=>GD [(6,I k),(1,.c (.pure (c7 sizes))),(0,i6 fg l)] 5 [] 0 (ul sizes l k)) (λk=>k≤l.length∧Hid (bF sizes sizes (l.take k)=0)) (λk=>l.length-k) ⟨0, [],⟨by omega,by show _=_;simp[bF]⟩,by rw[IA,cz H];simp⟩ ?_
  rintro k ⟨hk,d⟩
  refine aa ?_
  by_cases i:k<l.length
  ·have y:= λh1=>rG (sizes:=sizes) i d.out h1
   have z:= λh1 h2=>qT (sizes:=sizes) i d.out h1 h2
   have E:= λh1 h2=>Lib.hid (rm (sizes:=sizes) i d.out h1 h2)
   rw[show sizes++(l.take k).map (·.1)=ul sizes l k from rfl]at y z E
   have P:=Ln (sizes:=sizes) k O hl
   have m:=F8 (sizes:=sizes) i
   have q:ul sizes l (k+1)≠ []:=by rw[m];simp
   have C:aP (ul sizes l k) l[k].1=0→bH sizes l[k].2=0→ ∃t':Nat,(t'≤l.length∧Hid (bF sizes sizes (l.take t')=0))∧l.length-t'<l.length-k∧t'=k+1:= λh1 h2=>⟨k+1,⟨by omega,E h1 h2⟩,by omega,rfl⟩
   clear d E
   by_cases h1:aP (ul sizes l k) l[k].1=0
   ·by_cases h2:bH sizes l[k].2=0
    ·obtain⟨k',hI,D,v⟩:=C h1 h2
     clear y z C
     by_cases f:ul sizes l k= []
     ·have hw:([[pS l[k].1]]:List (List PC))=(ul sizes l k').map λs=> [pS s]:=by rw[v,m,f];rfl
      have HW:=Lib.hid hw
      have HK:=Lib.hid v
      have G:=h1
      rw[f]at G ⊢
      clear hw v m f h1
      rw[fA]
      repeat' first|simp(disch:=omega)only[go_sem, *,ah i,fg,wrap_i64,G,h2]|apply ab<;>intro h<;>try omega|refine aq (aC _ []) rfl rfl ?_|refine aq (cp _ _) rfl rfl ?_|refine c8 aZ (an rfl) (by simp) (by simp) (by simp) ?_
      refine⟨k', [],hI,D, ?_⟩
      rw[cz (by rw[HK.out];exact q),HW.out,show(k:Int)+1=(k':Nat) by rw[HK.out];omega]
      simp
     ·have hw:(ul sizes l k).map (λs=> [pS s])++ [[pS l[k].1]]=(ul sizes l k').map λs=> [pS s]:=by rw[v,m,List.map_append];rfl
      have HW:=Lib.hid hw
      have HK:=Lib.hid v
      rw[cz f]
      clear hw v m f
      repeat' first|simp(disch:=omega)only[go_sem, *,ah i,fg,wrap_i64,h1,h2]|apply ab<;>intro h<;>try omega|refine aq (aC _ _) rfl rfl ?_|refine aq (cp _ _) rfl rfl ?_|refine aA rfl (by intro h;cases h) (an rfl) (by simp;omega) (by simp;omega) ?_
      refine⟨k', [(0,1)],hI,D, ?_⟩
      rw[cz (by rw[HK.out];exact q),HW.out,show(k:Int)+1=(k':Nat) by rw[HK.out];omega]
      simp
    ·rw[z h1 h2]
     clear y z C m q
     by_cases f:ul sizes l k= []
     ·rw[f]at h1 ⊢
      clear f
      rw[fA]
      repeat' first|simp(disch:=omega)only[go_sem, *,ah i,fg,wrap_i64,h1,h2]|apply ab<;>intro h<;>try omega|refine aq (aC _ []) rfl rfl ?_|refine aq (cp _ _) rfl rfl ?_
     ·rw[cz f]
      clear f
      repeat' first|simp(disch:=omega)only[go_sem, *,ah i,fg,wrap_i64,h1,h2]|apply ab<;>intro h<;>try omega|refine aq (aC _ _) rfl rfl ?_|refine aq (cp _ _) rfl rfl ?_
   ·rw[y h1]
    clear y z C m q
    by_cases f:ul sizes l k= []
    ·rw[f]at h1 ⊢
     clear f
     rw[fA]
     repeat' first|simp(disch:=omega)only[go_sem, *,ah i,fg,wrap_i64,h1]|apply ab<;>intro h<;>try omega|refine aq (aC _ []) rfl rfl ?_
    ·rw[cz f]
     clear f
     repeat' first|simp(disch:=omega)only[go_sem, *,ah i,fg,wrap_i64,h1]|apply ab<;>intro h<;>try omega|refine aq (aC _ _) rfl rfl ?_
  ·have hz:=d.out
   rw[List.take_of_length_le (by omega)]at hz
   rw[hz]
   clear hz d
   by_cases f:ul sizes l k= []
   ·rw[f,fA]
    clear f
    repeat' first|simp(disch:=omega)only[go_sem, *]|apply ab<;>intro h<;>try omega
   ·rw[cz f]
    clear f
    repeat' first|simp(disch:=omega)only[go_sem, *]|apply ab<;>intro h<;>try omega
end Go.Proofs.YtiapgekjmcjjgaaGreatDoor
