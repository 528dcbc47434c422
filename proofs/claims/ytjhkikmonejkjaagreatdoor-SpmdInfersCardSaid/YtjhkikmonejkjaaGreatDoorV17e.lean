import Derived.Test.YtjhkikmonejkjaaGreatDoorV17c
set_option linter.unusedVariables false
set_option linter.unusedSimpArgs false
set_option maxRecDepth 20000
open Go.Proofs.Tryz renaming prog→Ya
namespace Go.Proofs.YtjhkikmonejkjaaGreatDoor
open Go.Abs Go.RowKit
set_option maxHeartbeats 4000000 in
theorem Eu {p:be} (hf:eR p) (vars:List ByteArray) (e:Ex):rx e→af Ya pG [eX p,.c (.pure (b6 vars)),gc e] (Ka (gW p vars e)):=by
 refine Ex.ind (p:= λe=>rx e→af Ya pG [eX p,.c (.pure (b6 vars)),gc e] (Ka (gW p vars e))) (λe ih hr=> ?_) e
 refine af.of Fj (by simp) λhb=>aa ?_
 have hl:=(dt hb.2.2).1
 obtain⟨ha,J,K,_⟩:=Aq hr
 have R:e.args.length≤3:=by rcases xl J K with h|h|h|h|h|h<;>omega
 have HA:=Lib.hid ha
 clear ha
 simp only[xu]
 repeat' first|simp(disch:=omega)only[go_sem]|((with_reducible refine ab ?_ ?_)<;>intro h<;>try first|omega|simp(disch:=omega)only[go_sem, *])
 refine co 8 56 5 rfl (by decide) ?_
 refine ai (λs:Nat×List Ty=>⟨[(9,I s.1),(8,.c (.ref 3)),(6,.c (.ptr 2 0)),(5,.c (.ptr 1 0)),(3,.c (.ptr 0 0)),(1,.c (.pure (b6 vars)))], [(3,.arr 56 5 (s.2.map QM)),(2,Sf gL),(1,tL e),(0,dL p)],4,0⟩) (λs=>s.1≤e.args.length∧Hid (cp p vars (e.args.take s.1)= .inr s.2)) (λs=>e.args.length-s.1) ⟨(0, []), [],⟨by omega,by show _=_;simp[cp]⟩,by simp[gL]⟩ ?_
 rintro⟨k,ts⟩ ⟨hk,d⟩
 refine aa ?_
 simp only at hk d
 by_cases i:k<e.args.length
 ·have L:=ih _ (List.getElem_mem i) (Ds hr (List.getElem_mem i))
  have n:ts.length=k:=by
   have:=oC d.out
   rw[this,List.length_take]
   omega
  by_cases h0:(dE p vars e.args[k]).2=0
  ·have hn:=Cc i d.out h0
   have F:(gW p vars e.args[k]).2=0:=(ll _).trans h0
   have ht:=I2 h0
   rw[←ht]at hn
   have HN:=Lib.hid hn
   clear ih hr d hn ht h0
   generalize gW p vars e.args[k]=r at*
   have ht:ts.map QM++ [QM r.1]=(ts++ [r.1]).map QM:=by simp
   simp only[QM]at ht
   have HT:=Lib.hid ht
   clear ht
   repeat' first|simp(disch:=omega)only[go_sem,ac i,Ex.row_eq,wrap_i64,F]|((with_reducible refine ab ?_ ?_)<;>intro h<;>try first|omega|simp(disch:=omega)only[go_sem, *,ac i,Ex.row_eq,wrap_i64,F])|refine ae L rfl (.inl rfl) ?_|refine aF rfl (by intro h;cases h) (ak rfl) (by simp;omega) (by simp;omega) ?_
   rw[HT.out]
   exact⟨(k+1,ts++ [r.1]), [(3,5)],⟨by omega,HN⟩,by show _-_<_-_;omega,by simp⟩
  ·have hn:=DI i d.out h0
   have F: ¬(gW p vars e.args[k]).2=0:= λh=>h0 ((ll _).symm.trans h)
   have hR:gW p vars e=(gL,(gW p vars e.args[k]).2):=by rw[ll];conv=>lhs;unfold gW;rw[hn]
   rw[hR]
   clear ih hr d hn h0 hR
   generalize gW p vars e.args[k]=r at*
   repeat' first|simp(disch:=omega)only[go_sem,ac i,Ex.row_eq,wrap_i64,F]|((with_reducible refine ab ?_ ?_)<;>intro h<;>try first|omega|simp(disch:=omega)only[go_sem, *,ac i,Ex.row_eq,wrap_i64,F])|refine ae L rfl (.inl rfl) ?_
   try rfl
 ·have j:=d.out
  rw[List.take_of_length_le (by omega)]at j
  have n:=oC j
  have hR:gW p vars e=zE e.op (aM p vars e ts):=by unfold gW;rw[j]
  have o:=CL hf vars e
  have u:=qC p vars [e.lin]
  clear ih hr d j
  have j:=HA.out
  clear HA
  rcases xl J K with⟨g|g|g,h2⟩|⟨g|g|g,h2⟩|⟨g,h2⟩|⟨g,h2⟩|⟨g,h2⟩|⟨g,h2⟩
  ·rw[hR.trans (show zE e.op (aM p vars e ts)=(e.ty,0) by simp[zE,aM,g])]
   clear hR n h2 j o u
   repeat' first|simp(disch:=omega)only[go_sem,g]|((with_reducible refine ab ?_ ?_)<;>intro h<;>try first|omega|simp(disch:=omega)only[go_sem, *,g])
  ·rw[hR.trans (show zE e.op (aM p vars e ts)=((3,0,0,0,0),d9 p vars [e.lin]) by simp[zE,aM,g])]
   clear hR n h2 j o
   repeat' first|simp(disch:=omega)only[go_sem,g]|((with_reducible refine ab ?_ ?_)<;>intro h<;>try first|omega|simp(disch:=omega)only[go_sem, *,g])|refine ae u rfl (.inl rfl) ?_
  ·have hz:zE 3 (fm p vars e)=fm p vars e:=by
    unfold fm zE
    repeat' split
    all_goals first
     |rfl
     |simp_all
   rw[hR.trans (show zE e.op (aM p vars e ts)=fm p vars e by simp[aM,g,hz])]
   clear hR n h2 j u hz
   simp only[gc,g]at o
   repeat' first|simp(disch:=omega)only[go_sem,g]|((with_reducible refine ab ?_ ?_)<;>intro h<;>try first|omega|simp(disch:=omega)only[go_sem, *,g])|refine ae o rfl (.inl rfl) ?_
  ·obtain⟨a,rfl⟩:=Ut (l:=ts) (by omega)
   rw[hR.trans (show zE e.op (aM p vars e [a])=(a,0) by simp[zE,aM,g])]
   clear hR n h2 j o u
   repeat' first|simp(disch:=omega)only[go_sem,g,Int.toNat_zero]|((with_reducible refine ab ?_ ?_)<;>intro h<;>try first|omega|simp(disch:=omega)only[go_sem, *,g,Int.toNat_zero])
  ·rw[hR.trans (show zE e.op (aM p vars e ts)=(e.ty,0) by simp[zE,aM,g])]
   clear hR n h2 j o u
   repeat' first|simp(disch:=omega)only[go_sem,g]|((with_reducible refine ab ?_ ?_)<;>intro h<;>try first|omega|simp(disch:=omega)only[go_sem, *,g])
  ·rw[hR.trans (show zE e.op (aM p vars e ts)=(gL,0) by simp[zE,aM,g])]
   clear hR n h2 j o u
   repeat' first|simp(disch:=omega)only[go_sem,g]|((with_reducible refine ab ?_ ?_)<;>intro h<;>try first|omega|simp(disch:=omega)only[go_sem, *,g])
   try rfl
  ·obtain⟨a,b,c,rfl⟩:=VH (l:=ts) (by omega)
   by_cases w:b=c
   ·subst w
    rw[hR.trans (show zE e.op (aM p vars e [a,b,b])=(b,0) by simp[zE,aM,g])]
    clear hR n h2 j o u
    repeat' first|simp(disch:=omega)only[go_sem,g,Int.toNat_zero,show Int.toNat 1=1 from rfl,show Int.toNat 2=2 from rfl]|((with_reducible refine ab ?_ ?_)<;>intro h<;>try first|omega|simp(disch:=omega)only[go_sem, *,g,Int.toNat_zero,show Int.toNat 1=1 from rfl,show Int.toNat 2=2 from rfl])
   ·rw[hR.trans (show zE e.op (aM p vars e [a,b,c])=(gL,10) by simp[zE,aM,g,w])]
    clear hR n h2 j o u
    repeat' first|simp(disch:=omega)only[go_sem,g,Int.toNat_zero,show Int.toNat 1=1 from rfl,show Int.toNat 2=2 from rfl]|((with_reducible refine ab ?_ ?_)<;>intro h<;>try first|omega|simp(disch:=omega)only[go_sem, *,g,Int.toNat_zero,show Int.toNat 1=1 from rfl,show Int.toNat 2=2 from rfl])
    all_goals first
     |exact absurd (vP h) w
     |rfl
  ·obtain⟨a,b,rfl⟩:=R7 (l:=ts) (by omega)
   have h3: ¬e.op=1∧ ¬e.op=2∧ ¬e.op=3∧ ¬e.op=12∧ ¬e.op=8∧ ¬e.op=11∧ ¬16≤e.op∧13≤e.op:=by omega
   obtain⟨g1,g2,g3,g4,g5,g6,g7,g8⟩:=h3
   clear g
   by_cases w:a=b
   ·subst w
    rw[hR.trans (show zE e.op (aM p vars e [a,a])=(gL,0) by simp[zE,aM,g1,g2,g3,g4,g5,g6,g7,g8])]
    clear hR n h2 j o u
    repeat' first|simp(disch:=omega)only[go_sem,Int.toNat_zero,show Int.toNat 1=1 from rfl]|((with_reducible refine ab ?_ ?_)<;>intro h<;>try first|omega|simp(disch:=omega)only[go_sem, *,Int.toNat_zero,show Int.toNat 1=1 from rfl])
    try rfl
   ·rw[hR.trans (show zE e.op (aM p vars e [a,b])=(gL,10) by simp[zE,aM,g1,g2,g3,g4,g5,g6,g7,g8,w])]
    clear hR n h2 j o u
    repeat' first|simp(disch:=omega)only[go_sem,Int.toNat_zero,show Int.toNat 1=1 from rfl]|((with_reducible refine ab ?_ ?_)<;>intro h<;>try first|omega|simp(disch:=omega)only[go_sem, *,Int.toNat_zero,show Int.toNat 1=1 from rfl])
    all_goals first
     |exact absurd (vP h) w
     |rfl
  ·have h3: ¬e.op=1∧ ¬e.op=2∧ ¬e.op=3∧ ¬e.op=12∧ ¬e.op=8∧ ¬e.op=11∧16≤e.op:=by omega
   obtain⟨g1,g2,g3,g4,g5,g6,g7⟩:=h3
   clear g
   rw[hR.trans (show zE e.op (aM p vars e ts)=(gL,0) by simp[zE,aM,g1,g2,g3,g4,g5,g6,g7])]
   clear hR n h2 j o u
   repeat' first|simp(disch:=omega)only[go_sem]|((with_reducible refine ab ?_ ?_)<;>intro h<;>try first|omega|simp(disch:=omega)only[go_sem, *])
   try rfl
  ·obtain⟨a,b,rfl⟩:=R7 (l:=ts) (by omega)
   have h3: ¬e.op=1∧ ¬e.op=2∧ ¬e.op=3∧ ¬e.op=12∧ ¬e.op=8∧ ¬e.op=11∧ ¬16≤e.op∧ ¬13≤e.op:=by omega
   obtain⟨g1,g2,g3,g4,g5,g6,g7,g8⟩:=h3
   clear g
   by_cases w:a=b
   ·subst w
    rw[hR.trans (show zE e.op (aM p vars e [a,a])=(a,0) by simp[zE,aM,g1,g2,g3,g4,g5,g6,g7,g8])]
    clear hR n h2 j o u
    repeat' first|simp(disch:=omega)only[go_sem,Int.toNat_zero,show Int.toNat 1=1 from rfl]|((with_reducible refine ab ?_ ?_)<;>intro h<;>try first|omega|simp(disch:=omega)only[go_sem, *,Int.toNat_zero,show Int.toNat 1=1 from rfl])
    try rfl
   ·rw[hR.trans (show zE e.op (aM p vars e [a,b])=(gL,10) by simp[zE,aM,g1,g2,g3,g4,g5,g6,g7,g8,w])]
    clear hR n h2 j o u
    repeat' first|simp(disch:=omega)only[go_sem,Int.toNat_zero,show Int.toNat 1=1 from rfl]|((with_reducible refine ab ?_ ?_)<;>intro h<;>try first|omega|simp(disch:=omega)only[go_sem, *,Int.toNat_zero,show Int.toNat 1=1 from rfl])
    all_goals first
     |exact absurd (vP h) w
     |rfl
theorem zh {p:be} (hf:eR p) (vars:List ByteArray) {e:Ex} (Q: ∀a∈e.pre,o9 a.val):af Ya rh [eX p,.c (.pure (b6 vars)),gc e] (Ka (aT p vars e)):=by
 refine af.of A7 (by simp) λhb=>aa ?_
 simp only[s3]
 have hv:=vF Q
 by_cases h1:gn e=0
 ·by_cases h2:jm e.op
  ·have hR:aT p vars e=(gL,10):=by unfold aT;rw[if_neg (not_not_intro h1),if_pos h2]
   rw[hR]
   clear hR
   repeat' first|simp(disch:=omega)only[go_sem,h1,h2,decide_true]|((with_reducible refine ab ?_ ?_)<;>intro h<;>try first|omega|simp(disch:=omega)only[go_sem, *,h1,h2,decide_true])|refine ae hv rfl (.inl rfl) ?_|refine ae (dJ e) rfl (.inl rfl) ?_
   try rfl
  ·have M:=Eu hf vars e (zx h1)
   by_cases h3:(dE p vars e).2=0
   ·have hR:aT p vars e=((gW p vars e).1,0):=by unfold aT;rw[if_neg (not_not_intro h1),if_neg h2,if_neg (not_not_intro h3),I2 h3]
    have A:=(ll (p:=p) (vars:=vars) e).trans h3
    rw[hR]
    clear hR h3
    generalize gW p vars e=r at*
    repeat' first|simp(disch:=omega)only[go_sem,h1,h2,A,decide_false]|((with_reducible refine ab ?_ ?_)<;>intro h<;>try first|omega|simp(disch:=omega)only[go_sem, *,h1,h2,A,decide_false])|refine ae hv rfl (.inl rfl) ?_|refine ae (dJ e) rfl (.inl rfl) ?_|refine ae M rfl (.inl rfl) ?_
    try rfl
   ·have hR:aT p vars e=(gL,(gW p vars e).2):=by unfold aT;rw[if_neg (not_not_intro h1),if_neg h2,if_pos h3,ll]
    have A: ¬(gW p vars e).2=0:= λh=>h3 ((ll e).symm.trans h)
    rw[hR]
    clear hR h3
    generalize gW p vars e=r at*
    repeat' first|simp(disch:=omega)only[go_sem,h1,h2,A,decide_false]|((with_reducible refine ab ?_ ?_)<;>intro h<;>try first|omega|simp(disch:=omega)only[go_sem, *,h1,h2,A,decide_false])|refine ae hv rfl (.inl rfl) ?_|refine ae (dJ e) rfl (.inl rfl) ?_|refine ae M rfl (.inl rfl) ?_
    try rfl
 ·have hR:aT p vars e=(gL,gn e):=by unfold aT;rw[if_pos h1]
  rw[hR]
  clear hR
  repeat' first|simp(disch:=omega)only[go_sem,h1]|((with_reducible refine ab ?_ ?_)<;>intro h<;>try first|omega|simp(disch:=omega)only[go_sem, *,h1])|refine ae hv rfl (.inl rfl) ?_
  try rfl
theorem ay (s:ByteArray) (taken:List ByteArray):af Ya xP [S s,.c (.pure (b6 taken))] (I (aE taken s)):=by
 refine af.of Ez (by simp) λhb=>aa ?_
 simp only[xZ]
 repeat' first|simp(disch:=omega)only[go_sem, *]|apply ab<;>intro h<;>try omega|refine av (gw _) rfl rfl ?_|refine av (k9 _ _) rfl rfl ?_
 all_goals(refine IE ?_;unfold aE;grind)
theorem bG (l:fc) (sizes:List ByteArray):af Ya wL [f9 l.1 l.2,.c (.pure (b6 sizes))] (I (bi sizes l)):=by
 refine af.of Ft (by simp) λhb=>aa ?_
 simp only[wC]
 repeat' first|simp(disch:=omega)only[go_sem, *]|apply ab<;>intro h<;>try omega|refine av (dX _ _) rfl rfl ?_|refine av (gB l [] sizes) rfl rfl ?_
 all_goals(refine IE ?_;unfold bi;grind)
theorem gC (x:kO) (sizes taken:List ByteArray):af Ya u4 [VD x,.c (.pure (b6 sizes)),.c (.pure (b6 taken))] (I (cg sizes taken x)):=by
 refine af.of DJ (by simp) λhb=>aa ?_
 simp only[uy]
 by_cases h1:aE taken x.1=0
 ·by_cases h2:ju x.2.1
  ·by_cases h3:6<x.2.2.length
   ·have hR:cg sizes taken x=11:=by unfold cg;rw[if_neg (not_not_intro h1),if_neg (not_not_intro h2),if_pos h3]
    rw[hR]
    have A:(x.2.2.length:Int)>6:=by omega
    clear hR
    repeat' first|simp(disch:=omega)only[go_sem, *,h1,h2,A,decide_true]|apply ab<;>intro h<;>try omega|refine av (ay _ _) rfl rfl ?_|refine av (bj x.2.1) rfl rfl ?_
   ·have hR:cg sizes taken x=bY (x.2.2.map (bi sizes)):=by unfold cg;rw[if_neg (not_not_intro h1),if_neg (not_not_intro h2),if_neg h3]
    rw[hR]
    have A: ¬(x.2.2.length:Int)>6:=by omega
    clear hR
    repeat' first|simp(disch:=omega)only[go_sem, *,h1,h2,A,decide_true]|apply ab<;>intro h<;>try omega|refine av (ay _ _) rfl rfl ?_|refine av (bj x.2.1) rfl rfl ?_
    refine ai (λk:Nat=>⟨[(8,I k),(3,.c (.ptr 0 0)),(1,.c (.pure (b6 sizes)))], [(0,Ov x)],1,0⟩) (λk=>k≤x.2.2.length∧Hid (bY ((x.2.2.map (bi sizes)).take k)=0)) (λk=>x.2.2.length-k) ⟨0, [],⟨by omega,by show _=_;simp[bY]⟩,by simp⟩ ?_
    clear h1 h2
    rintro k ⟨hk,d⟩
    refine aa ?_
    by_cases i:k<x.2.2.length
    ·have N:k<(x.2.2.map (bi sizes)).length:=by simpa using i
     have h4:=gV N d.out
     have h5:=l9 N d.out
     rw[List.getElem_map]at h4 h5
     clear d
     by_cases hz:bi sizes x.2.2[k]=0
     ·have HN:=Lib.hid (h4.trans hz)
      clear h4 h5
      repeat' first|simp(disch:=omega)only[go_sem, *,ac i,bP,wrap_i64,hz]|apply ab<;>intro h<;>try omega|refine av (bG _ _) rfl rfl ?_
      exact⟨k+1, [],⟨by omega,HN⟩,by omega,by simp⟩
     ·rw[h5 hz]
      clear h4 h5
      repeat' first|simp(disch:=omega)only[go_sem, *,ac i,bP,wrap_i64,hz]|apply ab<;>intro h<;>try omega|refine av (bG _ _) rfl rfl ?_
    ·have hz:=d.out
     rw[List.take_of_length_le (by simp;omega)]at hz
     rw[hz]
     clear hz d
     repeat' first|simp(disch:=omega)only[go_sem, *]|apply ab<;>intro h<;>try omega
  ·have hR:cg sizes taken x=10:=by unfold cg;rw[if_neg (not_not_intro h1),if_pos h2]
   rw[hR]
   clear hR
   repeat' first|simp(disch:=omega)only[go_sem, *,h1,h2,decide_false]|apply ab<;>intro h<;>try omega|refine av (ay _ _) rfl rfl ?_|refine av (bj x.2.1) rfl rfl ?_
 ·have hR:cg sizes taken x=aE taken x.1:=by unfold cg;rw[if_pos h1]
  rw[hR]
  clear hR
  repeat' first|simp(disch:=omega)only[go_sem, *,h1]|apply ab<;>intro h<;>try omega|refine av (ay _ _) rfl rfl ?_
theorem wm (sizes:List ByteArray): ∀(l r:List eU) (taken:List ByteArray),aY sizes taken (l++r)=if aY sizes taken l≠0 then aY sizes taken l else aY sizes (taken++l.map (·.1)) r
 | [],r,taken=>by simp[aY]
 |a::l,r,taken=>by
  have ih:=wm sizes l r (taken++ [a.1])
  simp only[List.cons_append,aY,List.map_cons]
  rw[ih,List.append_assoc,List.singleton_append]
  by_cases h1:aE taken a.1=0
  ·by_cases h2:bi sizes a.2=0
   ·simp only[h1,h2,ne_eq,not_true_eq_false,if_false]
   ·simp only[h1,h2,ne_eq,not_true_eq_false,if_false,not_false_eq_true,if_true]
  ·simp only[h1,ne_eq,not_false_eq_true,if_true]
theorem sJ {sizes:List ByteArray} {l:List eU} {k:Nat} (h:k<l.length) (h0:aY sizes sizes (l.take k)=0) (h1:aE (sizes++(l.take k).map (·.1)) l[k].1=0) (h2:bi sizes l[k].2=0):aY sizes sizes (l.take (k+1))=0:=by
 rw[List.take_succ_eq_append_getElem h,wm,if_neg (not_not_intro h0)]
 simp only[aY]
 rw[if_neg (not_not_intro h1),if_neg (not_not_intro h2)]
theorem yi {sizes:List ByteArray} {l:List eU} {k:Nat} (h:k<l.length) (h0:aY sizes sizes (l.take k)=0):aY sizes sizes l=aY sizes (sizes++(l.take k).map (·.1)) (l[k]::l.drop (k+1)):=by
 have:=wm sizes (l.take k) (l[k]::l.drop (k+1)) sizes
 rw[←List.drop_eq_getElem_cons h,List.take_append_drop,if_neg (not_not_intro h0)]at this
 rw[this,List.drop_eq_getElem_cons h]
theorem sF {sizes:List ByteArray} {l:List eU} {k:Nat} (h:k<l.length) (h0:aY sizes sizes (l.take k)=0) (h1:aE (sizes++(l.take k).map (·.1)) l[k].1≠0):aY sizes sizes l=aE (sizes++(l.take k).map (·.1)) l[k].1:=by
 rw[yi h h0,aY,if_pos h1]
theorem rX {sizes:List ByteArray} {l:List eU} {k:Nat} (h:k<l.length) (h0:aY sizes sizes (l.take k)=0) (h1:aE (sizes++(l.take k).map (·.1)) l[k].1=0) (h2:bi sizes l[k].2≠0):aY sizes sizes l=bi sizes l[k].2:=by
 rw[yi h h0,aY,if_neg (not_not_intro h1),if_pos h2]
abbrev Ki (fr:List (Nat×AV)) (t:Nat) (mem:List (Nat×bm)) (nx:Nat) (l:List ByteArray):St:=
 if l= []then⟨(t,.c (.tsl []))::fr,mem,nx,0⟩else⟨(t,.c (.ref nx))::fr,(nx,.arr 9 1 (l.map λs=> [pS s]))::mem,nx+1,0⟩
theorem eE {fr:List (Nat×AV)} {t:Nat} {mem:List (Nat×bm)} {nx:Nat}:Ki fr t mem nx []=⟨(t,.c (.tsl []))::fr,mem,nx,0⟩:=if_pos rfl
theorem bK {fr:List (Nat×AV)} {t:Nat} {mem:List (Nat×bm)} {nx:Nat} {l:List ByteArray} (h:l≠ []):Ki fr t mem nx l=⟨(t,.c (.ref nx))::fr,(nx,.arr 9 1 (l.map λs=> [pS s]))::mem,nx+1,0⟩:=if_neg h
def vX (sizes:List ByteArray) (l:List eU) (k:Nat):List ByteArray:=sizes++(l.take k).map (·.1)
theorem Jn {sizes:List ByteArray} {l:List eU} {k:Nat} (h:k<l.length):vX sizes l (k+1)=vX sizes l k++ [l[k].1]:=by
 unfold vX
 rw[List.take_succ_eq_append_getElem h,List.map_append,List.append_assoc]
 rfl
theorem Lz {sizes:List ByteArray} {l:List eU} (k:Nat) (h:sizes.length≤100) (hl:l.length≤100):(vX sizes l k).length≤200:=by
 unfold vX
 simp
 omega
theorem Ko {sizes:List ByteArray} {l:List eU}:vX sizes l 0=sizes:=by simp[vX]
set_option maxHeartbeats 1000000 in
theorem rN (l:List eU) (sizes:List ByteArray) (hl:l.length≤100) (O:sizes.length≤100):af Ya xd [bZ ee l,.c (.pure (b6 sizes))] (I (aY sizes sizes l)):=by
 refine af.of FB (by simp) λhb=>aa ?_
 simp only[xW]
 by_cases H:sizes= []
 ·subst H
  repeat' first|simp(disch:=omega)only[go_sem, *]|apply ab<;>intro h<;>try omega|refine fu aN ?_
  refine ai (λk:Nat=>Ki [(6,I k),(1,.c (.pure (b6 []))),(0,bZ ee l)] 5 [] 0 (vX [] l k)) (λk=>k≤l.length∧Hid (aY [] [] (l.take k)=0)) (λk=>l.length-k) ⟨0, [],⟨by omega,by show _=_;simp[aY]⟩,by rw[Ko,eE];simp⟩ ?_
  rintro k ⟨hk,d⟩
  refine aa ?_
  by_cases i:k<l.length
  ·have y:= λh1=>sF (sizes:= []) i d.out h1
   have z:= λh1 h2=>rX (sizes:= []) i d.out h1 h2
   have E:= λh1 h2=>Lib.hid (sJ (sizes:= []) i d.out h1 h2)
   rw[show []++(l.take k).map (·.1)=vX [] l k from rfl]at y z E
   have P:=Lz (sizes:= []) k O hl
   have m:=Jn (sizes:= []) i
   have q:vX [] l (k+1)≠ []:=by rw[m];simp
   have C:aE (vX [] l k) l[k].1=0→bi [] l[k].2=0→ ∃t':Nat,(t'≤l.length∧Hid (aY [] [] (l.take t')=0))∧l.length-t'<l.length-k∧t'=k+1:= λh1 h2=>⟨k+1,⟨by omega,E h1 h2⟩,by omega,rfl⟩
   clear d E
   by_cases h1:aE (vX [] l k) l[k].1=0
   ·by_cases h2:bi [] l[k].2=0
    ·obtain⟨k',hI,D,v⟩:=C h1 h2
     clear y z C
     by_cases f:vX [] l k= []
     ·have hw:([[pS l[k].1]]:List (List PC))=(vX [] l k').map λs=> [pS s]:=by rw[v,m,f];rfl
      have HW:=Lib.hid hw
      have HK:=Lib.hid v
      have G:=h1
      rw[f]at G ⊢
      clear hw v m f h1
      rw[eE]
      repeat' first|simp(disch:=omega)only[go_sem, *,ac i,ee,wrap_i64,G,h2]|apply ab<;>intro h<;>try omega|refine av (ay _ []) rfl rfl ?_|refine av (bG _ _) rfl rfl ?_|refine cQ aN (ak rfl) (by simp) (by simp) (by simp) ?_
      refine⟨k', [],hI,D, ?_⟩
      rw[bK (by rw[HK.out];exact q),HW.out,show(k:Int)+1=(k':Nat) by rw[HK.out];omega]
      simp
     ·have hw:(vX [] l k).map (λs=> [pS s])++ [[pS l[k].1]]=(vX [] l k').map λs=> [pS s]:=by rw[v,m,List.map_append];rfl
      have HW:=Lib.hid hw
      have HK:=Lib.hid v
      rw[bK f]
      clear hw v m f
      repeat' first|simp(disch:=omega)only[go_sem, *,ac i,ee,wrap_i64,h1,h2]|apply ab<;>intro h<;>try omega|refine av (ay _ _) rfl rfl ?_|refine av (bG _ _) rfl rfl ?_|refine aF rfl (by intro h;cases h) (ak rfl) (by simp;omega) (by simp;omega) ?_
      refine⟨k', [(0,1)],hI,D, ?_⟩
      rw[bK (by rw[HK.out];exact q),HW.out,show(k:Int)+1=(k':Nat) by rw[HK.out];omega]
      simp
    ·rw[z h1 h2]
     clear y z C m q
     by_cases f:vX [] l k= []
     ·rw[f]at h1 ⊢
      clear f
      rw[eE]
      repeat' first|simp(disch:=omega)only[go_sem, *,ac i,ee,wrap_i64,h1,h2]|apply ab<;>intro h<;>try omega|refine av (ay _ []) rfl rfl ?_|refine av (bG _ _) rfl rfl ?_
     ·rw[bK f]
      clear f
      repeat' first|simp(disch:=omega)only[go_sem, *,ac i,ee,wrap_i64,h1,h2]|apply ab<;>intro h<;>try omega|refine av (ay _ _) rfl rfl ?_|refine av (bG _ _) rfl rfl ?_
   ·rw[y h1]
    clear y z C m q
    by_cases f:vX [] l k= []
    ·rw[f]at h1 ⊢
     clear f
     rw[eE]
     repeat' first|simp(disch:=omega)only[go_sem, *,ac i,ee,wrap_i64,h1]|apply ab<;>intro h<;>try omega|refine av (ay _ []) rfl rfl ?_
    ·rw[bK f]
     clear f
     repeat' first|simp(disch:=omega)only[go_sem, *,ac i,ee,wrap_i64,h1]|apply ab<;>intro h<;>try omega|refine av (ay _ _) rfl rfl ?_
  ·have hz:=d.out
   rw[List.take_of_length_le (by omega)]at hz
   rw[hz]
   clear hz d
   by_cases f:vX [] l k= []
   ·rw[f,eE]
    clear f
    repeat' first|simp(disch:=omega)only[go_sem, *]|apply ab<;>intro h<;>try omega
   ·rw[bK f]
    clear f
    repeat' first|simp(disch:=omega)only[go_sem, *]|apply ab<;>intro h<;>try omega
 ·repeat' first|simp(disch:=omega)only[go_sem, *]|apply ab<;>intro h<;>try omega|refine cQ aN (aG λx=>rfl) (by simpa using H) (by simp;omega) (by simp;omega) ?_
  refine ai (λk:Nat=>Ki [(6,I k),(1,.c (.pure (b6 sizes))),(0,bZ ee l)] 5 [] 0 (vX sizes l k)) (λk=>k≤l.length∧Hid (aY sizes sizes (l.take k)=0)) (λk=>l.length-k) ⟨0, [],⟨by omega,by show _=_;simp[aY]⟩,by rw[Ko,bK H];simp⟩ ?_
  rintro k ⟨hk,d⟩
  refine aa ?_
  by_cases i:k<l.length
  ·have y:= λh1=>sF (sizes:=sizes) i d.out h1
   have z:= λh1 h2=>rX (sizes:=sizes) i d.out h1 h2
   have E:= λh1 h2=>Lib.hid (sJ (sizes:=sizes) i d.out h1 h2)
   rw[show sizes++(l.take k).map (·.1)=vX sizes l k from rfl]at y z E
   have P:=Lz (sizes:=sizes) k O hl
   have m:=Jn (sizes:=sizes) i
   have q:vX sizes l (k+1)≠ []:=by rw[m];simp
   have C:aE (vX sizes l k) l[k].1=0→bi sizes l[k].2=0→ ∃t':Nat,(t'≤l.length∧Hid (aY sizes sizes (l.take t')=0))∧l.length-t'<l.length-k∧t'=k+1:= λh1 h2=>⟨k+1,⟨by omega,E h1 h2⟩,by omega,rfl⟩
   clear d E
   by_cases h1:aE (vX sizes l k) l[k].1=0
   ·by_cases h2:bi sizes l[k].2=0
    ·obtain⟨k',hI,D,v⟩:=C h1 h2
     clear y z C
     by_cases f:vX sizes l k= []
     ·have hw:([[pS l[k].1]]:List (List PC))=(vX sizes l k').map λs=> [pS s]:=by rw[v,m,f];rfl
      have HW:=Lib.hid hw
      have HK:=Lib.hid v
      have G:=h1
      rw[f]at G ⊢
      clear hw v m f h1
      rw[eE]
      repeat' first|simp(disch:=omega)only[go_sem, *,ac i,ee,wrap_i64,G,h2]|apply ab<;>intro h<;>try omega|refine av (ay _ []) rfl rfl ?_|refine av (bG _ _) rfl rfl ?_|refine cQ aN (ak rfl) (by simp) (by simp) (by simp) ?_
      refine⟨k', [],hI,D, ?_⟩
      rw[bK (by rw[HK.out];exact q),HW.out,show(k:Int)+1=(k':Nat) by rw[HK.out];omega]
      simp
     ·have hw:(vX sizes l k).map (λs=> [pS s])++ [[pS l[k].1]]=(vX sizes l k').map λs=> [pS s]:=by rw[v,m,List.map_append];rfl
      have HW:=Lib.hid hw
      have HK:=Lib.hid v
      rw[bK f]
      clear hw v m f
      repeat' first|simp(disch:=omega)only[go_sem, *,ac i,ee,wrap_i64,h1,h2]|apply ab<;>intro h<;>try omega|refine av (ay _ _) rfl rfl ?_|refine av (bG _ _) rfl rfl ?_|refine aF rfl (by intro h;cases h) (ak rfl) (by simp;omega) (by simp;omega) ?_
      refine⟨k', [(0,1)],hI,D, ?_⟩
      rw[bK (by rw[HK.out];exact q),HW.out,show(k:Int)+1=(k':Nat) by rw[HK.out];omega]
      simp
    ·rw[z h1 h2]
     clear y z C m q
     by_cases f:vX sizes l k= []
     ·rw[f]at h1 ⊢
      clear f
      rw[eE]
      repeat' first|simp(disch:=omega)only[go_sem, *,ac i,ee,wrap_i64,h1,h2]|apply ab<;>intro h<;>try omega|refine av (ay _ []) rfl rfl ?_|refine av (bG _ _) rfl rfl ?_
     ·rw[bK f]
      clear f
      repeat' first|simp(disch:=omega)only[go_sem, *,ac i,ee,wrap_i64,h1,h2]|apply ab<;>intro h<;>try omega|refine av (ay _ _) rfl rfl ?_|refine av (bG _ _) rfl rfl ?_
   ·rw[y h1]
    clear y z C m q
    by_cases f:vX sizes l k= []
    ·rw[f]at h1 ⊢
     clear f
     rw[eE]
     repeat' first|simp(disch:=omega)only[go_sem, *,ac i,ee,wrap_i64,h1]|apply ab<;>intro h<;>try omega|refine av (ay _ []) rfl rfl ?_
    ·rw[bK f]
     clear f
     repeat' first|simp(disch:=omega)only[go_sem, *,ac i,ee,wrap_i64,h1]|apply ab<;>intro h<;>try omega|refine av (ay _ _) rfl rfl ?_
  ·have hz:=d.out
   rw[List.take_of_length_le (by omega)]at hz
   rw[hz]
   clear hz d
   by_cases f:vX sizes l k= []
   ·rw[f,eE]
    clear f
    repeat' first|simp(disch:=omega)only[go_sem, *]|apply ab<;>intro h<;>try omega
   ·rw[bK f]
    clear f
    repeat' first|simp(disch:=omega)only[go_sem, *]|apply ab<;>intro h<;>try omega
end Go.Proofs.YtjhkikmonejkjaaGreatDoor
