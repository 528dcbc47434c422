import Derived.Test.YthkaaahphlneiaaGreatDoorV17c
import Derived.Test.YthkaaahphlneiaaGreatDoorP17
set_option linter.unusedVariables false
set_option linter.unusedSimpArgs false
set_option maxRecDepth 20000
set_option maxHeartbeats 4000000
set_option maxRecDepth 1000000
namespace Go.Proofs.YthkaaahphlneiaaGreatDoor
open Go.Abs Go.RowKit
set_option maxHeartbeats 4000000 in
theorem Fq {p:bK} (hf:j8 p) (vars:List ByteArray) (e:Ex):iE e→ac Tryz.prog mr [fK p,.c (.pure (cH vars)),fm e] (LF (i5 p vars e)):=by
 refine Ex.ind (p:=fun e=>iE e→ac Tryz.prog mr [fK p,.c (.pure (cH vars)),fm e] (LF (i5 p vars e))) (fun e ih hr=> ?_) e
 refine ac.of FP (by simp) fun hb=>aa ?_
 have hl:=(dX hb.2.2).1
 obtain⟨ha,ho1,ho2,_⟩:=dO hr
 have ha3:e.args.length≤3:=by rcases yT ho1 ho2 with h|h|h|h|h|h<;>omega
 have HA:=Lib.hid ha
 clear ha
 conv in zd=>cbv
 repeat' first|simp(disch:=omega) only[go_sem]|((with_reducible refine ab ?_ ?_)<;>intro h<;>try first|omega|simp(disch:=omega) only[go_sem, *])
 refine dv 8 38 5 rfl (by decide) ?_
 refine aj (fun s:Nat×List Ty=>⟨[(9,I s.1),(8,.c (.ref 3)),(6,.c (.ptr 2 0)),(5,.c (.ptr 1 0)),(3,.c (.ptr 0 0)),(1,.c (.pure (cH vars)))], [(3,.arr 38 5 (s.2.map TR)),(2,VJ iU),(1,Ey e),(0,d6 p)],4,0⟩) (fun s=>s.1≤e.args.length∧Hid (dF p vars (e.args.take s.1)= .inr s.2)) (fun s=>e.args.length-s.1) ⟨(0, []), [],⟨by omega,by show _=_;simp[dF]⟩,by simp[iU]⟩ ?_
 rintro⟨k,ts⟩ ⟨hk,hall⟩
 refine aa ?_
 simp only at hk hall
 by_cases hlt:k<e.args.length
 ·have hih:=ih _ (List.getElem_mem hlt) (iJ hr (List.getElem_mem hlt))
  have hlk:ts.length=k:=by
   have:=pL hall.out
   rw[this,List.length_take]
   omega
  by_cases h0:(d9 p vars e.args[k]).2=0
  ·have hn:=Er hlt hall.out h0
   have h0':(i5 p vars e.args[k]).2=0:=(my _).trans h0
   have ht:=Mj h0
   rw[←ht]at hn
   have HN:=Lib.hid hn
   clear ih hr hall hn ht h0
   generalize i5 p vars e.args[k]=r at*
   have ht:ts.map TR++ [TR r.1]=(ts++ [r.1]).map TR:=by simp
   simp only[TR]at ht
   have HT:=Lib.hid ht
   clear ht
   repeat' first|simp(disch:=omega) only[go_sem,ae hlt,Ex.row_eq,wrap_i64,h0']|((with_reducible refine ab ?_ ?_)<;>intro h<;>try first|omega|simp(disch:=omega) only[go_sem, *,ae hlt,Ex.row_eq,wrap_i64,h0'])|(refine ah hih rfl (.inl rfl) ?_)|(refine aN rfl (by intro h;cases h) (aI rfl) (by simp;omega) (by simp;omega) ?_)
   rw[HT.out]
   exact⟨(k+1,ts++ [r.1]), [(3,5)],⟨by omega,HN⟩,by show _-_<_-_;omega,by simp⟩
  ·have hn:=C2 hlt hall.out h0
   have h0': ¬(i5 p vars e.args[k]).2=0:=fun h=>h0 ((my _).symm.trans h)
   have hR:i5 p vars e=(iU,(i5 p vars e.args[k]).2):=by rw[my];conv=>lhs;unfold i5;rw[hn]
   rw[hR]
   clear ih hr hall hn h0 hR
   generalize i5 p vars e.args[k]=r at*
   repeat' first|simp(disch:=omega) only[go_sem,ae hlt,Ex.row_eq,wrap_i64,h0']|((with_reducible refine ab ?_ ?_)<;>intro h<;>try first|omega|simp(disch:=omega) only[go_sem, *,ae hlt,Ex.row_eq,wrap_i64,h0'])|(refine ah hih rfl (.inl rfl) ?_)
   try rfl
 ·have hts:=hall.out
  rw[List.take_of_length_le (by omega)]at hts
  have hlk:=pL hts
  have hR:i5 p vars e=zE e.op (aR p vars e ts):=by unfold i5;rw[hts]
  have hrd:=EE hf vars e
  have hfo:=rM p vars [e.lin]
  clear ih hr hall hts
  have hts:=HA.out
  clear HA
  rcases yT ho1 ho2 with⟨g|g|g,h2⟩|⟨g|g|g,h2⟩|⟨g,h2⟩|⟨g,h2⟩|⟨g,h2⟩|⟨g,h2⟩
  ·rw[hR.trans (show zE e.op (aR p vars e ts)=(e.ty,0) by simp[zE,aR,g])]
   clear hR hlk h2 hts hrd hfo
   repeat' first|simp(disch:=omega) only[go_sem,g]|((with_reducible refine ab ?_ ?_)<;>intro h<;>try first|omega|simp(disch:=omega) only[go_sem, *,g])
  ·rw[hR.trans (show zE e.op (aR p vars e ts)=((3,0,0,0,0),dQ p vars [e.lin]) by simp[zE,aR,g])]
   clear hR hlk h2 hts hrd
   repeat' first|simp(disch:=omega) only[go_sem,g]|((with_reducible refine ab ?_ ?_)<;>intro h<;>try first|omega|simp(disch:=omega) only[go_sem, *,g])|(refine ah hfo rfl (.inl rfl) ?_)
  ·have hz:zE 3 (f7 p vars e)=f7 p vars e:=by
    unfold f7 zE
    repeat' split
    all_goals first
     |rfl
     |simp_all
   rw[hR.trans (show zE e.op (aR p vars e ts)=f7 p vars e by simp[aR,g,hz])]
   clear hR hlk h2 hts hfo hz
   simp only[fm,g]at hrd
   repeat' first|simp(disch:=omega) only[go_sem,g]|((with_reducible refine ab ?_ ?_)<;>intro h<;>try first|omega|simp(disch:=omega) only[go_sem, *,g])|(refine ah hrd rfl (.inl rfl) ?_)
  ·obtain⟨a,rfl⟩:=Xp (l:=ts) (by omega)
   rw[hR.trans (show zE e.op (aR p vars e [a])=(a,0) by simp[zE,aR,g])]
   clear hR hlk h2 hts hrd hfo
   repeat' first|simp(disch:=omega) only[go_sem,g,Int.toNat_zero]|((with_reducible refine ab ?_ ?_)<;>intro h<;>try first|omega|simp(disch:=omega) only[go_sem, *,g,Int.toNat_zero])
  ·rw[hR.trans (show zE e.op (aR p vars e ts)=(e.ty,0) by simp[zE,aR,g])]
   clear hR hlk h2 hts hrd hfo
   repeat' first|simp(disch:=omega) only[go_sem,g]|((with_reducible refine ab ?_ ?_)<;>intro h<;>try first|omega|simp(disch:=omega) only[go_sem, *,g])
  ·rw[hR.trans (show zE e.op (aR p vars e ts)=(iU,0) by simp[zE,aR,g])]
   clear hR hlk h2 hts hrd hfo
   repeat' first|simp(disch:=omega) only[go_sem,g]|((with_reducible refine ab ?_ ?_)<;>intro h<;>try first|omega|simp(disch:=omega) only[go_sem, *,g])
   try rfl
  ·obtain⟨a,b,c,rfl⟩:=Xs (l:=ts) (by omega)
   by_cases hbc:b=c
   ·subst hbc
    rw[hR.trans (show zE e.op (aR p vars e [a,b,b])=(b,0) by simp[zE,aR,g])]
    clear hR hlk h2 hts hrd hfo
    repeat' first|simp(disch:=omega) only[go_sem,g,Int.toNat_zero,show Int.toNat 1=1 from rfl,show Int.toNat 2=2 from rfl]|((with_reducible refine ab ?_ ?_)<;>intro h<;>try first|omega|simp(disch:=omega) only[go_sem, *,g,Int.toNat_zero,show Int.toNat 1=1 from rfl,show Int.toNat 2=2 from rfl])
   ·rw[hR.trans (show zE e.op (aR p vars e [a,b,c])=(iU,10) by simp[zE,aR,g,hbc])]
    clear hR hlk h2 hts hrd hfo
    repeat' first|simp(disch:=omega) only[go_sem,g,Int.toNat_zero,show Int.toNat 1=1 from rfl,show Int.toNat 2=2 from rfl]|((with_reducible refine ab ?_ ?_)<;>intro h<;>try first|omega|simp(disch:=omega) only[go_sem, *,g,Int.toNat_zero,show Int.toNat 1=1 from rfl,show Int.toNat 2=2 from rfl])
    all_goals first
     |exact absurd (xD h) hbc
     |rfl
  ·obtain⟨a,b,rfl⟩:=TW (l:=ts) (by omega)
   have h3: ¬e.op=1∧ ¬e.op=2∧ ¬e.op=3∧ ¬e.op=12∧ ¬e.op=8∧ ¬e.op=11∧ ¬16≤e.op∧13≤e.op:=by omega
   obtain⟨g1,g2,g3,g4,g5,g6,g7,g8⟩:=h3
   clear g
   by_cases hbc:a=b
   ·subst hbc
    rw[hR.trans (show zE e.op (aR p vars e [a,a])=(iU,0) by simp[zE,aR,g1,g2,g3,g4,g5,g6,g7,g8])]
    clear hR hlk h2 hts hrd hfo
    repeat' first|simp(disch:=omega) only[go_sem,Int.toNat_zero,show Int.toNat 1=1 from rfl]|((with_reducible refine ab ?_ ?_)<;>intro h<;>try first|omega|simp(disch:=omega) only[go_sem, *,Int.toNat_zero,show Int.toNat 1=1 from rfl])
    try rfl
   ·rw[hR.trans (show zE e.op (aR p vars e [a,b])=(iU,10) by simp[zE,aR,g1,g2,g3,g4,g5,g6,g7,g8,hbc])]
    clear hR hlk h2 hts hrd hfo
    repeat' first|simp(disch:=omega) only[go_sem,Int.toNat_zero,show Int.toNat 1=1 from rfl]|((with_reducible refine ab ?_ ?_)<;>intro h<;>try first|omega|simp(disch:=omega) only[go_sem, *,Int.toNat_zero,show Int.toNat 1=1 from rfl])
    all_goals first
     |exact absurd (xD h) hbc
     |rfl
  ·have h3: ¬e.op=1∧ ¬e.op=2∧ ¬e.op=3∧ ¬e.op=12∧ ¬e.op=8∧ ¬e.op=11∧16≤e.op:=by omega
   obtain⟨g1,g2,g3,g4,g5,g6,g7⟩:=h3
   clear g
   rw[hR.trans (show zE e.op (aR p vars e ts)=(iU,0) by simp[zE,aR,g1,g2,g3,g4,g5,g6,g7])]
   clear hR hlk h2 hts hrd hfo
   repeat' first|simp(disch:=omega) only[go_sem]|((with_reducible refine ab ?_ ?_)<;>intro h<;>try first|omega|simp(disch:=omega) only[go_sem, *])
   try rfl
  ·obtain⟨a,b,rfl⟩:=TW (l:=ts) (by omega)
   have h3: ¬e.op=1∧ ¬e.op=2∧ ¬e.op=3∧ ¬e.op=12∧ ¬e.op=8∧ ¬e.op=11∧ ¬16≤e.op∧ ¬13≤e.op:=by omega
   obtain⟨g1,g2,g3,g4,g5,g6,g7,g8⟩:=h3
   clear g
   by_cases hbc:a=b
   ·subst hbc
    rw[hR.trans (show zE e.op (aR p vars e [a,a])=(a,0) by simp[zE,aR,g1,g2,g3,g4,g5,g6,g7,g8])]
    clear hR hlk h2 hts hrd hfo
    repeat' first|simp(disch:=omega) only[go_sem,Int.toNat_zero,show Int.toNat 1=1 from rfl]|((with_reducible refine ab ?_ ?_)<;>intro h<;>try first|omega|simp(disch:=omega) only[go_sem, *,Int.toNat_zero,show Int.toNat 1=1 from rfl])
    try rfl
   ·rw[hR.trans (show zE e.op (aR p vars e [a,b])=(iU,10) by simp[zE,aR,g1,g2,g3,g4,g5,g6,g7,g8,hbc])]
    clear hR hlk h2 hts hrd hfo
    repeat' first|simp(disch:=omega) only[go_sem,Int.toNat_zero,show Int.toNat 1=1 from rfl]|((with_reducible refine ab ?_ ?_)<;>intro h<;>try first|omega|simp(disch:=omega) only[go_sem, *,Int.toNat_zero,show Int.toNat 1=1 from rfl])
    all_goals first
     |exact absurd (xD h) hbc
     |rfl
theorem zY {p:bK} (hf:j8 p) (vars:List ByteArray) {e:Ex} (h64: ∀a∈e.pre,sS a.val):ac Tryz.prog ni [fK p,.c (.pure (cH vars)),fm e] (LF (bi p vars e)):=by
 refine ac.of BQ (by simp) fun hb=>aa ?_
 conv in tx=>cbv
 have hv:=xh h64
 by_cases h1:gT e=0
 ·by_cases h2:lF e.op
  ·have hR:bi p vars e=(iU,10):=by unfold bi;rw[if_neg (not_not_intro h1),if_pos h2]
   rw[hR]
   clear hR
   repeat' first|simp(disch:=omega) only[go_sem,h1,h2,decide_true]|((with_reducible refine ab ?_ ?_)<;>intro h<;>try first|omega|simp(disch:=omega) only[go_sem, *,h1,h2,decide_true])|(refine ah hv rfl (.inl rfl) ?_)|(refine ah (ep e) rfl (.inl rfl) ?_)
   try rfl
  ·have hnd:=Fq hf vars e (vj h1)
   by_cases h3:(d9 p vars e).2=0
   ·have hR:bi p vars e=((i5 p vars e).1,0):=by unfold bi;rw[if_neg (not_not_intro h1),if_neg h2,if_neg (not_not_intro h3),Mj h3]
    have h3':=(my (p:=p) (vars:=vars) e).trans h3
    rw[hR]
    clear hR h3
    generalize i5 p vars e=r at*
    repeat' first|simp(disch:=omega) only[go_sem,h1,h2,h3',decide_false]|((with_reducible refine ab ?_ ?_)<;>intro h<;>try first|omega|simp(disch:=omega) only[go_sem, *,h1,h2,h3',decide_false])|(refine ah hv rfl (.inl rfl) ?_)|(refine ah (ep e) rfl (.inl rfl) ?_)|(refine ah hnd rfl (.inl rfl) ?_)
    try rfl
   ·have hR:bi p vars e=(iU,(i5 p vars e).2):=by unfold bi;rw[if_neg (not_not_intro h1),if_neg h2,if_pos h3,my]
    have h3': ¬(i5 p vars e).2=0:=fun h=>h3 ((my e).symm.trans h)
    rw[hR]
    clear hR h3
    generalize i5 p vars e=r at*
    repeat' first|simp(disch:=omega) only[go_sem,h1,h2,h3',decide_false]|((with_reducible refine ab ?_ ?_)<;>intro h<;>try first|omega|simp(disch:=omega) only[go_sem, *,h1,h2,h3',decide_false])|(refine ah hv rfl (.inl rfl) ?_)|(refine ah (ep e) rfl (.inl rfl) ?_)|(refine ah hnd rfl (.inl rfl) ?_)
    try rfl
 ·have hR:bi p vars e=(iU,gT e):=by unfold bi;rw[if_pos h1]
  rw[hR]
  clear hR
  repeat' first|simp(disch:=omega) only[go_sem,h1]|((with_reducible refine ab ?_ ?_)<;>intro h<;>try first|omega|simp(disch:=omega) only[go_sem, *,h1])|(refine ah hv rfl (.inl rfl) ?_)
  try rfl
set_option maxRecDepth 20000
set_option maxRecDepth 1000000
theorem aC (s:ByteArray) (taken:List ByteArray):ac Tryz.prog qY [S s,.c (.pure (cH taken))] (I (aO taken s)):=by
 refine ac.of F7 (by simp) fun hb=>aa ?_
 conv in x7=>cbv
 repeat' first|simp(disch:=omega) only[go_sem, *]|((with_reducible refine ab ?_ ?_)<;>intro h<;>try omega)|(refine av (fT _) rfl rfl ?_)|(refine av (gQ _ _) rfl rfl ?_)
 all_goals(refine IE ?_;unfold aO;grind)
theorem bX (l:ca) (sizes:List ByteArray):ac Tryz.prog rz [dj l.1 l.2,.c (.pure (cH sizes))] (I (bq sizes l)):=by
 refine ac.of FZ (by simp) fun hb=>aa ?_
 conv in yu=>cbv
 repeat' first|simp(disch:=omega) only[go_sem, *]|((with_reducible refine ab ?_ ?_)<;>intro h<;>try omega)|(refine av (dT _ _) rfl rfl ?_)|(refine av (iv l [] sizes) rfl rfl ?_)
 all_goals(refine IE ?_;unfold bq;grind)
theorem iu (x:pH) (sizes taken:List ByteArray):ac Tryz.prog oJ [Xo x,.c (.pure (cH sizes)),.c (.pure (cH taken))] (I (dC sizes taken x)):=by
 refine ac.of Fu (by simp) fun hb=>aa ?_
 conv in wD=>cbv
 by_cases h1:aO taken x.1=0
 ·by_cases h2:l8 x.2.1
  ·by_cases h3:6<x.2.2.length
   ·have hR:dC sizes taken x=11:=by unfold dC;rw[if_neg (not_not_intro h1),if_neg (not_not_intro h2),if_pos h3]
    rw[hR]
    have h3':(x.2.2.length:Int)>6:=by omega
    clear hR
    repeat' first|simp(disch:=omega) only[go_sem, *,h1,h2,h3',decide_true]|((with_reducible refine ab ?_ ?_)<;>intro h<;>try omega)|(refine av (aC _ _) rfl rfl ?_)|(refine av (bH x.2.1) rfl rfl ?_)
   ·have hR:dC sizes taken x=cQ (x.2.2.map (bq sizes)):=by unfold dC;rw[if_neg (not_not_intro h1),if_neg (not_not_intro h2),if_neg h3]
    rw[hR]
    have h3': ¬(x.2.2.length:Int)>6:=by omega
    clear hR
    repeat' first|simp(disch:=omega) only[go_sem, *,h1,h2,h3',decide_true]|((with_reducible refine ab ?_ ?_)<;>intro h<;>try omega)|(refine av (aC _ _) rfl rfl ?_)|(refine av (bH x.2.1) rfl rfl ?_)
    refine aj (fun k:Nat=>⟨[(8,I k),(3,.c (.ptr 0 0)),(1,.c (.pure (cH sizes)))], [(0,RQ x)],1,0⟩) (fun k=>k≤x.2.2.length∧Hid (cQ ((x.2.2.map (bq sizes)).take k)=0)) (fun k=>x.2.2.length-k) ⟨0, [],⟨by omega,by show _=_;simp[cQ]⟩,by simp⟩ ?_
    clear h1 h2
    rintro k ⟨hk,hall⟩
    refine aa ?_
    by_cases hlt:k<x.2.2.length
    ·have hlm:k<(x.2.2.map (bq sizes)).length:=by simpa using hlt
     have h4:=iD hlm hall.out
     have h5:=m9 hlm hall.out
     rw[List.getElem_map]at h4 h5
     clear hall
     by_cases hz:bq sizes x.2.2[k]=0
     ·have HN:=Lib.hid (h4.trans hz)
      clear h4 h5
      repeat' first|simp(disch:=omega) only[go_sem, *,ae hlt,bQ,wrap_i64,hz]|((with_reducible refine ab ?_ ?_)<;>intro h<;>try omega)|(refine av (bX _ _) rfl rfl ?_)
      exact⟨k+1, [],⟨by omega,HN⟩,by omega,by simp⟩
     ·rw[h5 hz]
      clear h4 h5
      repeat' first|simp(disch:=omega) only[go_sem, *,ae hlt,bQ,wrap_i64,hz]|((with_reducible refine ab ?_ ?_)<;>intro h<;>try omega)|(refine av (bX _ _) rfl rfl ?_)
    ·have hz:=hall.out
     rw[List.take_of_length_le (by simp;omega)]at hz
     rw[hz]
     clear hz hall
     repeat' first|simp(disch:=omega) only[go_sem, *]|((with_reducible refine ab ?_ ?_)<;>intro h<;>try omega)
  ·have hR:dC sizes taken x=10:=by unfold dC;rw[if_neg (not_not_intro h1),if_pos h2]
   rw[hR]
   clear hR
   repeat' first|simp(disch:=omega) only[go_sem, *,h1,h2,decide_false]|((with_reducible refine ab ?_ ?_)<;>intro h<;>try omega)|(refine av (aC _ _) rfl rfl ?_)|(refine av (bH x.2.1) rfl rfl ?_)
 ·have hR:dC sizes taken x=aO taken x.1:=by unfold dC;rw[if_pos h1]
  rw[hR]
  clear hR
  repeat' first|simp(disch:=omega) only[go_sem, *,h1]|((with_reducible refine ab ?_ ?_)<;>intro h<;>try omega)|(refine av (aC _ _) rfl rfl ?_)
theorem xe (sizes:List ByteArray): ∀(l r:List eY) (taken:List ByteArray),bk sizes taken (l++r)=if bk sizes taken l≠0 then bk sizes taken l else bk sizes (taken++l.map (·.1)) r
 | [],r,taken=>by simp[bk]
 |a::l,r,taken=>by
  have ih:=xe sizes l r (taken++ [a.1])
  simp only[List.cons_append,bk,List.map_cons]
  rw[ih,List.append_assoc,List.singleton_append]
  by_cases h1:aO taken a.1=0
  ·by_cases h2:bq sizes a.2=0
   ·simp only[h1,h2,ne_eq,not_true_eq_false,if_false]
   ·simp only[h1,h2,ne_eq,not_true_eq_false,if_false,not_false_eq_true,if_true]
  ·simp only[h1,ne_eq,not_false_eq_true,if_true]
theorem uq {sizes:List ByteArray} {l:List eY} {k:Nat} (h:k<l.length) (h0:bk sizes sizes (l.take k)=0) (h1:aO (sizes++(l.take k).map (·.1)) l[k].1=0) (h2:bq sizes l[k].2=0):bk sizes sizes (l.take (k+1))=0:=by
 rw[List.take_succ_eq_append_getElem h,xe,if_neg (not_not_intro h0)]
 simp only[bk]
 rw[if_neg (not_not_intro h1),if_neg (not_not_intro h2)]
theorem zD {sizes:List ByteArray} {l:List eY} {k:Nat} (h:k<l.length) (h0:bk sizes sizes (l.take k)=0):bk sizes sizes l=bk sizes (sizes++(l.take k).map (·.1)) (l[k]::l.drop (k+1)):=by
 have:=xe sizes (l.take k) (l[k]::l.drop (k+1)) sizes
 rw[←List.drop_eq_getElem_cons h,List.take_append_drop,if_neg (not_not_intro h0)]at this
 rw[this,List.drop_eq_getElem_cons h]
theorem uO {sizes:List ByteArray} {l:List eY} {k:Nat} (h:k<l.length) (h0:bk sizes sizes (l.take k)=0) (h1:aO (sizes++(l.take k).map (·.1)) l[k].1≠0):bk sizes sizes l=aO (sizes++(l.take k).map (·.1)) l[k].1:=by
 rw[zD h h0,bk,if_pos h1]
theorem u4 {sizes:List ByteArray} {l:List eY} {k:Nat} (h:k<l.length) (h0:bk sizes sizes (l.take k)=0) (h1:aO (sizes++(l.take k).map (·.1)) l[k].1=0) (h2:bq sizes l[k].2≠0):bk sizes sizes l=bq sizes l[k].2:=by
 rw[zD h h0,bk,if_neg (not_not_intro h1),if_pos h2]
abbrev LV (fr:List (Nat×AV)) (t:Nat) (mem:List (Nat×aS)) (nx:Nat) (l:List ByteArray):St:=
 if l= []then⟨(t,.c (.tsl []))::fr,mem,nx,0⟩else⟨(t,.c (.ref nx))::fr,(nx,.arr 9 1 (l.map fun s=> [pS s]))::mem,nx+1,0⟩
theorem fi {fr:List (Nat×AV)} {t:Nat} {mem:List (Nat×aS)} {nx:Nat}:LV fr t mem nx []=⟨(t,.c (.tsl []))::fr,mem,nx,0⟩:=if_pos rfl
theorem b6 {fr:List (Nat×AV)} {t:Nat} {mem:List (Nat×aS)} {nx:Nat} {l:List ByteArray} (h:l≠ []):LV fr t mem nx l=⟨(t,.c (.ref nx))::fr,(nx,.arr 9 1 (l.map fun s=> [pS s]))::mem,nx+1,0⟩:=if_neg h
def xE (sizes:List ByteArray) (l:List eY) (k:Nat):List ByteArray:=sizes++(l.take k).map (·.1)
theorem KF {sizes:List ByteArray} {l:List eY} {k:Nat} (h:k<l.length):xE sizes l (k+1)=xE sizes l k++ [l[k].1]:=by
 unfold xE
 rw[List.take_succ_eq_append_getElem h,List.map_append,List.append_assoc]
 rfl
theorem OX {sizes:List ByteArray} {l:List eY} (k:Nat) (h:sizes.length≤100) (hl:l.length≤100):(xE sizes l k).length≤200:=by
 unfold xE
 simp
 omega
theorem KO {sizes:List ByteArray} {l:List eY}:xE sizes l 0=sizes:=by simp[xE]
set_option maxHeartbeats 1000000 in
theorem tE (l:List eY) (sizes:List ByteArray) (hl:l.length≤100) (hsz:sizes.length≤100):ac Tryz.prog qH [d8 ed l,.c (.pure (cH sizes))] (I (bk sizes sizes l)):=by
 refine ac.of Gg (by simp) fun hb=>aa ?_
 conv in zq=>cbv
 by_cases hne:sizes= []
 ·subst hne
  repeat' first|simp(disch:=omega) only[go_sem, *]|((with_reducible refine ab ?_ ?_)<;>intro h<;>try omega)|(refine dN aU ?_)
  refine aj (fun k:Nat=>LV [(6,I k),(1,.c (.pure (cH []))),(0,d8 ed l)] 5 [] 0 (xE [] l k)) (fun k=>k≤l.length∧Hid (bk [] [] (l.take k)=0)) (fun k=>l.length-k) ⟨0, [],⟨by omega,by show _=_;simp[bk]⟩,by rw[KO,fi];simp⟩ ?_
  rintro k ⟨hk,hall⟩
  refine aa ?_
  by_cases hlt:k<l.length
  ·have hn1:=fun h1=>uO (sizes:= []) hlt hall.out h1
   have hn2:=fun h1 h2=>u4 (sizes:= []) hlt hall.out h1 h2
   have hn3:=fun h1 h2=>Lib.hid (uq (sizes:= []) hlt hall.out h1 h2)
   rw[show []++(l.take k).map (·.1)=xE [] l k from rfl]at hn1 hn2 hn3
   have hlen:=OX (sizes:= []) k hsz hl
   have htk:=KF (sizes:= []) hlt
   have hne1:xE [] l (k+1)≠ []:=by rw[htk];simp
   have hn4:aO (xE [] l k) l[k].1=0→bq [] l[k].2=0→ ∃t':Nat,(t'≤l.length∧Hid (bk [] [] (l.take t')=0))∧l.length-t'<l.length-k∧t'=k+1:=fun h1 h2=>⟨k+1,⟨by omega,hn3 h1 h2⟩,by omega,rfl⟩
   clear hall hn3
   by_cases h1:aO (xE [] l k) l[k].1=0
   ·by_cases h2:bq [] l[k].2=0
    ·obtain⟨k',hI,hlt',hk'⟩:=hn4 h1 h2
     clear hn1 hn2 hn4
     by_cases htn:xE [] l k= []
     ·have hw:([[pS l[k].1]]:List (List PC))=(xE [] l k').map fun s=> [pS s]:=by rw[hk',htk,htn];rfl
      have HW:=Lib.hid hw
      have HK:=Lib.hid hk'
      have h1':=h1
      rw[htn]at h1' ⊢
      clear hw hk' htk htn h1
      rw[fi]
      repeat' first|simp(disch:=omega) only[go_sem, *,ae hlt,ed,wrap_i64,h1',h2]|((with_reducible refine ab ?_ ?_)<;>intro h<;>try omega)|(refine av (aC _ []) rfl rfl ?_)|(refine av (bX _ _) rfl rfl ?_)|(refine dI aU (aI rfl) (by simp) (by simp) (by simp) ?_)
      refine⟨k', [],hI,hlt', ?_⟩
      rw[b6 (by rw[HK.out];exact hne1),HW.out,show(k:Int)+1=(k':Nat) by rw[HK.out];omega]
      simp
     ·have hw:(xE [] l k).map (fun s=> [pS s])++ [[pS l[k].1]]=(xE [] l k').map fun s=> [pS s]:=by rw[hk',htk,List.map_append];rfl
      have HW:=Lib.hid hw
      have HK:=Lib.hid hk'
      rw[b6 htn]
      clear hw hk' htk htn
      repeat' first|simp(disch:=omega) only[go_sem, *,ae hlt,ed,wrap_i64,h1,h2]|((with_reducible refine ab ?_ ?_)<;>intro h<;>try omega)|(refine av (aC _ _) rfl rfl ?_)|(refine av (bX _ _) rfl rfl ?_)|(refine aN rfl (by intro h;cases h) (aI rfl) (by simp;omega) (by simp;omega) ?_)
      refine⟨k', [(0,1)],hI,hlt', ?_⟩
      rw[b6 (by rw[HK.out];exact hne1),HW.out,show(k:Int)+1=(k':Nat) by rw[HK.out];omega]
      simp
    ·rw[hn2 h1 h2]
     clear hn1 hn2 hn4 htk hne1
     by_cases htn:xE [] l k= []
     ·rw[htn]at h1 ⊢
      clear htn
      rw[fi]
      repeat' first|simp(disch:=omega) only[go_sem, *,ae hlt,ed,wrap_i64,h1,h2]|((with_reducible refine ab ?_ ?_)<;>intro h<;>try omega)|(refine av (aC _ []) rfl rfl ?_)|(refine av (bX _ _) rfl rfl ?_)
     ·rw[b6 htn]
      clear htn
      repeat' first|simp(disch:=omega) only[go_sem, *,ae hlt,ed,wrap_i64,h1,h2]|((with_reducible refine ab ?_ ?_)<;>intro h<;>try omega)|(refine av (aC _ _) rfl rfl ?_)|(refine av (bX _ _) rfl rfl ?_)
   ·rw[hn1 h1]
    clear hn1 hn2 hn4 htk hne1
    by_cases htn:xE [] l k= []
    ·rw[htn]at h1 ⊢
     clear htn
     rw[fi]
     repeat' first|simp(disch:=omega) only[go_sem, *,ae hlt,ed,wrap_i64,h1]|((with_reducible refine ab ?_ ?_)<;>intro h<;>try omega)|(refine av (aC _ []) rfl rfl ?_)
    ·rw[b6 htn]
     clear htn
     repeat' first|simp(disch:=omega) only[go_sem, *,ae hlt,ed,wrap_i64,h1]|((with_reducible refine ab ?_ ?_)<;>intro h<;>try omega)|(refine av (aC _ _) rfl rfl ?_)
  ·have hz:=hall.out
   rw[List.take_of_length_le (by omega)]at hz
   rw[hz]
   clear hz hall
   by_cases htn:xE [] l k= []
   ·rw[htn,fi]
    clear htn
    repeat' first|simp(disch:=omega) only[go_sem, *]|((with_reducible refine ab ?_ ?_)<;>intro h<;>try omega)
   ·rw[b6 htn]
    clear htn
    repeat' first|simp(disch:=omega) only[go_sem, *]|((with_reducible refine ab ?_ ?_)<;>intro h<;>try omega)
 ·repeat' first|simp(disch:=omega) only[go_sem, *]|((with_reducible refine ab ?_ ?_)<;>intro h<;>try omega)|(refine dI aU (ar fun x=>rfl) (by simpa using hne) (by simp;omega) (by simp;omega) ?_)
  refine aj (fun k:Nat=>LV [(6,I k),(1,.c (.pure (cH sizes))),(0,d8 ed l)] 5 [] 0 (xE sizes l k)) (fun k=>k≤l.length∧Hid (bk sizes sizes (l.take k)=0)) (fun k=>l.length-k) ⟨0, [],⟨by omega,by show _=_;simp[bk]⟩,by rw[KO,b6 hne];simp⟩ ?_
  rintro k ⟨hk,hall⟩
  refine aa ?_
  by_cases hlt:k<l.length
  ·have hn1:=fun h1=>uO (sizes:=sizes) hlt hall.out h1
   have hn2:=fun h1 h2=>u4 (sizes:=sizes) hlt hall.out h1 h2
   have hn3:=fun h1 h2=>Lib.hid (uq (sizes:=sizes) hlt hall.out h1 h2)
   rw[show sizes++(l.take k).map (·.1)=xE sizes l k from rfl]at hn1 hn2 hn3
   have hlen:=OX (sizes:=sizes) k hsz hl
   have htk:=KF (sizes:=sizes) hlt
   have hne1:xE sizes l (k+1)≠ []:=by rw[htk];simp
   have hn4:aO (xE sizes l k) l[k].1=0→bq sizes l[k].2=0→ ∃t':Nat,(t'≤l.length∧Hid (bk sizes sizes (l.take t')=0))∧l.length-t'<l.length-k∧t'=k+1:=fun h1 h2=>⟨k+1,⟨by omega,hn3 h1 h2⟩,by omega,rfl⟩
   clear hall hn3
   by_cases h1:aO (xE sizes l k) l[k].1=0
   ·by_cases h2:bq sizes l[k].2=0
    ·obtain⟨k',hI,hlt',hk'⟩:=hn4 h1 h2
     clear hn1 hn2 hn4
     by_cases htn:xE sizes l k= []
     ·have hw:([[pS l[k].1]]:List (List PC))=(xE sizes l k').map fun s=> [pS s]:=by rw[hk',htk,htn];rfl
      have HW:=Lib.hid hw
      have HK:=Lib.hid hk'
      have h1':=h1
      rw[htn]at h1' ⊢
      clear hw hk' htk htn h1
      rw[fi]
      repeat' first|simp(disch:=omega) only[go_sem, *,ae hlt,ed,wrap_i64,h1',h2]|((with_reducible refine ab ?_ ?_)<;>intro h<;>try omega)|(refine av (aC _ []) rfl rfl ?_)|(refine av (bX _ _) rfl rfl ?_)|(refine dI aU (aI rfl) (by simp) (by simp) (by simp) ?_)
      refine⟨k', [],hI,hlt', ?_⟩
      rw[b6 (by rw[HK.out];exact hne1),HW.out,show(k:Int)+1=(k':Nat) by rw[HK.out];omega]
      simp
     ·have hw:(xE sizes l k).map (fun s=> [pS s])++ [[pS l[k].1]]=(xE sizes l k').map fun s=> [pS s]:=by rw[hk',htk,List.map_append];rfl
      have HW:=Lib.hid hw
      have HK:=Lib.hid hk'
      rw[b6 htn]
      clear hw hk' htk htn
      repeat' first|simp(disch:=omega) only[go_sem, *,ae hlt,ed,wrap_i64,h1,h2]|((with_reducible refine ab ?_ ?_)<;>intro h<;>try omega)|(refine av (aC _ _) rfl rfl ?_)|(refine av (bX _ _) rfl rfl ?_)|(refine aN rfl (by intro h;cases h) (aI rfl) (by simp;omega) (by simp;omega) ?_)
      refine⟨k', [(0,1)],hI,hlt', ?_⟩
      rw[b6 (by rw[HK.out];exact hne1),HW.out,show(k:Int)+1=(k':Nat) by rw[HK.out];omega]
      simp
    ·rw[hn2 h1 h2]
     clear hn1 hn2 hn4 htk hne1
     by_cases htn:xE sizes l k= []
     ·rw[htn]at h1 ⊢
      clear htn
      rw[fi]
      repeat' first|simp(disch:=omega) only[go_sem, *,ae hlt,ed,wrap_i64,h1,h2]|((with_reducible refine ab ?_ ?_)<;>intro h<;>try omega)|(refine av (aC _ []) rfl rfl ?_)|(refine av (bX _ _) rfl rfl ?_)
     ·rw[b6 htn]
      clear htn
      repeat' first|simp(disch:=omega) only[go_sem, *,ae hlt,ed,wrap_i64,h1,h2]|((with_reducible refine ab ?_ ?_)<;>intro h<;>try omega)|(refine av (aC _ _) rfl rfl ?_)|(refine av (bX _ _) rfl rfl ?_)
   ·rw[hn1 h1]
    clear hn1 hn2 hn4 htk hne1
    by_cases htn:xE sizes l k= []
    ·rw[htn]at h1 ⊢
     clear htn
     rw[fi]
     repeat' first|simp(disch:=omega) only[go_sem, *,ae hlt,ed,wrap_i64,h1]|((with_reducible refine ab ?_ ?_)<;>intro h<;>try omega)|(refine av (aC _ []) rfl rfl ?_)
    ·rw[b6 htn]
     clear htn
     repeat' first|simp(disch:=omega) only[go_sem, *,ae hlt,ed,wrap_i64,h1]|((with_reducible refine ab ?_ ?_)<;>intro h<;>try omega)|(refine av (aC _ _) rfl rfl ?_)
  ·have hz:=hall.out
   rw[List.take_of_length_le (by omega)]at hz
   rw[hz]
   clear hz hall
   by_cases htn:xE sizes l k= []
   ·rw[htn,fi]
    clear htn
    repeat' first|simp(disch:=omega) only[go_sem, *]|((with_reducible refine ab ?_ ?_)<;>intro h<;>try omega)
   ·rw[b6 htn]
    clear htn
    repeat' first|simp(disch:=omega) only[go_sem, *]|((with_reducible refine ab ?_ ?_)<;>intro h<;>try omega)
end Go.Proofs.YthkaaahphlneiaaGreatDoor
