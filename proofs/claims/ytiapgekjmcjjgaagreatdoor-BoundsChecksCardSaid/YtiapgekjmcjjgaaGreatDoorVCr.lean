import Derived.Test.YtiapgekjmcjjgaaGreatDoorV18P
import Derived.Test.YtiapgekjmcjjgaaGreatDoorV18S
set_option maxHeartbeats 4000000
set_option linter.unusedVariables false
set_option linter.unusedSimpArgs false
set_option maxRecDepth 1000000
open Go.Proofs.Tryz renaming prog→Ya
namespace Go.Proofs.YtiapgekjmcjjgaaGreatDoor
open Go.Abs Go.RowKit
abbrev UT (y:Int×Int×aU):AV:= .agg [.pure (pI y.1),.pure (pI y.2.1),.pure (pI y.2.2.1.1),.pure (ay y.2.2.1.2),.pure (pB y.2.2.2)]
theorem yK (a b:Int×Int×aU):ac Ya 21 [UT a,UT b] (Go.Abs.B (decide (a=b))):=by
 refine ac.of sB (by simp) λhb=>aa ?_
 conv in bh _ _=>cbv
 have pc:=FH a.2.2 b.2.2
 by_cases h1:a.1=b.1
 ·by_cases h2:a.2.1=b.2.1
  ·by_cases h3:a.2.2=b.2.2
   ·rw[decide_eq_true h3]at pc
    rw[decide_eq_true (Prod.ext h1 (Prod.ext h2 h3))]
    clear h3
    repeat' first|simp(disch:=omega)only[go_sem, *,h1,h2]|apply ab<;>intro h<;>try omega|apply af|(with_reducible refine ag (λh=> ?_) ?_)|refine aq pc rfl rfl ?_
    all_goals rfl
   ·rw[decide_eq_false h3]at pc
    rw[decide_eq_false λh=>h3 (by rw[h])]
    clear h3
    repeat' first|simp(disch:=omega)only[go_sem, *,h1,h2]|apply ab<;>intro h<;>try omega|apply af|(with_reducible refine ag (λh=> ?_) ?_)|refine aq pc rfl rfl ?_
    all_goals rfl
  ·rw[decide_eq_false λh=>h2 (by rw[h])]
   repeat' first|simp(disch:=omega)only[go_sem, *,h1,h2]|apply ab<;>intro h<;>try omega|apply af|(with_reducible refine ag (λh=> ?_) ?_)|refine aq pc rfl rfl ?_
   all_goals rfl
 ·rw[decide_eq_false λh=>h1 (by rw[h])]
  repeat' first|simp(disch:=omega)only[go_sem, *,h1]|apply ab<;>intro h<;>try omega|apply af|(with_reducible refine ag (λh=> ?_) ?_)|refine aq pc rfl rfl ?_
  all_goals rfl
theorem jt {p:bG} {l:List Pf} (hf:iR p) (d:kI p) (j:(bn p).2=0→Ci p) (n:(bn p).2=0→ ∀(i:Nat) (h:i<p.defs.length),C7 p p.defs[i]) (g:(bn p).2=0→ ∀x∈im p,BE p x) (k: ∀y∈l,∀x∈y.2,am x):
  ac Ya 8 [gy p,Fk l] (.tup [I (Cx p l).1,I (Cx p l).2]):=by
 refine ac.of qY (by simp) λhb=>aa ?_
 have A:l.length≤9223372036854775807:=by
  have:=hb.2.1
  simpa[gw,gT]using this
 conv in bh _ _=>cbv
 clear hb
 have pv:=io hf d
 have pa:=yF hf d j
 unfold Qu at pa
 unfold Cx
 by_cases h0:(bn p).2=0
 ·have v:=uH (j h0)
  have hp:=g h0
  have pm: ∀x∈im p,ac Ya 23 [gy p,UL x.1 x.2.1 x.2.2] (bB (fF p x)):= λx hx=>tY hf d (n h0) h0 (hp x hx)
  have pk: ∀x∈im p,∀y∈l,ac Ya 22 [bB (fF p x),iS x.2.2.1,iE y.2] (I (uR (fF p x) x.2.2.1 y.2)):= λx hx y hy=>by
   obtain⟨_,_,q1,q2,q3,q4⟩:=hp x hx
   exact lH q2 q1.1 q3 q4 (k y hy)
  rw[if_neg (not_not_intro h0)]
  rw[if_neg (not_not_intro h0)]at pa
  rw[h0]at pv
  clear h0 j g hp d n
  generalize im p=L at*
  obtain⟨R,hR⟩: ∃R,R=FU p L 0 l:=⟨_,rfl⟩
  rw[←hR]
  have HR:Hid (FU p L 0 (l.drop 0)=R):=Lib.hid hR.symm
  clear hR
  repeat' first|simp(disch:=omega)only[go_sem, *]|apply ab<;>intro h<;>try omega|apply af|(with_reducible refine ag (λh=> ?_) ?_)|refine aq pv rfl rfl ?_|refine aW pa rfl rfl ?_
  refine ai (λi:Nat=>⟨[(1,Fk l),(2,.c (.ptr 0 0)),(8,i6 a6 L),(9,I i)], [(0,eJ p)],1,0⟩) (λi=>i≤l.length∧Hid (FU p L i (l.drop i)=R)) (λi=>l.length-i) ⟨0, [],⟨by omega,HR⟩,by simp⟩ ?_
  clear pv pa HR
  rintro i ⟨hi,hr⟩
  refine aa ?_
  have hd:=hr.out
  clear hr
  by_cases q:i<l.length
  ·have g1:(l.map DC)[i]? =some (DC l[i]):=ah (f:=DC) q
   by_cases o:i<L.length
   ·have g2:(L.map a6)[i]? =some (VB L[i]):=ah (f:=a6) o
    have p1:=pm _ (List.getElem_mem o)
    have p2:=pk _ (List.getElem_mem o) _ (List.getElem_mem q)
    have p3:=yK l[i].1 (Mj L[i])
    obtain⟨e,he⟩: ∃e,e=uR (fF p L[i]) L[i].2.2.1 l[i].2:=⟨_,rfl⟩
    rw[N7 q o he.symm]at hd
    rw[←he]at p2
    clear he pm pk
    by_cases hk:l[i].1=Mj L[i]
    ·rw[if_neg (not_not_intro hk)]at hd
     rw[decide_eq_true hk]at p3
     clear hk
     by_cases h0:e=0
     ·subst h0
      rw[if_neg (by simp)]at hd
      have HD:=Lib.hid hd
      clear hd
      repeat' first|simp(disch:=omega)only[go_sem, *,g1,g2,wrap_i64]|apply ab<;>intro h<;>try omega|apply af|(with_reducible refine ag (λh=> ?_) ?_)|refine aq p3 rfl rfl ?_|refine aW p1 rfl rfl ?_|refine aq p2 rfl rfl ?_
      all_goals exact⟨i+1, [],⟨by omega,HD⟩,by omega,by simp⟩
     ·rw[if_pos h0]at hd
      subst hd
      repeat' first|simp(disch:=omega)only[go_sem, *,g1,g2,h0]|apply ab<;>intro h<;>try omega|apply af|(with_reducible refine ag (λh=> ?_) ?_)|refine aq p3 rfl rfl ?_|refine aW p1 rfl rfl ?_|refine aq p2 rfl rfl ?_
      all_goals rfl
    ·rw[if_pos hk]at hd
     subst hd
     rw[decide_eq_false hk]at p3
     clear hk
     repeat' first|simp(disch:=omega)only[go_sem, *,g1,g2]|apply ab<;>intro h<;>try omega|apply af|(with_reducible refine ag (λh=> ?_) ?_)|refine aq p3 rfl rfl ?_
     all_goals rfl
   ·rw[KH q (by omega)]at hd
    subst hd
    clear pm pk
    repeat' first|simp(disch:=omega)only[go_sem, *,g1]|apply ab<;>intro h<;>try omega|apply af|(with_reducible refine ag (λh=> ?_) ?_)
    all_goals rfl
  ·obtain rfl:i=l.length:=by omega
   rw[La (Nat.le_refl _)]at hd
   by_cases s:l.length<L.length
   ·rw[if_pos s]at hd
    subst hd
    repeat' first|simp(disch:=omega)only[go_sem, *]|apply ab<;>intro h<;>try omega
    all_goals rfl
   ·rw[if_neg s]at hd
    subst hd
    repeat' first|simp(disch:=omega)only[go_sem, *]|apply ab<;>intro h<;>try omega
    all_goals rfl
 ·rw[if_pos h0]
  clear j g n
  repeat' first|simp(disch:=omega)only[go_sem, *,h0]|apply ab<;>intro h<;>try omega|refine aq pv rfl rfl ?_
  all_goals rfl
theorem NH {p:bG} {fuel:Int} {l:List I5} {z:Int} (j:(bn p).2=0→Ci p) (g:(bn p).2=0→ ∀x∈im p,BE p x) (h:pQ p fuel=(l,z,0)):(l.map Ip).length≤1440000000∧ ∀y∈l.map Ip,y.2.length≤1000000:=by
 unfold pQ at h
 split at h
 ·rename_i h0
  exact absurd (Prod.ext_iff.1 (Prod.ext_iff.1 h).2).2 h0
 ·rename_i h0
  have h0:=Classical.not_not.1 h0
  obtain⟨g1,r,g2,g3,g4⟩:=uO h
  obtain rfl:l=r:=by simpa using g2
  refine⟨?_,λy hy=> ?_⟩
  ·have:=congrArg List.length g3
   have:=uH (j h0)
   simp only[List.length_map]at*
   omega
  ·obtain⟨w,hw,rfl⟩:=List.mem_map.1 hy
   have hm:w.1∈im p:=by rw[←g3];exact List.mem_map.2 ⟨w,hw,rfl⟩
   obtain⟨_,_,q1,q2,q3,_⟩:=g h0 w.1 hm
   obtain⟨b,hb⟩:=g1 w.1 hm
   have hc:=xM q2 q1.1 hb
   have h4:=g4 w hw
   rw[hb]at h4
   simp only at h4
   subst h4
   show w.2.length≤_
   unfold uR at hc
   split at hc
   ·rename_i h1;exact absurd hc h1
   ·split at hc
    ·cases hc
    ·rename_i h2
     have h2:=Classical.not_not.1 h2
     have h3:=sq (fF p w.1) w.1.2.2.1
     rw[h2]
     have:(d9 (fF p w.1) w.1.2.2.1).1.length*((fF p w.1).length+1)≤2*10001:=Nat.mul_le_mul h3 (by omega)
     omega
theorem wt (ha:ac Ya 5 [] (Go.Abs.B true)) {p:bG} {x:Lu} (d:kI p) (hL:Cs p) (hx:am x.2.2):ac Ya 3 [gy p,UO x] (Go.Abs.B true):=by
 refine ac.of pU (by simp) λ_=>aa ?_
 conv in bh _ _=>cbv
 have pf:=Ck p []
 by_cases hs:CE p []
 ·rw[decide_eq_true hs]at pf
  have hl:=hs.1.2
  have hf:=mQ hl
  have j:= λh=>(hs.sz d hL h).1
  have n:= λh=>DP hl hL h
  have g:(bn p).2=0→ ∀x∈im p,BE p x:= λh x hx=>IR hl d hL h hx
  have pp:=m5 (fuel:=2000) hf d (GM hl) j g (by simp[am])
  obtain⟨⟨l,z,e⟩,hR⟩: ∃R,R=pQ p 2000:=⟨_,rfl⟩
  rw[←hR]at pp
  simp only at pp
  by_cases h0:e=0
  ·subst h0
   have k:=Qw g hR.symm
   obtain⟨t,u⟩:=NH j g hR.symm
   have p1:=fM hf d j g k
   have pc:=uU (x:=x) t u
   have p2:=fM hf d j g (KJ hx k)
   have p3:=jt hf d j n g (KJ hx k)
   rw[Nz g hR.symm,IC]at p1
   rw[IC]at pc
   clear hs hl hf g hR d hL j n k t u
   generalize PO x (l.map Ip)=m at*
   generalize Cx p m=Z at*
   repeat' first|simp(disch:=omega)only[go_sem, *]|apply ab<;>intro h<;>try omega|apply af|(with_reducible refine ag (λh=> ?_) ?_)|refine aq pf rfl rfl ?_|refine aW pp rfl rfl ?_|refine aq p1 rfl rfl ?_|refine aW pc rfl rfl ?_|refine aq p2 rfl rfl ?_|refine aq p3 rfl rfl ?_|refine aq ha rfl rfl ?_
   all_goals rfl
  ·have p2:=fM (l:= []) hf d j g (λy hy=>by cases hy)
   have p3:=jt (l:= []) hf d j n g (λy hy=>by cases hy)
   clear hs hl hf g hR d hL j n
   generalize Cx p []=Z at*
   repeat' first|simp(disch:=omega)only[go_sem, *,h0]|apply ab<;>intro h<;>try omega|apply af|(with_reducible refine ag (λh=> ?_) ?_)|refine aq pf rfl rfl ?_|refine aW pp rfl rfl ?_|refine aq p2 rfl rfl ?_|refine aq p3 rfl rfl ?_|refine aq ha rfl rfl ?_
   all_goals rfl
 ·rw[decide_eq_false hs]at pf
  clear hs d hL
  repeat' first|simp(disch:=omega)only[go_sem, *]|apply ab<;>intro h<;>try omega|apply af|(with_reducible refine ag (λh=> ?_) ?_)|refine aq pf rfl rfl ?_|refine aq ha rfl rfl ?_
  all_goals rfl
theorem xe {ps qs:List PC} (h:nB S9 ps) (hq:nJ [.int .i64,.int .i64,.int .i64] qs):ac Ya 3 [.agg (ps.map .pure),Sp true qs] (Go.Abs.B true):=by
 obtain⟨p,rfl,d,hL⟩:=Uu h
 obtain⟨a,r,rfl,ha,hr⟩:=dH hq
 obtain⟨b,r,rfl,hb,hr⟩:=dH hr
 obtain⟨c,rfl,hc⟩:=uw hr
 obtain⟨n1,rfl,_⟩:=dI ha
 obtain⟨n2,rfl,_⟩:=dI hb
 obtain⟨n3,rfl,h3⟩:=dI hc
 exact wt (x:=(n1,n2,n3)) ye d hL h3
