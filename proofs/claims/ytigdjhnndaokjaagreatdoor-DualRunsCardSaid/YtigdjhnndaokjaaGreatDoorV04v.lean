import Derived.Test.YtigdjhnndaokjaaGreatDoorV04t
set_option linter.unusedVariables false
set_option linter.unusedSimpArgs false
set_option maxHeartbeats 4000000
set_option maxRecDepth 1000000
open Go.Proofs.Tryz renaming prog→Pa0
namespace Go.Proofs.YtigdjhnndaokjaaGreatDoor
open Go.Abs Go.RowKit
theorem IM {a b:Int} (ha: -2147483647≤a∧a≤2147483647):ac Pa0 jm [I 8,I a,I b] (gh ((-a,1),0)):=by
 refine ac.of xD zR6 λ_=>aa ?_
 have w4:IntKind.wrap .i64 (0-a)= -a:=by rw[zG5];exact wrap_i64 zR5
 have h1: ¬2147483647< -a:=by omega
 have h2: ¬ -a< -2147483647:=by omega
 conv in sX=>cbv
 clear ha
 repeat' first|simp(disch:=omega)only[go_sem, *,w4,h1,h2]|apply ab<;>intro h<;>try omega
set_option maxHeartbeats 8000000 in
theorem pG {op:Int} {t:Ty} {a b:Fr} (ho:4≤op∧op≤10) (ht:cj t) (ha:aK t a) (hb:aK t b):ac Pa0 mT [I op,mj t,eX a,eX b] (gh (gp op t a b)):=by
 refine ac.of yd zR6 λ_=>aa ?_
 have p1:=aY t
 rw[zB1 ht]at p1
 have p2:=eZ ht (dt ht ha)
 rw[zB1 ha]at p2
 have p3:=eZ ht (dt ht hb)
 rw[zB1 hb]at p3
 have p4:=tF ht ha hb
 have hc:=abc ht ha hb
 have hk:=zS ht
 have p5:t.1=2→op≤8→ac Pa0 ru [I op,mj t,I a.1,I b.1] (gh (c9 t op a.1 b.1)):= λh2 h8=>by
  unfold aK at ha hb
  rw[if_pos h2]at ha hb
  exact Ou (jf ht h2) ⟨ho.1,h8⟩ ha.2 hb.2
 have e5:t.1=2→c9 t 8 a.1 a.1=c9 t 8 a.1 b.1:= λ_=>by simp[c9,BB]
 have p6:t.1=3→op≤7→ac Pa0 jm [I op,I a.1,I b.1] (gh (ny op a.1 b.1)):= λh3 h7=>by
  unfold aK at ha hb
  rw[if_neg zR5,if_pos h3]at ha hb
  exact Ip ⟨ho.1,h7⟩ ha.2 hb.2
 have e8:t.1=3→a.2=1∧ -2147483647≤a.1∧a.1≤2147483647:= λh3=>by
  unfold aK at ha
  rwa [if_neg zR5,if_pos h3]at ha
 have e1:t.1=1→aS a∧aS b:= λh1=>by
  unfold aK at ha hb
  rw[if_neg zR5,if_neg zR5]at ha hb
  exact⟨ha,hb⟩
 have i:=dt ht ha
 have l:=dt ht hb
 have q1:=jo i l
 have q2:=jk i l
 have q3:=gH i l
 have q4:=mJ i l
 have q5:=sG i
 obtain⟨k,bb,f,r,o⟩:=t
 obtain⟨n,d⟩:=a
 simp only at*
 have h7:op=4∨op=5∨op=6∨op=7∨op=8∨op=9∨op=10:=by omega
 clear ho ht ha hb i l
 conv in sv=>cbv
 simp only[gp]
 rcases h7 with rfl|rfl|rfl|rfl|rfl|rfl|rfl
 case inr.inr.inr.inr.inr.inl=>
  clear p5 p6 q1 q2 q3 q4 q5 e1 e5 e8
  by_cases h0:0<rL (k,bb,f,r,o) (n,d) b
  ·have g:=eq_true h0
   rw[if_neg zR9,if_pos rfl,if_pos h0]
   clear h0 hc
   repeat' first|simp(disch:=omega)only[go_sem, *,g]|apply zA1<;>intro h<;>try omega|refine ak p1 ?_|refine ak p2 ?_|refine ak p3 ?_|refine ak p4 ?_
   all_goals rfl
  ·have g:=eq_false h0
   rw[if_neg zR9,if_pos rfl,if_neg h0]
   clear h0 hc
   repeat' first|simp(disch:=omega)only[go_sem, *,g]|apply zA1<;>intro h<;>try omega|refine ak p1 ?_|refine ak p2 ?_|refine ak p3 ?_|refine ak p4 ?_
   all_goals rfl
 case inr.inr.inr.inr.inr.inr=>
  clear p5 p6 q1 q2 q3 q4 q5 e1 e5 e8
  rw[if_neg zR9,if_neg zR9,if_pos rfl]
  by_cases h0:0<rL (k,bb,f,r,o) (n,d) b
  ·have g:=eq_true h0
   rw[if_neg zR5]
   clear h0 hc
   repeat' first|simp(disch:=omega)only[go_sem, *,g]|apply zA1<;>intro h<;>try omega|refine ak p1 ?_|refine ak p2 ?_|refine ak p3 ?_|refine ak p4 ?_
   all_goals rfl
  ·have g:=eq_false h0
   have p:(if rL (k,bb,f,r,o) (n,d) b<0 then((b,0):Yh)else((n,d),0))=(b,0):=by
    by_cases hz:rL (k,bb,f,r,o) (n,d) b=0
    ·rw[hc hz];split<;>rfl
    ·rw[if_pos zR5]
   rw[p]
   clear h0 hc p
   repeat' first|simp(disch:=omega)only[go_sem, *,g]|apply zA1<;>intro h<;>try omega|refine ak p1 ?_|refine ak p2 ?_|refine ak p3 ?_|refine ak p4 ?_
   all_goals rfl
 all_goals clear p4 hc
 ·rcases hk with rfl|rfl|rfl
  ·have cc:=q1
   clear p5 p6 q1 q2 q3 q4 q5 e1 e5 e8
   have er:oA 4 (n,d) b=jb (n,d) b:=rfl
   rw[if_neg zR9,if_neg zR9,if_neg zR9,if_neg zR9,if_neg zR9,er]
   repeat' first|simp(disch:=omega)only[go_sem, *]|apply zA1<;>intro h<;>try omega|refine ak p1 ?_|refine ak p2 ?_|refine ak p3 ?_|refine ak cc ?_
   all_goals rfl
  ·have cc:=p5 rfl zR9
   clear p5 p6 q1 q2 q3 q4 q5 e1 e5 e8
   rw[if_neg zR9,if_neg zR9,if_neg zR9,if_neg zR9,if_pos rfl]
   generalize c9 (2,bb,f,r,o) 4 n b.1=Z at*
   repeat' first|simp(disch:=omega)only[go_sem, *]|apply zA1<;>intro h<;>try omega|refine ak p1 ?_|refine ak p2 ?_|refine ak p3 ?_|refine ak cc ?_
   all_goals rfl
  ·have cc:=p6 rfl zR9
   clear p5 p6 q1 q2 q3 q4 q5 e1 e5 e8
   rw[if_neg zR9,if_neg zR9,if_neg zR9,if_pos rfl]
   generalize ny 4 n b.1=Z at*
   repeat' first|simp(disch:=omega)only[go_sem, *]|apply zA1<;>intro h<;>try omega|refine ak p1 ?_|refine ak p2 ?_|refine ak p3 ?_|refine ak cc ?_
   all_goals rfl
 ·rcases hk with rfl|rfl|rfl
  ·have cc:=q2
   clear p5 p6 q1 q2 q3 q4 q5 e1 e5 e8
   have er:oA 5 (n,d) b=kf (n,d) b:=rfl
   rw[if_neg zR9,if_neg zR9,if_neg zR9,if_neg zR9,if_neg zR9,er]
   repeat' first|simp(disch:=omega)only[go_sem, *]|apply zA1<;>intro h<;>try omega|refine ak p1 ?_|refine ak p2 ?_|refine ak p3 ?_|refine ak cc ?_
   all_goals rfl
  ·have cc:=p5 rfl zR9
   clear p5 p6 q1 q2 q3 q4 q5 e1 e5 e8
   rw[if_neg zR9,if_neg zR9,if_neg zR9,if_neg zR9,if_pos rfl]
   generalize c9 (2,bb,f,r,o) 5 n b.1=Z at*
   repeat' first|simp(disch:=omega)only[go_sem, *]|apply zA1<;>intro h<;>try omega|refine ak p1 ?_|refine ak p2 ?_|refine ak p3 ?_|refine ak cc ?_
   all_goals rfl
  ·have cc:=p6 rfl zR9
   clear p5 p6 q1 q2 q3 q4 q5 e1 e5 e8
   rw[if_neg zR9,if_neg zR9,if_neg zR9,if_pos rfl]
   generalize ny 5 n b.1=Z at*
   repeat' first|simp(disch:=omega)only[go_sem, *]|apply zA1<;>intro h<;>try omega|refine ak p1 ?_|refine ak p2 ?_|refine ak p3 ?_|refine ak cc ?_
   all_goals rfl
 ·rcases hk with rfl|rfl|rfl
  ·have cc:=q3
   clear p5 p6 q1 q2 q3 q4 q5 e1 e5 e8
   have er:oA 6 (n,d) b=iU (n,d) b:=rfl
   rw[if_neg zR9,if_neg zR9,if_neg zR9,if_neg zR9,if_neg zR9,er]
   repeat' first|simp(disch:=omega)only[go_sem, *]|apply zA1<;>intro h<;>try omega|refine ak p1 ?_|refine ak p2 ?_|refine ak p3 ?_|refine ak cc ?_
   all_goals rfl
  ·have cc:=p5 rfl zR9
   clear p5 p6 q1 q2 q3 q4 q5 e1 e5 e8
   rw[if_neg zR9,if_neg zR9,if_neg zR9,if_neg zR9,if_pos rfl]
   generalize c9 (2,bb,f,r,o) 6 n b.1=Z at*
   repeat' first|simp(disch:=omega)only[go_sem, *]|apply zA1<;>intro h<;>try omega|refine ak p1 ?_|refine ak p2 ?_|refine ak p3 ?_|refine ak cc ?_
   all_goals rfl
  ·have cc:=p6 rfl zR9
   clear p5 p6 q1 q2 q3 q4 q5 e1 e5 e8
   rw[if_neg zR9,if_neg zR9,if_neg zR9,if_pos rfl]
   generalize ny 6 n b.1=Z at*
   repeat' first|simp(disch:=omega)only[go_sem, *]|apply zA1<;>intro h<;>try omega|refine ak p1 ?_|refine ak p2 ?_|refine ak p3 ?_|refine ak cc ?_
   all_goals rfl
 ·rcases hk with rfl|rfl|rfl
  ·have cc:=q4
   clear p5 p6 q1 q2 q3 q4 q5 e1 e5 e8
   have er:oA 7 (n,d) b=kZ (n,d) b:=rfl
   rw[if_neg zR9,if_neg zR9,if_neg zR9,if_neg zR9,if_neg zR9,er]
   repeat' first|simp(disch:=omega)only[go_sem, *]|apply zA1<;>intro h<;>try omega|refine ak p1 ?_|refine ak p2 ?_|refine ak p3 ?_|refine ak cc ?_
   all_goals rfl
  ·have cc:=p5 rfl zR9
   clear p5 p6 q1 q2 q3 q4 q5 e1 e5 e8
   rw[if_neg zR9,if_neg zR9,if_neg zR9,if_neg zR9,if_pos rfl]
   generalize c9 (2,bb,f,r,o) 7 n b.1=Z at*
   repeat' first|simp(disch:=omega)only[go_sem, *]|apply zA1<;>intro h<;>try omega|refine ak p1 ?_|refine ak p2 ?_|refine ak p3 ?_|refine ak cc ?_
   all_goals rfl
  ·have cc:=p6 rfl zR9
   clear p5 p6 q1 q2 q3 q4 q5 e1 e5 e8
   rw[if_neg zR9,if_neg zR9,if_neg zR9,if_pos rfl]
   generalize ny 7 n b.1=Z at*
   repeat' first|simp(disch:=omega)only[go_sem, *]|apply zA1<;>intro h<;>try omega|refine ak p1 ?_|refine ak p2 ?_|refine ak p3 ?_|refine ak cc ?_
   all_goals rfl
 ·rcases hk with rfl|rfl|rfl
  ·have cc:=q5
   rw[fM,if_pos (e1 rfl).1]at cc
   clear p5 p6 q1 q2 q3 q4 q5 e1 e5 e8
   rw[if_pos rfl,if_neg zR9]
   repeat' first|simp(disch:=omega)only[go_sem, *]|apply zA1<;>intro h<;>try omega|refine ak p1 ?_|refine ak p2 ?_|refine ak p3 ?_|refine ak cc ?_
   all_goals rfl
  ·have cc:=p5 rfl zR9
   have ee:=e5 rfl
   clear p5 p6 q1 q2 q3 q4 q5 e1 e5 e8
   rw[if_pos rfl,if_pos rfl,ee]
   generalize c9 (2,bb,f,r,o) 8 n b.1=Z at*
   repeat' first|simp(disch:=omega)only[go_sem, *]|apply zA1<;>intro h<;>try omega|refine ak p1 ?_|refine ak p2 ?_|refine ak p3 ?_|refine ak cc ?_
   all_goals rfl
  ·obtain⟨rfl,r8⟩:=e8 rfl
   have cc:=IM (b:=b.1) r8
   clear p5 p6 q1 q2 q3 q4 q5 e1 e5 e8 r8
   rw[if_pos rfl,if_neg zR9]
   repeat' first|simp(disch:=omega)only[go_sem, *]|apply zA1<;>intro h<;>try omega|refine ak p1 ?_|refine ak p2 ?_|refine ak p3 ?_|refine ak cc ?_
   all_goals rfl
theorem BW {n:Int} (h:1≤n∧n≤5):ac Pa0 lN [I n] (I (OA n)):=by
 refine ac.of Dt zR6 λ_=>aa ?_
 have h5:n=1∨n=2∨n=3∨n=4∨n=5:=by omega
 clear h
 conv in tU=>cbv
 rcases h5 with rfl|rfl|rfl|rfl|rfl
 all_goals
  repeat' first|simp(disch:=omega)only[go_sem, *]|apply ab<;>intro h<;>try omega
  all_goals rfl
set_option maxRecDepth 20000
set_option maxRecDepth 1000000
theorem nY:Int.toNat 1=1:=rfl
theorem XP {n:Int} (h:1≤n∧n≤5):4≤OA n∧OA n≤10:=by
 have h5:n=1∨n=2∨n=3∨n=4∨n=5:=by omega
 rcases h5 with rfl|rfl|rfl|rfl|rfl<;>decide
theorem Fq {fold:Int} {t:Ty} {a b:Fr} (hf:1≤fold∧fold≤5) (ht:cj t) (ha:aK t a) (hb:aK t b):ac Pa0 pd [I fold,mj t,bF ln [a,b]] (gh (gp (OA fold) t a b)):=by
 refine ac.of H8 zR6 λ_=>aa ?_
 have p1:=aY t
 rw[zB1 ht]at p1
 have p2:=eZ ht (dt ht ha)
 rw[zB1 ha]at p2
 have p3:=eZ ht (dt ht hb)
 rw[zB1 hb]at p3
 have p4:=BW hf
 have p5:=pG (XP hf) ht ha hb
 obtain⟨q,s⟩:=hf
 have g1: ¬fold<1:=by omega
 have g2: ¬5<fold:=by omega
 clear ht ha hb q s
 obtain⟨k,bb,f,r,o⟩:=t
 obtain⟨n,d⟩:=a
 obtain⟨n',d'⟩:=b
 generalize gp (OA fold) (k,bb,f,r,o) (n,d) (n',d')=Z at*
 obtain⟨⟨z1,z2⟩,e⟩:=Z
 conv in yR=>cbv
 repeat' first|simp(disch:=omega)only[go_sem, *,g1,g2]|apply zA1<;>intro h<;>try omega|refine ak p1 ?_
 have v:(I ((0:Nat):Int))=I 0:=rfl
 refine al (λj:Nat=>⟨[(0,I fold),(2,bF ln [(n,d),(n',d')]),(4,.c (.ptr 0 0)),(6,.c (.ptr 1 0)),(8,I j)], [(1,.var [.pure (pI 0),.pure (pI 0)]),(0,.var [.pure (pI k),.pure (pI bb),.pure (pI f),.pure (pI r),.pure (pI o)])],2,0⟩) (λj=>j≤2) (λj=>2-j) ⟨0, [],by omega,by simp⟩ ?_
 intro j hj
 refine aa ?_
 have m:j=0∨j=1∨j=2:=by omega
 clear hj
 rcases m with rfl|rfl|rfl
 ·repeat' first|simp(disch:=omega)only[go_sem, *,wrap_i64,zB3,nY,zB0,zB4]|apply zA1<;>intro h<;>try omega|refine ak p2 ?_
  exact⟨1, [],by omega,by omega,by simp⟩
 ·repeat' first|simp(disch:=omega)only[go_sem, *,wrap_i64,zB3,nY,zB0,zB4]|apply zA1<;>intro h<;>try omega|refine ak p3 ?_
  exact⟨2, [],by omega,by omega,by simp⟩
 ·repeat' first|simp(disch:=omega)only[go_sem, *,wrap_i64,zB3,nY,zB0,zB4]|apply zA1<;>intro h<;>try omega
  refine al (λj:Nat=>⟨[(0,I fold),(2,bF ln [(n,d),(n',d')]),(4,.c (.ptr 0 0)),(6,.c (.ptr 1 0)),(11,.c (.ptr 2 0)),(12,I (if j=0 then 0 else e)),(13,I (j+1:Nat))], [(2,.var [.pure (pI (if j=0 then n else z1)),.pure (pI (if j=0 then d else z2))]),(1,.var [.pure (pI 0),.pure (pI 0)]),(0,.var [.pure (pI k),.pure (pI bb),.pure (pI f),.pure (pI r),.pure (pI o)])],3,0⟩) (λj=>j≤1) (λj=>1-j) ⟨0, [],by omega,by simp⟩ ?_
  intro j hj
  refine aa ?_
  have m:j=0∨j=1:=by omega
  clear hj
  rcases m with rfl|rfl
  ·repeat' first|simp(disch:=omega)only[go_sem, *,wrap_i64,zB3,nY,zB0,zB4]|apply zA1<;>intro h<;>try omega|refine ak p4 ?_|refine ak p5 ?_
   exact⟨1, [],by omega,by omega,by simp⟩
  ·by_cases he:e=0
   ·subst he
    repeat' first|simp(disch:=omega)only[go_sem, *]|apply zA1<;>intro h<;>try omega
    all_goals simp
   ·have u:=eq_false he
    repeat' first|simp(disch:=omega)only[go_sem, *,u]|apply zA1<;>intro h<;>try omega
    all_goals simp
end Go.Proofs.YtigdjhnndaokjaaGreatDoor
