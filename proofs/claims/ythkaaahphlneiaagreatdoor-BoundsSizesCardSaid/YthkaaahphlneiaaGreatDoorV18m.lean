import Derived.Test.YthkaaahphlneiaaGreatDoorV18r
import Derived.Test.YthkaaahphlneiaaGreatDoorP17
import Derived.Test.YthkaaahphlneiaaGreatDoorCodesB
set_option linter.unusedVariables false
set_option linter.unusedSimpArgs false
set_option maxRecDepth 20000
set_option maxHeartbeats 4000000
set_option maxRecDepth 1000000
namespace Go.Proofs.YthkaaahphlneiaaGreatDoor
open Go.Abs Go.RowKit
def fR (c:gf):Prop:=bj c.1
theorem NB (a:ca) (b:Int):(mF a b).2.length≤a.2.length:=by
 rw[mF]
 split
 ·simp
 ·simp
theorem Tz (a b:ca):(T2 a b).2.length≤a.2.length+b.2.length:=by
 have h1:=nj a.2 b.2
 have h2:(Al (bI a.2 b.2)).length≤(bI a.2 b.2).length:=List.length_filterMap_le _ _
 show(Al (bI a.2 b.2)).length≤_
 omega
theorem P5 {a:ca} {b:Int} (h:b=0∨qG a b):bj (mF a b):=by
 rw[mF]
 split
 ·exact⟨dn,fun m hm=>by cases hm⟩
 ·rename_i hb
  have h:=h.resolve_left hb
  refine⟨h.1,fun m hm=> ?_⟩
  obtain⟨x,hx,rfl⟩:=List.mem_map.1 hm
  exact h.2 x hx
theorem U9 {a b:ca} (h:Im a b):bj (T2 a b):=by
 refine⟨h.1,fun m hm=> ?_⟩
 obtain⟨t,ht,e⟩:=List.mem_filterMap.1 hm
 split at e
 ·cases e
 ·cases e
  exact h.2 t ht
theorem ve (a b:ca):bj (fV a b).1:=by
 unfold fV gh
 (repeat' split)
 ·exact⟨dn,fun m hm=>by cases hm⟩
 ·exact U9 ‹_›
 ·exact⟨dn,fun m hm=>by cases hm⟩
theorem qq (a b:ca):(fV a b).1.2.length≤a.2.length+b.2.length:=by
 unfold fV gh
 (repeat' split)
 ·exact Nat.zero_le _
 ·exact Tz a b
 ·exact Nat.zero_le _
theorem ql {a:ca}:bj (bJ a (-1)).1:=by
 unfold bJ nn
 (repeat' split)
 ·exact⟨dn,fun m hm=>by cases hm⟩
 ·rename_i h
  exact P5 h
 ·exact⟨dn,fun m hm=>by cases hm⟩
theorem iF (a:ca) (b:Int):(bJ a b).1.2.length≤a.2.length:=by
 unfold bJ nn
 (repeat' split)
 ·exact Nat.zero_le _
 ·exact NB a b
 ·exact Nat.zero_le _
theorem ov (k:Int):ac Tryz.prog Bk [I k] (dj k []):=by
 refine ac.of Jh (by simp) fun _=>aa ?_
 simp only[BI]
 repeat' first|simp(disch:=omega) only[go_sem, *]|((with_reducible refine ab ?_ ?_)<;>intro h<;>try omega)
 all_goals rfl
theorem Vv (n:ByteArray):ac Tryz.prog HQ [S n] (dj 0 (if fp n then [(n,1)]else [])):=by
 refine ac.of NL (by simp) fun _=>aa ?_
 simp only[H8]
 have p:=iB n
 by_cases h:fp n
 ·rw[decide_eq_true h]at p
  rw[if_pos h]
  repeat' first|simp(disch:=omega) only[go_sem, *]|((with_reducible refine ab ?_ ?_)<;>intro h<;>try omega)|(refine av p rfl rfl ?_)
  rfl
 ·rw[decide_eq_false h]at p
  rw[if_neg h]
  repeat' first|simp(disch:=omega) only[go_sem, *]|((with_reducible refine ab ?_ ?_)<;>intro h<;>try omega)|(refine av p rfl rfl ?_)
  rfl
noncomputable def kH (f s:ca):ca×Int:=if(bJ f (-1)).2≠0 then((0, []),(bJ f (-1)).2)else fV s (bJ f (-1)).1
noncomputable def nJ (f s:ca):ca×Int:=if(kH f s).2≠0 then((0, []),(kH f s).2)else fV (kH f s).1 (-1, [])
abbrev Qx (x:ca×Int):AV:= .tup [dj x.1.1 x.1.2,Go.Abs.B (decide (x.2=0))]
theorem JC (f s:ca):bj (kH f s).1:=by
 unfold kH
 split
 ·exact⟨dn,fun m hm=>by cases hm⟩
 ·exact ve _ _
theorem OM (f s:ca):bj (nJ f s).1:=by
 unfold nJ
 split
 ·exact⟨dn,fun m hm=>by cases hm⟩
 ·exact ve _ _
theorem xX (f s:ca):(kH f s).1.2.length≤f.2.length+s.2.length:=by
 unfold kH
 split
 ·exact Nat.zero_le _
 ·have h1:=qq s (bJ f (-1)).1
  have h2:=iF f (-1)
  omega
theorem S9 (f s:ca):(nJ f s).1.2.length≤f.2.length+s.2.length:=by
 unfold nJ
 split
 ·exact Nat.zero_le _
 ·have h1:=qq (kH f s).1 (-1, [])
  have h2:=xX f s
  simp only[List.length_nil]at h1
  omega
theorem j0 {a b:ca} (ha:bj a) (hb:bj b) (la:a.2.length≤100000000) (lb:b.2.length≤100000000):ac Tryz.prog mM [dj a.1 a.2,dj b.1 b.2] (Qx (kH b a)):=by
 refine ac.of BW (by simp) fun _=>aa ?_
 conv in sU=>cbv
 have p1:=w7 (a:=b) (b:= -1) hb (by simp[aA]) (by unfold ft;omega)
 have g2:=iF b (-1)
 have p2:=uK (a:=a) (b:=(bJ b (-1)).1) ha ql (by unfold ft;omega) (by unfold ft;omega)
 unfold kH
 generalize fV a (bJ b (-1)).1=G2 at*
 generalize bJ b (-1)=G1 at*
 obtain⟨⟨K1,L1⟩,e1⟩:=G1
 obtain⟨⟨K2,L2⟩,e2⟩:=G2
 obtain⟨K,m⟩:=a
 obtain⟨K',m'⟩:=b
 simp only at p1 p2 ⊢
 clear g2
 by_cases h1:e1=0
 ·subst h1
  rw[if_neg (by simp)]
  repeat' first|simp(disch:=omega) only[go_sem, *]|((with_reducible refine ab ?_ ?_)<;>intro h<;>try omega)|(with_reducible refine af ?_ ?_)|(with_reducible refine ag (fun h=> ?_) ?_)|(refine bS p1 rfl rfl ?_)|(refine bS p2 rfl rfl ?_)
  all_goals rfl
 ·rw[if_pos h1]
  repeat' first|simp(disch:=omega) only[go_sem, *,h1]|((with_reducible refine ab ?_ ?_)<;>intro h<;>try omega)|(with_reducible refine af ?_ ?_)|(with_reducible refine ag (fun h=> ?_) ?_)|(refine bS p1 rfl rfl ?_)
  all_goals simp[h1]
theorem qv {a b:ca} (ha:bj a) (hb:bj b) (la:a.2.length≤40000000) (lb:b.2.length≤40000000):ac Tryz.prog m8 [dj a.1 a.2,dj b.1 b.2] (Qx (nJ a b)):=by
 refine ac.of CA (by simp) fun _=>aa ?_
 conv in tb=>cbv
 have p1:=j0 (a:=b) (b:=a) hb ha (by omega) (by omega)
 have g2:=xX a b
 have pc:=ov (-1)
 have p2:=uK (a:=(kH a b).1) (b:=(-1, [])) (JC _ _) ⟨by simp[aA],fun m hm=>by cases hm⟩ (by unfold ft;omega) (by unfold ft;simp)
 unfold nJ
 generalize fV (kH a b).1 (-1, [])=G2 at*
 generalize kH a b=G1 at*
 obtain⟨⟨K1,L1⟩,e1⟩:=G1
 obtain⟨⟨K2,L2⟩,e2⟩:=G2
 obtain⟨K,m⟩:=a
 obtain⟨K',m'⟩:=b
 simp only at p1 p2 ⊢
 clear g2
 by_cases h1:e1=0
 ·subst h1
  rw[if_neg (by simp)]
  repeat' first|simp(disch:=omega) only[go_sem, *,decide_true]|((with_reducible refine ab ?_ ?_)<;>intro h<;>try omega)|(with_reducible refine af ?_ ?_)|(with_reducible refine ag (fun h=> ?_) ?_)|(refine bS p1 rfl rfl ?_)|(refine bS pc rfl rfl ?_)|(refine bS p2 rfl rfl ?_)
  all_goals rfl
 ·rw[if_pos h1]
  repeat' first|simp(disch:=omega) only[go_sem, *,h1,decide_false]|((with_reducible refine ab ?_ ?_)<;>intro h<;>try omega)|(with_reducible refine af ?_ ?_)|(with_reducible refine ag (fun h=> ?_) ?_)|(refine bS p1 rfl rfl ?_)
  all_goals simp[h1]
theorem GK {s:ByteArray} (h:fp s):ac Tryz.prog tf [S s] (dj 0 [(s,1)]):=by
 refine ac.of JS (by simp) fun _=>aa ?_
 conv in Bi=>cbv
 have pn:=fT s
 rw[decide_eq_true h]at pn
 repeat' first|simp(disch:=omega) only[go_sem, *]|((with_reducible refine ab ?_ ?_)<;>intro h<;>try omega)|(with_reducible refine af ?_ ?_)|(with_reducible refine ag (fun h=> ?_) ?_)|(refine av pn rfl rfl ?_)
 all_goals rfl
theorem Lu {a b:ca} (h:(fV a b).2≠0):(fV a b).1=(0, []):=by
 unfold fV gh at h ⊢
 (repeat' split)<;>simp_all
theorem lC {a b:ca} {k:Int} (hk:k=0∨k= -1) (ha:bj a) (hb:bj b) (la:a.2.length≤40000000) (lb:b.2.length≤40000000):ac Tryz.prog ow [dj b.1 b.2,dj a.1 a.2,I k] (Qx (if k=0 then kH a b else nJ a b)):=by
 refine ac.of C6 (by simp) fun _=>aa ?_
 conv in w6=>cbv
 have p1:=lB (a:=a) (b:= -1) ha (by simp[aA]) (by unfold ft;omega)
 have g2:=iF a (-1)
 have g3:=qq b (bJ a (-1)).1
 have p2:=kp (a:=b) (b:=(bJ a (-1)).1) hb ql (by omega)
 have pc:=rU (-1)
 have p3:=kp (a:=(fV b (bJ a (-1)).1).1) (b:=(-1, [])) (ve _ _) ⟨by simp[aA],fun m hm=>by cases hm⟩ (by simp;omega)
 have g4:=Lu (a:=b) (b:=(bJ a (-1)).1)
 have g5:=Lu (a:=(fV b (bJ a (-1)).1).1) (b:=(-1, []))
 unfold nJ kH
 generalize fV b (bJ a (-1)).1=G2 at*
 generalize bJ a (-1)=G1 at*
 obtain⟨⟨K1,L1⟩,e1⟩:=G1
 obtain⟨⟨K2,L2⟩,e2⟩:=G2
 obtain⟨K,m⟩:=a
 obtain⟨K',m'⟩:=b
 simp only at p1 p2 p3 g4 g5 ⊢
 clear g2 g3 ha hb la lb
 by_cases h1:e1=0
 ·subst h1
  by_cases h2:e2=0
  ·subst h2
   clear g4
   rcases hk with rfl|rfl
   ·repeat' first|simp(disch:=omega) only[go_sem, *]|((with_reducible refine ab ?_ ?_)<;>intro h<;>try omega)|(with_reducible refine af ?_ ?_)|(with_reducible refine ag (fun h=> ?_) ?_)|(refine bS p1 rfl rfl ?_)|(refine bS p2 rfl rfl ?_)
    all_goals simp
   ·simp only[ne_eq,not_true_eq_false,if_false,Int.reduceNeg,reduceCtorEq,Int.reduceEq]
    generalize fV (K2,L2) (-1, [])=G3 at*
    obtain⟨⟨K3,L3⟩,e3⟩:=G3
    simp only at p3 g5 ⊢
    by_cases h3:e3=0
    ·subst h3
     clear g5
     repeat' first|simp(disch:=omega) only[go_sem, *]|((with_reducible refine ab ?_ ?_)<;>intro h<;>try omega)|(with_reducible refine af ?_ ?_)|(with_reducible refine ag (fun h=> ?_) ?_)|(refine bS p1 rfl rfl ?_)|(refine bS p2 rfl rfl ?_)|(refine bS pc rfl rfl ?_)|(refine bS p3 rfl rfl ?_)
     all_goals simp
    ·have g5:=g5 h3
     cases g5
     repeat' first|simp(disch:=omega) only[go_sem, *,h3]|((with_reducible refine ab ?_ ?_)<;>intro h<;>try omega)|(with_reducible refine af ?_ ?_)|(with_reducible refine ag (fun h=> ?_) ?_)|(refine bS p1 rfl rfl ?_)|(refine bS p2 rfl rfl ?_)|(refine bS pc rfl rfl ?_)|(refine bS p3 rfl rfl ?_)
     all_goals simp[h3]
  ·have g4:=g4 h2
   cases g4
   rcases hk with rfl|rfl
   ·repeat' first|simp(disch:=omega) only[go_sem, *,h2]|((with_reducible refine ab ?_ ?_)<;>intro h<;>try omega)|(with_reducible refine af ?_ ?_)|(with_reducible refine ag (fun h=> ?_) ?_)|(refine bS p1 rfl rfl ?_)|(refine bS p2 rfl rfl ?_)
    all_goals simp[h2]
   ·repeat' first|simp(disch:=omega) only[go_sem, *,h2]|((with_reducible refine ab ?_ ?_)<;>intro h<;>try omega)|(with_reducible refine af ?_ ?_)|(with_reducible refine ag (fun h=> ?_) ?_)|(refine bS p1 rfl rfl ?_)|(refine bS p2 rfl rfl ?_)
    all_goals simp[h2]
 ·rcases hk with rfl|rfl
  ·repeat' first|simp(disch:=omega) only[go_sem, *,h1]|((with_reducible refine ab ?_ ?_)<;>intro h<;>try omega)|(with_reducible refine af ?_ ?_)|(with_reducible refine ag (fun h=> ?_) ?_)|(refine bS p1 rfl rfl ?_)|(refine bS p2 rfl rfl ?_)
   all_goals simp[h1]
  ·repeat' first|simp(disch:=omega) only[go_sem, *,h1]|((with_reducible refine ab ?_ ?_)<;>intro h<;>try omega)|(with_reducible refine af ?_ ?_)|(with_reducible refine ag (fun h=> ?_) ?_)|(refine bS p1 rfl rfl ?_)|(refine bS p2 rfl rfl ?_)
   all_goals simp[h1]
end Go.Proofs.YthkaaahphlneiaaGreatDoor
