import Derived.Test.YthbcbaembicdbaaGreatDoorV08d
import Derived.Test.YthbcbaembicdbaaGreatDoorV18r
set_option linter.unusedVariables false
set_option linter.unusedSimpArgs false
set_option maxHeartbeats 4000000
set_option maxRecDepth 1000000
namespace Go.Proofs.YthbcbaembicdbaaGreatDoor
open Go.Abs Go.RowKit
theorem ww (a b:bY):bq (fK a b).1:=by
 unfold fK gu
 (repeat' split)
 ·exact⟨cw,λm hm=>by cases hm⟩
 ·exact Mf ‹_›
 ·exact⟨cw,λm hm=>by cases hm⟩
theorem oB (a b:bY):(fK a b).1.2.length≤a.2.length+b.2.length:=by
 unfold fK gu
 (repeat' split)
 ·exact Nat.zero_le _
 ·exact F4 a b
 ·exact Nat.zero_le _
theorem qQ {a:bY}:bq (bO a (-1)).1:=by
 unfold bO kB
 (repeat' split)
 ·exact⟨cw,λm hm=>by cases hm⟩
 ·rename_i h
  exact J9 h
 ·exact⟨cw,λm hm=>by cases hm⟩
theorem gR (a:bY) (b:Int):(bO a b).1.2.length≤a.2.length:=by
 unfold bO kB
 (repeat' split)
 ·exact Nat.zero_le _
 ·exact zk a b
 ·exact Nat.zero_le _
theorem qf (k:Int):ac Tryz.prog DG [I k] (dm k []):=by
 refine ac.of Md (by simp) λ_=>aa ?_
 conv in DS=>cbv
 repeat' first|simp(disch:=omega) only[go_sem, *]|((with_reducible apply ab)<;>intro h<;>try omega)
 all_goals rfl
noncomputable def kC (f s:bY):bY×Int:=if(bO f (-1)).2≠0 then((0, []),(bO f (-1)).2)else fK s (bO f (-1)).1
noncomputable def eD (f s:bY):bY×Int:=if(kC f s).2≠0 then((0, []),(kC f s).2)else fK (kC f s).1 (-1, [])
abbrev uO (x:bY×Int):AV:= .tup [dm x.1.1 x.1.2,Go.Abs.B (decide (x.2=0))]
theorem Le (f s:bY):bq (kC f s).1:=by
 unfold kC
 split
 ·exact⟨cw,λm hm=>by cases hm⟩
 ·exact ww _ _
theorem Ld (f s:bY):bq (eD f s).1:=by
 unfold eD
 split
 ·exact⟨cw,λm hm=>by cases hm⟩
 ·exact ww _ _
theorem vI (f s:bY):(kC f s).1.2.length≤f.2.length+s.2.length:=by
 unfold kC
 split
 ·exact Nat.zero_le _
 ·have h1:=oB s (bO f (-1)).1
  have h2:=gR f (-1)
  omega
theorem Fs (f s:bY):(eD f s).1.2.length≤f.2.length+s.2.length:=by
 unfold eD
 split
 ·exact Nat.zero_le _
 ·have h1:=oB (kC f s).1 (-1, [])
  have h2:=vI f s
  simp only[List.length_nil]at h1
  omega
theorem kJ {a b:bY} (ha:bq a) (hb:bq b) (la:a.2.length≤100000000) (lb:b.2.length≤100000000):ac Tryz.prog uq [dm a.1 a.2,dm b.1 b.2] (uO (kC b a)):=by
 refine ac.of Ed (by simp) λ_=>aa ?_
 conv in u9=>cbv
 have p1:=kS (a:=b) (b:= -1) hb (by simp[ay]) (by unfold short;omega)
 have g2:=gR b (-1)
 have p2:=pH (a:=a) (b:=(bO b (-1)).1) ha qQ (by unfold short;omega) (by unfold short;omega)
 unfold kC
 generalize fK a (bO b (-1)).1=G2 at*
 generalize bO b (-1)=G1 at*
 obtain⟨⟨K1,L1⟩,e1⟩:=G1
 obtain⟨⟨K2,L2⟩,e2⟩:=G2
 obtain⟨K,m⟩:=a
 obtain⟨K',m'⟩:=b
 simp only at p1 p2 ⊢
 clear g2
 by_cases h1:e1=0
 ·subst h1
  rw[if_neg (by simp)]
  repeat' first|simp(disch:=omega) only[go_sem, *]|((with_reducible apply ab)<;>intro h<;>try omega)|(with_reducible apply ag)|(with_reducible refine aj (λh=> ?_) ?_)|(refine cg p1 rfl rfl ?_)|(refine cg p2 rfl rfl ?_)
  all_goals rfl
 ·rw[if_pos h1]
  repeat' first|simp(disch:=omega) only[go_sem, *,h1]|((with_reducible apply ab)<;>intro h<;>try omega)|(with_reducible apply ag)|(with_reducible refine aj (λh=> ?_) ?_)|(refine cg p1 rfl rfl ?_)
  all_goals simp[h1]
theorem kM {a b:bY} (ha:bq a) (hb:bq b) (la:a.2.length≤40000000) (lb:b.2.length≤40000000):ac Tryz.prog vP [dm a.1 a.2,dm b.1 b.2] (uO (eD a b)):=by
 refine ac.of EF (by simp) λ_=>aa ?_
 conv in uK=>cbv
 have p1:=kJ (a:=b) (b:=a) hb ha (by omega) (by omega)
 have g2:=vI a b
 have pc:=qf (-1)
 have p2:=pH (a:=(kC a b).1) (b:=(-1, [])) (Le _ _) ⟨by simp[ay],λm hm=>by cases hm⟩ (by unfold short;omega) (by unfold short;simp)
 unfold eD
 generalize fK (kC a b).1 (-1, [])=G2 at*
 generalize kC a b=G1 at*
 obtain⟨⟨K1,L1⟩,e1⟩:=G1
 obtain⟨⟨K2,L2⟩,e2⟩:=G2
 obtain⟨K,m⟩:=a
 obtain⟨K',m'⟩:=b
 simp only at p1 p2 ⊢
 clear g2
 by_cases h1:e1=0
 ·subst h1
  rw[if_neg (by simp)]
  repeat' first|simp(disch:=omega) only[go_sem, *,decide_true]|((with_reducible apply ab)<;>intro h<;>try omega)|(with_reducible apply ag)|(with_reducible refine aj (λh=> ?_) ?_)|(refine cg p1 rfl rfl ?_)|(refine cg pc rfl rfl ?_)|(refine cg p2 rfl rfl ?_)
  all_goals rfl
 ·rw[if_pos h1]
  repeat' first|simp(disch:=omega) only[go_sem, *,h1,decide_false]|((with_reducible apply ab)<;>intro h<;>try omega)|(with_reducible apply ag)|(with_reducible refine aj (λh=> ?_) ?_)|(refine cg p1 rfl rfl ?_)
  all_goals simp[h1]
theorem Jb {s:ByteArray} (h:gc s):ac Tryz.prog Dj [S s] (dm 0 [(s,1)]):=by
 refine ac.of Mj (by simp) λ_=>aa ?_
 conv in DI=>cbv
 have pn:=gn s
 rw[decide_eq_true h]at pn
 repeat' first|simp(disch:=omega) only[go_sem, *]|((with_reducible apply ab)<;>intro h<;>try omega)|(with_reducible apply ag)|(with_reducible refine aj (λh=> ?_) ?_)|(refine aF pn rfl rfl ?_)
 all_goals rfl
theorem Pj {a b:bY} (h:(fK a b).2≠0):(fK a b).1=(0, []):=by
 unfold fK gu at h ⊢
 (repeat' split)<;>simp_all
theorem iH {a b:bY} {k:Int} (hk:k=0∨k= -1) (ha:bq a) (hb:bq b) (la:a.2.length≤40000000) (lb:b.2.length≤40000000):ac Tryz.prog xZ [dm b.1 b.2,dm a.1 a.2,I k] (uO (if k=0 then kC a b else eD a b)):=by
 refine ac.of GK (by simp) λ_=>aa ?_
 conv in ye=>cbv
 have p1:=mp (a:=a) (b:= -1) ha (by simp[ay]) (by unfold short;omega)
 have g2:=gR a (-1)
 have g3:=oB b (bO a (-1)).1
 have p2:=kV (a:=b) (b:=(bO a (-1)).1) hb qQ (by omega)
 have pc:=tj (-1)
 have p3:=kV (a:=(fK b (bO a (-1)).1).1) (b:=(-1, [])) (ww _ _) ⟨by simp[ay],λm hm=>by cases hm⟩ (by simp;omega)
 have g4:=Pj (a:=b) (b:=(bO a (-1)).1)
 have g5:=Pj (a:=(fK b (bO a (-1)).1).1) (b:=(-1, []))
 unfold eD kC
 generalize fK b (bO a (-1)).1=G2 at*
 generalize bO a (-1)=G1 at*
 obtain⟨⟨K1,L1⟩,e1⟩:=G1
 obtain⟨⟨K2,L2⟩,e2⟩:=G2
 obtain⟨K,m⟩:=a
 obtain⟨K',m'⟩:=b
 simp only at p1 p2 p3 g4 g5 ⊢
 clear g2 g3 ha hb la lb
 by_cases h1:e1=0
 ·subst h1
  by_cases h2:e2=0
  ·subst h2
   clear g4
   rcases hk with rfl|rfl
   ·repeat' first|simp(disch:=omega) only[go_sem, *]|((with_reducible apply ab)<;>intro h<;>try omega)|(with_reducible apply ag)|(with_reducible refine aj (λh=> ?_) ?_)|(refine cg p1 rfl rfl ?_)|(refine cg p2 rfl rfl ?_)
    all_goals simp
   ·simp only[ne_eq,not_true_eq_false,if_false,Int.reduceNeg,reduceCtorEq,Int.reduceEq]
    generalize fK (K2,L2) (-1, [])=G3 at*
    obtain⟨⟨K3,L3⟩,e3⟩:=G3
    simp only at p3 g5 ⊢
    by_cases h3:e3=0
    ·subst h3
     clear g5
     repeat' first|simp(disch:=omega) only[go_sem, *]|((with_reducible apply ab)<;>intro h<;>try omega)|(with_reducible apply ag)|(with_reducible refine aj (λh=> ?_) ?_)|(refine cg p1 rfl rfl ?_)|(refine cg p2 rfl rfl ?_)|(refine cg pc rfl rfl ?_)|(refine cg p3 rfl rfl ?_)
     all_goals simp
    ·have g5:=g5 h3
     cases g5
     repeat' first|simp(disch:=omega) only[go_sem, *,h3]|((with_reducible apply ab)<;>intro h<;>try omega)|(with_reducible apply ag)|(with_reducible refine aj (λh=> ?_) ?_)|(refine cg p1 rfl rfl ?_)|(refine cg p2 rfl rfl ?_)|(refine cg pc rfl rfl ?_)|(refine cg p3 rfl rfl ?_)
     all_goals simp[h3]
  ·have g4:=g4 h2
   cases g4
   rcases hk with rfl|rfl
   ·repeat' first|simp(disch:=omega) only[go_sem, *,h2]|((with_reducible apply ab)<;>intro h<;>try omega)|(with_reducible apply ag)|(with_reducible refine aj (λh=> ?_) ?_)|(refine cg p1 rfl rfl ?_)|(refine cg p2 rfl rfl ?_)
    all_goals simp[h2]
   ·repeat' first|simp(disch:=omega) only[go_sem, *,h2]|((with_reducible apply ab)<;>intro h<;>try omega)|(with_reducible apply ag)|(with_reducible refine aj (λh=> ?_) ?_)|(refine cg p1 rfl rfl ?_)|(refine cg p2 rfl rfl ?_)
    all_goals simp[h2]
 ·rcases hk with rfl|rfl
  ·repeat' first|simp(disch:=omega) only[go_sem, *,h1]|((with_reducible apply ab)<;>intro h<;>try omega)|(with_reducible apply ag)|(with_reducible refine aj (λh=> ?_) ?_)|(refine cg p1 rfl rfl ?_)|(refine cg p2 rfl rfl ?_)
   all_goals simp[h1]
  ·repeat' first|simp(disch:=omega) only[go_sem, *,h1]|((with_reducible apply ab)<;>intro h<;>try omega)|(with_reducible apply ag)|(with_reducible refine aj (λh=> ?_) ?_)|(refine cg p1 rfl rfl ?_)|(refine cg p2 rfl rfl ?_)
   all_goals simp[h1]
end Go.Proofs.YthbcbaembicdbaaGreatDoor
