import Derived.Test.YtiapgekjmcjjgaaGreatDoorVKc
import Derived.Test.YtiapgekjmcjjgaaGreatDoorV18r
set_option maxHeartbeats 4000000
set_option linter.unusedVariables false
set_option linter.unusedSimpArgs false
set_option maxRecDepth 1000000
open Go.Proofs.Tryz renaming prog→Ya
namespace Go.Proofs.YtiapgekjmcjjgaaGreatDoor
open Go.Abs Go.RowKit
theorem rI (a b:bW):bl (fj a b).1:=by
 unfold fj fI
 (repeat' split)
 ·exact⟨bL,λm hm=>by cases hm⟩
 ·exact Fm ‹_›
 ·exact⟨bL,λm hm=>by cases hm⟩
theorem lu (a b:bW):(fj a b).1.2.length≤a.2.length+b.2.length:=by
 unfold fj fI
 (repeat' split)
 ·exact Nat.zero_le _
 ·exact zQ a b
 ·exact Nat.zero_le _
theorem ni {a:bW}:bl (bM a (-1)).1:=by
 unfold bM iT
 (repeat' split)
 ·exact⟨bL,λm hm=>by cases hm⟩
 ·rename_i h
  exact CQ h
 ·exact⟨bL,λm hm=>by cases hm⟩
theorem gC (a:bW) (b:Int):(bM a b).1.2.length≤a.2.length:=by
 unfold bM iT
 (repeat' split)
 ·exact Nat.zero_le _
 ·exact tV a b
 ·exact Nat.zero_le _
theorem mT (k:Int):ac Ya 121 [I k] (da k []):=by
 refine ac.of FT (by simp) λ_=>aa ?_
 conv in bh _ _=>cbv
 repeat' first|simp(disch:=omega)only[go_sem, *]|apply ab<;>intro h<;>try omega
 all_goals rfl
noncomputable def i0 (f s:bW):bW×Int:=if(bM f (-1)).2≠0 then((0, []),(bM f (-1)).2)else fj s (bM f (-1)).1
noncomputable def d5 (f s:bW):bW×Int:=if(i0 f s).2≠0 then((0, []),(i0 f s).2)else fj (i0 f s).1 (-1, [])
abbrev ru (x:bW×Int):AV:= .tup [da x.1.1 x.1.2,Go.Abs.B (decide (x.2=0))]
theorem FK (f s:bW):bl (i0 f s).1:=by
 unfold i0
 split
 ·exact⟨bL,λm hm=>by cases hm⟩
 ·exact rI _ _
theorem Fi (f s:bW):bl (d5 f s).1:=by
 unfold d5
 split
 ·exact⟨bL,λm hm=>by cases hm⟩
 ·exact rI _ _
theorem rB (f s:bW):(i0 f s).1.2.length≤f.2.length+s.2.length:=by
 unfold i0
 split
 ·exact Nat.zero_le _
 ·have h1:=lu s (bM f (-1)).1
  have h2:=gC f (-1)
  omega
theorem AZ (f s:bW):(d5 f s).1.2.length≤f.2.length+s.2.length:=by
 unfold d5
 split
 ·exact Nat.zero_le _
 ·have h1:=lu (i0 f s).1 (-1, [])
  have h2:=rB f s
  simp only[List.length_nil]at h1
  omega
theorem jC {a b:bW} (ha:bl a) (hb:bl b) (la:a.2.length≤100000000) (lb:b.2.length≤100000000):ac Ya 133 [da a.1 a.2,da b.1 b.2] (ru (i0 b a)):=by
 refine ac.of xY (by simp) λ_=>aa ?_
 conv in bh _ _=>cbv
 have p1:=jK (a:=b) (b:= -1) hb (by simp[am]) (by unfold short;omega)
 have g2:=gC b (-1)
 have p2:=mt (a:=a) (b:=(bM b (-1)).1) ha ni (by unfold short;omega) (by unfold short;omega)
 unfold i0
 generalize fj a (bM b (-1)).1=G2 at*
 generalize bM b (-1)=G1 at*
 obtain⟨⟨K1,L1⟩,e1⟩:=G1
 obtain⟨⟨K2,L2⟩,e2⟩:=G2
 obtain⟨K,m⟩:=a
 obtain⟨K',m'⟩:=b
 simp only at p1 p2 ⊢
 clear g2
 by_cases h1:e1=0
 ·subst h1
  rw[if_neg (by simp)]
  repeat' first|simp(disch:=omega)only[go_sem, *]|apply ab<;>intro h<;>try omega|apply af|(with_reducible refine ag (λh=> ?_) ?_)|refine aW p1 rfl rfl ?_|refine aW p2 rfl rfl ?_
  all_goals rfl
 ·rw[if_pos h1]
  repeat' first|simp(disch:=omega)only[go_sem, *,h1]|apply ab<;>intro h<;>try omega|apply af|(with_reducible refine ag (λh=> ?_) ?_)|refine aW p1 rfl rfl ?_
  all_goals simp[h1]
theorem jy {a b:bW} (ha:bl a) (hb:bl b) (la:a.2.length≤40000000) (lb:b.2.length≤40000000):ac Ya 83 [da a.1 a.2,da b.1 b.2] (ru (d5 a b)):=by
 refine ac.of yC (by simp) λ_=>aa ?_
 conv in bh _ _=>cbv
 have p1:=jC (a:=b) (b:=a) hb ha (by omega) (by omega)
 have g2:=rB a b
 have pc:=mT (-1)
 have p2:=mt (a:=(i0 a b).1) (b:=(-1, [])) (FK _ _) ⟨by simp[am],λm hm=>by cases hm⟩ (by unfold short;omega) (by unfold short;simp)
 unfold d5
 generalize fj (i0 a b).1 (-1, [])=G2 at*
 generalize i0 a b=G1 at*
 obtain⟨⟨K1,L1⟩,e1⟩:=G1
 obtain⟨⟨K2,L2⟩,e2⟩:=G2
 obtain⟨K,m⟩:=a
 obtain⟨K',m'⟩:=b
 simp only at p1 p2 ⊢
 clear g2
 by_cases h1:e1=0
 ·subst h1
  rw[if_neg (by simp)]
  repeat' first|simp(disch:=omega)only[go_sem, *,decide_true]|apply ab<;>intro h<;>try omega|apply af|(with_reducible refine ag (λh=> ?_) ?_)|refine aW p1 rfl rfl ?_|refine aW pc rfl rfl ?_|refine aW p2 rfl rfl ?_
  all_goals rfl
 ·rw[if_pos h1]
  repeat' first|simp(disch:=omega)only[go_sem, *,h1,decide_false]|apply ab<;>intro h<;>try omega|apply af|(with_reducible refine ag (λh=> ?_) ?_)|refine aW p1 rfl rfl ?_
  all_goals simp[h1]
theorem CC {s:ByteArray} (h:fW s):ac Ya 104 [S s] (da 0 [(s,1)]):=by
 refine ac.of EV (by simp) λ_=>aa ?_
 conv in bh _ _=>cbv
 have pn:=fX s
 rw[decide_eq_true h]at pn
 repeat' first|simp(disch:=omega)only[go_sem, *]|apply ab<;>intro h<;>try omega|apply af|(with_reducible refine ag (λh=> ?_) ?_)|refine aq pn rfl rfl ?_
 all_goals rfl
theorem Iu {a b:bW} (h:(fj a b).2≠0):(fj a b).1=(0, []):=by
 unfold fj fI at h ⊢
 (repeat' split)<;>simp_all
theorem ig {a b:bW} {k:Int} (hk:k=0∨k= -1) (ha:bl a) (hb:bl b) (la:a.2.length≤40000000) (lb:b.2.length≤40000000):ac Ya 105 [da b.1 b.2,da a.1 a.2,I k] (ru (if k=0 then i0 a b else d5 a b)):=by
 refine ac.of BN (by simp) λ_=>aa ?_
 conv in bh _ _=>cbv
 have p1:=ki (a:=a) (b:= -1) ha (by simp[am]) (by unfold short;omega)
 have g2:=gC a (-1)
 have g3:=lu b (bM a (-1)).1
 have p2:=jJ (a:=b) (b:=(bM a (-1)).1) hb ni (by omega)
 have pc:=oZ (-1)
 have p3:=jJ (a:=(fj b (bM a (-1)).1).1) (b:=(-1, [])) (rI _ _) ⟨by simp[am],λm hm=>by cases hm⟩ (by simp;omega)
 have g4:=Iu (a:=b) (b:=(bM a (-1)).1)
 have g5:=Iu (a:=(fj b (bM a (-1)).1).1) (b:=(-1, []))
 unfold d5 i0
 generalize fj b (bM a (-1)).1=G2 at*
 generalize bM a (-1)=G1 at*
 obtain⟨⟨K1,L1⟩,e1⟩:=G1
 obtain⟨⟨K2,L2⟩,e2⟩:=G2
 obtain⟨K,m⟩:=a
 obtain⟨K',m'⟩:=b
 simp only at p1 p2 p3 g4 g5 ⊢
 clear g2 g3 ha hb la lb
 by_cases h1:e1=0
 ·subst h1
  by_cases h2:e2=0
  ·subst h2
   clear g4
   rcases hk with rfl|rfl
   ·repeat' first|simp(disch:=omega)only[go_sem, *]|apply ab<;>intro h<;>try omega|apply af|(with_reducible refine ag (λh=> ?_) ?_)|refine aW p1 rfl rfl ?_|refine aW p2 rfl rfl ?_
    all_goals simp
   ·simp only[ne_eq,not_true_eq_false,if_false,Int.reduceNeg,reduceCtorEq,Int.reduceEq]
    generalize fj (K2,L2) (-1, [])=G3 at*
    obtain⟨⟨K3,L3⟩,e3⟩:=G3
    simp only at p3 g5 ⊢
    by_cases h3:e3=0
    ·subst h3
     clear g5
     repeat' first|simp(disch:=omega)only[go_sem, *]|apply ab<;>intro h<;>try omega|apply af|(with_reducible refine ag (λh=> ?_) ?_)|refine aW p1 rfl rfl ?_|refine aW p2 rfl rfl ?_|refine aW pc rfl rfl ?_|refine aW p3 rfl rfl ?_
     all_goals simp
    ·have g5:=g5 h3
     cases g5
     repeat' first|simp(disch:=omega)only[go_sem, *,h3]|apply ab<;>intro h<;>try omega|apply af|(with_reducible refine ag (λh=> ?_) ?_)|refine aW p1 rfl rfl ?_|refine aW p2 rfl rfl ?_|refine aW pc rfl rfl ?_|refine aW p3 rfl rfl ?_
     all_goals simp[h3]
  ·have g4:=g4 h2
   cases g4
   rcases hk with rfl|rfl
   ·repeat' first|simp(disch:=omega)only[go_sem, *,h2]|apply ab<;>intro h<;>try omega|apply af|(with_reducible refine ag (λh=> ?_) ?_)|refine aW p1 rfl rfl ?_|refine aW p2 rfl rfl ?_
    all_goals simp[h2]
   ·repeat' first|simp(disch:=omega)only[go_sem, *,h2]|apply ab<;>intro h<;>try omega|apply af|(with_reducible refine ag (λh=> ?_) ?_)|refine aW p1 rfl rfl ?_|refine aW p2 rfl rfl ?_
    all_goals simp[h2]
 ·rcases hk with rfl|rfl
  ·repeat' first|simp(disch:=omega)only[go_sem, *,h1]|apply ab<;>intro h<;>try omega|apply af|(with_reducible refine ag (λh=> ?_) ?_)|refine aW p1 rfl rfl ?_|refine aW p2 rfl rfl ?_
   all_goals simp[h1]
  ·repeat' first|simp(disch:=omega)only[go_sem, *,h1]|apply ab<;>intro h<;>try omega|apply af|(with_reducible refine ag (λh=> ?_) ?_)|refine aW p1 rfl rfl ?_|refine aW p2 rfl rfl ?_
   all_goals simp[h1]
