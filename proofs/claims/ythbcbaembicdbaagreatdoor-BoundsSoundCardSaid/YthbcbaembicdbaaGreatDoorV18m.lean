import Derived.Test.YthbcbaembicdbaaGreatDoorV08d
set_option maxHeartbeats 4000000
set_option linter.unusedVariables false
set_option linter.unusedSimpArgs false
set_option maxRecDepth 1000000
namespace Go.Proofs.YthbcbaembicdbaaGreatDoor
open Go.Abs Go.RowKit
theorem IK (a b:bU):br (nY a b).1:=by
 unfold nY ia
 (repeat' split)
 ·exact⟨b6,λm hm=>by cases hm⟩
 ·exact Jp ‹_›
 ·exact⟨b6,λm hm=>by cases hm⟩
theorem zv (a b:bU):(nY a b).1.2.length≤a.2.length+b.2.length:=by
 unfold nY ia
 (repeat' split)
 ·exact Nat.zero_le _
 ·exact Ea a b
 ·exact Nat.zero_le _
theorem Hf {a:bU}:br (dP a (-1)).1:=by
 unfold dP xW
 (repeat' split)
 ·exact⟨b6,λm hm=>by cases hm⟩
 ·rename_i h
  exact G6 h
 ·exact⟨b6,λm hm=>by cases hm⟩
theorem rE (a:bU) (b:Int):(dP a b).1.2.length≤a.2.length:=by
 unfold dP xW
 (repeat' split)
 ·exact Nat.zero_le _
 ·exact xB a b
 ·exact Nat.zero_le _
theorem ph (k:Int):af Tryz.prog Bw [I k] (dR k []):=by
 refine af.of Jj (by simp) λ_=>aa ?_
 simp only[Bz]
 repeat' first|simp(disch:=omega) only[go_sem, *]|((with_reducible apply ab)<;>intro h<;>try omega)
 all_goals rfl
noncomputable def nv (f s:bU):bU×Int:=if(dP f (-1)).2≠0 then((0, []),(dP f (-1)).2)else nY s (dP f (-1)).1
noncomputable def fR (f s:bU):bU×Int:=if(nv f s).2≠0 then((0, []),(nv f s).2)else nY (nv f s).1 (-1, [])
abbrev Hx (x:bU×Int):AV:= .tup [dR x.1.1 x.1.2,Go.Abs.B (decide (x.2=0))]
theorem JQ (f s:bU):br (nv f s).1:=by
 unfold nv
 split
 ·exact⟨b6,λm hm=>by cases hm⟩
 ·exact IK _ _
theorem JV (f s:bU):br (fR f s).1:=by
 unfold fR
 split
 ·exact⟨b6,λm hm=>by cases hm⟩
 ·exact IK _ _
theorem vg (f s:bU):(nv f s).1.2.length≤f.2.length+s.2.length:=by
 unfold nv
 split
 ·exact Nat.zero_le _
 ·have h1:=zv s (dP f (-1)).1
  have h2:=rE f (-1)
  omega
theorem Dl (f s:bU):(fR f s).1.2.length≤f.2.length+s.2.length:=by
 unfold fR
 split
 ·exact Nat.zero_le _
 ·have h1:=zv (nv f s).1 (-1, [])
  have h2:=vg f s
  simp only[List.length_nil]at h1
  omega
theorem kF {a b:bU} (ha:br a) (hb:br b) (la:a.2.length≤100000000) (lb:b.2.length≤100000000):af Tryz.prog tM [dR a.1 a.2,dR b.1 b.2] (Hx (nv b a)):=by
 refine af.of CX (by simp) λ_=>aa ?_
 conv in uH=>cbv
 have p1:=kO (a:=b) (b:= -1) hb (by simp[ar]) (by unfold short;omega)
 have g2:=rE b (-1)
 have p2:=oI (a:=a) (b:=(dP b (-1)).1) ha Hf (by unfold short;omega) (by unfold short;omega)
 unfold nv
 generalize nY a (dP b (-1)).1=G2 at*
 generalize dP b (-1)=G1 at*
 obtain⟨⟨K1,L1⟩,e1⟩:=G1
 obtain⟨⟨K2,L2⟩,e2⟩:=G2
 obtain⟨K,m⟩:=a
 obtain⟨K',m'⟩:=b
 simp only at p1 p2 ⊢
 clear g2
 by_cases h1:e1=0
 ·subst h1
  rw[if_neg (by simp)]
  repeat' first|simp(disch:=omega) only[go_sem, *]|((with_reducible apply ab)<;>intro h<;>try omega)|(with_reducible apply ah)|(with_reducible refine aj (λh=> ?_) ?_)|(refine el p1 rfl rfl ?_)|(refine el p2 rfl rfl ?_)
  all_goals rfl
 ·rw[if_pos h1]
  repeat' first|simp(disch:=omega) only[go_sem, *,h1]|((with_reducible apply ab)<;>intro h<;>try omega)|(with_reducible apply ah)|(with_reducible refine aj (λh=> ?_) ?_)|(refine el p1 rfl rfl ?_)
  all_goals simp[h1]
theorem kz {a b:bU} (ha:br a) (hb:br b) (la:a.2.length≤40000000) (lb:b.2.length≤40000000):af Tryz.prog ub [dR a.1 a.2,dR b.1 b.2] (Hx (fR a b)):=by
 refine af.of Co (by simp) λ_=>aa ?_
 conv in uY=>cbv
 have p1:=kF (a:=b) (b:=a) hb ha (by omega) (by omega)
 have g2:=vg a b
 have pc:=ph (-1)
 have p2:=oI (a:=(nv a b).1) (b:=(-1, [])) (JQ _ _) ⟨by simp[ar],λm hm=>by cases hm⟩ (by unfold short;omega) (by unfold short;simp)
 unfold fR
 generalize nY (nv a b).1 (-1, [])=G2 at*
 generalize nv a b=G1 at*
 obtain⟨⟨K1,L1⟩,e1⟩:=G1
 obtain⟨⟨K2,L2⟩,e2⟩:=G2
 obtain⟨K,m⟩:=a
 obtain⟨K',m'⟩:=b
 simp only at p1 p2 ⊢
 clear g2
 by_cases h1:e1=0
 ·subst h1
  rw[if_neg (by simp)]
  repeat' first|simp(disch:=omega) only[go_sem, *,decide_true]|((with_reducible apply ab)<;>intro h<;>try omega)|(with_reducible apply ah)|(with_reducible refine aj (λh=> ?_) ?_)|(refine el p1 rfl rfl ?_)|(refine el pc rfl rfl ?_)|(refine el p2 rfl rfl ?_)
  all_goals rfl
 ·rw[if_pos h1]
  repeat' first|simp(disch:=omega) only[go_sem, *,h1,decide_false]|((with_reducible apply ab)<;>intro h<;>try omega)|(with_reducible apply ah)|(with_reducible refine aj (λh=> ?_) ?_)|(refine el p1 rfl rfl ?_)
  all_goals simp[h1]
end Go.Proofs.YthbcbaembicdbaaGreatDoor
