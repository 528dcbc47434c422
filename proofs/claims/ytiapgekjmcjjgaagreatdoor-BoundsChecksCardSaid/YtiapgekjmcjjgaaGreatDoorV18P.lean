import Derived.Test.YtiapgekjmcjjgaaGreatDoorV18A
set_option maxHeartbeats 4000000
set_option linter.unusedVariables false
set_option linter.unusedSimpArgs false
set_option maxRecDepth 1000000
namespace Go.Proofs.YtiapgekjmcjjgaaGreatDoor
open Go.Abs Go.RowKit
theorem tY {p:bG} {x:ww} (hf:iR p) (c:kI p) (a: ∀(i:Nat) (h:i<p.defs.length),C7 p p.defs[i]) (h0:(bn p).2=0) (h:BE p x):ac Tryz.prog 23 [gy p,UL x.1 x.2.1 x.2.2] (bB (fF p x)):=by
 obtain⟨hk,_,_,_,hl,_⟩:=h
 have pa:=pG (k:=(x.1:Int)) hf c λ_=>a
 rw[KI h0 hk]at pa
 refine ac.of vp (by simp) λhb=>aa ?_
 have d:aK 3 (x.2.2.2.map cP):=ar λx=>rfl
 have b:aK 3 ((uI p p.defs[x.1]).map cP):=ar λx=>rfl
 have HM:=Lib.hid (List.map_append (f:=cP) (l₁:=uI p p.defs[x.1]) (l₂:=x.2.2.2)).symm
 unfold fF at*
 rw[ry hk]at*
 rw[List.length_append]at hl
 conv in bh _ _=>cbv
 clear hb a h0
 repeat' first|simp(disch:=omega)only[go_sem, *]|apply ab<;>intro h<;>try omega|apply af|(with_reducible refine ag (λh=> ?_) ?_)|refine aW pa rfl rfl ?_|refine ia b (by simp;omega) (by simp;omega) ?_|refine aA rfl (by intro h;cases h) d (by simp;omega) (by simp;omega) ?_
 all_goals rw[HM.out]
