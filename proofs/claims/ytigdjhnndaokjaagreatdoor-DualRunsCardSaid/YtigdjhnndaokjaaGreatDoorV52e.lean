import Derived.Test.YtigdjhnndaokjaaGreatDoorV09p
set_option linter.unusedVariables false
set_option linter.unusedSimpArgs false
set_option maxHeartbeats 4000000
set_option maxRecDepth 1000000
namespace Go.Proofs.YtigdjhnndaokjaaGreatDoor
open Go.Abs Go.RowKit
theorem te (xs ys:List Int):ac Tryz.prog yQ [aF xs,aF ys] (Go.Abs.B (decide (xs=ys))):=by
 refine ac.of Qq zR6 λhb=>aa ?_
 have hx:xs.length≤9223372036854775807:=by simpa[f6,fB,f5]using hb.1
 have hy:ys.length≤9223372036854775807:=by simpa[f6,fB,f5]using hb.2.1
 conv in Hc=>cbv
 by_cases hl:xs.length=ys.length
 ·have b:(xs.length:Int)=ys.length:=by omega
  have HL:=Lib.hid hl
  clear hl
  repeat' first|simp(disch:=omega)only[go_sem, *,b]|apply ab<;>intro h<;>try omega
  refine al (λk:Nat=>⟨[(5,I k),(0,aF xs),(1,aF ys)], [],0,0⟩) (λk=>k≤xs.length∧Hid (xs.take k=ys.take k)) (λk=>xs.length-k) ⟨0, [],⟨zE6 _,rfl⟩,by simp⟩ ?_
  rintro k ⟨hk,d⟩
  refine aa ?_
  clear b
  by_cases c:k<xs.length
  ·have a:k<ys.length:=by have:=HL.out;omega
   by_cases e:xs[k]=ys[k]
   ·have E:Hid (xs.take (k+1)=ys.take (k+1)):=by
     show _=_
     rw[zB5 c,zB5 a,d.out,e]
    repeat' first|simp(disch:=omega)only[go_sem, *,ae c,ae a,e,wrap_i64]|apply ab<;>intro h<;>try omega
    exact⟨k+1, [],⟨c,E⟩,by omega,by simp⟩
   ·have f: ¬xs=ys:=by rintro rfl;exact e rfl
    rw[zA9 f]
    repeat' first|simp(disch:=omega)only[go_sem, *,ae c,ae a,e,wrap_i64]|apply ab<;>intro h<;>try omega
  ·have e:xs=ys:=by
    have h:=d.out
    rwa [zB6 zR5,zB6 (by have:=HL.out;omega)]at h
   rw[zB1 e]
   clear e
   exact zW0
 ·have b: ¬(xs.length:Int)=ys.length:=by omega
  have f: ¬xs=ys:=by rintro rfl;exact hl rfl
  rw[zA9 f]
  repeat' first|simp(disch:=omega)only[go_sem, *,b]|apply ab<;>intro h<;>try omega
end Go.Proofs.YtigdjhnndaokjaaGreatDoor
