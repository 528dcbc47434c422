import Derived.Test.YthbcbaembicdbaaGreatDoorVPq
import Derived.Test.YthbcbaembicdbaaGreatDoorVEw
set_option maxHeartbeats 4000000
set_option linter.unusedVariables false
set_option linter.unusedSimpArgs false
set_option maxRecDepth 1000000
namespace Go.Proofs.YthbcbaembicdbaaGreatDoor
open Go.Abs Go.RowKit
noncomputable def cY (c:aR) (env:List aD):Bool×Int:=
 if(x9 c.1.1 c.1.2 env).2≠0 then(false,(x9 c.1.1 c.1.2 env).2)else(decide ((x9 c.1.1 c.1.2 env).1=0)||(decide (0<(x9 c.1.1 c.1.2 env).1)&& !c.2),0)
theorem gq {c:aR} {env:List aD} (h64:bk c) (he: ∀m∈env,ar m.2):af Tryz.prog ft [iG c,gG mP env] (.tup [Go.Abs.B (cY c env).1,I (cY c env).2]):=by
 refine af.of wz (by simp) λ_=>aa ?_
 simp only[nD]
 have pv:=zH (env:=env) h64.1 h64.2 he
 obtain⟨⟨k,l⟩,q⟩:=c
 unfold cY
 simp only at pv ⊢
 generalize x9 k l env=V at*
 obtain⟨v,e⟩:=V
 simp only at pv ⊢
 by_cases h0:e=0
 ·subst h0
  rw[if_neg (by simp)]
  by_cases h1:v=0
  ·subst h1
   cases q
   all_goals
    repeat' first|simp(disch:=omega) only[go_sem, *]|((with_reducible apply ab)<;>intro h<;>try omega)|(refine aY pv rfl rfl ?_)
    all_goals rfl
  ·by_cases h2:0<v
   ·cases q
    all_goals
     repeat' first|simp(disch:=omega) only[go_sem, *,h1,h2]|((with_reducible apply ab)<;>intro h<;>try omega)|(refine aY pv rfl rfl ?_)
     all_goals simp[h1,h2]
   ·cases q
    all_goals
     repeat' first|simp(disch:=omega) only[go_sem, *,h1,h2]|((with_reducible apply ab)<;>intro h<;>try omega)|(refine aY pv rfl rfl ?_)
     all_goals simp[h1,h2]
 ·rw[if_pos h0]
  repeat' first|simp(disch:=omega) only[go_sem, *,h0]|((with_reducible apply ab)<;>intro h<;>try omega)|(refine aY pv rfl rfl ?_)
  all_goals rfl
noncomputable def jy (env:List aD) (c:aR):List aR→Int
 | []=>if(cY c env).2=0∧(cY c env).1=false then 12 else(cY c env).2
 |f::r=>if(cY f env).2≠0∨(cY f env).1=false then(cY f env).2 else jy env c r
theorem UB {env:List aD} {c:aR} {l:List aR} {j:Nat} {b:Bool} {e:Int} (h:j<l.length) (hr:cY l[j] env=(b,e)):jy env c (l.drop j)=if e≠0∨b=false then e else jy env c (l.drop (j+1)):=by
 rw[List.drop_eq_getElem_cons h,jy,hr]
theorem QY {env:List aD} {c:aR} {l:List aR} {j:Nat} {b:Bool} {e:Int} (h:l.length≤j) (hr:cY c env=(b,e)):jy env c (l.drop j)=if e=0∧b=false then 12 else e:=by
 rw[List.drop_of_length_le h,jy,hr]
theorem AZ {d k:Int} {o:Ob} {env:List aD} (h64:Jh o) (he: ∀m∈env,ar m.2):af Tryz.prog fW [Z6 d k o,gG mP env] (I (jy env o.1 o.2)):=by
 refine af.of rP (by simp) λhb=>aa ?_
 obtain⟨c,l⟩:=o
 have hl:l.length≤9223372036854775807:=by
  have:=hb.1
  simp only[iI,sR,jt]at this
  have h2:c.1.2.length≤9223372036854775807∧l.length≤9223372036854775807:=by simpa using this
  exact h2.2
 have pc:=gq (c:=c) (env:=env) h64.1 he
 have pf: ∀c∈l,af Tryz.prog ft [iG c,gG mP env] (.tup [Go.Abs.B (cY c env).1,I (cY c env).2]):= λc h=>gq (h64.2 c h) he
 obtain⟨R,hR⟩: ∃R,R=jy env c l:=⟨_,rfl⟩
 simp only
 rw[←hR]
 have HR:Hid (jy env c (l.drop 0)=R):=Lib.hid hR.symm
 clear hR
 conv in j7=>cbv
 repeat' first|simp(disch:=omega) only[go_sem, *]|((with_reducible apply ab)<;>intro h<;>try omega)
 refine ap (λj:Nat=>⟨[(1,gG mP env),(2,.c (.ptr 0 0)),(12,bR l),(13,I l.length),(14,I j)], [(0,bOb d k (c,l))],1,0⟩) (λj=>j≤l.length∧Hid (jy env c (l.drop j)=R)) (λj=>l.length-j) ⟨0, [],⟨by omega,HR⟩,by simp⟩ ?_
 rintro j ⟨hj,hr⟩
 refine aa ?_
 by_cases hlt:j<l.length
 ·have p:=pf _ (List.getElem_mem hlt)
  have hd:=hr.out
  obtain⟨⟨b,e⟩,hbe⟩: ∃x,x=cY l[j] env:=⟨_,rfl⟩
  rw[UB hlt hbe.symm]at hd
  rw[←hbe]at p
  simp only at p
  clear hbe hr pf pc HR
  by_cases h0:e=0
  ·subst h0
   cases b
   ·rw[if_pos (.inr rfl)]at hd
    subst hd
    repeat' first|simp(disch:=omega) only[go_sem, *,ai hlt,cP]|((with_reducible apply ab)<;>intro h<;>try omega)|(refine aY p rfl rfl ?_)
   ·rw[if_neg (by simp)]at hd
    have HD:=Lib.hid hd
    clear hd
    repeat' first|simp(disch:=omega) only[go_sem, *,ai hlt,cP,wrap_i64]|((with_reducible apply ab)<;>intro h<;>try omega)|(refine aY p rfl rfl ?_)
    exact⟨j+1, [],⟨by omega,HD⟩,by omega,by simp⟩
  ·rw[if_pos (.inl h0)]at hd
   subst hd
   repeat' first|simp(disch:=omega) only[go_sem, *,ai hlt,cP,h0]|((with_reducible apply ab)<;>intro h<;>try omega)|(refine aY p rfl rfl ?_)
 ·have hd:=hr.out
  obtain⟨⟨b,e⟩,hbe⟩: ∃x,x=cY c env:=⟨_,rfl⟩
  rw[QY (by omega) hbe.symm]at hd
  rw[←hbe]at pc
  simp only at pc
  clear hbe hr pf HR
  by_cases h0:e=0
  ·subst h0
   cases b
   ·rw[if_pos ⟨rfl,rfl⟩]at hd
    subst hd
    repeat' first|simp(disch:=omega) only[go_sem, *]|((with_reducible apply ab)<;>intro h<;>try omega)|(refine aY pc rfl rfl ?_)
   ·rw[if_neg (by simp)]at hd
    subst hd
    repeat' first|simp(disch:=omega) only[go_sem, *]|((with_reducible apply ab)<;>intro h<;>try omega)|(refine aY pc rfl rfl ?_)
  ·rw[if_neg (by simp[h0])]at hd
   subst hd
   repeat' first|simp(disch:=omega) only[go_sem, *,h0]|((with_reducible apply ab)<;>intro h<;>try omega)|(refine aY pc rfl rfl ?_)
end Go.Proofs.YthbcbaembicdbaaGreatDoor
