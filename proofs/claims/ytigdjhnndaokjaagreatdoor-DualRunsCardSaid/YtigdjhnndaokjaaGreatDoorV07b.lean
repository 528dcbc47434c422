import Derived.Test.YtigdjhnndaokjaaGreatDoorPlain07b
set_option linter.unusedVariables false
set_option linter.unusedSimpArgs false
set_option maxHeartbeats 4000000
set_option maxRecDepth 1000000
namespace Go.Proofs.YtigdjhnndaokjaaGreatDoor
open Go.Abs Go.RowKit
theorem kC {n:Int} (hn:aH n):ac Tryz.prog nF [I n] (U n.natAbs):=by
 refine ac.of FH zR6 λ_=>aa ?_
 obtain⟨h1,h2⟩:=hn
 conv in wT=>cbv
 by_cases h0:n<0
 ·have e1:IntKind.wrap .u64 n=n+18446744073709551616:=by rw[IntKind.wrap_u64];omega
  have e2:IntKind.wrap .u64 (0-(n+18446744073709551616))=n.natAbs:=by rw[IntKind.wrap_u64];omega
  exact yE6
 ·have e2:IntKind.wrap .u64 n=n.natAbs:=by rw[IntKind.wrap_u64];omega
  exact yA8
theorem MB {x:Nat} (h:x<18446744073709551616):IntKind.wrap .u64 (acM 64 (x:Int) 4294967295)=((x%4294967296:Nat):Int):=by
 have e:acM 64 (x:Int) 4294967295=((x%4294967296:Nat):Int):=by
  show((BitVec.ofInt 64 (x:Int)&&&BitVec.ofInt 64 4294967295).toNat:Int)=_
  rw[BitVec.toNat_and]
  have h1:(BitVec.ofInt 64 (x:Int)).toNat=x:=by
   rw[BitVec.toNat_ofInt]
   omega
  have h2:(BitVec.ofInt 64 4294967295).toNat=2^32-1:=rfl
  rw[h1,h2,Nat.and_two_pow_sub_one_eq_mod]
 rw[e,wrap_u64 zR5]
theorem Sw {x:Nat}:Int.fdiv (x:Int) (2^min (Int.toNat 32) 64)=((x/4294967296:Nat):Int):=by
 show Int.fdiv (x:Int) 4294967296=_
 rw[zN2 _ zR9]
 omega
theorem Im {a b:Nat} (ha:a<18446744073709551616) (hb:b<18446744073709551616):ac Tryz.prog sa [U a,U b] (.tup [U (a*b/18446744073709551616:Nat),U (a*b%18446744073709551616:Nat)]):=by
 refine ac.of Kl zR6 λ_=>aa ?_
 conv in AO=>cbv
 have ea:=zL8 a 4294967296
 have eb:=zL8 b 4294967296
 have f:a%4294967296<4294967296:=zI3 _ zR9
 have g:b%4294967296<4294967296:=zI3 _ zR9
 have k1:=MB ha
 have k2:=MB hb
 have s1:=Sw (x:=a)
 have s2:=Sw (x:=b)
 generalize a%4294967296=a0 at*
 generalize a/4294967296=a1 at*
 generalize b%4294967296=b0 at*
 generalize b/4294967296=b1 at*
 have i:a1<4294967296:=by omega
 have j:b1<4294967296:=by omega
 have bd: ∀{x y:Nat},x<4294967296→y<4294967296→x*y≤18446744065119617025:= λ{x y} hx hy=>by
  have:=zQ1 (show x≤4294967295 by omega) (show y≤4294967295 by omega)
  omega
 have p00:=bd f g
 have p10:=bd i g
 have p01:=bd f j
 have p11:=bd i j
 have c:a*b=a1*b1*18446744073709551616+(a1*b0+a0*b1)*4294967296+a0*b0:=by
  rw[←ea,←eb,zM4,Nat.mul_add,Nat.mul_add]
  have e1:4294967296*a1*(4294967296*b1)=18446744073709551616*(a1*b1):=by rw[Nat.mul_mul_mul_comm]
  have e2:4294967296*a1*b0=4294967296*(a1*b0):=by rw[Nat.mul_assoc]
  have e3:a0*(4294967296*b1)=4294967296*(a0*b1):=by rw[Nat.mul_left_comm]
  rw[e1,e2,e3]
  omega
 have d:IntKind.wrap .u64 ((a:Int)*(b:Int))=((a*b%18446744073709551616:Nat):Int):=by
  rw[←zH9,IntKind.wrap_u64]
  omega
 rw[c]at d ⊢
 have m00:IntKind.wrap .u64 ((a0:Int)*(b0:Int))=((a0*b0:Nat):Int):=by rw[←zH9,wrap_u64 zR5]
 have m10:IntKind.wrap .u64 ((a1:Int)*(b0:Int))=((a1*b0:Nat):Int):=by rw[←zH9,wrap_u64 zR5]
 have m01:IntKind.wrap .u64 ((a0:Int)*(b1:Int))=((a0*b1:Nat):Int):=by rw[←zH9,wrap_u64 zR5]
 have m11:IntKind.wrap .u64 ((a1:Int)*(b1:Int))=((a1*b1:Nat):Int):=by rw[←zH9,wrap_u64 zR5]
 generalize a0*b0=c00 at*
 generalize a1*b0=c10 at*
 generalize a0*b1=c01 at*
 generalize a1*b1=c11 at*
 have t1:IntKind.wrap .u64 ((c10:Int)+((c00/4294967296:Nat):Int))=((c10+c00/4294967296:Nat):Int):=by rw[←zP3,wrap_u64 zR5]
 have t2:=MB (x:=c10+c00/4294967296) zR5
 have t3:IntKind.wrap .u64 ((c01:Int)+(((c10+c00/4294967296)%4294967296:Nat):Int))=((c01+(c10+c00/4294967296)%4294967296:Nat):Int):=by rw[←zP3,wrap_u64 zR5]
 have t4:IntKind.wrap .u64 ((c11:Int)+(((c10+c00/4294967296)/4294967296:Nat):Int))=((c11+(c10+c00/4294967296)/4294967296:Nat):Int):=by rw[←zP3,wrap_u64 zR5]
 have t5:IntKind.wrap .u64 (((c11+(c10+c00/4294967296)/4294967296:Nat):Int)+(((c01+(c10+c00/4294967296)%4294967296)/4294967296:Nat):Int))=(((c11*18446744073709551616+(c10+c01)*4294967296+c00)/18446744073709551616:Nat):Int):=by
  rw[←zP3,wrap_u64 zR5]
  omega
 have u1:=Sw (x:=c00)
 have u2:=Sw (x:=c10+c00/4294967296)
 have u3:=Sw (x:=c01+(c10+c00/4294967296)%4294967296)
 clear c bd ea eb
 repeat' first|simp(disch:=omega)only[go_sem, *,k1,k2,s1,s2,d,m00,m10,m01,m11,t1,t2,t3,t4,t5,u1,u2,u3]|apply ab<;>intro h<;>try omega
set_option maxRecDepth 20000
def d8 (a:iB):Prop:=aH a.1∧ ∀m∈a.2,aH m.2
end Go.Proofs.YtigdjhnndaokjaaGreatDoor
