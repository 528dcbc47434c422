import Derived.Test.YthbcbaembicdbaaGreatDoorPlain07c
set_option linter.unusedVariables false
set_option linter.unusedSimpArgs false
set_option maxRecDepth 20000
set_option maxHeartbeats 4000000
set_option maxRecDepth 1000000
namespace Go.Proofs.YthbcbaembicdbaaGreatDoor
open Go.Abs Go.RowKit
theorem sg {a b:Int} (ha:ay a) (hb:ay b):ac Tryz.prog Gn [I a,I b] (.tup [I (IntKind.wrap .i64 (a+b)),Go.Abs.B (decide (ay (a+b)))]):=by
 refine ac.of Oe (by simp) fun _=>aa ?_
 obtain⟨ha1,ha2⟩:=ha
 obtain⟨hb1,hb2⟩:=hb
 conv in FL=>cbv
 have e:(decide (IntKind.wrap .i64 (a+b)>a)==decide (b>0))=decide (ay (a+b)):=by
  rw[IntKind.wrap_i64]
  by_cases h1:ay (a+b)
  ·rw[decide_eq_true h1]
   unfold ay at h1
   have:(a+b+9223372036854775808)%18446744073709551616-9223372036854775808=a+b:=by omega
   rw[this]
   by_cases h2:b>0
   ·simp[h2];omega
   ·simp[h2];omega
  ·rw[decide_eq_false h1]
   unfold ay at h1
   by_cases h2:b>0
   ·have: ¬((a+b+9223372036854775808)%18446744073709551616-9223372036854775808>a):=by omega
    simp[h2,this]
   ·have:((a+b+9223372036854775808)%18446744073709551616-9223372036854775808>a):=by omega
    simp[h2,this]
 repeat' first|simp(disch:=omega) only[go_sem, *,e]|((with_reducible apply ab)<;>intro h<;>try omega)
theorem oU {n:Int} (hn:ay n):ac Tryz.prog tv [I n] (U n.natAbs):=by
 refine ac.of Cw (by simp) fun _=>aa ?_
 obtain⟨h1,h2⟩:=hn
 conv in th=>cbv
 by_cases h0:n<0
 ·have e1:IntKind.wrap .u64 n=n+18446744073709551616:=by rw[IntKind.wrap_u64];omega
  have e2:IntKind.wrap .u64 (0-(n+18446744073709551616))=n.natAbs:=by rw[IntKind.wrap_u64];omega
  repeat' first|simp(disch:=omega) only[go_sem, *,e1,e2]|((with_reducible apply ab)<;>intro h<;>try omega)
 ·have e2:IntKind.wrap .u64 n=n.natAbs:=by rw[IntKind.wrap_u64];omega
  repeat' first|simp(disch:=omega) only[go_sem, *,e2]|((with_reducible apply ab)<;>intro h<;>try omega)
theorem FY {x:Nat} (h:x<18446744073709551616):IntKind.wrap .u64 (aaF 64 (x:Int) 4294967295)=((x%4294967296:Nat):Int):=by
 have e:aaF 64 (x:Int) 4294967295=((x%4294967296:Nat):Int):=by
  show((BitVec.ofInt 64 (x:Int)&&&BitVec.ofInt 64 4294967295).toNat:Int)=_
  rw[BitVec.toNat_and]
  have h1:(BitVec.ofInt 64 (x:Int)).toNat=x:=by
   rw[BitVec.toNat_ofInt]
   omega
  have h2:(BitVec.ofInt 64 4294967295).toNat=2^32-1:=rfl
  rw[h1,h2,Nat.and_two_pow_sub_one_eq_mod]
 rw[e,wrap_u64 (by omega)]
theorem ON {x:Nat}:Int.fdiv (x:Int) (2^min (Int.toNat 32) 64)=((x/4294967296:Nat):Int):=by
 show Int.fdiv (x:Int) 4294967296=_
 rw[Int.fdiv_eq_ediv_of_nonneg _ (by decide)]
 omega
theorem Ec {a b:Nat} (ha:a<18446744073709551616) (hb:b<18446744073709551616):ac Tryz.prog xP [U a,U b] (.tup [U (a*b/18446744073709551616:Nat),U (a*b%18446744073709551616:Nat)]):=by
 refine ac.of GC (by simp) fun _=>aa ?_
 conv in xA=>cbv
 have ea:=Nat.div_add_mod a 4294967296
 have eb:=Nat.div_add_mod b 4294967296
 have ha0:a%4294967296<4294967296:=Nat.mod_lt _ (by decide)
 have hb0:b%4294967296<4294967296:=Nat.mod_lt _ (by decide)
 have k1:=FY ha
 have k2:=FY hb
 have s1:=ON (x:=a)
 have s2:=ON (x:=b)
 generalize a%4294967296=a0 at*
 generalize a/4294967296=a1 at*
 generalize b%4294967296=b0 at*
 generalize b/4294967296=b1 at*
 have ha1:a1<4294967296:=by omega
 have hb1:b1<4294967296:=by omega
 have bd: ∀{x y:Nat},x<4294967296→y<4294967296→x*y≤18446744065119617025:=fun{x y} hx hy=>by
  have:=Nat.mul_le_mul (show x≤4294967295 by omega) (show y≤4294967295 by omega)
  omega
 have p00:=bd ha0 hb0
 have p10:=bd ha1 hb0
 have p01:=bd ha0 hb1
 have p11:=bd ha1 hb1
 have hprod:a*b=a1*b1*18446744073709551616+(a1*b0+a0*b1)*4294967296+a0*b0:=by
  rw[←ea,←eb,Nat.add_mul,Nat.mul_add,Nat.mul_add]
  have e1:4294967296*a1*(4294967296*b1)=18446744073709551616*(a1*b1):=by rw[Nat.mul_mul_mul_comm]
  have e2:4294967296*a1*b0=4294967296*(a1*b0):=by rw[Nat.mul_assoc]
  have e3:a0*(4294967296*b1)=4294967296*(a0*b1):=by rw[Nat.mul_left_comm]
  rw[e1,e2,e3]
  omega
 have hlow:IntKind.wrap .u64 ((a:Int)*(b:Int))=((a*b%18446744073709551616:Nat):Int):=by
  rw[←Int.natCast_mul,IntKind.wrap_u64]
  omega
 rw[hprod]at hlow ⊢
 have m00:IntKind.wrap .u64 ((a0:Int)*(b0:Int))=((a0*b0:Nat):Int):=by rw[←Int.natCast_mul,wrap_u64 (by omega)]
 have m10:IntKind.wrap .u64 ((a1:Int)*(b0:Int))=((a1*b0:Nat):Int):=by rw[←Int.natCast_mul,wrap_u64 (by omega)]
 have m01:IntKind.wrap .u64 ((a0:Int)*(b1:Int))=((a0*b1:Nat):Int):=by rw[←Int.natCast_mul,wrap_u64 (by omega)]
 have m11:IntKind.wrap .u64 ((a1:Int)*(b1:Int))=((a1*b1:Nat):Int):=by rw[←Int.natCast_mul,wrap_u64 (by omega)]
 generalize a0*b0=c00 at*
 generalize a1*b0=c10 at*
 generalize a0*b1=c01 at*
 generalize a1*b1=c11 at*
 have t1:IntKind.wrap .u64 ((c10:Int)+((c00/4294967296:Nat):Int))=((c10+c00/4294967296:Nat):Int):=by rw[←Int.natCast_add,wrap_u64 (by omega)]
 have t2:=FY (x:=c10+c00/4294967296) (by omega)
 have t3:IntKind.wrap .u64 ((c01:Int)+(((c10+c00/4294967296)%4294967296:Nat):Int))=((c01+(c10+c00/4294967296)%4294967296:Nat):Int):=by rw[←Int.natCast_add,wrap_u64 (by omega)]
 have t4:IntKind.wrap .u64 ((c11:Int)+(((c10+c00/4294967296)/4294967296:Nat):Int))=((c11+(c10+c00/4294967296)/4294967296:Nat):Int):=by rw[←Int.natCast_add,wrap_u64 (by omega)]
 have t5:IntKind.wrap .u64 (((c11+(c10+c00/4294967296)/4294967296:Nat):Int)+(((c01+(c10+c00/4294967296)%4294967296)/4294967296:Nat):Int))=(((c11*18446744073709551616+(c10+c01)*4294967296+c00)/18446744073709551616:Nat):Int):=by
  rw[←Int.natCast_add,wrap_u64 (by omega)]
  omega
 have u1:=ON (x:=c00)
 have u2:=ON (x:=c10+c00/4294967296)
 have u3:=ON (x:=c01+(c10+c00/4294967296)%4294967296)
 clear hprod bd ea eb
 repeat' first|simp(disch:=omega) only[go_sem, *,k1,k2,s1,s2,hlow,m00,m10,m01,m11,t1,t2,t3,t4,t5,u1,u2,u3]|((with_reducible apply ab)<;>intro h<;>try omega)
theorem acj {m:Int} (h:0≤m∧m≤9223372036854775808):IntKind.wrap .i64 (IntKind.wrap .u64 (0-m))= -m:=by
 rw[IntKind.wrap_u64,IntKind.wrap_i64];omega
theorem xN {a b:Int} (ha:ay a) (hb:ay b):ac Tryz.prog Di [I a,I b] (aOk (gC (a*b))):=by
 refine ac.of LC (by simp) fun _=>aa ?_
 have p1:=oU ha
 have p2:=oU hb
 have hA:a.natAbs≤9223372036854775808:=by unfold ay at ha;omega
 have hB:b.natAbs≤9223372036854775808:=by unfold ay at hb;omega
 have p3:=Ec (a:=a.natAbs) (b:=b.natAbs) (by omega) (by omega)
 have hm:a.natAbs*b.natAbs=(a*b).natAbs:=(Int.natAbs_mul a b).symm
 rw[hm]at p3
 have hsgn:a*b=if decide (a<0)=decide (b<0)then((a*b).natAbs:Int)else-((a*b).natAbs:Int):=by
  by_cases h1:a<0<;>by_cases h2:b<0
  ·have:=Int.mul_pos_of_neg_of_neg h1 h2;simp[h1,h2];omega
  ·have:a*b≤0:=Int.mul_nonpos_of_nonpos_of_nonneg (by omega) (by omega)
   simp[h1,h2];omega
  ·have:a*b≤0:=Int.mul_nonpos_of_nonneg_of_nonpos (by omega) (by omega)
   simp[h1,h2];omega
  ·have:=Int.mul_nonneg (show 0≤a by omega) (show 0≤b by omega);simp[h1,h2];omega
 conv in DQ=>cbv
 generalize a*b=x at*
 generalize hn:x.natAbs=n at*
 have hlt:n≤85070591730234615865843651857942052864:=by
  rw[←hm]
  have:=Nat.mul_le_mul hA hB
  omega
 by_cases h1:a<0<;>by_cases h2:b<0<;>simp only[h1,h2,decide_true,decide_false,if_true,Bool.false_eq_true,Bool.true_eq_false,if_false,reduceCtorEq]at hsgn
 all_goals
  clear hm hA hB
  repeat' first|simp(disch:=omega) only[go_sem, *,acj,wrap_i64]|((with_reducible apply ab)<;>intro h<;>try omega)|(refine aF p1 rfl rfl ?_)|(refine aF p2 rfl rfl ?_)|(refine aF p3 rfl rfl ?_)
  all_goals
   try subst hsgn
   first
    |(rw[zV (by unfold ay;omega)];done)
    |(rw[sQ (by unfold ay;omega),show((n%18446744073709551616:Nat):Int)=n by omega])
    |(rw[sQ (by unfold ay;omega)];simp;omega)
set_option maxRecDepth 20000
set_option maxRecDepth 1000000
abbrev NY (x:bY×Int):AV:= .tup [dm x.1.1 x.1.2,I x.2]
def bq (a:bY):Prop:=ay a.1∧ ∀m∈a.2,ay m.2
def short (l:List bJ):Prop:=l.length≤1000000000
theorem Jq (k:Int) (l:List bJ) (n:ByteArray):ac Tryz.prog De [dm k l,S n] (I (cf l n)):=by
 refine ac.of L5 (by simp) fun hb=>aa ?_
 have hl:=wN hb.1
 obtain⟨R,hR⟩: ∃R,R=cf l n:=⟨_,rfl⟩
 rw[←hR]
 have HR:=Lib.hid hR
 clear hR
 conv in Dc=>cbv
 repeat' first|simp(disch:=omega) only[go_sem, *]|((with_reducible apply ab)<;>intro h<;>try omega)
 refine an (fun k:Nat=>⟨[(1,S n),(8,.c (.pure (aw l))),(9,I l.length),(10,I k)], [],0,0⟩) (fun k=>k≤l.length∧Hid (R=cf (l.drop k) n)) (fun k=>l.length-k) ⟨0, [],⟨Nat.zero_le _,HR⟩,by simp⟩ ?_
 rintro j ⟨hj,HR⟩
 refine aa ?_
 by_cases hlt:j<l.length
 ·have h2:Hid (R=if l[j].1=n then l[j].2 else cf (l.drop (j+1)) n):=by
   have:=HR.out
   rwa [List.drop_eq_getElem_cons hlt,cf]at this
  clear HR
  by_cases e:l[j].1=n
  ·have h3:=h2.out
   rw[if_pos e]at h3
   subst h3
   repeat' first|simp(disch:=omega) only[go_sem, *,ah hlt,mP,wrap_i64,e]|((with_reducible apply ab)<;>intro h<;>try omega)
  ·have h3:Hid (R=cf (l.drop (j+1)) n):=by
    have:=h2.out
    rwa [if_neg e]at this
   repeat' first|simp(disch:=omega) only[go_sem, *,ah hlt,mP,wrap_i64,e]|((with_reducible apply ab)<;>intro h<;>try omega)
   exact⟨j+1, [],⟨hlt,h3⟩,by omega,by simp⟩
 ·have h2:=HR.out
  rw[List.drop_eq_nil_of_le (by omega),cf]at h2
  subst h2
  repeat' first|simp(disch:=omega) only[go_sem, *]|((with_reducible apply ab)<;>intro h<;>try omega)
noncomputable def bO (a:bY) (b:Int):bY×Int:=if ¬bi a.2 then((0, []),1)else kB a b
def Cr (b:Int) (l:List bJ):Bool:=l.all fun m=>(gC (m.2*b)).2
theorem Og {b:Int} {l:List bJ}:Cr b l=true↔ ∀m∈l,ay (m.2*b):=by
 simp[Cr,Fc]
def Lz (b:Int) (l:List bJ):List bJ:=l.map fun m=>(m.1,(gC (m.2*b)).1)
theorem Te {b:Int} {l:List bJ} {k:Nat} (h:k<l.length):(Lz b (l.take (k+1))).map mP=(Lz b (l.take k)).map mP++ [[pS l[k].1,pI (gC (l[k].2*b)).1]]:=by
 rw[List.take_succ_eq_append_getElem h]
 show((l.take k++ [l[k]]).map _).map mP=_
 rw[List.map_append,List.map_append]
 rfl
theorem T1 {b:Int} {l:List bJ} {k:Nat} (h:k<l.length):Cr b (l.take (k+1))=(Cr b (l.take k)&&(gC (l[k].2*b)).2):=by
 rw[List.take_succ_eq_append_getElem h]
 show(l.take k++ [l[k]]).all _=_
 rw[List.all_append,List.all_cons,List.all_nil,Bool.and_true]
 rfl
theorem kS {a:bY} {b:Int} (ha:bq a) (hb:ay b) (hs:short a.2):ac Tryz.prog C1 [dm a.1 a.2,I b] (NY (bO a b)):=by
 refine ac.of LX (by simp) fun _=>aa ?_
 obtain⟨c,l⟩:=a
 obtain⟨hc,hl64⟩:=ha
 simp only at hc hl64 hs
 have pv:=cE c l
 conv in Dz=>cbv
 by_cases hok:bi l
 ·rw[bO,if_neg (not_not_intro hok),kB]
  rw[if_pos hok]at pv
  by_cases hb0:b=0
  ·subst hb0
   rw[if_pos (.inl rfl),dw,if_pos rfl]
   repeat' first|simp(disch:=omega) only[go_sem, *]|((with_reducible apply ab)<;>intro h<;>try omega)|(refine aF pv rfl rfl ?_)
   rfl
  ·have pk:=xN hc hb
   have hcond:(b=0∨iK (c,l) b)↔(gC (c*b)).2=true∧Cr b l=true:=by
    rw[Fc,Og]
    constructor
    ·rintro(h|h)
     ·exact absurd h hb0
     ·exact h
    ·exact .inr
   have hval:(gC (c*b)).2=true∧Cr b l=true→dw (c,l) b=((gC (c*b)).1,Lz b l):=by
    rintro⟨h1,h2⟩
    rw[dw,if_neg hb0,sQ (Fc.1 h1),Lz]
    refine Prod.ext rfl (List.map_congr_left fun m hm=> ?_)
    rw[sQ (Og.1 h2 m hm)]
   have hend:(if b=0∨iK (c,l) b then(dw (c,l) b,0)else((0, []),3):bY×Int)=if((gC (c*b)).2&&Cr b l)=true then(((gC (c*b)).1,Lz b l),0)else((0, []),3):=by
    by_cases h:(gC (c*b)).2=true∧Cr b l=true
    ·rw[if_pos (hcond.2 h),hval h,if_pos (by simp[h])]
    ·rw[if_neg (fun g=>h (hcond.1 g)),if_neg (by simpa using h)]
   rw[hend]
   clear hend hcond hval
   generalize gC (c*b)=K at*
   unfold short at hs
   repeat' first|simp(disch:=omega) only[go_sem, *,hb0]|((with_reducible apply ab)<;>intro h<;>try omega)|(refine aF pv rfl rfl ?_)|(refine aF pk rfl rfl ?_)
   refine cQ 2 1 114 2 _ rfl rfl (by decide) ?_
   refine an (fun k:Nat=>⟨[(1,I b),(2,.c (.ptr 0 0)),(4,.c (.ptr 1 0)),(7,Go.Abs.B (K.2&&Cr b (l.take k))),(8,.c (.ptr 2 0)),(30,.c (.pure (aw l))),(31,I l.length),(32,I k)],
    [(0,.var [.pure (pI c),.pure (aw l)]),(1,.var [.pure (pI 0),.nils]),(2,.var [.pure (pI K.1),.ref 3]),(3,.arr 114 2 ((Lz b (l.take k)).map mP))],4,0⟩) (fun k=>k≤l.length) (fun k=>l.length-k) ⟨0, [],Nat.zero_le _,by simp[Cr,Lz]⟩ ?_
   intro j hj
   refine aa ?_
   by_cases hlt:j<l.length
   ·have pt:=xN (hl64 _ (List.getElem_mem hlt)) hb
    have e1:=Te (b:=b) hlt
    have e2:=T1 (b:=b) hlt
    have hlen:(Lz b (l.take j)).length≤1000000000:=by simp[Lz];omega
    generalize gC (l[j].2*b)=Y at*
    obtain⟨g,hg⟩: ∃g,g=(K.2&&Cr b (l.take j)):=⟨_,rfl⟩
    have e3:(K.2&&Cr b (l.take (j+1)))=(g&&Y.2):=by rw[e2,hg,Bool.and_assoc]
    rw[←hg]
    have E1:=Lib.hid e1
    have E3:=Lib.hid e3
    clear hg e2 e1 e3 pv pk
    cases g
    ·repeat' first|simp(disch:=omega) only[go_sem, *,ah hlt,mP,wrap_i64]|((with_reducible apply ab)<;>intro h<;>try omega)|(refine aF pt rfl rfl ?_)|(refine aJ rfl (by intro h;cases h) (aB rfl) (by simp;omega) (by simp;omega) ?_)
     refine⟨j+1, [(3,5)],hlt,by omega, ?_⟩
     simp[E1.out,E3.out]
    ·repeat' first|simp(disch:=omega) only[go_sem, *,ah hlt,mP,wrap_i64]|((with_reducible apply ab)<;>intro h<;>try omega)|(refine aF pt rfl rfl ?_)|(refine aJ rfl (by intro h;cases h) (aB rfl) (by simp;omega) (by simp;omega) ?_)
     refine⟨j+1, [(3,5)],hlt,by omega, ?_⟩
     simp[E1.out,E3.out]
   ·have e:l.take j=l:=List.take_of_length_le (by omega)
    rw[e]
    generalize (K.2&&Cr b l)=g at*
    cases g
    ·repeat' first|simp(disch:=omega) only[go_sem, *]|((with_reducible apply ab)<;>intro h<;>try omega)
     all_goals simp
    ·repeat' first|simp(disch:=omega) only[go_sem, *]|((with_reducible apply ab)<;>intro h<;>try omega)
     all_goals simp
 ·rw[bO,if_pos hok]
  rw[if_neg hok]at pv
  repeat' first|simp(disch:=omega) only[go_sem, *]|((with_reducible apply ab)<;>intro h<;>try omega)|(refine aF pv rfl rfl ?_)
  rfl
end Go.Proofs.YthbcbaembicdbaaGreatDoor
