import Derived.Test.YthkaaahphlneiaaGreatDoorPlain07b
import Derived.Lib.Hide
set_option linter.unusedVariables false
set_option linter.unusedSimpArgs false
set_option maxRecDepth 20000
namespace Go.Proofs.YthkaaahphlneiaaGreatDoor
open Go.Abs Go.RowKit
theorem qV {a b:Int} (ha:aA a) (hb:aA b):ac Tryz.prog Ej [I a,I b] (.tup [I (IntKind.wrap .i64 (a+b)),Go.Abs.B (decide (aA (a+b)))]):=by
 refine ac.of L6 (by simp) fun _=>aa ?_
 obtain⟨ha1,ha2⟩:=ha
 obtain⟨hb1,hb2⟩:=hb
 simp only[Fg]
 have e:(decide (IntKind.wrap .i64 (a+b)>a)==decide (b>0))=decide (aA (a+b)):=by
  rw[IntKind.wrap_i64]
  by_cases h1:aA (a+b)
  ·rw[decide_eq_true h1]
   unfold aA at h1
   have:(a+b+9223372036854775808)%18446744073709551616-9223372036854775808=a+b:=by omega
   rw[this]
   by_cases h2:b>0
   ·simp[h2];omega
   ·simp[h2];omega
  ·rw[decide_eq_false h1]
   unfold aA at h1
   by_cases h2:b>0
   ·have: ¬((a+b+9223372036854775808)%18446744073709551616-9223372036854775808>a):=by omega
    simp[h2,this]
   ·have:((a+b+9223372036854775808)%18446744073709551616-9223372036854775808>a):=by omega
    simp[h2,this]
 repeat' first|simp(disch:=omega) only[go_sem, *,e]|((with_reducible refine ab ?_ ?_)<;>intro h<;>try omega)
theorem eQ {n:Int} (hn:aA n):ac Tryz.prog rV [I n] (U n.natAbs):=by
 refine ac.of Ae (by simp) fun _=>aa ?_
 obtain⟨h1,h2⟩:=hn
 simp only[rX]
 by_cases h0:n<0
 ·have e1:IntKind.wrap .u64 n=n+18446744073709551616:=by rw[IntKind.wrap_u64];omega
  have e2:IntKind.wrap .u64 (0-(n+18446744073709551616))=n.natAbs:=by rw[IntKind.wrap_u64];omega
  repeat' first|simp(disch:=omega) only[go_sem, *,e1,e2]|((with_reducible refine ab ?_ ?_)<;>intro h<;>try omega)
 ·have e2:IntKind.wrap .u64 n=n.natAbs:=by rw[IntKind.wrap_u64];omega
  repeat' first|simp(disch:=omega) only[go_sem, *,e2]|((with_reducible refine ab ?_ ?_)<;>intro h<;>try omega)
theorem EW {x:Nat} (h:x<18446744073709551616):IntKind.wrap .u64 (Wz 64 (x:Int) 4294967295)=((x%4294967296:Nat):Int):=by
 have e:Wz 64 (x:Int) 4294967295=((x%4294967296:Nat):Int):=by
  show((BitVec.ofInt 64 (x:Int)&&&BitVec.ofInt 64 4294967295).toNat:Int)=_
  rw[BitVec.toNat_and]
  have h1:(BitVec.ofInt 64 (x:Int)).toNat=x:=by
   rw[BitVec.toNat_ofInt]
   omega
  have h2:(BitVec.ofInt 64 4294967295).toNat=2^32-1:=rfl
  rw[h1,h2,Nat.and_two_pow_sub_one_eq_mod]
 rw[e,wrap_u64 (by omega)]
theorem L7 {x:Nat}:Int.fdiv (x:Int) (2^min (Int.toNat 32) 64)=((x/4294967296:Nat):Int):=by
 show Int.fdiv (x:Int) 4294967296=_
 rw[Int.fdiv_eq_ediv_of_nonneg _ (by decide)]
 omega
theorem sk {a b:Nat} (ha:a<18446744073709551616) (hb:b<18446744073709551616):ac Tryz.prog vY [U a,U b] (.tup [U (a*b/18446744073709551616:Nat),U (a*b%18446744073709551616:Nat)]):=by
 refine ac.of DO (by simp) fun _=>aa ?_
 simp only[wT]
 have ea:=Nat.div_add_mod a 4294967296
 have eb:=Nat.div_add_mod b 4294967296
 have ha0:a%4294967296<4294967296:=Nat.mod_lt _ (by decide)
 have hb0:b%4294967296<4294967296:=Nat.mod_lt _ (by decide)
 have k1:=EW ha
 have k2:=EW hb
 have s1:=L7 (x:=a)
 have s2:=L7 (x:=b)
 generalize a%4294967296=a0 at*
 generalize a/4294967296=a1 at*
 generalize b%4294967296=b0 at*
 generalize b/4294967296=b1 at*
 have ha1:a1<4294967296:=by omega
 have hb1:b1<4294967296:=by omega
 have bd: ∀{x y:Nat},x<4294967296→y<4294967296→x*y≤18446744065119617025:=fun{x y} hx hy=>by
  have:=Nat.mul_le_mul (show x≤4294967295 by omega) (show y≤4294967295 by omega)
  omega
 have p00:=bd ha0 hb0
 have p10:=bd ha1 hb0
 have p01:=bd ha0 hb1
 have p11:=bd ha1 hb1
 have hprod:a*b=a1*b1*18446744073709551616+(a1*b0+a0*b1)*4294967296+a0*b0:=by
  rw[←ea,←eb,Nat.add_mul,Nat.mul_add,Nat.mul_add]
  have e1:4294967296*a1*(4294967296*b1)=18446744073709551616*(a1*b1):=by rw[Nat.mul_mul_mul_comm]
  have e2:4294967296*a1*b0=4294967296*(a1*b0):=by rw[Nat.mul_assoc]
  have e3:a0*(4294967296*b1)=4294967296*(a0*b1):=by rw[Nat.mul_left_comm]
  rw[e1,e2,e3]
  omega
 have hlow:IntKind.wrap .u64 ((a:Int)*(b:Int))=((a*b%18446744073709551616:Nat):Int):=by
  rw[←Int.natCast_mul,IntKind.wrap_u64]
  omega
 rw[hprod]at hlow ⊢
 have m00:IntKind.wrap .u64 ((a0:Int)*(b0:Int))=((a0*b0:Nat):Int):=by rw[←Int.natCast_mul,wrap_u64 (by omega)]
 have m10:IntKind.wrap .u64 ((a1:Int)*(b0:Int))=((a1*b0:Nat):Int):=by rw[←Int.natCast_mul,wrap_u64 (by omega)]
 have m01:IntKind.wrap .u64 ((a0:Int)*(b1:Int))=((a0*b1:Nat):Int):=by rw[←Int.natCast_mul,wrap_u64 (by omega)]
 have m11:IntKind.wrap .u64 ((a1:Int)*(b1:Int))=((a1*b1:Nat):Int):=by rw[←Int.natCast_mul,wrap_u64 (by omega)]
 generalize a0*b0=c00 at*
 generalize a1*b0=c10 at*
 generalize a0*b1=c01 at*
 generalize a1*b1=c11 at*
 have t1:IntKind.wrap .u64 ((c10:Int)+((c00/4294967296:Nat):Int))=((c10+c00/4294967296:Nat):Int):=by rw[←Int.natCast_add,wrap_u64 (by omega)]
 have t2:=EW (x:=c10+c00/4294967296) (by omega)
 have t3:IntKind.wrap .u64 ((c01:Int)+(((c10+c00/4294967296)%4294967296:Nat):Int))=((c01+(c10+c00/4294967296)%4294967296:Nat):Int):=by rw[←Int.natCast_add,wrap_u64 (by omega)]
 have t4:IntKind.wrap .u64 ((c11:Int)+(((c10+c00/4294967296)/4294967296:Nat):Int))=((c11+(c10+c00/4294967296)/4294967296:Nat):Int):=by rw[←Int.natCast_add,wrap_u64 (by omega)]
 have t5:IntKind.wrap .u64 (((c11+(c10+c00/4294967296)/4294967296:Nat):Int)+(((c01+(c10+c00/4294967296)%4294967296)/4294967296:Nat):Int))=(((c11*18446744073709551616+(c10+c01)*4294967296+c00)/18446744073709551616:Nat):Int):=by
  rw[←Int.natCast_add,wrap_u64 (by omega)]
  omega
 have u1:=L7 (x:=c00)
 have u2:=L7 (x:=c10+c00/4294967296)
 have u3:=L7 (x:=c01+(c10+c00/4294967296)%4294967296)
 clear hprod bd ea eb
 repeat' first|simp(disch:=omega) only[go_sem, *,k1,k2,s1,s2,hlow,m00,m10,m01,m11,t1,t2,t3,t4,t5,u1,u2,u3]|((with_reducible refine ab ?_ ?_)<;>intro h<;>try omega)
theorem YX {m:Int} (h:0≤m∧m≤9223372036854775808):IntKind.wrap .i64 (IntKind.wrap .u64 (0-m))= -m:=by
 rw[IntKind.wrap_u64,IntKind.wrap_i64];omega
theorem w5 {a b:Int} (ha:aA a) (hb:aA b):ac Tryz.prog AT [I a,I b] (Y0 (f9 (a*b))):=by
 refine ac.of Jw (by simp) fun _=>aa ?_
 have p1:=eQ ha
 have p2:=eQ hb
 have hA:a.natAbs≤9223372036854775808:=by unfold aA at ha;omega
 have hB:b.natAbs≤9223372036854775808:=by unfold aA at hb;omega
 have p3:=sk (a:=a.natAbs) (b:=b.natAbs) (by omega) (by omega)
 have hm:a.natAbs*b.natAbs=(a*b).natAbs:=(Int.natAbs_mul a b).symm
 rw[hm]at p3
 have hsgn:a*b=if decide (a<0)=decide (b<0)then((a*b).natAbs:Int)else-((a*b).natAbs:Int):=by
  by_cases h1:a<0<;>by_cases h2:b<0
  ·have:=Int.mul_pos_of_neg_of_neg h1 h2;simp[h1,h2];omega
  ·have:a*b≤0:=Int.mul_nonpos_of_nonpos_of_nonneg (by omega) (by omega)
   simp[h1,h2];omega
  ·have:a*b≤0:=Int.mul_nonpos_of_nonneg_of_nonpos (by omega) (by omega)
   simp[h1,h2];omega
  ·have:=Int.mul_nonneg (show 0≤a by omega) (show 0≤b by omega);simp[h1,h2];omega
 simp only[BA]
 generalize a*b=x at*
 generalize hn:x.natAbs=n at*
 have hlt:n≤85070591730234615865843651857942052864:=by
  rw[←hm]
  have:=Nat.mul_le_mul hA hB
  omega
 by_cases h1:a<0<;>by_cases h2:b<0<;>simp only[h1,h2,decide_true,decide_false,if_true,Bool.false_eq_true,Bool.true_eq_false,if_false,reduceCtorEq]at hsgn
 all_goals
  clear hm hA hB
  repeat' first|simp(disch:=omega) only[go_sem, *,YX,wrap_i64]|((with_reducible refine ab ?_ ?_)<;>intro h<;>try omega)|(refine av p1 rfl rfl ?_)|(refine av p2 rfl rfl ?_)|(refine av p3 rfl rfl ?_)
  all_goals
   try subst hsgn
   first
    |(rw[zp (by unfold aA;omega)];done)
    |(rw[rg (by unfold aA;omega),show((n%18446744073709551616:Nat):Int)=n by omega])
    |(rw[rg (by unfold aA;omega)];simp;omega)
abbrev KA (x:ca×Int):AV:= .tup [dj x.1.1 x.1.2,I x.2]
def bj (a:ca):Prop:=aA a.1∧ ∀m∈a.2,aA m.2
def ft (l:List aP):Prop:=l.length≤1000000000
theorem TP (k:Int) (l:List aP) (n:ByteArray):ac Tryz.prog Bq [dj k l,S n] (I (cf l n)):=by
 refine ac.of IX (by simp) fun hb=>aa ?_
 have hl:=nY hb.1
 obtain⟨R,hR⟩: ∃R,R=cf l n:=⟨_,rfl⟩
 rw[←hR]
 have HR:=Lib.hid hR
 clear hR
 simp only[Bz]
 repeat' first|simp(disch:=omega) only[go_sem, *]|((with_reducible refine ab ?_ ?_)<;>intro h<;>try omega)
 refine aj (fun k:Nat=>⟨[(1,S n),(8,.c (.pure (aE l))),(9,I l.length),(10,I k)], [],0,0⟩) (fun k=>k≤l.length∧Hid (R=cf (l.drop k) n)) (fun k=>l.length-k) ⟨0, [],⟨Nat.zero_le _,HR⟩,by simp⟩ ?_
 rintro j ⟨hj,HR⟩
 refine aa ?_
 by_cases hlt:j<l.length
 ·have h2:Hid (R=if l[j].1=n then l[j].2 else cf (l.drop (j+1)) n):=by
   have:=HR.out
   rwa [List.drop_eq_getElem_cons hlt,cf]at this
  clear HR
  by_cases e:l[j].1=n
  ·have h3:=h2.out
   rw[if_pos e]at h3
   subst h3
   repeat' first|simp(disch:=omega) only[go_sem, *,ae hlt,mP,wrap_i64,e]|((with_reducible refine ab ?_ ?_)<;>intro h<;>try omega)
  ·have h3:Hid (R=cf (l.drop (j+1)) n):=by
    have:=h2.out
    rwa [if_neg e]at this
   repeat' first|simp(disch:=omega) only[go_sem, *,ae hlt,mP,wrap_i64,e]|((with_reducible refine ab ?_ ?_)<;>intro h<;>try omega)
   exact⟨j+1, [],⟨hlt,h3⟩,by omega,by simp⟩
 ·have h2:=HR.out
  rw[List.drop_eq_nil_of_le (by omega),cf]at h2
  subst h2
  repeat' first|simp(disch:=omega) only[go_sem, *]|((with_reducible refine ab ?_ ?_)<;>intro h<;>try omega)
noncomputable def bJ (a:ca) (b:Int):ca×Int:=if ¬cd a.2 then((0, []),1)else nn a b
def zW (b:Int) (l:List aP):Bool:=l.all fun m=>(f9 (m.2*b)).2
theorem Mk {b:Int} {l:List aP}:zW b l=true↔ ∀m∈l,aA (m.2*b):=by
 simp[zW,Dw]
def Jn (b:Int) (l:List aP):List aP:=l.map fun m=>(m.1,(f9 (m.2*b)).1)
theorem Qe {b:Int} {l:List aP} {k:Nat} (h:k<l.length):(Jn b (l.take (k+1))).map mP=(Jn b (l.take k)).map mP++ [[pS l[k].1,pI (f9 (l[k].2*b)).1]]:=by
 rw[List.take_succ_eq_append_getElem h]
 show((l.take k++ [l[k]]).map _).map mP=_
 rw[List.map_append,List.map_append]
 rfl
theorem Qb {b:Int} {l:List aP} {k:Nat} (h:k<l.length):zW b (l.take (k+1))=(zW b (l.take k)&&(f9 (l[k].2*b)).2):=by
 rw[List.take_succ_eq_append_getElem h]
 show(l.take k++ [l[k]]).all _=_
 rw[List.all_append,List.all_cons,List.all_nil,Bool.and_true]
 rfl
theorem w7 {a:ca} {b:Int} (ha:bj a) (hb:aA b) (hs:ft a.2):ac Tryz.prog BO [dj a.1 a.2,I b] (KA (bJ a b)):=by
 refine ac.of Jv (by simp) fun _=>aa ?_
 obtain⟨c,l⟩:=a
 obtain⟨hc,hl64⟩:=ha
 simp only at hc hl64 hs
 have pv:=bD c l
 simp only[Bf]
 by_cases hok:cd l
 ·rw[bJ,if_neg (not_not_intro hok),nn]
  rw[if_pos hok]at pv
  by_cases hb0:b=0
  ·subst hb0
   rw[if_pos (.inl rfl),mF,if_pos rfl]
   repeat' first|simp(disch:=omega) only[go_sem, *]|((with_reducible refine ab ?_ ?_)<;>intro h<;>try omega)|(refine av pv rfl rfl ?_)
   rfl
  ·have pk:=w5 hc hb
   have hcond:(b=0∨qG (c,l) b)↔(f9 (c*b)).2=true∧zW b l=true:=by
    rw[Dw,Mk]
    constructor
    ·rintro(h|h)
     ·exact absurd h hb0
     ·exact h
    ·exact .inr
   have hval:(f9 (c*b)).2=true∧zW b l=true→mF (c,l) b=((f9 (c*b)).1,Jn b l):=by
    rintro⟨h1,h2⟩
    rw[mF,if_neg hb0,rg (Dw.1 h1),Jn]
    refine Prod.ext rfl (List.map_congr_left fun m hm=> ?_)
    rw[rg (Mk.1 h2 m hm)]
   have hend:(if b=0∨qG (c,l) b then(mF (c,l) b,0)else((0, []),3):ca×Int)=if((f9 (c*b)).2&&zW b l)=true then(((f9 (c*b)).1,Jn b l),0)else((0, []),3):=by
    by_cases h:(f9 (c*b)).2=true∧zW b l=true
    ·rw[if_pos (hcond.2 h),hval h,if_pos (by simp[h])]
    ·rw[if_neg (fun g=>h (hcond.1 g)),if_neg (by simpa using h)]
   rw[hend]
   clear hend hcond hval
   generalize f9 (c*b)=K at*
   unfold ft at hs
   repeat' first|simp(disch:=omega) only[go_sem, *,hb0]|((with_reducible refine ab ?_ ?_)<;>intro h<;>try omega)|(refine av pv rfl rfl ?_)|(refine av pk rfl rfl ?_)
   refine fc 2 1 89 2 _ rfl rfl (by decide) ?_
   refine aj (fun k:Nat=>⟨[(1,I b),(2,.c (.ptr 0 0)),(4,.c (.ptr 1 0)),(7,Go.Abs.B (K.2&&zW b (l.take k))),(8,.c (.ptr 2 0)),(30,.c (.pure (aE l))),(31,I l.length),(32,I k)],
    [(0,.var [.pure (pI c),.pure (aE l)]),(1,.var [.pure (pI 0),.nils]),(2,.var [.pure (pI K.1),.ref 3]),(3,.arr 89 2 ((Jn b (l.take k)).map mP))],4,0⟩) (fun k=>k≤l.length) (fun k=>l.length-k) ⟨0, [],Nat.zero_le _,by simp[zW,Jn]⟩ ?_
   intro j hj
   refine aa ?_
   by_cases hlt:j<l.length
   ·have pt:=w5 (hl64 _ (List.getElem_mem hlt)) hb
    have e1:=Qe (b:=b) hlt
    have e2:=Qb (b:=b) hlt
    have hlen:(Jn b (l.take j)).length≤1000000000:=by simp[Jn];omega
    generalize f9 (l[j].2*b)=Y at*
    obtain⟨g,hg⟩: ∃g,g=(K.2&&zW b (l.take j)):=⟨_,rfl⟩
    have e3:(K.2&&zW b (l.take (j+1)))=(g&&Y.2):=by rw[e2,hg,Bool.and_assoc]
    rw[←hg]
    have E1:=Lib.hid e1
    have E3:=Lib.hid e3
    clear hg e2 e1 e3 pv pk
    cases g
    ·repeat' first|simp(disch:=omega) only[go_sem, *,ae hlt,mP,wrap_i64]|((with_reducible refine ab ?_ ?_)<;>intro h<;>try omega)|(refine av pt rfl rfl ?_)|(refine aN rfl (by intro h;cases h) (aI rfl) (by simp;omega) (by simp;omega) ?_)
     refine⟨j+1, [(3,5)],hlt,by omega, ?_⟩
     simp[E1.out,E3.out]
    ·repeat' first|simp(disch:=omega) only[go_sem, *,ae hlt,mP,wrap_i64]|((with_reducible refine ab ?_ ?_)<;>intro h<;>try omega)|(refine av pt rfl rfl ?_)|(refine aN rfl (by intro h;cases h) (aI rfl) (by simp;omega) (by simp;omega) ?_)
     refine⟨j+1, [(3,5)],hlt,by omega, ?_⟩
     simp[E1.out,E3.out]
   ·have e:l.take j=l:=List.take_of_length_le (by omega)
    rw[e]
    generalize (K.2&&zW b l)=g at*
    cases g
    ·repeat' first|simp(disch:=omega) only[go_sem, *]|((with_reducible refine ab ?_ ?_)<;>intro h<;>try omega)
     all_goals simp
    ·repeat' first|simp(disch:=omega) only[go_sem, *]|((with_reducible refine ab ?_ ?_)<;>intro h<;>try omega)
     all_goals simp
 ·rw[bJ,if_pos hok]
  rw[if_neg hok]at pv
  repeat' first|simp(disch:=omega) only[go_sem, *]|((with_reducible refine ab ?_ ?_)<;>intro h<;>try omega)|(refine av pv rfl rfl ?_)
  rfl
end Go.Proofs.YthkaaahphlneiaaGreatDoor
