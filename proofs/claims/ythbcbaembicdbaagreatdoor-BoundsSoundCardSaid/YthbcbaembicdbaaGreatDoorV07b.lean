import Derived.Test.YthbcbaembicdbaaGreatDoorPlain07c
set_option linter.unusedVariables false
set_option linter.unusedSimpArgs false
set_option maxRecDepth 20000
namespace Go.Proofs.YthbcbaembicdbaaGreatDoor
open Go.Abs Go.RowKit
theorem sc {a b:Int} (ha:ar a) (hb:ar b):af Tryz.prog Et [I a,I b] (.tup [I (IntKind.wrap .i64 (a+b)),Go.Abs.B (decide (ar (a+b)))]):=by
 refine af.of Ly (by simp) λ_=>aa ?_
 obtain⟨ha1,ha2⟩:=ha
 obtain⟨hb1,hb2⟩:=hb
 simp only[Ev]
 have e:(decide (IntKind.wrap .i64 (a+b)>a)==decide (b>0))=decide (ar (a+b)):=by
  rw[IntKind.wrap_i64]
  by_cases h1:ar (a+b)
  ·rw[decide_eq_true h1]
   unfold ar at h1
   have:(a+b+9223372036854775808)%18446744073709551616-9223372036854775808=a+b:=by omega
   rw[this]
   by_cases h2:b>0
   ·simp[h2];omega
   ·simp[h2];omega
  ·rw[decide_eq_false h1]
   unfold ar at h1
   by_cases h2:b>0
   ·have: ¬((a+b+9223372036854775808)%18446744073709551616-9223372036854775808>a):=by omega
    simp[h2,this]
   ·have:((a+b+9223372036854775808)%18446744073709551616-9223372036854775808>a):=by omega
    simp[h2,this]
 repeat' first|simp(disch:=omega) only[go_sem, *,e]|((with_reducible apply ab)<;>intro h<;>try omega)
theorem eR {n:Int} (hn:ar n):af Tryz.prog sd [I n] (U n.natAbs):=by
 refine af.of Bb (by simp) λ_=>aa ?_
 obtain⟨h1,h2⟩:=hn
 simp only[sS]
 by_cases h0:n<0
 ·have e1:IntKind.wrap .u64 n=n+18446744073709551616:=by rw[IntKind.wrap_u64];omega
  have e2:IntKind.wrap .u64 (0-(n+18446744073709551616))=n.natAbs:=by rw[IntKind.wrap_u64];omega
  repeat' first|simp(disch:=omega) only[go_sem, *,e1,e2]|((with_reducible apply ab)<;>intro h<;>try omega)
 ·have e2:IntKind.wrap .u64 n=n.natAbs:=by rw[IntKind.wrap_u64];omega
  repeat' first|simp(disch:=omega) only[go_sem, *,e2]|((with_reducible apply ab)<;>intro h<;>try omega)
theorem Fj {x:Nat} (h:x<18446744073709551616):IntKind.wrap .u64 (ZH 64 (x:Int) 4294967295)=((x%4294967296:Nat):Int):=by
 have e:ZH 64 (x:Int) 4294967295=((x%4294967296:Nat):Int):=by
  show((BitVec.ofInt 64 (x:Int)&&&BitVec.ofInt 64 4294967295).toNat:Int)=_
  rw[BitVec.toNat_and]
  have h1:(BitVec.ofInt 64 (x:Int)).toNat=x:=by
   rw[BitVec.toNat_ofInt]
   omega
  have h2:(BitVec.ofInt 64 4294967295).toNat=2^32-1:=rfl
  rw[h1,h2,Nat.and_two_pow_sub_one_eq_mod]
 rw[e,wrap_u64 (by omega)]
theorem J8 {x:Nat}:Int.fdiv (x:Int) (2^min (Int.toNat 32) 64)=((x/4294967296:Nat):Int):=by
 show Int.fdiv (x:Int) 4294967296=_
 rw[Int.fdiv_eq_ediv_of_nonneg _ (by decide)]
 omega
theorem sw {a b:Nat} (ha:a<18446744073709551616) (hb:b<18446744073709551616):af Tryz.prog xk [U a,U b] (.tup [U (a*b/18446744073709551616:Nat),U (a*b%18446744073709551616:Nat)]):=by
 refine af.of FG (by simp) λ_=>aa ?_
 simp only[wI]
 have ea:=Nat.div_add_mod a 4294967296
 have eb:=Nat.div_add_mod b 4294967296
 have ha0:a%4294967296<4294967296:=Nat.mod_lt _ (by decide)
 have hb0:b%4294967296<4294967296:=Nat.mod_lt _ (by decide)
 have k1:=Fj ha
 have k2:=Fj hb
 have s1:=J8 (x:=a)
 have s2:=J8 (x:=b)
 generalize a%4294967296=a0 at*
 generalize a/4294967296=a1 at*
 generalize b%4294967296=b0 at*
 generalize b/4294967296=b1 at*
 have ha1:a1<4294967296:=by omega
 have hb1:b1<4294967296:=by omega
 have bd: ∀{x y:Nat},x<4294967296→y<4294967296→x*y≤18446744065119617025:= λ{x y} hx hy=>by
  have:=Nat.mul_le_mul (show x≤4294967295 by omega) (show y≤4294967295 by omega)
  omega
 have p00:=bd ha0 hb0
 have p10:=bd ha1 hb0
 have p01:=bd ha0 hb1
 have p11:=bd ha1 hb1
 have hprod:a*b=a1*b1*18446744073709551616+(a1*b0+a0*b1)*4294967296+a0*b0:=by
  rw[←ea,←eb,Nat.add_mul,Nat.mul_add,Nat.mul_add]
  have e1:4294967296*a1*(4294967296*b1)=18446744073709551616*(a1*b1):=by rw[Nat.mul_mul_mul_comm]
  have e2:4294967296*a1*b0=4294967296*(a1*b0):=by rw[Nat.mul_assoc]
  have e3:a0*(4294967296*b1)=4294967296*(a0*b1):=by rw[Nat.mul_left_comm]
  rw[e1,e2,e3]
  omega
 have hlow:IntKind.wrap .u64 ((a:Int)*(b:Int))=((a*b%18446744073709551616:Nat):Int):=by
  rw[←Int.natCast_mul,IntKind.wrap_u64]
  omega
 rw[hprod]at hlow ⊢
 have m00:IntKind.wrap .u64 ((a0:Int)*(b0:Int))=((a0*b0:Nat):Int):=by rw[←Int.natCast_mul,wrap_u64 (by omega)]
 have m10:IntKind.wrap .u64 ((a1:Int)*(b0:Int))=((a1*b0:Nat):Int):=by rw[←Int.natCast_mul,wrap_u64 (by omega)]
 have m01:IntKind.wrap .u64 ((a0:Int)*(b1:Int))=((a0*b1:Nat):Int):=by rw[←Int.natCast_mul,wrap_u64 (by omega)]
 have m11:IntKind.wrap .u64 ((a1:Int)*(b1:Int))=((a1*b1:Nat):Int):=by rw[←Int.natCast_mul,wrap_u64 (by omega)]
 generalize a0*b0=c00 at*
 generalize a1*b0=c10 at*
 generalize a0*b1=c01 at*
 generalize a1*b1=c11 at*
 have t1:IntKind.wrap .u64 ((c10:Int)+((c00/4294967296:Nat):Int))=((c10+c00/4294967296:Nat):Int):=by rw[←Int.natCast_add,wrap_u64 (by omega)]
 have t2:=Fj (x:=c10+c00/4294967296) (by omega)
 have t3:IntKind.wrap .u64 ((c01:Int)+(((c10+c00/4294967296)%4294967296:Nat):Int))=((c01+(c10+c00/4294967296)%4294967296:Nat):Int):=by rw[←Int.natCast_add,wrap_u64 (by omega)]
 have t4:IntKind.wrap .u64 ((c11:Int)+(((c10+c00/4294967296)/4294967296:Nat):Int))=((c11+(c10+c00/4294967296)/4294967296:Nat):Int):=by rw[←Int.natCast_add,wrap_u64 (by omega)]
 have t5:IntKind.wrap .u64 (((c11+(c10+c00/4294967296)/4294967296:Nat):Int)+(((c01+(c10+c00/4294967296)%4294967296)/4294967296:Nat):Int))=(((c11*18446744073709551616+(c10+c01)*4294967296+c00)/18446744073709551616:Nat):Int):=by
  rw[←Int.natCast_add,wrap_u64 (by omega)]
  omega
 have u1:=J8 (x:=c00)
 have u2:=J8 (x:=c10+c00/4294967296)
 have u3:=J8 (x:=c01+(c10+c00/4294967296)%4294967296)
 clear hprod bd ea eb
 repeat' first|simp(disch:=omega) only[go_sem, *,k1,k2,s1,s2,hlow,m00,m10,m01,m11,t1,t2,t3,t4,t5,u1,u2,u3]|((with_reducible apply ab)<;>intro h<;>try omega)
theorem abN {m:Int} (h:0≤m∧m≤9223372036854775808):IntKind.wrap .i64 (IntKind.wrap .u64 (0-m))= -m:=by
 rw[IntKind.wrap_u64,IntKind.wrap_i64];omega
theorem wT {a b:Int} (ha:ar a) (hb:ar b):af Tryz.prog Bu [I a,I b] (aOk (vp (a*b))):=by
 refine af.of Jo (by simp) λ_=>aa ?_
 have p1:=eR ha
 have p2:=eR hb
 have hA:a.natAbs≤9223372036854775808:=by unfold ar at ha;omega
 have hB:b.natAbs≤9223372036854775808:=by unfold ar at hb;omega
 have p3:=sw (a:=a.natAbs) (b:=b.natAbs) (by omega) (by omega)
 have hm:a.natAbs*b.natAbs=(a*b).natAbs:=(Int.natAbs_mul a b).symm
 rw[hm]at p3
 have hsgn:a*b=if decide (a<0)=decide (b<0)then((a*b).natAbs:Int)else-((a*b).natAbs:Int):=by
  by_cases h1:a<0<;>by_cases h2:b<0
  ·have:=Int.mul_pos_of_neg_of_neg h1 h2;simp[h1,h2];omega
  ·have:a*b≤0:=Int.mul_nonpos_of_nonpos_of_nonneg (by omega) (by omega)
   simp[h1,h2];omega
  ·have:a*b≤0:=Int.mul_nonpos_of_nonneg_of_nonpos (by omega) (by omega)
   simp[h1,h2];omega
  ·have:=Int.mul_nonneg (show 0≤a by omega) (show 0≤b by omega);simp[h1,h2];omega
 simp only[Cc]
 generalize a*b=x at*
 generalize hn:x.natAbs=n at*
 have hlt:n≤85070591730234615865843651857942052864:=by
  rw[←hm]
  have:=Nat.mul_le_mul hA hB
  omega
 by_cases h1:a<0<;>by_cases h2:b<0<;>simp only[h1,h2,decide_true,decide_false,if_true,Bool.false_eq_true,Bool.true_eq_false,if_false,reduceCtorEq]at hsgn
 all_goals
  clear hm hA hB
  repeat' first|simp(disch:=omega) only[go_sem, *,abN,wrap_i64]|((with_reducible apply ab)<;>intro h<;>try omega)|(refine aY p1 rfl rfl ?_)|(refine aY p2 rfl rfl ?_)|(refine aY p3 rfl rfl ?_)
  all_goals
   try subst hsgn
   first
    |(rw[UA (by unfold ar;omega)];done)
    |(rw[C7 (by unfold ar;omega),show((n%18446744073709551616:Nat):Int)=n by omega])
    |(rw[C7 (by unfold ar;omega)];simp;omega)
abbrev Sv (x:bU×Int):AV:= .tup [dR x.1.1 x.1.2,I x.2]
def br (a:bU):Prop:=ar a.1∧ ∀m∈a.2,ar m.2
def short (l:List aD):Prop:=l.length≤1000000000
theorem Gu (k:Int) (l:List aD) (n:ByteArray):af Tryz.prog BW [dR k l,S n] (I (cf l n)):=by
 refine af.of IJ (by simp) λhb=>aa ?_
 have hl:=vT hb.1
 obtain⟨R,hR⟩: ∃R,R=cf l n:=⟨_,rfl⟩
 rw[←hR]
 have HR:=Lib.hid hR
 clear hR
 simp only[BL]
 repeat' first|simp(disch:=omega) only[go_sem, *]|((with_reducible apply ab)<;>intro h<;>try omega)
 refine ap (λk:Nat=>⟨[(1,S n),(8,.c (.pure (aw l))),(9,I l.length),(10,I k)], [],0,0⟩) (λk=>k≤l.length∧Hid (R=cf (l.drop k) n)) (λk=>l.length-k) ⟨0, [],⟨Nat.zero_le _,HR⟩,by simp⟩ ?_
 rintro j ⟨hj,HR⟩
 refine aa ?_
 by_cases hlt:j<l.length
 ·have h2:Hid (R=if l[j].1=n then l[j].2 else cf (l.drop (j+1)) n):=by
   have:=HR.out
   rwa [List.drop_eq_getElem_cons hlt,cf]at this
  clear HR
  by_cases e:l[j].1=n
  ·have h3:=h2.out
   rw[if_pos e]at h3
   subst h3
   repeat' first|simp(disch:=omega) only[go_sem, *,ai hlt,mP,wrap_i64,e]|((with_reducible apply ab)<;>intro h<;>try omega)
  ·have h3:Hid (R=cf (l.drop (j+1)) n):=by
    have:=h2.out
    rwa [if_neg e]at this
   repeat' first|simp(disch:=omega) only[go_sem, *,ai hlt,mP,wrap_i64,e]|((with_reducible apply ab)<;>intro h<;>try omega)
   exact⟨j+1, [],⟨hlt,h3⟩,by omega,by simp⟩
 ·have h2:=HR.out
  rw[List.drop_eq_nil_of_le (by omega),cf]at h2
  subst h2
  repeat' first|simp(disch:=omega) only[go_sem, *]|((with_reducible apply ab)<;>intro h<;>try omega)
noncomputable def dP (a:bU) (b:Int):bU×Int:=if ¬bn a.2 then((0, []),1)else xW a b
def Aa (b:Int) (l:List aD):Bool:=l.all λm=>(vp (m.2*b)).2
theorem L6 {b:Int} {l:List aD}:Aa b l=true↔ ∀m∈l,ar (m.2*b):=by
 simp[Aa,Fl]
def Jy (b:Int) (l:List aD):List aD:=l.map λm=>(m.1,(vp (m.2*b)).1)
theorem Ri {b:Int} {l:List aD} {k:Nat} (h:k<l.length):(Jy b (l.take (k+1))).map mP=(Jy b (l.take k)).map mP++ [[pS l[k].1,pI (vp (l[k].2*b)).1]]:=by
 rw[List.take_succ_eq_append_getElem h]
 show((l.take k++ [l[k]]).map _).map mP=_
 rw[List.map_append,List.map_append]
 rfl
theorem QG {b:Int} {l:List aD} {k:Nat} (h:k<l.length):Aa b (l.take (k+1))=(Aa b (l.take k)&&(vp (l[k].2*b)).2):=by
 rw[List.take_succ_eq_append_getElem h]
 show(l.take k++ [l[k]]).all _=_
 rw[List.all_append,List.all_cons,List.all_nil,Bool.and_true]
 rfl
theorem kO {a:bU} {b:Int} (ha:br a) (hb:ar b) (hs:short a.2):af Tryz.prog BX [dR a.1 a.2,I b] (Sv (dP a b)):=by
 refine af.of JH (by simp) λ_=>aa ?_
 obtain⟨c,l⟩:=a
 obtain⟨hc,hl64⟩:=ha
 simp only at hc hl64 hs
 have pv:=bG c l
 simp only[BR]
 by_cases hok:bn l
 ·rw[dP,if_neg (not_not_intro hok),xW]
  rw[if_pos hok]at pv
  by_cases hb0:b=0
  ·subst hb0
   rw[if_pos (.inl rfl),de,if_pos rfl]
   repeat' first|simp(disch:=omega) only[go_sem, *]|((with_reducible apply ab)<;>intro h<;>try omega)|(refine aY pv rfl rfl ?_)
   rfl
  ·have pk:=wT hc hb
   have hcond:(b=0∨kL (c,l) b)↔(vp (c*b)).2=true∧Aa b l=true:=by
    rw[Fl,L6]
    constructor
    ·rintro(h|h)
     ·exact absurd h hb0
     ·exact h
    ·exact .inr
   have hval:(vp (c*b)).2=true∧Aa b l=true→de (c,l) b=((vp (c*b)).1,Jy b l):=by
    rintro⟨h1,h2⟩
    rw[de,if_neg hb0,C7 (Fl.1 h1),Jy]
    refine Prod.ext rfl (List.map_congr_left λm hm=> ?_)
    rw[C7 (L6.1 h2 m hm)]
   have hend:(if b=0∨kL (c,l) b then(de (c,l) b,0)else((0, []),3):bU×Int)=if((vp (c*b)).2&&Aa b l)=true then(((vp (c*b)).1,Jy b l),0)else((0, []),3):=by
    by_cases h:(vp (c*b)).2=true∧Aa b l=true
    ·rw[if_pos (hcond.2 h),hval h,if_pos (by simp[h])]
    ·rw[if_neg (λg=>h (hcond.1 g)),if_neg (by simpa using h)]
   rw[hend]
   clear hend hcond hval
   generalize vp (c*b)=K at*
   unfold short at hs
   repeat' first|simp(disch:=omega) only[go_sem, *,hb0]|((with_reducible apply ab)<;>intro h<;>try omega)|(refine aY pv rfl rfl ?_)|(refine aY pk rfl rfl ?_)
   refine dD 2 1 114 2 _ rfl rfl (by decide) ?_
   refine ap (λk:Nat=>⟨[(1,I b),(2,.c (.ptr 0 0)),(4,.c (.ptr 1 0)),(7,Go.Abs.B (K.2&&Aa b (l.take k))),(8,.c (.ptr 2 0)),(30,.c (.pure (aw l))),(31,I l.length),(32,I k)],
    [(0,.var [.pure (pI c),.pure (aw l)]),(1,.var [.pure (pI 0),.nils]),(2,.var [.pure (pI K.1),.ref 3]),(3,.arr 114 2 ((Jy b (l.take k)).map mP))],4,0⟩) (λk=>k≤l.length) (λk=>l.length-k) ⟨0, [],Nat.zero_le _,by simp[Aa,Jy]⟩ ?_
   intro j hj
   refine aa ?_
   by_cases hlt:j<l.length
   ·have pt:=wT (hl64 _ (List.getElem_mem hlt)) hb
    have e1:=Ri (b:=b) hlt
    have e2:=QG (b:=b) hlt
    have hlen:(Jy b (l.take j)).length≤1000000000:=by simp[Jy];omega
    generalize vp (l[j].2*b)=Y at*
    obtain⟨g,hg⟩: ∃g,g=(K.2&&Aa b (l.take j)):=⟨_,rfl⟩
    have e3:(K.2&&Aa b (l.take (j+1)))=(g&&Y.2):=by rw[e2,hg,Bool.and_assoc]
    rw[←hg]
    have E1:=Lib.hid e1
    have E3:=Lib.hid e3
    clear hg e2 e1 e3 pv pk
    cases g
    ·repeat' first|simp(disch:=omega) only[go_sem, *,ai hlt,mP,wrap_i64]|((with_reducible apply ab)<;>intro h<;>try omega)|(refine aY pt rfl rfl ?_)|(refine bf rfl (by intro h;cases h) (aO rfl) (by simp;omega) (by simp;omega) ?_)
     refine⟨j+1, [(3,5)],hlt,by omega, ?_⟩
     simp[E1.out,E3.out]
    ·repeat' first|simp(disch:=omega) only[go_sem, *,ai hlt,mP,wrap_i64]|((with_reducible apply ab)<;>intro h<;>try omega)|(refine aY pt rfl rfl ?_)|(refine bf rfl (by intro h;cases h) (aO rfl) (by simp;omega) (by simp;omega) ?_)
     refine⟨j+1, [(3,5)],hlt,by omega, ?_⟩
     simp[E1.out,E3.out]
   ·have e:l.take j=l:=List.take_of_length_le (by omega)
    rw[e]
    generalize (K.2&&Aa b l)=g at*
    cases g
    ·repeat' first|simp(disch:=omega) only[go_sem, *]|((with_reducible apply ab)<;>intro h<;>try omega)
     all_goals simp
    ·repeat' first|simp(disch:=omega) only[go_sem, *]|((with_reducible apply ab)<;>intro h<;>try omega)
     all_goals simp
 ·rw[dP,if_pos hok]
  rw[if_neg hok]at pv
  repeat' first|simp(disch:=omega) only[go_sem, *]|((with_reducible apply ab)<;>intro h<;>try omega)|(refine aY pv rfl rfl ?_)
  rfl
end Go.Proofs.YthbcbaembicdbaaGreatDoor
