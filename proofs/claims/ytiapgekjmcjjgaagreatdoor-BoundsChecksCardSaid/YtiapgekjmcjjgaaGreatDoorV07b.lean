import Derived.Test.YtiapgekjmcjjgaaGreatDoorPlain07c
set_option maxHeartbeats 4000000
set_option linter.unusedVariables false
set_option linter.unusedSimpArgs false
set_option maxRecDepth 1000000
open Go.Proofs.Tryz renaming prog→Ya
namespace Go.Proofs.YtiapgekjmcjjgaaGreatDoor
open Go.Abs Go.RowKit
theorem od {a b:Int} (ha:am a) (hb:am b):ac Ya 175 [I a,I b] (.tup [I (IntKind.wrap .i64 (a+b)),Go.Abs.B (decide (am (a+b)))]):=by
 refine ac.of GB (by simp) λ_=>aa ?_
 obtain⟨v,C⟩:=ha
 obtain⟨w,D⟩:=hb
 conv in bh _ _=>cbv
 have e:(decide (IntKind.wrap .i64 (a+b)>a)==decide (b>0))=decide (am (a+b)):=by
  rw[IntKind.wrap_i64]
  by_cases h1:am (a+b)
  ·rw[decide_eq_true h1]
   unfold am at h1
   have:(a+b+9223372036854775808)%18446744073709551616-9223372036854775808=a+b:=by omega
   rw[this]
   by_cases h2:b>0
   ·simp[h2];omega
   ·simp[h2];omega
  ·rw[decide_eq_false h1]
   unfold am at h1
   by_cases h2:b>0
   ·have: ¬((a+b+9223372036854775808)%18446744073709551616-9223372036854775808>a):=by omega
    simp[h2,this]
   ·have:((a+b+9223372036854775808)%18446744073709551616-9223372036854775808>a):=by omega
    simp[h2,this]
 repeat' first|simp(disch:=omega)only[go_sem, *,e]|apply ab<;>intro h<;>try omega
theorem my {n:Int} (hn:am n):ac Ya 208 [I n] (U n.natAbs):=by
 refine ac.of wW (by simp) λ_=>aa ?_
 obtain⟨h1,h2⟩:=hn
 conv in bh _ _=>cbv
 by_cases h0:n<0
 ·have e1:IntKind.wrap .u64 n=n+18446744073709551616:=by rw[IntKind.wrap_u64];omega
  have e2:IntKind.wrap .u64 (0-(n+18446744073709551616))=n.natAbs:=by rw[IntKind.wrap_u64];omega
  repeat' first|simp(disch:=omega)only[go_sem, *,e1,e2]|apply ab<;>intro h<;>try omega
 ·have e2:IntKind.wrap .u64 n=n.natAbs:=by rw[IntKind.wrap_u64];omega
  repeat' first|simp(disch:=omega)only[go_sem, *,e2]|apply ab<;>intro h<;>try omega
theorem Bm {x:Nat} (h:x<18446744073709551616):IntKind.wrap .u64 (SM 64 (x:Int) 4294967295)=((x%4294967296:Nat):Int):=by
 have e:SM 64 (x:Int) 4294967295=((x%4294967296:Nat):Int):=by
  show((BitVec.ofInt 64 (x:Int)&&&BitVec.ofInt 64 4294967295).toNat:Int)=_
  rw[BitVec.toNat_and]
  have h1:(BitVec.ofInt 64 (x:Int)).toNat=x:=by
   rw[BitVec.toNat_ofInt]
   omega
  have h2:(BitVec.ofInt 64 4294967295).toNat=2^32-1:=rfl
  rw[h1,h2,Nat.and_two_pow_sub_one_eq_mod]
 rw[e,wrap_u64 (by omega)]
theorem FW {x:Nat}:Int.fdiv (x:Int) (2^min (Int.toNat 32) 64)=((x/4294967296:Nat):Int):=by
 show Int.fdiv (x:Int) 4294967296=_
 rw[Int.fdiv_eq_ediv_of_nonneg _ (by decide)]
 omega
theorem x8 {a b:Nat} (ha:a<18446744073709551616) (hb:b<18446744073709551616):ac Ya 207 [U a,U b] (.tup [U (a*b/18446744073709551616:Nat),U (a*b%18446744073709551616:Nat)]):=by
 refine ac.of zz (by simp) λ_=>aa ?_
 conv in bh _ _=>cbv
 have ea:=Nat.div_add_mod a 4294967296
 have eb:=Nat.div_add_mod b 4294967296
 have z:a%4294967296<4294967296:=Nat.mod_lt _ (by decide)
 have f:b%4294967296<4294967296:=Nat.mod_lt _ (by decide)
 have k1:=Bm ha
 have k2:=Bm hb
 have s1:=FW (x:=a)
 have s2:=FW (x:=b)
 generalize a%4294967296=a0 at*
 generalize a/4294967296=a1 at*
 generalize b%4294967296=b0 at*
 generalize b/4294967296=b1 at*
 have v:a1<4294967296:=by omega
 have w:b1<4294967296:=by omega
 have bd: ∀{x y:Nat},x<4294967296→y<4294967296→x*y≤18446744065119617025:= λ{x y} hx hy=>by
  have:=Nat.mul_le_mul (show x≤4294967295 by omega) (show y≤4294967295 by omega)
  omega
 have p00:=bd z f
 have p10:=bd v f
 have p01:=bd z w
 have p11:=bd v w
 have o:a*b=a1*b1*18446744073709551616+(a1*b0+a0*b1)*4294967296+a0*b0:=by
  rw[←ea,←eb,Nat.add_mul,Nat.mul_add,Nat.mul_add]
  have e1:4294967296*a1*(4294967296*b1)=18446744073709551616*(a1*b1):=by rw[Nat.mul_mul_mul_comm]
  have e2:4294967296*a1*b0=4294967296*(a1*b0):=by rw[Nat.mul_assoc]
  have e3:a0*(4294967296*b1)=4294967296*(a0*b1):=by rw[Nat.mul_left_comm]
  rw[e1,e2,e3]
  omega
 have q:IntKind.wrap .u64 ((a:Int)*(b:Int))=((a*b%18446744073709551616:Nat):Int):=by
  rw[←Int.natCast_mul,IntKind.wrap_u64]
  omega
 rw[o]at q ⊢
 have m00:IntKind.wrap .u64 ((a0:Int)*(b0:Int))=((a0*b0:Nat):Int):=by rw[←Int.natCast_mul,wrap_u64 (by omega)]
 have m10:IntKind.wrap .u64 ((a1:Int)*(b0:Int))=((a1*b0:Nat):Int):=by rw[←Int.natCast_mul,wrap_u64 (by omega)]
 have m01:IntKind.wrap .u64 ((a0:Int)*(b1:Int))=((a0*b1:Nat):Int):=by rw[←Int.natCast_mul,wrap_u64 (by omega)]
 have m11:IntKind.wrap .u64 ((a1:Int)*(b1:Int))=((a1*b1:Nat):Int):=by rw[←Int.natCast_mul,wrap_u64 (by omega)]
 generalize a0*b0=c00 at*
 generalize a1*b0=c10 at*
 generalize a0*b1=c01 at*
 generalize a1*b1=c11 at*
 have t1:IntKind.wrap .u64 ((c10:Int)+((c00/4294967296:Nat):Int))=((c10+c00/4294967296:Nat):Int):=by rw[←Int.natCast_add,wrap_u64 (by omega)]
 have t2:=Bm (x:=c10+c00/4294967296) (by omega)
 have t3:IntKind.wrap .u64 ((c01:Int)+(((c10+c00/4294967296)%4294967296:Nat):Int))=((c01+(c10+c00/4294967296)%4294967296:Nat):Int):=by rw[←Int.natCast_add,wrap_u64 (by omega)]
 have t4:IntKind.wrap .u64 ((c11:Int)+(((c10+c00/4294967296)/4294967296:Nat):Int))=((c11+(c10+c00/4294967296)/4294967296:Nat):Int):=by rw[←Int.natCast_add,wrap_u64 (by omega)]
 have t5:IntKind.wrap .u64 (((c11+(c10+c00/4294967296)/4294967296:Nat):Int)+(((c01+(c10+c00/4294967296)%4294967296)/4294967296:Nat):Int))=(((c11*18446744073709551616+(c10+c01)*4294967296+c00)/18446744073709551616:Nat):Int):=by
  rw[←Int.natCast_add,wrap_u64 (by omega)]
  omega
 have u1:=FW (x:=c00)
 have u2:=FW (x:=c10+c00/4294967296)
 have u3:=FW (x:=c01+(c10+c00/4294967296)%4294967296)
 clear o bd ea eb
 repeat' first|simp(disch:=omega)only[go_sem, *,k1,k2,s1,s2,q,m00,m10,m01,m11,t1,t2,t3,t4,t5,u1,u2,u3]|apply ab<;>intro h<;>try omega
theorem VU {m:Int} (h:0≤m∧m≤9223372036854775808):IntKind.wrap .i64 (IntKind.wrap .u64 (0-m))= -m:=by
 rw[IntKind.wrap_u64,IntKind.wrap_i64];omega
theorem th {a b:Int} (ha:am a) (hb:am b):ac Ya 178 [I a,I b] (Ts (dg (a*b))):=by
 refine ac.of FF (by simp) λ_=>aa ?_
 have p1:=my ha
 have p2:=my hb
 have hA:a.natAbs≤9223372036854775808:=by unfold am at ha;omega
 have hB:b.natAbs≤9223372036854775808:=by unfold am at hb;omega
 have p3:=x8 (a:=a.natAbs) (b:=b.natAbs) (by omega) (by omega)
 have hm:a.natAbs*b.natAbs=(a*b).natAbs:=(Int.natAbs_mul a b).symm
 rw[hm]at p3
 have r:a*b=if decide (a<0)=decide (b<0)then((a*b).natAbs:Int)else-((a*b).natAbs:Int):=by
  by_cases h1:a<0<;>by_cases h2:b<0
  ·have:=Int.mul_pos_of_neg_of_neg h1 h2;simp[h1,h2];omega
  ·have:a*b≤0:=Int.mul_nonpos_of_nonpos_of_nonneg (by omega) (by omega)
   simp[h1,h2];omega
  ·have:a*b≤0:=Int.mul_nonpos_of_nonneg_of_nonpos (by omega) (by omega)
   simp[h1,h2];omega
  ·have:=Int.mul_nonneg (show 0≤a by omega) (show 0≤b by omega);simp[h1,h2];omega
 conv in bh _ _=>cbv
 generalize a*b=x at*
 generalize hn:x.natAbs=n at*
 have d:n≤85070591730234615865843651857942052864:=by
  rw[←hm]
  have:=Nat.mul_le_mul hA hB
  omega
 by_cases h1:a<0<;>by_cases h2:b<0<;>simp only[h1,h2,decide_true,decide_false,if_true,Bool.false_eq_true,Bool.true_eq_false,if_false,reduceCtorEq]at r
 all_goals
  clear hm hA hB
  repeat' first|simp(disch:=omega)only[go_sem, *,VU,wrap_i64]|apply ab<;>intro h<;>try omega|refine aq p1 rfl rfl ?_|refine aq p2 rfl rfl ?_|refine aq p3 rfl rfl ?_
  all_goals
   try subst r
   first
    |(rw[i9 (by unfold am;omega)];done)
    |(rw[el (by unfold am;omega),show((n%18446744073709551616:Nat):Int)=n by omega])
    |(rw[el (by unfold am;omega)];simp;omega)
set_option maxRecDepth 20000
set_option maxRecDepth 1000000
abbrev GE (x:bW×Int):AV:= .tup [da x.1.1 x.1.2,I x.2]
def bl (a:bW):Prop:=am a.1∧ ∀m∈a.2,am m.2
def short (l:List aR):Prop:=l.length≤1000000000
theorem BX (k:Int) (l:List aR) (n:ByteArray):ac Ya 168 [da k l,S n] (I (cf l n)):=by
 refine ac.of En (by simp) λhb=>aa ?_
 have hl:=rJ hb.1
 obtain⟨R,hR⟩: ∃R,R=cf l n:=⟨_,rfl⟩
 rw[←hR]
 have HR:=Lib.hid hR
 clear hR
 conv in bh _ _=>cbv
 repeat' first|simp(disch:=omega)only[go_sem, *]|apply ab<;>intro h<;>try omega
 refine ai (λk:Nat=>⟨[(1,S n),(8,.c (.pure (ay l))),(9,I l.length),(10,I k)], [],0,0⟩) (λk=>k≤l.length∧Hid (R=cf (l.drop k) n)) (λk=>l.length-k) ⟨0, [],⟨Nat.zero_le _,HR⟩,by simp⟩ ?_
 rintro j ⟨hj,HR⟩
 refine aa ?_
 by_cases d:j<l.length
 ·have h2:Hid (R=if l[j].1=n then l[j].2 else cf (l.drop (j+1)) n):=by
   have:=HR.out
   rwa [List.drop_eq_getElem_cons d,cf]at this
  clear HR
  by_cases e:l[j].1=n
  ·have h3:=h2.out
   rw[if_pos e]at h3
   subst h3
   repeat' first|simp(disch:=omega)only[go_sem, *,ah d,mP,wrap_i64,e]|apply ab<;>intro h<;>try omega
  ·have h3:Hid (R=cf (l.drop (j+1)) n):=by
    have:=h2.out
    rwa [if_neg e]at this
   repeat' first|simp(disch:=omega)only[go_sem, *,ah d,mP,wrap_i64,e]|apply ab<;>intro h<;>try omega
   exact⟨j+1, [],⟨d,h3⟩,by omega,by simp⟩
 ·have h2:=HR.out
  rw[List.drop_eq_nil_of_le (by omega),cf]at h2
  subst h2
  repeat' first|simp(disch:=omega)only[go_sem, *]|apply ab<;>intro h<;>try omega
noncomputable def bM (a:bW) (b:Int):bW×Int:=if ¬aI a.2 then((0, []),1)else iT a b
def xj (b:Int) (l:List aR):Bool:=l.all λm=>(dg (m.2*b)).2
theorem F7 {b:Int} {l:List aR}:xj b l=true↔ ∀m∈l,am (m.2*b):=by
 simp[xj,jO]
def EA (b:Int) (l:List aR):List aR:=l.map λm=>(m.1,(dg (m.2*b)).1)
theorem MB {b:Int} {l:List aR} {k:Nat} (h:k<l.length):(EA b (l.take (k+1))).map mP=(EA b (l.take k)).map mP++ [[pS l[k].1,pI (dg (l[k].2*b)).1]]:=by
 rw[List.take_succ_eq_append_getElem h]
 show((l.take k++ [l[k]]).map _).map mP=_
 rw[List.map_append,List.map_append]
 rfl
theorem L7 {b:Int} {l:List aR} {k:Nat} (h:k<l.length):xj b (l.take (k+1))=(xj b (l.take k)&&(dg (l[k].2*b)).2):=by
 rw[List.take_succ_eq_append_getElem h]
 show(l.take k++ [l[k]]).all _=_
 rw[List.all_append,List.all_cons,List.all_nil,Bool.and_true]
 rfl
theorem jK {a:bW} {b:Int} (ha:bl a) (hb:am b) (hs:short a.2):ac Ya 135 [da a.1 a.2,I b] (GE (bM a b)):=by
 refine ac.of Fh (by simp) λ_=>aa ?_
 obtain⟨c,l⟩:=a
 obtain⟨hc,s⟩:=ha
 simp only at hc s hs
 have pv:=cw c l
 conv in bh _ _=>cbv
 by_cases p:aI l
 ·rw[bM,if_neg (not_not_intro p),iT]
  rw[if_pos p]at pv
  by_cases f:b=0
  ·subst f
   rw[if_pos (.inl rfl),bq,if_pos rfl]
   repeat' first|simp(disch:=omega)only[go_sem, *]|apply ab<;>intro h<;>try omega|refine aq pv rfl rfl ?_
   rfl
  ·have pk:=th hc hb
   have i:(b=0∨bY (c,l) b)↔(dg (c*b)).2=true∧xj b l=true:=by
    rw[jO,F7]
    constructor
    ·rintro(h|h)
     ·exact absurd h f
     ·exact h
    ·exact .inr
   have t:(dg (c*b)).2=true∧xj b l=true→bq (c,l) b=((dg (c*b)).1,EA b l):=by
    rintro⟨h1,h2⟩
    rw[bq,if_neg f,el (jO.1 h1),EA]
    refine Prod.ext rfl (List.map_congr_left λm hm=> ?_)
    rw[el (F7.1 h2 m hm)]
   have u:(if b=0∨bY (c,l) b then(bq (c,l) b,0)else((0, []),3):bW×Int)=if((dg (c*b)).2&&xj b l)=true then(((dg (c*b)).1,EA b l),0)else((0, []),3):=by
    by_cases h:(dg (c*b)).2=true∧xj b l=true
    ·rw[if_pos (i.2 h),t h,if_pos (by simp[h])]
    ·rw[if_neg (λg=>h (i.1 g)),if_neg (by simpa using h)]
   rw[u]
   clear u i t
   generalize dg (c*b)=K at*
   unfold short at hs
   repeat' first|simp(disch:=omega)only[go_sem, *,f]|apply ab<;>intro h<;>try omega|refine aq pv rfl rfl ?_|refine aq pk rfl rfl ?_
   refine ci 2 1 85 2 _ rfl rfl (by decide) ?_
   refine ai (λk:Nat=>⟨[(1,I b),(2,.c (.ptr 0 0)),(4,.c (.ptr 1 0)),(7,Go.Abs.B (K.2&&xj b (l.take k))),(8,.c (.ptr 2 0)),(30,.c (.pure (ay l))),(31,I l.length),(32,I k)],
    [(0,.var [.pure (pI c),.pure (ay l)]),(1,.var [.pure (pI 0),.nils]),(2,.var [.pure (pI K.1),.ref 3]),(3,.arr 85 2 ((EA b (l.take k)).map mP))],4,0⟩) (λk=>k≤l.length) (λk=>l.length-k) ⟨0, [],Nat.zero_le _,by simp[xj,EA]⟩ ?_
   intro j hj
   refine aa ?_
   by_cases d:j<l.length
   ·have pt:=th (s _ (List.getElem_mem d)) hb
    have e1:=MB (b:=b) d
    have e2:=L7 (b:=b) d
    have A:(EA b (l.take j)).length≤1000000000:=by simp[EA];omega
    generalize dg (l[j].2*b)=Y at*
    obtain⟨g,hg⟩: ∃g,g=(K.2&&xj b (l.take j)):=⟨_,rfl⟩
    have e3:(K.2&&xj b (l.take (j+1)))=(g&&Y.2):=by rw[e2,hg,Bool.and_assoc]
    rw[←hg]
    have E1:=Lib.hid e1
    have E3:=Lib.hid e3
    clear hg e2 e1 e3 pv pk
    cases g
    ·repeat' first|simp(disch:=omega)only[go_sem, *,ah d,mP,wrap_i64]|apply ab<;>intro h<;>try omega|refine aq pt rfl rfl ?_|refine aA rfl (by intro h;cases h) (an rfl) (by simp;omega) (by simp;omega) ?_
     refine⟨j+1, [(3,5)],d,by omega, ?_⟩
     simp[E1.out,E3.out]
    ·repeat' first|simp(disch:=omega)only[go_sem, *,ah d,mP,wrap_i64]|apply ab<;>intro h<;>try omega|refine aq pt rfl rfl ?_|refine aA rfl (by intro h;cases h) (an rfl) (by simp;omega) (by simp;omega) ?_
     refine⟨j+1, [(3,5)],d,by omega, ?_⟩
     simp[E1.out,E3.out]
   ·have e:l.take j=l:=List.take_of_length_le (by omega)
    rw[e]
    generalize (K.2&&xj b l)=g at*
    cases g
    ·repeat' first|simp(disch:=omega)only[go_sem, *]|apply ab<;>intro h<;>try omega
     all_goals simp
    ·repeat' first|simp(disch:=omega)only[go_sem, *]|apply ab<;>intro h<;>try omega
     all_goals simp
 ·rw[bM,if_pos p]
  rw[if_neg p]at pv
  repeat' first|simp(disch:=omega)only[go_sem, *]|apply ab<;>intro h<;>try omega|refine aq pv rfl rfl ?_
  rfl
end Go.Proofs.YtiapgekjmcjjgaaGreatDoor
