import Derived.Test.YtjhkikmonejkjaaGreatDoorLaw
import Derived.Test.YtjhkikmonejkjaaGreatDoorPlain09
import Derived.Lib.Hide
set_option linter.unusedVariables false
set_option linter.unusedSimpArgs false
set_option maxRecDepth 20000
open Go.Proofs.Tryz renaming prog→Ya
namespace Go.Proofs.YtjhkikmonejkjaaGreatDoor
open Go.Abs Go.RowKit
noncomputable section
abbrev mI (ms:List Int):AV:= .agg [.pure (ce ms)]
theorem xB {ms:List Int} (h:eW (mI ms)):ms.length≤9223372036854775807:=by simpa[eW,jP,ft]using h
theorem zX {xs:List Int} {k:Nat} (h:k<xs.length):fU (xs.take (k+1))=fU (xs.take k)*xs[k]:=by
 rw[Cz h]
 simp[h]
theorem wz {xs:List Int}: ∀{k:Nat},k≤xs.length→bI (λi=> ∀h:i<xs.length,1≤xs[i]∧xs[i]≤16) k→1≤fU (xs.take k)∧fU (xs.take k)≤16^k
 |0,_,_=>by simp[fU]
 |k+1,hk,h=>by
  have h1:=wz (k:=k) (by omega) λi hi=>h i (by omega)
  have h2:=h k (by omega) (by omega)
  rw[zX (by omega)]
  constructor
  ·have:=Int.mul_le_mul h1.1 h2.1 (by omega) (by omega)
   omega
  ·have:=Int.mul_le_mul h1.2 h2.2 (by omega) (by have:=h1.1;omega)
   rw[Int.pow_succ]
   exact this
theorem Ga {ms:List Int} (h1: ¬(ms.length:Int)<1) (h2: ¬(ms.length:Int)>3) (h:bI (λi=> ∀h:i<ms.length,1≤ms[i]∧ms[i]≤16) ms.length) (hp: ¬fU ms>16):lA ms:=by
 refine⟨by omega,by omega,λx hx=> ?_,by omega⟩
 obtain⟨i,hi,rfl⟩:=List.mem_iff_getElem.1 hx
 exact h i hi hi
theorem iG (ms:List Int):af Ya qm [mI ms] (I (kz ms)):=by
 refine af.of zw (by simp) λhb=>aa ?_
 have hl:=xB hb.1
 simp only[qk]
 repeat' first|simp(disch:=omega)only[go_sem]|((with_reducible refine ab ?_ ?_)<;>intro h<;>try first|omega|simp(disch:=omega)only[go_sem, *])
 ·rw[gk];rintro⟨g1,g2,_⟩;omega
 ·rw[gk];rintro⟨g1,g2,_⟩;omega
 ·refine ai (λk:Nat=>⟨[(3,I (fU (ms.take k))),(17,bw ms),(18,I ms.length),(19,I k)], [],1,0⟩) (λk=>k≤ms.length∧bI (λi=> ∀h:i<ms.length,1≤ms[i]∧ms[i]≤16) k) (λk=>ms.length-k) ⟨0, [],⟨by omega,.zero⟩,by simp[fU]⟩ ?_
  rintro k ⟨hk,d⟩
  refine aa ?_
  have w:=wz hk d
  have D:(16:Int)^k≤4096:=by
   have:k=0∨k=1∨k=2∨k=3:=by omega
   rcases this with rfl|rfl|rfl|rfl<;>decide
  by_cases b:k<ms.length
  ·have hmul:1≤ms[k]∧ms[k]≤16→aX (fU (ms.take k)*ms[k]):= λh=>by
    have:=Int.mul_le_mul (show fU (ms.take k)≤4096 by omega) h.2 (by omega) (by omega)
    have:=Int.mul_nonneg (show 0≤fU (ms.take k) by omega) (show 0≤ms[k] by omega)
    unfold aX;omega
   have HM:=Lib.hid hmul
   clear hmul D w
   repeat' first|simp(disch:=omega)only[go_sem,ac b,wrap_i64]|((with_reducible refine ab ?_ ?_)<;>intro h<;>try first|omega|simp(disch:=omega)only[go_sem, *,ac b,wrap_i64])
   all_goals first
    |(rw[gk];rintro⟨_,_,g3,_⟩;have:=g3 _ (List.getElem_mem b);omega)
    |(have hm:=HM.out ⟨by omega,by omega⟩;refine⟨k+1, [],⟨by omega,d.succ λ_=>⟨by omega,by omega⟩⟩,by omega, ?_⟩;simp[zX b,wrap_i64 hm])
  ·have e:ms.take k=ms:=List.take_of_length_le (by omega)
   have e2:k=ms.length:=by omega
   rw[e]at w ⊢
   rw[e2]at d
   repeat' first|simp(disch:=omega)only[go_sem]|((with_reducible refine ab ?_ ?_)<;>intro h<;>try first|omega|simp(disch:=omega)only[go_sem, *])
   ·rw[gk];rintro⟨_,_,_,g4⟩;omega
   ·rw[ow (Ga (by omega) (by omega) d (by omega))]
theorem gJ (ms:List Int):af Ya nN [mI ms] (I (kz ms)):=by
 refine af.of xN (by simp) λhb=>aa ?_
 have hl:=xB hb.1
 simp only[nG]
 repeat' first|simp(disch:=omega)only[go_sem]|((with_reducible refine ab ?_ ?_)<;>intro h<;>try first|omega|simp(disch:=omega)only[go_sem, *])
 ·rw[gk];rintro⟨g1,g2,_⟩;omega
 ·rw[gk];rintro⟨g1,g2,_⟩;omega
 ·refine ai (λk:Nat=>⟨[(1,.c (.ptr 0 0)),(3,I (fU (ms.take k))),(4,I k)], [(0,.var [.pure (ce ms)])],1,0⟩) (λk=>k≤ms.length∧bI (λi=> ∀h:i<ms.length,1≤ms[i]∧ms[i]≤16) k) (λk=>ms.length-k) ⟨0, [],⟨by omega,.zero⟩,by simp[fU]⟩ ?_
  rintro k ⟨hk,d⟩
  refine aa ?_
  have w:=wz hk d
  have D:(16:Int)^k≤4096:=by
   have:k=0∨k=1∨k=2∨k=3:=by omega
   rcases this with rfl|rfl|rfl|rfl<;>decide
  by_cases b:k<ms.length
  ·have hmul:1≤ms[k]∧ms[k]≤16→aX (fU (ms.take k)*ms[k]):= λh=>by
    have:=Int.mul_le_mul (show fU (ms.take k)≤4096 by omega) h.2 (by omega) (by omega)
    have:=Int.mul_nonneg (show 0≤fU (ms.take k) by omega) (show 0≤ms[k] by omega)
    unfold aX;omega
   have HM:=Lib.hid hmul
   clear hmul D w
   repeat' first|simp(disch:=omega)only[go_sem,ac b,wrap_i64]|((with_reducible refine ab ?_ ?_)<;>intro h<;>try first|omega|simp(disch:=omega)only[go_sem, *,ac b,wrap_i64])
   all_goals first
    |(rw[gk];rintro⟨_,_,g3,_⟩;have:=g3 _ (List.getElem_mem b);omega)
    |(have hm:=HM.out ⟨by omega,by omega⟩;refine⟨k+1, [],⟨by omega,d.succ λ_=>⟨by omega,by omega⟩⟩,by omega, ?_⟩;simp[zX b,wrap_i64 hm])
  ·have e:ms.take k=ms:=List.take_of_length_le (by omega)
   have e2:k=ms.length:=by omega
   rw[e]at w ⊢
   rw[e2]at d
   repeat' first|simp(disch:=omega)only[go_sem]|((with_reducible refine ab ?_ ?_)<;>intro h<;>try first|omega|simp(disch:=omega)only[go_sem, *])
   ·rw[gk];rintro⟨_,_,_,g4⟩;omega
   ·rw[ow (Ga (by omega) (by omega) d (by omega))]
theorem wg (xs:List Int):af Ya oW [bw xs] (I (Jx xs)):=by
 refine af.of yB (by simp) λhb=>aa ?_
 have hx:xs.length≤9223372036854775807:=by simpa[fL,eW,ft]using hb.1
 simp only[oL]
 repeat' first|simp(disch:=omega)only[go_sem]|((with_reducible refine ab ?_ ?_)<;>intro h<;>try first|omega|simp(disch:=omega)only[go_sem, *])
 ·rw[Hg (by omega)]
 refine ai (λk:Nat=>⟨[(0,bw xs),(11,bw xs),(12,I xs.length),(13,I k)], [],0,0⟩) (λk=>k≤xs.length∧bI (λi=> ∀h:i<xs.length,1≤xs[i]) k) (λk=>xs.length-k) ⟨0, [],⟨by omega,.zero⟩,by simp⟩ ?_
 rintro k ⟨hk,d⟩
 refine aa ?_
 by_cases b:k<xs.length
 ·have J:xs[k]?.getD 0=xs[k]:=by simp[b]
  repeat' first|simp(disch:=omega)only[go_sem,ac b,wrap_i64]|((with_reducible refine ab ?_ ?_)<;>intro h<;>try first|omega|simp(disch:=omega)only[go_sem, *,ac b,wrap_i64])
  ·rw[MC (by omega) b (by omega)]
  ·exact⟨k+1, [],⟨by omega,d.succ λ_=>by omega⟩,by omega,by simp⟩
 ·have p: ∀x∈xs,1≤x:=by
   intro x hm
   obtain⟨i,hi,rfl⟩:=List.mem_iff_getElem.1 hm
   exact d i (by omega) hi
  have hv:=CT (xs:=xs) (by omega) p
  have HP:=Lib.hid p
  rw[hv]
  obtain⟨R,hR⟩: ∃R,R=dI xs 1:=⟨_,rfl⟩
  rw[←hR]
  have HR:=Lib.hid hR
  clear hv p hR d
  repeat' first|simp(disch:=omega)only[go_sem]|((with_reducible refine ab ?_ ?_)<;>intro h<;>try first|omega|simp(disch:=omega)only[go_sem, *])
  refine ai (λs:Nat×Int=>⟨[(5,I s.2),(20,bw xs),(21,I xs.length),(22,I s.1)], [],0,0⟩) (λs=>s.1≤xs.length∧1≤s.2∧s.2≤4096∧Hid (R=dI (xs.drop s.1) s.2)) (λs=>xs.length-s.1) ⟨(0,1), [],⟨by show 0≤_;omega,by show(1:Int)≤1;decide,by show(1:Int)≤4096;decide,HR⟩,by simp⟩ ?_
  rintro⟨j,s⟩ ⟨hj,u,A,HR⟩
  refine aa ?_
  simp only at hj u A
  by_cases g:j<xs.length
  ·have h1:=HP.out _ (List.getElem_mem g)
   have HR':Hid (R=if 4096/s<xs[j]then 2 else dI (xs.drop (j+1)) (s*xs[j])):=by
    have:=HR.out
    rwa [List.drop_eq_getElem_cons g,dI]at this
   clear HR
   have eq:Int.tdiv 4096 s=4096/s:=Int.tdiv_eq_ediv_of_nonneg (by decide)
   have P:0≤4096/s:=Int.ediv_nonneg (by decide) (by omega)
   have Q:4096/s≤4096:=Int.ediv_le_self _ (by decide)
   have m:s≠0:=by omega
   by_cases hq:4096/s<xs[j]
   ·have e:R=2:=by rw[HR'.out,if_pos hq]
    subst e
    repeat' first|simp(disch:=omega)only[go_sem,ac g,wrap_i64,eq,m,ne_eq]|((with_reducible refine ab ?_ ?_)<;>intro h<;>try first|omega|simp(disch:=omega)only[go_sem, *,ac g,wrap_i64,eq,m,ne_eq])
   ·have E:=KG u hq
    have F:=lL u h1
    have e:Hid (R=dI (xs.drop (j+1)) (s*xs[j])):=by
     have:=HR'.out
     rwa [if_neg hq]at this
    have hm:IntKind.wrap .i64 (s*xs[j])=s*xs[j]:=wrap_i64 (by omega)
    clear HR'
    repeat' first|simp(disch:=omega)only[go_sem,ac g,wrap_i64,eq,m,ne_eq,hm]|((with_reducible refine ab ?_ ?_)<;>intro h<;>try first|omega|simp(disch:=omega)only[go_sem, *,ac g,wrap_i64,eq,m,ne_eq,hm])
    exact⟨(j+1,s*xs[j]), [],⟨g,F,E,e⟩,by show _-_<_-_;omega,by simp⟩
  ·have hR:=HR.out
   simp only at hR
   rw[List.drop_eq_nil_of_le (by omega),dI]at hR
   subst hR
   repeat' first|simp(disch:=omega)only[go_sem]|((with_reducible refine ab ?_ ?_)<;>intro h<;>try first|omega|simp(disch:=omega)only[go_sem, *])
theorem vL (xs:List Int):af Ya nF [bw xs] (I (Jx xs)):=by
 refine af.of yI (by simp) λhb=>aa ?_
 have hx:xs.length≤9223372036854775807:=by simpa[fL,eW,ft]using hb.1
 simp only[nL]
 repeat' first|simp(disch:=omega)only[go_sem]|((with_reducible refine ab ?_ ?_)<;>intro h<;>try first|omega|simp(disch:=omega)only[go_sem, *])
 ·rw[Hg (by omega)]
 refine ai (λk:Nat=>⟨[(0,bw xs),(3,I k)], [],0,0⟩) (λk=>k≤xs.length∧bI (λi=> ∀h:i<xs.length,1≤xs[i]) k) (λk=>xs.length-k) ⟨0, [],⟨by omega,.zero⟩,by simp⟩ ?_
 rintro k ⟨hk,d⟩
 refine aa ?_
 by_cases b:k<xs.length
 ·have J:xs[k]?.getD 0=xs[k]:=by simp[b]
  repeat' first|simp(disch:=omega)only[go_sem,ac b,wrap_i64]|((with_reducible refine ab ?_ ?_)<;>intro h<;>try first|omega|simp(disch:=omega)only[go_sem, *,ac b,wrap_i64])
  ·rw[MC (by omega) b (by omega)]
  ·exact⟨k+1, [],⟨by omega,d.succ λ_=>by omega⟩,by omega,by simp⟩
 ·have p: ∀x∈xs,1≤x:=by
   intro x hm
   obtain⟨i,hi,rfl⟩:=List.mem_iff_getElem.1 hm
   exact d i (by omega) hi
  have hv:=CT (xs:=xs) (by omega) p
  have HP:=Lib.hid p
  rw[hv]
  obtain⟨R,hR⟩: ∃R,R=dI xs 1:=⟨_,rfl⟩
  rw[←hR]
  have HR:=Lib.hid hR
  clear hv p hR d
  repeat' first|simp(disch:=omega)only[go_sem]|((with_reducible refine ab ?_ ?_)<;>intro h<;>try first|omega|simp(disch:=omega)only[go_sem, *])
  refine ai (λs:Nat×Int=>⟨[(0,bw xs),(4,I s.2),(5,I s.1)], [],0,0⟩) (λs=>s.1≤xs.length∧1≤s.2∧s.2≤4096∧Hid (R=dI (xs.drop s.1) s.2)) (λs=>xs.length-s.1) ⟨(0,1), [],⟨by show 0≤_;omega,by show(1:Int)≤1;decide,by show(1:Int)≤4096;decide,HR⟩,by simp⟩ ?_
  rintro⟨j,s⟩ ⟨hj,u,A,HR⟩
  refine aa ?_
  simp only at hj u A
  by_cases g:j<xs.length
  ·have h1:=HP.out _ (List.getElem_mem g)
   have HR':Hid (R=if 4096/s<xs[j]then 2 else dI (xs.drop (j+1)) (s*xs[j])):=by
    have:=HR.out
    rwa [List.drop_eq_getElem_cons g,dI]at this
   clear HR
   have F:=lL u h1
   by_cases N:xs[j]>4096
   ·have hq:4096/s<xs[j]:=by have:=Int.ediv_le_self (a:=4096) s (by decide);omega
    have e:R=2:=by rw[HR'.out,if_pos hq]
    subst e
    repeat' first|simp(disch:=omega)only[go_sem,ac g,wrap_i64]|((with_reducible refine ab ?_ ?_)<;>intro h<;>try first|omega|simp(disch:=omega)only[go_sem, *,ac g,wrap_i64])
   ·have o:=Nk u A h1 (by omega)
    have hm:IntKind.wrap .i64 (s*xs[j])=s*xs[j]:=wrap_i64 (by omega)
    by_cases hq:4096/s<xs[j]
    ·have e:R=2:=by rw[HR'.out,if_pos hq]
     have O:=Qy u hq
     subst e
     clear HR'
     repeat' first|simp(disch:=omega)only[go_sem,ac g,wrap_i64,hm]|((with_reducible refine ab ?_ ?_)<;>intro h<;>try first|omega|simp(disch:=omega)only[go_sem, *,ac g,wrap_i64,hm])
    ·have E:=KG u hq
     have e:Hid (R=dI (xs.drop (j+1)) (s*xs[j])):=by
      have:=HR'.out
      rwa [if_neg hq]at this
     clear HR'
     repeat' first|simp(disch:=omega)only[go_sem,ac g,wrap_i64,hm]|((with_reducible refine ab ?_ ?_)<;>intro h<;>try first|omega|simp(disch:=omega)only[go_sem, *,ac g,wrap_i64,hm])
     exact⟨(j+1,s*xs[j]), [],⟨g,F,E,e⟩,by show _-_<_-_;omega,by simp⟩
  ·have hR:=HR.out
   simp only at hR
   rw[List.drop_eq_nil_of_le (by omega),dI]at hR
   subst hR
   repeat' first|simp(disch:=omega)only[go_sem]|((with_reducible refine ab ?_ ?_)<;>intro h<;>try first|omega|simp(disch:=omega)only[go_sem, *])
def nT:List Int→Int→Nat→Int
 | [],_,_=> -1
 |y::r,x,k=>if x=y then k else nT r x (k+1)
theorem Dh: ∀(xs:List Int) (x:Int) (k:Nat),(0≤nT xs x k↔x∈xs)
 | [],x,k=>by simp[nT]
 |y::r,x,k=>by
  rw[nT]
  by_cases e:x=y
  ·rw[if_pos e];simp[e]
  ·rw[if_neg e,Dh r x (k+1)];simp[e]
theorem zH (xs:List Int) (x:Int):af Ya fq [bw xs,I x] (I (nT xs x 0)):=by
 refine af.of ke (by simp) λhb=>aa ?_
 have hx:xs.length≤9223372036854775807:=by simpa[fL,eW,ft]using hb.1
 obtain⟨R,hR⟩: ∃R,R=nT xs x 0:=⟨_,rfl⟩
 rw[←hR]
 have HR:=Lib.hid hR
 clear hR
 simp only[fk]
 repeat' first|simp(disch:=omega)only[go_sem]|((with_reducible refine ab ?_ ?_)<;>intro h<;>try first|omega|simp(disch:=omega)only[go_sem, *])
 refine ai (λk:Nat=>⟨[(0,bw xs),(1,I x),(7,I xs.length),(8,I k)], [],0,0⟩) (λk=>k≤xs.length∧Hid (R=nT (xs.drop k) x k)) (λk=>xs.length-k) ⟨0, [],⟨by omega,HR⟩,by simp⟩ ?_
 rintro k ⟨hk,HR⟩
 refine aa ?_
 by_cases b:k<xs.length
 ·have HR':Hid (R=if x=xs[k]then(k:Int)else nT (xs.drop (k+1)) x (k+1)):=by
   have:=HR.out
   rwa [List.drop_eq_getElem_cons b,nT]at this
  clear HR
  by_cases e:x=xs[k]
  ·have h2:=HR'.out
   rw[if_pos e]at h2
   subst h2
   subst e
   repeat' first|simp(disch:=omega)only[go_sem,ac b,wrap_i64]|((with_reducible refine ab ?_ ?_)<;>intro h<;>try first|omega|simp(disch:=omega)only[go_sem, *,ac b,wrap_i64])
  ·have h2:Hid (R=nT (xs.drop (k+1)) x (k+1)):=by
    have:=HR'.out
    rwa [if_neg e]at this
   repeat' first|simp(disch:=omega)only[go_sem,ac b,wrap_i64]|((with_reducible refine ab ?_ ?_)<;>intro h<;>try first|omega|simp(disch:=omega)only[go_sem, *,ac b,wrap_i64])
   exact⟨k+1, [],⟨by omega,h2⟩,by omega,by simp⟩
 ·have h2:=HR.out
  rw[List.drop_eq_nil_of_le (by omega),nT]at h2
  subst h2
  repeat' first|simp(disch:=omega)only[go_sem]|((with_reducible refine ab ?_ ?_)<;>intro h<;>try first|omega|simp(disch:=omega)only[go_sem, *])
theorem tW (xs:List Int) (x:Int):af Ya c8 [bw xs,I x] (Go.Abs.B (decide (x∈xs))):=by
 refine af.of iW (by simp) λhb=>aa ?_
 have h:=Dh xs x 0
 have e:decide (nT xs x 0≥0)=decide (x∈xs):=by rw[decide_eq_decide];exact h
 simp only[eG]
 repeat' first|simp(disch:=omega)only[go_sem]|((with_reducible refine ab ?_ ?_)<;>intro h<;>try first|omega|simp(disch:=omega)only[go_sem, *])|refine ae (zH _ _) rfl (.inl rfl) ?_
 rw[e]
def Ol (n:Nat) (ss:List Int) (i:Nat):Prop:= ∀h:i<ss.length,-1≤ss[i]∧ss[i]<n∧(0≤ss[i]→ ¬ss[i]∈ss.take i)
def De (n:Nat) (ss:List Int):Prop:=bI (Ol n ss) ss.length
instance (n:Nat) (ss:List Int):Decidable (De n ss):=Classical.propDecidable _
def IB (ms ds ss:List Int) (i:Nat):Prop:= ∀h:i<ss.length,0≤ss[i]→ds[i]?.getD 0%ms[ss[i].toNat]?.getD 0=0
def Ev (ms ds ss:List Int):Prop:=bI (IB ms ds ss) ss.length
instance (ms ds ss:List Int):Decidable (Ev ms ds ss):=Classical.propDecidable _
def gr (ms ds ss:List Int):Int:=
 if ¬lA ms then 23 else if Jx ds≠0 then Jx ds else if ¬(ss.length=ds.length∧De ms.length ss)then 24 else if Ev ms ds ss then 0 else 15
theorem y7 (ms ss:List Int):af Ya qA [mI ms,bw ss] (Go.Abs.B (decide (De ms.length ss))):=by
 refine af.of zG (by simp) λhb=>aa ?_
 have hl:=xB hb.1
 have hx:ss.length≤9223372036854775807:=by simpa[fL,eW,ft]using hb.2.1
 simp only[qw]
 repeat' first|simp(disch:=omega)only[go_sem]|((with_reducible refine ab ?_ ?_)<;>intro h<;>try first|omega|simp(disch:=omega)only[go_sem, *])
 refine ai (λk:Nat=>⟨[(1,bw ss),(2,.c (.ptr 0 0)),(7,bw ss),(8,I ss.length),(9,I k)], [(0,.var [.pure (ce ms)])],1,0⟩) (λk=>k≤ss.length∧bI (Ol ms.length ss) k) (λk=>ss.length-k) ⟨0, [],⟨by omega,.zero⟩,by simp⟩ ?_
 rintro k ⟨hk,d⟩
 refine aa ?_
 by_cases b:k<ss.length
 ·have C:bV 1 (ss.map λn=> [pI n]):=aG λ_=>rfl
  have ht:(ss.map λn=> [pI n]).take k=(ss.take k).map λn=> [pI n]:=(List.map_take).symm
  have cn:af Ya c8 [bw (ss.take k),I ss[k]] _:=tW (ss.take k) ss[k]
  by_cases hm:ss[k]∈ss.take k
  ·rw[decide_eq_true hm]at cn
   repeat' first|simp(disch:=omega)only[go_sem,ac b,wrap_i64,C,ht,Option.getD_none,Option.getD_some,Option.isSome_none,false_and,Int.toNat_zero]|((with_reducible refine ab ?_ ?_)<;>intro h<;>try first|omega|simp(disch:=omega)only[go_sem, *,ac b,wrap_i64,C,ht,Option.getD_none,Option.getD_some,Option.isSome_none,false_and,Int.toNat_zero])|refine ae cn rfl (.inl rfl) ?_
   all_goals first
    |(rw[decide_eq_false];intro hc;have:=hc k b b;omega)
    |(rw[decide_eq_false];intro hc;exact(hc k b b).2.2 (by omega) hm)
    |(refine⟨k+1, [],⟨by omega,d.succ λ_=>⟨by omega,by omega,λh=>by omega⟩⟩,by omega, ?_⟩;simp)
  ·rw[decide_eq_false hm]at cn
   repeat' first|simp(disch:=omega)only[go_sem,ac b,wrap_i64,C,ht,Option.getD_none,Option.getD_some,Option.isSome_none,false_and,Int.toNat_zero]|((with_reducible refine ab ?_ ?_)<;>intro h<;>try first|omega|simp(disch:=omega)only[go_sem, *,ac b,wrap_i64,C,ht,Option.getD_none,Option.getD_some,Option.isSome_none,false_and,Int.toNat_zero])|refine ae cn rfl (.inl rfl) ?_
   all_goals first
    |(rw[decide_eq_false];intro hc;have:=hc k b b;omega)
    |(refine⟨k+1, [],⟨by omega,d.succ λ_=>⟨by omega,by omega,λ_=>hm⟩⟩,by omega, ?_⟩;simp)
 ·repeat' first|simp(disch:=omega)only[go_sem]|((with_reducible refine ab ?_ ?_)<;>intro h<;>try first|omega|simp(disch:=omega)only[go_sem, *])
  rw[decide_eq_true]
  have:k=ss.length:=by omega
  rw[this]at d
  exact d
def UU (ss:List Int) (k i:Nat):Prop:= ∀(h:i<ss.length) (h':k<ss.length),0≤ss[k]→ss[i]≠ss[k]
theorem xy (ms ss:List Int):af Ya qr [mI ms,bw ss] (Go.Abs.B (decide (De ms.length ss))):=by
 refine af.of zt (by simp) λhb=>aa ?_
 have hl:=xB hb.1
 have hx:ss.length≤9223372036854775807:=by simpa[fL,eW,ft]using hb.2.1
 simp only[qo]
 repeat' first|simp(disch:=omega)only[go_sem]|((with_reducible refine ab ?_ ?_)<;>intro h<;>try first|omega|simp(disch:=omega)only[go_sem, *])
 refine ai (λk:Nat=>⟨[(1,bw ss),(2,.c (.ptr 0 0)),(5,I k)], [(0,.var [.pure (ce ms)])],1,0⟩) (λk=>k≤ss.length∧bI (Ol ms.length ss) k) (λk=>ss.length-k) ⟨0, [],⟨by omega,.zero⟩,by simp⟩ ?_
 rintro k ⟨hk,d⟩
 refine aa ?_
 by_cases b:k<ss.length
 ·repeat' first|simp(disch:=omega)only[go_sem,ac b,wrap_i64]|((with_reducible refine ab ?_ ?_)<;>intro h<;>try first|omega|simp(disch:=omega)only[go_sem, *,ac b,wrap_i64])
  ·rw[decide_eq_false];intro hc;have:=hc k b b;omega
  ·rw[decide_eq_false];intro hc;have:=hc k b b;omega
  ·refine ai (λj:Nat=>⟨[(1,bw ss),(2,.c (.ptr 0 0)),(5,I k),(6,I j)], [(0,.var [.pure (ce ms)])],1,0⟩) (λj=>j≤k∧bI (UU ss k) j) (λj=>k-j) ⟨0, [],⟨by omega,.zero⟩,by simp⟩ ?_
   rintro j ⟨hj,G⟩
   refine aa ?_
   by_cases g:j<k
   ·have K:j<ss.length:=by omega
    repeat' first|simp(disch:=omega)only[go_sem,ac b,ac K,wrap_i64]|((with_reducible refine ab ?_ ?_)<;>intro h<;>try first|omega|simp(disch:=omega)only[go_sem, *,ac b,ac K,wrap_i64])
    ·rw[decide_eq_false]
     intro hc
     refine(hc k b b).2.2 (by omega) ?_
     rw[←h]
     exact List.mem_take_iff_getElem.2 ⟨j,by omega,rfl⟩
    ·exact⟨j+1, [],⟨by omega,G.succ λ_ _ _=>h⟩,by omega,by simp⟩
    ·exact⟨j+1, [],⟨by omega,G.succ λ_ _ h0=>absurd h0 (by omega)⟩,by omega,by simp⟩
   ·repeat' first|simp(disch:=omega)only[go_sem,wrap_i64]|((with_reducible refine ab ?_ ?_)<;>intro h<;>try first|omega|simp(disch:=omega)only[go_sem, *,wrap_i64])
    refine⟨k+1, [],⟨by omega,d.succ λ_=>⟨by omega,by omega,λh0 hm=> ?_⟩⟩,by omega,by simp⟩
    obtain⟨i,hi,e⟩:=List.mem_take_iff_getElem.1 hm
    exact G i (by omega) (by omega) b h0 e
 ·repeat' first|simp(disch:=omega)only[go_sem]|((with_reducible refine ab ?_ ?_)<;>intro h<;>try first|omega|simp(disch:=omega)only[go_sem, *])
  rw[decide_eq_true]
  have:k=ss.length:=by omega
  rw[this]at d
  exact d
theorem Km {ms:List Int} (h:lA ms) {i:Nat} (hi:i<ms.length):1≤ms[i]∧ms[i]≤16:=h.2.2.1 _ (List.getElem_mem hi)
theorem vE (ms ds ss:List Int):af Ya oo [mI ms,bw ds,bw ss] (I (gr ms ds ss)):=by
 refine af.of xH (by simp) λhb=>aa ?_
 have hx:ss.length≤9223372036854775807:=by simpa[fL,eW,ft]using hb.2.2.1
 simp only[og]
 by_cases h1:lA ms
 ·have p1:=iG ms
  rw[ow h1]at p1
  have p2:=wg ds
  by_cases h2:Jx ds=0
  ·rw[h2]at p2
   have p3:=y7 ms ss
   by_cases h3:ss.length=ds.length
   ·by_cases h4:De ms.length ss
    ·rw[decide_eq_true h4]at p3
     have v:=Av h2
     rw[gr,if_neg (not_not_intro h1),if_neg (not_not_intro h2),if_neg (not_not_intro ⟨h3,h4⟩)]
     have l:(ss.length:Int)=ds.length:=by omega
     have H3:=Lib.hid h3
     clear h3
     repeat' first|simp(disch:=omega)only[go_sem,l]|((with_reducible refine ab ?_ ?_)<;>intro h<;>try first|omega|simp(disch:=omega)only[go_sem, *,l])|refine ae p1 rfl (.inl rfl) ?_|refine ae p2 rfl (.inl rfl) ?_|refine ae p3 rfl (.inl rfl) ?_
     refine ai (λk:Nat=>⟨[(1,bw ds),(3,.c (.ptr 0 0)),(32,bw ss),(33,I ss.length),(34,I k)], [(0,.var [.pure (ce ms)])],1,0⟩) (λk=>k≤ss.length∧bI (IB ms ds ss) k) (λk=>ss.length-k) ⟨0, [],⟨by omega,.zero⟩,by simp[l]⟩ ?_
     rintro k ⟨hk,d⟩
     refine aa ?_
     clear l
     by_cases b:k<ss.length
     ·have f:k<ds.length:=by have:=H3.out;omega
      have he:=h4 k b b
      have q:ds[k]?.getD 0=ds[k]:=by simp[f]
      by_cases h0:0≤ss[k]
      ·have o:ss[k].toNat<ms.length:=by omega
       have L:=Km h1 o
       have t:ms[ss[k].toNat]?.getD 0=ms[ss[k].toNat]:=by simp[o]
       have M:=v.pos _ (List.getElem_mem f)
       have et:Int.tmod ds[k] ms[ss[k].toNat]=ds[k]%ms[ss[k].toNat]:=Int.tmod_eq_emod_of_nonneg (by omega)
       have m:ms[ss[k].toNat]≠0:=by omega
       by_cases hf:ds[k]%ms[ss[k].toNat]=0
       ·have z:IB ms ds ss k:= λ_ _=>by rw[q,t];exact hf
        have HF:=Lib.hid z
        clear z
        repeat' first|simp(disch:=omega)only[go_sem,ac b,ac f,ac o,wrap_i64,et,m,ne_eq,hf]|((with_reducible refine ab ?_ ?_)<;>intro h<;>try first|omega|simp(disch:=omega)only[go_sem, *,ac b,ac f,ac o,wrap_i64,et,m,ne_eq,hf])
        exact⟨k+1, [],⟨by omega,d.succ HF.out⟩,by omega,by simp⟩
       ·have H: ¬Ev ms ds ss:= λhc=>hf (by have:=hc k b b h0;rwa [q,t]at this)
        rw[if_neg H]
        repeat' first|simp(disch:=omega)only[go_sem,ac b,ac f,ac o,wrap_i64,et,m,ne_eq,hf]|((with_reducible refine ab ?_ ?_)<;>intro h<;>try first|omega|simp(disch:=omega)only[go_sem, *,ac b,ac f,ac o,wrap_i64,et,m,ne_eq,hf])
      ·repeat' first|simp(disch:=omega)only[go_sem,ac b,wrap_i64]|((with_reducible refine ab ?_ ?_)<;>intro h<;>try first|omega|simp(disch:=omega)only[go_sem, *,ac b,wrap_i64])
       exact⟨k+1, [],⟨by omega,d.succ λ_ hc=>absurd hc h0⟩,by omega,by simp⟩
     ·have e:k=ss.length:=by omega
      rw[e]at d
      rw[if_pos (show Ev ms ds ss from d)]
      repeat' first|simp(disch:=omega)only[go_sem]|((with_reducible refine ab ?_ ?_)<;>intro h<;>try first|omega|simp(disch:=omega)only[go_sem, *])
    ·rw[decide_eq_false h4]at p3
     rw[gr,if_neg (not_not_intro h1),if_neg (not_not_intro h2),if_pos λh=>h4 h.2]
     repeat' first|simp(disch:=omega)only[go_sem]|((with_reducible refine ab ?_ ?_)<;>intro h<;>try first|omega|simp(disch:=omega)only[go_sem, *])|refine ae p1 rfl (.inl rfl) ?_|refine ae p2 rfl (.inl rfl) ?_|refine ae p3 rfl (.inl rfl) ?_
   ·have l: ¬(ss.length:Int)=ds.length:=by omega
    rw[gr,if_neg (not_not_intro h1),if_neg (not_not_intro h2),if_pos λh=>h3 h.1]
    repeat' first|simp(disch:=omega)only[go_sem,l]|((with_reducible refine ab ?_ ?_)<;>intro h<;>try first|omega|simp(disch:=omega)only[go_sem, *,l])|refine ae p1 rfl (.inl rfl) ?_|refine ae p2 rfl (.inl rfl) ?_|refine ae p3 rfl (.inl rfl) ?_
  ·rw[gr,if_neg (not_not_intro h1),if_pos h2]
   repeat' first|simp(disch:=omega)only[go_sem]|((with_reducible refine ab ?_ ?_)<;>intro h<;>try first|omega|simp(disch:=omega)only[go_sem, *])|refine ae p1 rfl (.inl rfl) ?_|refine ae p2 rfl (.inl rfl) ?_
 ·have p1:=iG ms
  rw[gk h1]at p1
  rw[gr,if_pos h1]
  repeat' first|simp(disch:=omega)only[go_sem]|((with_reducible refine ab ?_ ?_)<;>intro h<;>try first|omega|simp(disch:=omega)only[go_sem, *])|refine ae p1 rfl (.inl rfl) ?_
theorem vO (ms ds ss:List Int):af Ya oJ [mI ms,bw ds,bw ss] (I (gr ms ds ss)):=by
 refine af.of y3 (by simp) λhb=>aa ?_
 have hx:ss.length≤9223372036854775807:=by simpa[fL,eW,ft]using hb.2.2.1
 simp only[nU]
 by_cases h1:lA ms
 ·have p1:=gJ ms
  rw[ow h1]at p1
  have p2:=vL ds
  by_cases h2:Jx ds=0
  ·rw[h2]at p2
   have p3:=xy ms ss
   by_cases h3:ss.length=ds.length
   ·by_cases h4:De ms.length ss
    ·rw[decide_eq_true h4]at p3
     have v:=Av h2
     rw[gr,if_neg (not_not_intro h1),if_neg (not_not_intro h2),if_neg (not_not_intro ⟨h3,h4⟩)]
     have l:(ss.length:Int)=ds.length:=by omega
     have H3:=Lib.hid h3
     clear h3
     repeat' first|simp(disch:=omega)only[go_sem,l]|((with_reducible refine ab ?_ ?_)<;>intro h<;>try first|omega|simp(disch:=omega)only[go_sem, *,l])|refine ae p1 rfl (.inl rfl) ?_|refine ae p2 rfl (.inl rfl) ?_|refine ae p3 rfl (.inl rfl) ?_
     refine ai (λk:Nat=>⟨[(1,bw ds),(2,bw ss),(3,.c (.ptr 0 0)),(9,I k)], [(0,.var [.pure (ce ms)])],1,0⟩) (λk=>k≤ss.length∧bI (IB ms ds ss) k) (λk=>ss.length-k) ⟨0, [],⟨by omega,.zero⟩,by simp[l]⟩ ?_
     rintro k ⟨hk,d⟩
     refine aa ?_
     clear l
     by_cases b:k<ss.length
     ·have f:k<ds.length:=by have:=H3.out;omega
      have he:=h4 k b b
      have q:ds[k]?.getD 0=ds[k]:=by simp[f]
      by_cases h0:0≤ss[k]
      ·have o:ss[k].toNat<ms.length:=by omega
       have L:=Km h1 o
       have t:ms[ss[k].toNat]?.getD 0=ms[ss[k].toNat]:=by simp[o]
       have M:=v.pos _ (List.getElem_mem f)
       have et:Int.tmod ds[k] ms[ss[k].toNat]=ds[k]%ms[ss[k].toNat]:=Int.tmod_eq_emod_of_nonneg (by omega)
       have m:ms[ss[k].toNat]≠0:=by omega
       by_cases hf:ds[k]%ms[ss[k].toNat]=0
       ·have z:IB ms ds ss k:= λ_ _=>by rw[q,t];exact hf
        have HF:=Lib.hid z
        clear z
        repeat' first|simp(disch:=omega)only[go_sem,ac b,ac f,ac o,wrap_i64,et,m,ne_eq,hf]|((with_reducible refine ab ?_ ?_)<;>intro h<;>try first|omega|simp(disch:=omega)only[go_sem, *,ac b,ac f,ac o,wrap_i64,et,m,ne_eq,hf])
        exact⟨k+1, [],⟨by omega,d.succ HF.out⟩,by omega,by simp⟩
       ·have H: ¬Ev ms ds ss:= λhc=>hf (by have:=hc k b b h0;rwa [q,t]at this)
        rw[if_neg H]
        repeat' first|simp(disch:=omega)only[go_sem,ac b,ac f,ac o,wrap_i64,et,m,ne_eq,hf]|((with_reducible refine ab ?_ ?_)<;>intro h<;>try first|omega|simp(disch:=omega)only[go_sem, *,ac b,ac f,ac o,wrap_i64,et,m,ne_eq,hf])
      ·repeat' first|simp(disch:=omega)only[go_sem,ac b,wrap_i64]|((with_reducible refine ab ?_ ?_)<;>intro h<;>try first|omega|simp(disch:=omega)only[go_sem, *,ac b,wrap_i64])
       exact⟨k+1, [],⟨by omega,d.succ λ_ hc=>absurd hc h0⟩,by omega,by simp⟩
     ·have e:k=ss.length:=by omega
      rw[e]at d
      rw[if_pos (show Ev ms ds ss from d)]
      repeat' first|simp(disch:=omega)only[go_sem]|((with_reducible refine ab ?_ ?_)<;>intro h<;>try first|omega|simp(disch:=omega)only[go_sem, *])
    ·rw[decide_eq_false h4]at p3
     rw[gr,if_neg (not_not_intro h1),if_neg (not_not_intro h2),if_pos λh=>h4 h.2]
     repeat' first|simp(disch:=omega)only[go_sem]|((with_reducible refine ab ?_ ?_)<;>intro h<;>try first|omega|simp(disch:=omega)only[go_sem, *])|refine ae p1 rfl (.inl rfl) ?_|refine ae p2 rfl (.inl rfl) ?_|refine ae p3 rfl (.inl rfl) ?_
   ·have l: ¬(ss.length:Int)=ds.length:=by omega
    rw[gr,if_neg (not_not_intro h1),if_neg (not_not_intro h2),if_pos λh=>h3 h.1]
    repeat' first|simp(disch:=omega)only[go_sem,l]|((with_reducible refine ab ?_ ?_)<;>intro h<;>try first|omega|simp(disch:=omega)only[go_sem, *,l])|refine ae p1 rfl (.inl rfl) ?_|refine ae p2 rfl (.inl rfl) ?_|refine ae p3 rfl (.inl rfl) ?_
  ·rw[gr,if_neg (not_not_intro h1),if_pos h2]
   repeat' first|simp(disch:=omega)only[go_sem]|((with_reducible refine ab ?_ ?_)<;>intro h<;>try first|omega|simp(disch:=omega)only[go_sem, *])|refine ae p1 rfl (.inl rfl) ?_|refine ae p2 rfl (.inl rfl) ?_
 ·have p1:=gJ ms
  rw[gk h1]at p1
  rw[gr,if_pos h1]
  repeat' first|simp(disch:=omega)only[go_sem]|((with_reducible refine ab ?_ ?_)<;>intro h<;>try first|omega|simp(disch:=omega)only[go_sem, *])|refine ae p1 rfl (.inl rfl) ?_
end
end Go.Proofs.YtjhkikmonejkjaaGreatDoor
