import Derived.Test.YtigdjhnndaokjaaGreatDoorVGrow
import Derived.Test.YtigdjhnndaokjaaGreatDoorV52e
set_option linter.unusedVariables false
set_option linter.unusedSimpArgs false
set_option maxHeartbeats 4000000
set_option maxRecDepth 1000000
open Go.Proofs.Tryz renaming prog→Pa0
namespace Go.Proofs.YtigdjhnndaokjaaGreatDoor
open Go.Abs Go.RowKit
theorem pE (xs:List Int):ac Pa0 vS [aF xs] (I (size xs)):=by
 refine ac.of N7 zR6 λhb=>aa ?_
 have p1:=gx xs
 conv in Df=>cbv
 rw[size]
 by_cases h:yk xs=0
 ·rw[h]at p1
  rw[if_pos h]
  have hg:=b8 h
  have h6:=hg.len
  clear h
  repeat' first|simp(disch:=omega)only[go_sem, *]|apply ab<;>intro h<;>try omega|refine ak p1 ?_
  refine al (λk:Nat=>⟨[(3,I (bl (xs.take k))),(9,aF xs),(10,I xs.length),(11,I k)], [],0,0⟩) (λk=>k≤xs.length) (λk=>xs.length-k) ⟨0, [],zE6 _,by simp[bl]⟩ ?_
  rintro k hk
  refine aa ?_
  by_cases b:k<xs.length
  ·have h1:=hg.take_le (k+1)
   rw[zZ b]at h1
   have hw:IntKind.wrap .i64 (bl (xs.take k)*xs[k])=bl (xs.take k)*xs[k]:=wrap_i64 zR5
   clear h1
   repeat' first|simp(disch:=omega)only[go_sem, *,ae b,wrap_i64,hw]|apply ab<;>intro h<;>try omega
   exact⟨k+1, [],b,by omega,by simp[zZ b]⟩
  ·have e:xs.take k=xs:=zB6 zR5
   rw[e]
   exact zW0
 ·rw[if_neg h]
  exact yD6
variable {xs:List Int}
theorem xo (h:yk xs=0):ac Pa0 uU [aF xs] (I (bl xs)):=by
 refine ac.of Of zR6 λhb=>aa ?_
 conv in Dm=>cbv
 have hg:=b8 h
 have h6:=hg.len
 clear h
 repeat' first|simp(disch:=omega)only[go_sem, *]|apply ab<;>intro h<;>try omega
 refine al (λk:Nat=>⟨[(0,aF xs),(3,I (bl (xs.take k))),(4,I k)], [],0,0⟩) (λk=>k≤xs.length) (λk=>xs.length-k) ⟨0, [],zE6 _,by simp[bl]⟩ ?_
 rintro k hk
 refine aa ?_
 by_cases b:k<xs.length
 ·have h1:=hg.take_le (k+1)
  rw[zZ b]at h1
  have hw:IntKind.wrap .i64 (bl (xs.take k)*xs[k])=bl (xs.take k)*xs[k]:=wrap_i64 zR5
  clear h1
  repeat' first|simp(disch:=omega)only[go_sem, *,ae b,wrap_i64,hw]|apply ab<;>intro h<;>try omega
  exact⟨k+1, [],b,by omega,by simp[zZ b]⟩
 ·have e:xs.take k=xs:=zB6 zR5
  rw[e]
  exact zW0
theorem wL (xs:List Int):ac Pa0 rF [aF xs] (I (yk xs)):=by
 refine ac.of Ll zR6 λhb=>aa ?_
 have hx:xs.length≤9223372036854775807:=by simpa[f6,fB,f5]using hb.1
 conv in AE=>cbv
 repeat' first|simp(disch:=omega)only[go_sem, *]|apply ab<;>intro h<;>try omega
 ·rw[Jg zR5]
 refine al (λk:Nat=>⟨[(0,aF xs),(3,I k)], [],0,0⟩) (λk=>k≤xs.length∧ct (λi=> ∀h:i<xs.length,1≤xs[i]) k) (λk=>xs.length-k) ⟨0, [],⟨by omega,.zero⟩,by simp⟩ ?_
 rintro k ⟨hk,d⟩
 refine aa ?_
 by_cases b:k<xs.length
 ·have G:xs[k]?.getD 0=xs[k]:=by simp[b]
  repeat' first|simp(disch:=omega)only[go_sem, *,ae b,wrap_i64]|apply ab<;>intro h<;>try omega
  ·rw[Q3 zR5 b zR5]
  ·exact⟨k+1, [],⟨by omega,d.succ λ_=>by omega⟩,by omega,by simp⟩
 ·have m: ∀x∈xs,1≤x:=by
   intro x hm
   obtain⟨i,hi,rfl⟩:=zC2.1 hm
   exact d i zR5 hi
  have hv:=DO (xs:=xs) zR5 m
  have HP:=Lib.hid m
  rw[hv]
  obtain⟨R,hR⟩: ∃R,R=di xs 1:=⟨_,rfl⟩
  rw[←hR]
  have HR:=Lib.hid hR
  clear hv m hR d
  repeat' first|simp(disch:=omega)only[go_sem, *]|apply ab<;>intro h<;>try omega
  refine al (λs:Nat×Int=>⟨[(0,aF xs),(4,I s.2),(5,I s.1)], [],0,0⟩) (λs=>s.1≤xs.length∧1≤s.2∧s.2≤4096∧Hid (R=di (xs.drop s.1) s.2)) (λs=>xs.length-s.1) ⟨(0,1), [],⟨by show 0≤_;omega,by show(1:Int)≤1;decide,by show(1:Int)≤4096;decide,HR⟩,by simp⟩ ?_
  rintro⟨j,s⟩ ⟨hj,r,C,HR⟩
  refine aa ?_
  simp only at hj r C
  by_cases n:j<xs.length
  ·have h1:=HP.out _ (zA6 n)
   have HR':Hid (R=if 4096/s<xs[j]then 2 else di (xs.drop (j+1)) (s*xs[j])):=by
    have:=HR.out
    rwa [zC0 n,di]at this
   clear HR
   have eq:Int.tdiv 4096 s=4096/s:=zE2 zR9
   have K:0≤4096/s:=zJ5 zR9 zR5
   have M:4096/s≤4096:=zJ1 _ zR9
   have v:s≠0:=by omega
   by_cases hq:4096/s<xs[j]
   ·have e:R=2:=by rw[HR'.out,if_pos hq]
    subst e
    repeat' first|simp(disch:=omega)only[go_sem, *,ae n,wrap_i64,eq,v,ne_eq]|apply ab<;>intro h<;>try omega
   ·have D:=PP r hq
    have E:=eJ r h1
    have e:Hid (R=di (xs.drop (j+1)) (s*xs[j])):=by
     have:=HR'.out
     rwa [if_neg hq]at this
    have hm:IntKind.wrap .i64 (s*xs[j])=s*xs[j]:=wrap_i64 zR5
    clear HR'
    repeat' first|simp(disch:=omega)only[go_sem, *,ae n,wrap_i64,eq,v,ne_eq,hm]|apply ab<;>intro h<;>try omega
    exact⟨(j+1,s*xs[j]), [],⟨n,E,D,e⟩,by show _-_<_-_;omega,by simp⟩
  ·have hR:=HR.out
   simp only at hR
   rw[zD6 zR5,di]at hR
   subst hR
   exact zW0
abbrev Tn:=Ty×List Int×List Fr
abbrev ln (a:Fr):List PC:= [pI a.1,pI a.2]
abbrev Nh (x:Tn):AV:= .agg [.pure (pI x.1.1),.pure (pI x.1.2.1),.pure (pI x.1.2.2.1),.pure (pI x.1.2.2.2.1),.pure (pI x.1.2.2.2.2),.pure (c6 x.2.1),.pure (dp ln x.2.2)]
def ac7 (t:Ty) (l:List Fr) (i:Nat):Prop:= ∀h:i<l.length,aK t l[i]
noncomputable def d9 (x:Tn):Int:=
 if ¬cj x.1 then 10 else if yk x.2.1≠0 then yk x.2.1 else if(x.2.2.length:Int)≠bl x.2.1 then 1 else @ite _ (ct (ac7 x.1 x.2.2) x.2.2.length) (Classical.propDecidable _) 0 1
variable {x:Tn}
theorem fY (h:d9 x=0):cj x.1∧yk x.2.1=0∧(x.2.2.length:Int)=bl x.2.1∧ ∀a∈x.2.2,aK x.1 a:=by
 unfold d9 at h
 split at h
 ·cases h
 ·split at h
  ·rename_i h1 h2;exact absurd h h2
  ·split at h
   ·cases h
   ·split at h
    ·rename_i h1 h2 h3 h4
     refine⟨Decidable.not_not.1 h1,Decidable.not_not.1 h2,Decidable.not_not.1 h3,λa ha=> ?_⟩
     obtain⟨i,hi,rfl⟩:=zC2.1 ha
     exact h4 i hi hi
    ·cases h
theorem As (hv: ∀a∈x.2.2,bD a):ac Pa0 kV [Nh x] (I (d9 x)):=by
 refine ac.of Ce zR6 λhb=>aa ?_
 obtain⟨t,ds,l⟩:=x
 have hx:l.length≤9223372036854775807:=by
  have:=hb.1
  simp only[fB,om,f5,zE3]at this
  omega
 clear hb
 have p1:=bt t
 have p2:=gx ds
 have p3:=pE ds
 conv in rh=>cbv
 simp only[d9]
 by_cases h1:cj t
 ·rw[if_pos h1]at p1
  rw[if_neg (zA5 h1)]
  by_cases h2:yk ds=0
  ·rw[size,if_pos h2]at p3
   rw[if_neg (zA5 h2)]
   rw[h2]at p2
   by_cases h3:(l.length:Int)=bl ds
   ·rw[if_neg (zA5 h3)]
    have H1:=Lib.hid h1
    have f:=h3.symm
    clear h1 h2 h3
    repeat' first|simp(disch:=omega)only[go_sem, *,f]|apply ab<;>intro h<;>try omega|refine ak p1 ?_|refine ak p2 ?_|refine ak p3 ?_
    clear p1 p2 p3 f
    refine al (λk:Nat=>⟨[(1,.c (.ptr 0 0)),(27,bF ln l),(28,I l.length),(29,I k)], [(0,.var [.pure (pI t.1),.pure (pI t.2.1),.pure (pI t.2.2.1),.pure (pI t.2.2.2.1),.pure (pI t.2.2.2.2),.pure (c6 ds),.pure (dp ln l)])],1,0⟩) (λk=>k≤l.length∧ct (ac7 t l) k) (λk=>l.length-k) ⟨0, [],⟨zE6 _,.zero⟩,by simp⟩ ?_
    rintro k ⟨hk,d⟩
    refine aa ?_
    by_cases b:k<l.length
    ·have p4:=de H1.out (hv _ (zA6 b))
     by_cases h:aK t l[k]
     ·rw[zB1 h]at p4
      have h':=Lib.hid h
      clear h
      repeat' first|simp(disch:=omega)only[go_sem, *,ae b,wrap_i64]|apply ab<;>intro h<;>try omega|refine ak p4 ?_
      exact⟨k+1, [],⟨b,d.succ λ_=>h'.out⟩,by omega,by simp⟩
     ·rw[zA9 h]at p4
      rw[if_neg λhc=>h (hc k b b)]
      exact yC1
    ·have e:k=l.length:=by omega
     rw[e]at d
     rw[if_pos d]
     exact zW0
   ·rw[if_pos h3]
    have f: ¬bl ds=(l.length:Int):= λe=>h3 e.symm
    exact zZ9
  ·rw[if_pos h2]
   exact yB3
 ·rw[if_neg h1]at p1
  rw[if_pos h1]
  exact zX0
theorem jQ (hv: ∀a∈x.2.2,bD a):ac Pa0 mu [Nh x] (I (d9 x)):=by
 refine ac.of El zR6 λhb=>aa ?_
 obtain⟨t,ds,l⟩:=x
 have hx:l.length≤9223372036854775807:=by
  have:=hb.1
  simp only[fB,om,f5,zE3]at this
  omega
 clear hb
 have p1:=aY t
 have p2:=wL ds
 conv in uz=>cbv
 simp only[d9]
 by_cases h1:cj t
 ·rw[zB1 h1]at p1
  rw[if_neg (zA5 h1)]
  by_cases h2:yk ds=0
  ·have p3:=xo h2
   rw[if_neg (zA5 h2)]
   rw[h2]at p2
   by_cases h3:(l.length:Int)=bl ds
   ·rw[if_neg (zA5 h3)]
    have H1:=Lib.hid h1
    have f:=h3.symm
    clear h1 h2 h3
    repeat' first|simp(disch:=omega)only[go_sem, *,f]|apply ab<;>intro h<;>try omega|refine ak p1 ?_|refine ak p2 ?_|refine ak p3 ?_
    clear p1 p2 p3 f
    refine al (λk:Nat=>⟨[(1,.c (.ptr 0 0)),(4,I k)], [(0,.var [.pure (pI t.1),.pure (pI t.2.1),.pure (pI t.2.2.1),.pure (pI t.2.2.2.1),.pure (pI t.2.2.2.2),.pure (c6 ds),.pure (dp ln l)])],1,0⟩) (λk=>k≤l.length∧ct (ac7 t l) k) (λk=>l.length-k) ⟨0, [],⟨zE6 _,.zero⟩,by simp⟩ ?_
    rintro k ⟨hk,d⟩
    refine aa ?_
    by_cases b:k<l.length
    ·have p4:=eZ H1.out (hv _ (zA6 b))
     by_cases h:aK t l[k]
     ·rw[zB1 h]at p4
      have h':=Lib.hid h
      clear h
      repeat' first|simp(disch:=omega)only[go_sem, *,ae b,wrap_i64]|apply ab<;>intro h<;>try omega|refine ak p4 ?_
      exact⟨k+1, [],⟨b,d.succ λ_=>h'.out⟩,by omega,by simp⟩
     ·rw[zA9 h]at p4
      rw[if_neg λhc=>h (hc k b b)]
      exact yC1
    ·have e:k=l.length:=by omega
     rw[e]at d
     rw[if_pos d]
     exact zW0
   ·rw[if_pos h3]
    have f: ¬bl ds=(l.length:Int):= λe=>h3 e.symm
    exact zZ9
  ·rw[if_pos h2]
   exact yB3
 ·rw[zA9 h1]at p1
  rw[if_pos h1]
  exact zX0
set_option maxRecDepth 20000
set_option maxRecDepth 1000000
theorem VX {ps:List Int} (hg:ad8 xs) {k:Nat} (hk:k≤xs.length) (h:Wf xs ps k):0≤dR xs ps k∧dR xs ps k≤4096:=by
 have h1:=FZ hg.pos k hk h
 have h2:=hg.take_le k
 omega
theorem tY (xs ps:List Int):ac Pa0 qB [aF xs,aF ps] (.tup [I (offset xs ps).1,Go.Abs.B (offset xs ps).2]):=by
 refine ac.of Iq zR6 λhb=>aa ?_
 have hx:xs.length≤9223372036854775807:=by simpa[f6,fB,f5]using hb.1
 have p1:=gx xs
 conv in za=>cbv
 by_cases h:yk xs=0
 ·rw[h]at p1
  by_cases hl:ps.length=xs.length
  ·have o:(ps.length:Int)=xs.length:=by omega
   have hg:=b8 h
   have H:=Lib.hid h
   have HL:=Lib.hid hl
   clear h hl
   repeat' first|simp(disch:=omega)only[go_sem, *,o]|apply ab<;>intro h<;>try omega|refine ak p1 ?_
   refine al (λk:Nat=>⟨[(1,aF ps),(6,I (dR xs ps k)),(19,aF xs),(20,I xs.length),(21,I k)], [],0,0⟩) (λk=>k≤xs.length∧Hid (Wf xs ps k)) (λk=>xs.length-k) ⟨0, [],⟨zE6 _,Wf.zero xs ps⟩,by simp[dR]⟩ ?_
   rintro k ⟨hk,u⟩
   refine aa ?_
   clear o
   by_cases b:k<xs.length
   ·have g:k<ps.length:=by have:=HL.out;omega
    have ex:xs[k]?.getD 0=xs[k]:=by simp[b]
    have ep:ps[k]?.getD 0=ps[k]:=by simp[g]
    have EX:=Lib.hid ex
    have EP:=Lib.hid ep
    clear ex ep
    by_cases h1:ps[k]<0
    ·rw[B6 (T5 b (by rw[EP.out];exact h1))]
     exact yE3
    ·by_cases h2:xs[k]≤ps[k]
     ·rw[B6 (Sh b (by rw[EP.out,EX.out];exact h2))]
      exact yE3
     ·have q:Hid (Wf xs ps (k+1)):=u.out.succ (by rw[EP.out];omega) (by rw[EP.out,EX.out];omega)
      have w:=VX hg hk u.out
      have y:=VX hg b q.out
      have F:=(hg.get b).1
      rw[EX.out]at F
      have er:dR xs ps (k+1)=dR xs ps k*xs[k]+ps[k]:=by rw[dR,EX.out,EP.out]
      rw[er]at y
      have hm:0≤dR xs ps k*xs[k]:=zM5 w.1 zR5
      have w1:IntKind.wrap .i64 (dR xs ps k*xs[k])=dR xs ps k*xs[k]:=wrap_i64 zR5
      have w2:IntKind.wrap .i64 (dR xs ps k*xs[k]+ps[k])=dR xs ps k*xs[k]+ps[k]:=wrap_i64 zR5
      have ER:=Lib.hid er
      clear er hm w y
      repeat' first|simp(disch:=omega)only[go_sem, *,ae b,ae g,wrap_i64,w1,w2]|apply ab<;>intro h<;>try omega
      exact⟨k+1, [],⟨b,q⟩,by omega,by simp[ER.out]⟩
   ·have e:k=xs.length:=by omega
    subst e
    rw[FJ H.out ⟨HL.out,u.out⟩,qD]
    exact zW0
  ·rw[B6 λhc=>hl hc.1]
   have o: ¬(ps.length:Int)=xs.length:=by omega
   repeat' first|simp(disch:=omega)only[go_sem, *,o]|apply ab<;>intro h<;>try omega|refine ak p1 ?_
 ·rw[UO h]
  exact yD6
def kw (xs:List Int):List (List Int):=(List.range (dI xs).toNat).map λ(i:Nat)=>au xs (i:Int)
abbrev FS (l:List (List Int)):AV:=bF (λp=> [c6 p]) l
theorem Ke (xs:List Int):(kw xs).length=(dI xs).toNat:=by simp[kw]
theorem KX {i:Nat} (h:i<(kw xs).length):(kw xs)[i]=au xs i:=by simp[kw]
theorem Wz {k:Nat} (hk:k<(kw xs).length):(kw xs).take (k+1)=(kw xs).take k++ [au xs k]:=by
 rw[zB5 hk,KX]
theorem A4 (xs:List Int):ac Pa0 yn [aF xs] (FS (kw xs)):=by
 refine ac.of P6 zR6 λhb=>aa ?_
 have p1:=nW xs
 have hc:=Xc xs
 have J:=Ke xs
 conv in G8=>cbv
 repeat' first|simp(disch:=omega)only[go_sem]|((with_reducible refine ab ?_ ?_)<;>intro h<;>try first|omega|simp(disch:=omega)only[go_sem, *])|refine ak p1 ?_
 refine dc 3 70 1 rfl zR9 ?_
 refine al (λk:Nat=>⟨[(0,aF xs),(3,.c (.ref 0)),(4,I (dI xs)),(5,I k)], [(0,.arr 70 1 (((kw xs).take k).map λp=> [c6 p]))],1,0⟩) (λk=>k≤(kw xs).length) (λk=>(kw xs).length-k) ⟨0, [],zE6 _,by simp⟩ ?_
 rintro k hk
 refine aa ?_
 by_cases b:k<(kw xs).length
 ·have z:(k:Int)<dI xs:=by omega
  have p2:=If xs (at':=(k:Int)) ⟨by omega,by omega⟩
  rw[zR ⟨by omega,z⟩]at p2
  have A:(((kw xs).take k).map λp=> [c6 p]).length=k:=by rw[zE3,zI2];omega
  have L:=Lib.hid A
  clear A
  repeat' first|simp(disch:=omega)only[go_sem,wrap_i64]|((with_reducible refine ab ?_ ?_)<;>intro h<;>try first|omega|simp(disch:=omega)only[go_sem, *,wrap_i64])|refine dH p2 ?_|refine aP rfl zS0 (aE rfl) (by rw[L.out];simp;omega) (by rw[L.out];simp;omega) ?_
  refine⟨k+1, [(0,1)],b,by omega, ?_⟩
  rw[Wz b,zC8]
  simp
 ·have e:(kw xs).take k=kw xs:=zB6 zR5
  rw[e]
  have z: ¬(k:Int)<dI xs:=by omega
  exact zW1
end Go.Proofs.YtigdjhnndaokjaaGreatDoor
