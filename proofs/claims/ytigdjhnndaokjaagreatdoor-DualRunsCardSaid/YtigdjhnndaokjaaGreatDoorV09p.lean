import Derived.Test.YtigdjhnndaokjaaGreatDoorLaw
import Derived.Test.YtigdjhnndaokjaaGreatDoorW09b
set_option linter.unusedVariables false
set_option linter.unusedSimpArgs false
set_option maxHeartbeats 4000000
set_option maxRecDepth 20000
open Go.Proofs.Tryz renaming prog→Pa0
namespace Go.Proofs.YtigdjhnndaokjaaGreatDoor
open Go.Abs Go.RowKit
variable {xs:List Int}
theorem zZ {k:Nat} (h:k<xs.length):bl (xs.take (k+1))=bl (xs.take k)*xs[k]:=by
 rw[ii h]
 simp[h]
set_option maxRecDepth 1000000
theorem gx (xs:List Int):ac Pa0 lP [aF xs] (I (yk xs)):=by
 refine ac.of E9 zR6 λhb=>aa ?_
 have hx:xs.length≤9223372036854775807:=by simpa[f6,fB,f5]using hb.1
 conv in tT=>cbv
 repeat' first|simp(disch:=omega)only[go_sem, *]|apply ab<;>intro h<;>try omega
 ·rw[Jg zR5]
 refine al (λk:Nat=>⟨[(0,aF xs),(11,aF xs),(12,I xs.length),(13,I k)], [],0,0⟩) (λk=>k≤xs.length∧ct (λi=> ∀h:i<xs.length,1≤xs[i]) k) (λk=>xs.length-k) ⟨0, [],⟨by omega,.zero⟩,by simp⟩ ?_
 rintro k ⟨hk,u⟩
 refine aa ?_
 by_cases l:k<xs.length
 ·have d:xs[k]?.getD 0=xs[k]:=by simp[l]
  repeat' first|simp(disch:=omega)only[go_sem, *,ae l,wrap_i64]|apply ab<;>intro h<;>try omega
  ·rw[Q3 zR5 l zR5]
  ·exact⟨k+1, [],⟨by omega,u.succ λ_=>by omega⟩,by omega,by simp⟩
 ·have y: ∀x∈xs,1≤x:=by
   intro x hm
   obtain⟨i,hi,rfl⟩:=zC2.1 hm
   exact u i zR5 hi
  have hv:=DO (xs:=xs) zR5 y
  have HP:=Lib.hid y
  rw[hv]
  obtain⟨R,hR⟩: ∃R,R=di xs 1:=⟨_,rfl⟩
  rw[←hR]
  have HR:=Lib.hid hR
  clear hv y hR u
  repeat' first|simp(disch:=omega)only[go_sem, *]|apply ab<;>intro h<;>try omega
  refine al (λs:Nat×Int=>⟨[(5,I s.2),(20,aF xs),(21,I xs.length),(22,I s.1)], [],0,0⟩) (λs=>s.1≤xs.length∧1≤s.2∧s.2≤4096∧Hid (R=di (xs.drop s.1) s.2)) (λs=>xs.length-s.1) ⟨(0,1), [],⟨by show 0≤_;omega,by show(1:Int)≤1;decide,by show(1:Int)≤4096;decide,HR⟩,by simp⟩ ?_
  rintro⟨j,s⟩ ⟨hj,J,W,HR⟩
  refine aa ?_
  simp only at hj J W
  by_cases A:j<xs.length
  ·have h1:=HP.out _ (zA6 A)
   have HR':Hid (R=if 4096/s<xs[j]then 2 else di (xs.drop (j+1)) (s*xs[j])):=by
    have:=HR.out
    rwa [zC0 A,di]at this
   clear HR
   have eq:Int.tdiv 4096 s=4096/s:=zE2 zR9
   have H:0≤4096/s:=zJ5 zR9 zR5
   have O:4096/s≤4096:=zJ1 _ zR9
   have r:s≠0:=by omega
   by_cases hq:4096/s<xs[j]
   ·have e:R=2:=by rw[HR'.out,if_pos hq]
    subst e
    repeat' first|simp(disch:=omega)only[go_sem, *,ae A,wrap_i64,eq,r,ne_eq]|apply ab<;>intro h<;>try omega
   ·have X:=PP J hq
    have Y:=eJ J h1
    have e:Hid (R=di (xs.drop (j+1)) (s*xs[j])):=by
     have:=HR'.out
     rwa [if_neg hq]at this
    have hm:IntKind.wrap .i64 (s*xs[j])=s*xs[j]:=wrap_i64 zR5
    clear HR'
    repeat' first|simp(disch:=omega)only[go_sem, *,ae A,wrap_i64,eq,r,ne_eq,hm]|apply ab<;>intro h<;>try omega
    exact⟨(j+1,s*xs[j]), [],⟨A,Y,X,e⟩,by show _-_<_-_;omega,by simp⟩
  ·have hR:=HR.out
   simp only at hR
   rw[zD6 zR5,di]at hR
   subst hR
   exact zW0
set_option maxRecDepth 20000
def ad3 (n:Nat) (ss:List Int) (i:Nat):Prop:= ∀h:i<ss.length,-1≤ss[i]∧ss[i]<n∧(0≤ss[i]→ ¬ss[i]∈ss.take i)
def aed (n:Nat) (ss:List Int):Prop:=ct (ad3 n ss) ss.length
noncomputable instance (n:Nat) (ss:List Int):Decidable (aed n ss):=Classical.propDecidable _
def aeb (ms ds ss:List Int) (i:Nat):Prop:= ∀h:i<ss.length,0≤ss[i]→ds[i]?.getD 0%ms[ss[i].toNat]?.getD 0=0
def aea (ms ds ss:List Int):Prop:=ct (aeb ms ds ss) ss.length
noncomputable instance (ms ds ss:List Int):Decidable (aea ms ds ss):=Classical.propDecidable _
theorem D3 {w:World} {U:Nat→Prop} {ι:Pl} {N:Nat} {v:Value} (h:aT w U ι N (aF xs) v):vv w v xs:=by
 cases h with
 |c h=>
  cases h with
  |pure h=>
   cases h with
   | @slice sz rows a n c g hn hc hm hr K hp=>
    simp only[zE3]at hn
    subst hn
    have cell: ∀k,k<xs.length→ ∃b off,a=some ⟨b,off,none⟩∧w.cell? ⟨b,off+k,none⟩=some (.int .i64 (xs.getD k 0)):=by
     intro k hk
     have h1:(xs.map λn=> [PC.val (.int .i64 n)])[k]? =some [.val (.int .i64 xs[k])]:=by simp[hk]
     have P:=hr k _ h1
     simp at P
     subst P
     obtain⟨b,off,e,_,h2⟩:=K k _ 0 _ h1 rfl
     have h3:=hp k _ 0 _ h1 rfl
     refine⟨b,off,e, ?_⟩
     generalize g k 0=z at h2 h3
     cases h3
     simpa[hk]using h2
    refine⟨a,c,rfl,by simpa using hc,by simpa using hm,⟨λk hk=> ?_,λk hk=> ?_⟩⟩
    ·obtain⟨b,off,e,_⟩:=cell k zT7
     exact⟨b,off,e⟩
    ·have Q:k<xs.length:=by simpa using hk
     obtain⟨b,off,e,h2⟩:=cell k Q
     subst e
     rw[ZA,h2]
     simp[Q]
theorem WR (xs:List Int) (mem:List (Nat×bP)) (nx:Nat) (hm:xs.length≤17592186044416):
  bJ Pa0 53 [aF xs] mem nx (.c (.ref nx)) ((nx,.arr 3 1 (xs.map λn=> [pI n]))::mem) (nx+1):=by
 refine⟨⟨_,Tryz.func53,rfl,by kernel_rfl⟩,λw0 U ι w vs hs hr=> ?_⟩
 obtain⟨vs⟩:=vs
 cases hr with
 |cons h1 t=>
  cases t
  refine(Ed (D3 h1) hm).mono ?_
  rintro e w' ⟨v,rfl,q,hx⟩
  have hB:=hs.below.size
  obtain⟨ι',k1,k2,k3,k4⟩:=hs.newBox (pv:=v) (bx:= .arr 3 1 (xs.map λn=> [pI n])) hx.below (λb hb=>by
   rcases q.2 with⟨e,_⟩|⟨g,cap,cur,e,hg,_⟩
   ·rw[e]at hb;cases hb
   ·rw[e]at hb
    simp[fE]at hb
    omega) (λι' e1 e2 Z=>by
   refine⟨xs.map (.int .i64),by decide, ?_,by simp;omega, ?_⟩
   ·rw[e2,zE3]
    refine⟨q.1, ?_⟩
    rcases q.2 with h|⟨g,cap,cur,e,hg,h⟩
    ·exact .inl h
    ·exact .inr ⟨g,cap,cur,e,zK3 hB hg,h⟩
   ·refine⟨by simp,λi row hi=> ?_,λi row j p hi hj=> ?_⟩
    ·rw[zC7]at hi
     cases hx:xs[i]? with
     |none=>simp[hx]at hi
     |some x=>simp[hx]at hi;subst hi;rfl
    ·rw[zC7]at hi
     cases hx:xs[i]? with
     |none=>simp[hx]at hi
     |some x=>
      simp[hx]at hi
      subst hi
      cases j with
      |zero=>
       simp at hj
       subst hj
       exact⟨.int .i64 x,by simp[hx],.val rfl⟩
      |succ j=>simp at hj)
  exact⟨v,ι',rfl,k1,by rw[←k2];exact .c (.ref (zF6 _) (by
   rw[k2]
   rcases q.2 with⟨e,_⟩|⟨g,cap,cur,e,_⟩
   ·exact⟨_,_,_,e⟩
   ·exact⟨_,_,_,e⟩))⟩
set_option maxRecDepth 1000000
theorem wq {f : FuncId} {args : List AV} {z : Value} (hz : B8 z = true) (hf : ∃ fn, Tryz.prog.funcs[f]? = some fn ∧ fn.body.isSome = true ∧ (fn.name == "runtime.NumGoroutine") = false)
  (h: ∀(w:World) (U:Nat→Prop) (vs:Array Value),bf (aT w U (λ_=>undef) 0) args vs.toList→Calls Pa0 f vs w λe w'=>e= .returned z∧A3 w w'):ac Pa0 f args (.c (.pure (.val z))):=
 ⟨hf,λw U vs hG hr=>(h w U vs hr).mono λe w' ⟨he,hx⟩=>⟨z,he,.c (.pure (.val hz)),hx.below⟩⟩
theorem rI (xs:List Int):ac Pa0 xk [aF xs] (I (dI xs)):=by
 refine wq rfl ⟨_,Tryz.func227,rfl,by kernel_rfl⟩ λw U vs hr=> ?_
 obtain⟨vs⟩:=vs
 cases hr with
 |cons h1 t=>
  cases t
  exact(WD (D3 h1)).mono λe w' ⟨he,hx⟩=>⟨he,hx▸A3.refl _⟩
theorem nW (xs:List Int):ac Pa0 Nd [aF xs] (I (dI xs)):=by
 refine wq rfl ⟨_,Tryz.func128,rfl,by kernel_rfl⟩ λw U vs hr=> ?_
 obtain⟨vs⟩:=vs
 cases hr with
 |cons h1 t=>
  cases t
  exact(Tb (D3 h1)).mono λe w' ⟨he,hx⟩=>⟨he,hx⟩
variable {at':Int}
theorem Nk (xs:List Int) (L:aH at'):ac Pa0 rf [aF xs,I at'] (.tup [aF (yZ xs at').1,Go.Abs.B (yZ xs at').2]):=by
 refine ac.of Rh zR6 λhb=>aa ?_
 have hx:xs.length≤9223372036854775807:=by simpa[f6,fB,f5]using hb.1
 obtain⟨T,C⟩:=L
 by_cases D:0≤at'∧at'<dI xs
 ·have o:=Ff (xs:=xs) zR5
  have hg:=o.2.2.2
  have h6:xs.length≤16:=o.2.2.1
  obtain⟨h0,h1⟩:=D
  rw[zR ⟨h0,h1⟩]
  clear o
  conv in zf=>cbv
  repeat' first|simp(disch:=omega)only[go_sem, *]|apply ab<;>intro h<;>try omega|refine ak (rI xs) ?_
  refine al (λx:Nat×Int=>⟨[(0,aF xs),(1,I x.2),(6,.c (.ref 0)),(7,I ((x.1:Int)-1))], [(0,.arr 3 1 ((List.replicate x.1 0++(au xs at').drop x.1).map λn=> [pI n]))],1,0⟩)
   (λx=>x.1≤xs.length∧0≤x.2∧x.2≤9223372036854775807∧x.2=at'/bl (xs.drop x.1)) (λx=>x.1) ⟨(xs.length,at'), [],⟨zB2 _,h0,C, ?_⟩, ?_⟩ ?_
  ·rw[zD6 (zB2 _),bl,Int.ediv_one]
  ·have e1:(au xs at').drop xs.length= []:=zD6 (by rw[aX];exact zB2 _)
   simp[e1,wrap_i64 (show-9223372036854775808≤(xs.length:Int)-1∧(xs.length:Int)-1≤9223372036854775807 by omega)]
  ·rintro⟨k,z⟩ ⟨hk,m,hA,hz⟩
   refine aa ?_
   cases k with
   |zero=>
    repeat' first|simp(disch:=omega)only[go_sem, *]|apply ab<;>intro h<;>try omega
    all_goals simp
   |succ k=>
    have l:k<xs.length:=hk
    have e1:(((k+1:Nat):Int)-1)=(k:Int):=by omega
    have M:=(hg.get l).1
    have d:xs[k]?.getD 0=xs[k]:=by simp[l]
    rw[d]at M
    have r:xs[k]≠0:=by omega
    have H:0≤z/xs[k]:=zJ5 m zR5
    have O:z/xs[k]≤z:=zJ1 _ m
    have eq1:z.tdiv xs[k]=z/xs[k]:=zE2 m
    have eq2:z.tmod xs[k]=z%xs[k]:=zG0 m
    have E:((List.replicate (k+1) (0:Int)++(au xs at').drop (k+1)).map λn=> [pI n])[k]? =some [pI 0]:=by
     rw[zC7,zD8 zR6,zO4,if_pos zR5]
     rfl
    have V:k<(List.replicate (k+1) (0:Int)++(au xs at').drop (k+1)).length:=by simp;omega
    simp only[e1]
    repeat' first|simp(disch:=omega)only[go_sem, *,ae l,E,wrap_i64,eq1,eq2,r,ne_eq]|apply ab<;>intro h<;>try omega
    have F:z=at'/bl (xs.drop (k+1)):=hz
    have G:(((List.replicate (k+1) (0:Int)++(au xs at').drop (k+1)).map λn=> [pI n]).set k [PC.val (.int .i64 (z%xs[k]))])=(List.replicate k 0++(au xs at').drop k).map λn=> [pI n]:=by
     have h2:=JC k (0:Int) (z%xs[k]?.getD 0) ((au xs at').drop (k+1))
     rw[d]at h2
     rw[←zQ9 (f:= λn:Int=> [pI n]) (a:=z%xs[k])]
     rw[h2,vU l,←zU F,d]
    rw[G]
    refine⟨(k,z/xs[k]), [],⟨by omega,H,by show z/xs[k]≤_;omega, ?_⟩,zF6 _,by simp⟩
    show z/xs[k]=at'/bl (xs.drop k)
    rw[J5 hg.pos at' l,←F,d]
 ·rw[Kz D]
  conv in zf=>cbv
  repeat' first|simp(disch:=omega)only[go_sem, *]|apply ab<;>intro h<;>try omega|refine ak (rI xs) ?_
  all_goals rfl
theorem If (xs:List Int) (L:aH at'):ac Pa0 sw [aF xs,I at'] (.tup [aF (yZ xs at').1,Go.Abs.B (yZ xs at').2]):=by
 refine ac.of KG zR6 λhb=>aa ?_
 have hx:xs.length≤9223372036854775807:=by simpa[f6,fB,f5]using hb.1
 obtain⟨T,C⟩:=L
 by_cases D:0≤at'∧at'<dI xs
 ·have o:=Ff (xs:=xs) zR5
  have hg:=o.2.2.2
  have h6:xs.length≤16:=o.2.2.1
  obtain⟨h0,h1⟩:=D
  rw[zR ⟨h0,h1⟩]
  clear o
  conv in sL=>cbv
  repeat' first|simp(disch:=omega)only[go_sem, *]|apply ab<;>intro h<;>try omega|refine ak (nW xs) ?_
  refine al (λx:Nat×Int=>⟨[(0,aF xs),(1,I x.2),(6,.c (.ref 0)),(7,I ((x.1:Int)-1))], [(0,.arr 3 1 ((List.replicate x.1 0++(au xs at').drop x.1).map λn=> [pI n]))],1,0⟩)
   (λx=>x.1≤xs.length∧0≤x.2∧x.2≤9223372036854775807∧x.2=at'/bl (xs.drop x.1)) (λx=>x.1) ⟨(xs.length,at'), [],⟨zB2 _,h0,C, ?_⟩, ?_⟩ ?_
  ·rw[zD6 (zB2 _),bl,Int.ediv_one]
  ·have e1:(au xs at').drop xs.length= []:=zD6 (by rw[aX];exact zB2 _)
   simp[e1,wrap_i64 (show-9223372036854775808≤(xs.length:Int)-1∧(xs.length:Int)-1≤9223372036854775807 by omega)]
  ·rintro⟨k,z⟩ ⟨hk,m,hA,hz⟩
   refine aa ?_
   cases k with
   |zero=>
    repeat' first|simp(disch:=omega)only[go_sem, *]|apply ab<;>intro h<;>try omega
    all_goals simp
   |succ k=>
    have l:k<xs.length:=hk
    have e1:(((k+1:Nat):Int)-1)=(k:Int):=by omega
    have M:=(hg.get l).1
    have d:xs[k]?.getD 0=xs[k]:=by simp[l]
    rw[d]at M
    have r:xs[k]≠0:=by omega
    have H:0≤z/xs[k]:=zJ5 m zR5
    have O:z/xs[k]≤z:=zJ1 _ m
    have eq1:z.tdiv xs[k]=z/xs[k]:=zE2 m
    have eq2:z.tmod xs[k]=z%xs[k]:=zG0 m
    have E:((List.replicate (k+1) (0:Int)++(au xs at').drop (k+1)).map λn=> [pI n])[k]? =some [pI 0]:=by
     rw[zC7,zD8 zR6,zO4,if_pos zR5]
     rfl
    have V:k<(List.replicate (k+1) (0:Int)++(au xs at').drop (k+1)).length:=by simp;omega
    simp only[e1]
    repeat' first|simp(disch:=omega)only[go_sem, *,ae l,E,wrap_i64,eq1,eq2,r,ne_eq]|apply ab<;>intro h<;>try omega
    have F:z=at'/bl (xs.drop (k+1)):=hz
    have G:(((List.replicate (k+1) (0:Int)++(au xs at').drop (k+1)).map λn=> [pI n]).set k [PC.val (.int .i64 (z%xs[k]))])=(List.replicate k 0++(au xs at').drop k).map λn=> [pI n]:=by
     have h2:=JC k (0:Int) (z%xs[k]?.getD 0) ((au xs at').drop (k+1))
     rw[d]at h2
     rw[←zQ9 (f:= λn:Int=> [pI n]) (a:=z%xs[k])]
     rw[h2,vU l,←zU F,d]
    rw[G]
    refine⟨(k,z/xs[k]), [],⟨by omega,H,by show z/xs[k]≤_;omega, ?_⟩,zF6 _,by simp⟩
    show z/xs[k]=at'/bl (xs.drop k)
    rw[J5 hg.pos at' l,←F,d]
 ·rw[Kz D]
  conv in sL=>cbv
  repeat' first|simp(disch:=omega)only[go_sem, *]|apply ab<;>intro h<;>try omega|refine ak (nW xs) ?_
  all_goals rfl
end Go.Proofs.YtigdjhnndaokjaaGreatDoor
