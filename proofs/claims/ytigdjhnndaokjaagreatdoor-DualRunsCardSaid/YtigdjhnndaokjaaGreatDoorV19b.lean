import Derived.Test.YtigdjhnndaokjaaGreatDoorV06h
import Derived.Test.YtigdjhnndaokjaaGreatDoorV17m
set_option linter.unusedVariables false
set_option linter.unusedSimpArgs false
set_option maxHeartbeats 4000000
open Go.Proofs.Tryz renaming prog→Pa0
namespace Go.Proofs.YtigdjhnndaokjaaGreatDoor
open Go.Abs Go.RowKit
noncomputable section
abbrev nul:ByteArray:=⟨⟨[]⟩⟩
def ad0 (x:Ix) (s:ByteArray):Prop:=x.2.1=nul∧x.1.1=0∧x.1.2= [(s,1)]
instance (x:Ix) (s:ByteArray):Decidable (ad0 x s):=Classical.propDecidable _
def acW (f:Int) (t:Ty):Prop:=cj t∧(f=3∨f=4∨((f=1∨f=2)∧t.1≠2))
def afz (d:lH) (i:Nat):Prop:=i<d.dims.length∧(d.fold≠5∨i+1<d.dims.length)∨d.dims.length≤i∧acW d.fold d.ty
instance (d:lH) (i:Nat):Decidable (afz d i):=Classical.propDecidable _
def kq (env:List aG):List Int→List iB→List Int×Int
 |acc, []=>(acc,0)
 |acc,a::r=>if(io a.1 a.2 env).2≠0 then([],(io a.1 a.2 env).2)else if(io a.1 a.2 env).1<1∨4096<(io a.1 a.2 env).1 then([],15)else kq env (acc++ [(io a.1 a.2 env).1]) r
def w9 (env:List aG) (l:List iB):List Int×Int:=kq env [] l
variable {env:List aG}{acc:List Int}{l:List iB}{n:Int}
theorem Qc {j:Nat} {e:Int} (h:j<l.length) (hr:io l[j].1 l[j].2 env=(n,e)):kq env acc (l.drop j)=if e≠0 then([],e)else if n<1∨4096<n then([],15)else kq env (acc++ [n]) (l.drop (j+1)):=by
 rw[zC0 h,kq,hr]
theorem LC {j:Nat} (h:l.length≤j):kq env acc (l.drop j)=(acc,0):=by
 rw[zF8 h,kq]
theorem VS {env:List aG}: ∀{l:List iB} {acc r:List Int},kq env acc l=(r,0)→ ∃t,r=acc++t∧t.length=l.length∧(∀x∈t,1≤x∧x≤4096)∧ ∀i (h:i<l.length) (h':i<t.length),io l[i].1 l[i].2 env=(t[i],0)
 |[],acc,r,h=>by
  rw[kq]at h
  cases h
  exact⟨[],by simp,rfl,(λx hx=>by cases hx),(λi h=>absurd h zR6)⟩
 |a::l,acc,r,h=>by
  rw[kq]at h
  split at h
  ·rename_i h1
   exact absurd (zH4.1 h).2 h1
  ·rename_i h1
   split at h
   ·cases (zH4.1 h).2
   ·rename_i h2
    obtain⟨t,e1,e2,e3,e4⟩:=VS h
    refine⟨(io a.1 a.2 env).1::t,by rw[e1,zE4];rfl,by simp[e2],λx hx=> ?_,λi h h'=> ?_⟩
    ·rcases zD7.1 hx with rfl|hx
     ·omega
     ·exact e3 x hx
    ·cases i with
     |zero=>exact zL0 rfl (zB9.1 h1)
     |succ i=>simpa using e4 i zS9 (by simpa using h')
variable {r:List Int}
theorem Dn (h:w9 env l=(r,0)):r.length=l.length∧(∀x∈r,1≤x∧x≤4096)∧ ∀i (h:i<l.length) (h':i<r.length),io l[i].1 l[i].2 env=(r[i],0):=by
 obtain⟨t,rfl,h2⟩:=VS h
 exact h2
theorem SZ {env:List aG}: ∀{l:List iB} {acc r:List Int} {e:Int},kq env acc l=(r,e)→e≠0→r= []
 |[],acc,r,e,h,h0=>by
  rw[kq]at h
  cases h
  exact absurd rfl h0
 |a::l,acc,r,e,h,h0=>by
  rw[kq]at h
  split at h
  ·exact(zH4.1 h).1.symm
  ·split at h
   ·exact(zH4.1 h).1.symm
   ·exact SZ h h0
theorem aaf {e:Int} (h:w9 env l=(r,e)) (h0:e≠0):r= []:=SZ h h0
def iS:List Int→Int
 | []=>1
 |n::r=>n*iS r
def Sx (p:bu) (env:List aG) (s:ByteArray):List Int×Int:=match cY p s with
 |none=>([],9)
 |some (_,fs)=>if(w9 env fs).2≠0 then([],(w9 env fs).2)else if 4096<iS (w9 env fs).1 then([],15)else((w9 env fs).1,0)
set_option maxRecDepth 1000000
theorem Yz (s:ByteArray):aeD iW [pS s] s:=by
 intro b
 refine ac.of yw zR6 λhb=>aa ?_
 conv in oi=>cbv
 repeat' first|simp(disch:=omega)only[go_sem, *,eK]|apply ab<;>intro h<;>try omega
 rw[UL]
variable {p:bu}
theorem oj (o: ∀c∈p.wher,VU c) (he: ∀m∈env,aH m.2):ac Pa0 lg [fL p,bF mP env] (I (DY p env)):=by
 refine ac.of CF zR6 λhb=>aa ?_
 conv in rB=>cbv
 have pc: ∀c∈p.wher,ac Pa0 f9 [W7 c,bF mP env] (.tup [Go.Abs.B (iY c env).1,I (iY c env).2]):= λc h=>xW (o c h) he
 clear o he
 unfold DY
 by_cases h0:env.length=p.sizes.length
 ·rw[if_neg (zA5 h0)]
  have hi:(env.length:Int)=p.sizes.length:=by omega
  obtain⟨R,hR⟩: ∃R,R=CK env p.wher p.sizes:=⟨_,rfl⟩
  rw[←hR]
  have HR:Hid (CK env p.wher (p.sizes.drop 0)=R):=Lib.hid hR.symm
  have H0:=Lib.hid h0
  clear hR h0
  have G:p.sizes.length≤9223372036854775807∧p.wher.length≤9223372036854775807:=by
   have:=hb.1
   simp[fB,om,f5]at this
   exact⟨this.1,this.2.1⟩
  obtain⟨b1,b2⟩:=G
  repeat' first|simp(disch:=omega)only[go_sem, *,hi]|apply ab<;>intro h<;>try omega
  refine al (λj:Nat=>⟨[(1,bF mP env),(2,.c (.ptr 0 0)),(19,.c (.pure (bj p.sizes))),(20,I p.sizes.length),(21,I j)], [(0,dK p)],1,0⟩) (λj=>j≤p.sizes.length∧Hid (CK env p.wher (p.sizes.drop j)=R)) (λj=>p.sizes.length-j) ⟨0, [],⟨by omega,HR⟩,by simp⟩ ?_
  rintro j ⟨hj,hr⟩
  refine aa ?_
  have hd:=hr.out
  clear hr HR hb hi H0
  by_cases g:j<p.sizes.length
  ·have pi:=eT (Yz p.sizes[j]) env
   rcases US env p.sizes[j]with⟨hi,u⟩|⟨i,K,hi,u⟩
   ·rw[ED g (PD u)]at hd
    subst hd
    rw[hi]at pi
    clear hi u pc
    repeat' first|simp(disch:=omega)only[go_sem, *,ae g]|apply ab<;>intro h<;>try omega|refine ak pi ?_
   ·rw[hi]at pi
    by_cases A:env[i].2<1∨4096<env[i].2
    ·rw[ED g ((zQ u).2 A)]at hd
     subst hd
     clear hi u pc
     repeat' first|simp(disch:=omega)only[go_sem, *,ae g,ae K,mP]|apply ab<;>intro h<;>try omega|refine ak pi ?_
    ·rw[O9 g (mt (zQ u).1 A)]at hd
     have HD:=Lib.hid hd
     clear hi u pc hd
     repeat' first|simp(disch:=omega)only[go_sem, *,ae g,ae K,mP,wrap_i64]|apply ab<;>intro h<;>try omega|refine ak pi ?_
     exact⟨j+1, [],⟨by omega,HD⟩,by omega,by simp⟩
  ·rw[Sc zR5]at hd
   have HR:Hid (Xv env (p.wher.drop 0)=R):=Lib.hid hd
   clear hd
   repeat' first|simp(disch:=omega)only[go_sem, *]|apply ab<;>intro h<;>try omega
   refine al (λj:Nat=>⟨[(1,bF mP env),(48,aew p.wher),(49,I p.wher.length),(50,I j)], [],0,0⟩) (λj=>j≤p.wher.length∧Hid (Xv env (p.wher.drop j)=R)) (λj=>p.wher.length-j) ⟨0, [],⟨by omega,HR⟩,by simp⟩ ?_
   clear g hj
   rintro j ⟨hj,hr⟩
   refine aa ?_
   have hd:=hr.out
   clear hr HR
   by_cases g:j<p.wher.length
   ·have p1:=pc _ (zA6 g)
    obtain⟨⟨b,e⟩,C⟩: ∃x,x=iY p.wher[j] env:=⟨_,rfl⟩
    rw[YI g C.symm]at hd
    rw[←C]at p1
    simp only at p1
    clear C pc
    by_cases h0:e=0
    ·subst h0
     rw[if_neg zR6]at hd
     cases b
     ·rw[if_pos rfl]at hd
      subst hd
      exact yC8
     ·rw[if_neg zR6]at hd
      have HD:=Lib.hid hd
      clear hd
      repeat' first|simp(disch:=omega)only[go_sem, *,ae g,cP,wrap_i64]|apply ab<;>intro h<;>try omega|refine ak p1 ?_
      exact⟨j+1, [],⟨by omega,HD⟩,by omega,by simp⟩
    ·rw[if_pos h0]at hd
     subst hd
     exact yC5
   ·rw[U6 zR5]at hd
    subst hd
    exact zW0
 ·rw[if_pos h0]
  have hi: ¬(env.length:Int)=p.sizes.length:=by omega
  clear h0 pc
  exact yE8
def Su (p:bu) (env:List aG):Int:=if(bA p).2≠0 then(bA p).2 else DY p env
theorem xa (hf:iD p) (o:m9 p) (hL:Et p) (he: ∀m∈env,aH m.2):ac Pa0 iV [fL p,bF mP env] (I (Su p env)):=by
 refine ac.of xT zR6 λhb=>aa ?_
 conv in oh=>cbv
 have pv:=m4 hf o
 have ps:=oj (p:=p) hL.1 he
 clear hb
 unfold Su
 by_cases h0:(bA p).2=0
 ·rw[if_neg (zA5 h0)]
  rw[h0]at pv
  clear h0
  exact yB6
 ·rw[if_pos h0]
  exact yD4
theorem Ft (hl:l.length≤1000) (o: ∀f∈l,d8 f) (he: ∀m∈env,aH m.2):ac Pa0 qv [qH l,bF mP env] (.tup [aF (w9 env l).1,I (w9 env l).2]):=by
 refine ac.of Iy zR6 λhb=>aa ?_
 have pe: ∀a∈l,ac Pa0 lQ [iK a.1 a.2,bF mP env] (.tup [I (io a.1 a.2 env).1,I (io a.1 a.2 env).2]):= λa ha=>iM (o a ha).1 (o a ha).2 he
 obtain⟨R,hR⟩: ∃R,R=kq env [] l:=⟨_,rfl⟩
 unfold w9
 rw[←hR]
 have HR:Hid (kq env [] (l.drop 0)=R):=Lib.hid hR.symm
 clear hR o hb
 conv in zc=>cbv
 repeat' first|simp(disch:=omega)only[go_sem, *]|apply ab<;>intro h<;>try omega
 refine dc 6 3 1 rfl zR9 ?_
 refine al (λx:Nat×List Int=>⟨[(1,bF mP env),(6,.c (.ref 0)),(11,qH l),(12,I l.length),(13,I x.1)], [(0,.arr 3 1 (x.2.map λn=> [pI n]))],1,0⟩) (λx=>x.1≤l.length∧x.2.length=x.1∧Hid (kq env x.2 (l.drop x.1)=R)) (λx=>l.length-x.1) ⟨(0, []), [],⟨by omega,rfl,HR⟩,by simp⟩ ?_
 rintro⟨j,acc⟩ ⟨hj,H,hr⟩
 refine aa ?_
 simp only at hj H
 have hd:=hr.out
 simp only at hd
 clear hr HR
 by_cases g:j<l.length
 ·have p:=pe _ (zA6 g)
  obtain⟨⟨n,e⟩,D⟩: ∃x,x=io l[j].1 l[j].2 env:=⟨_,rfl⟩
  rw[Qc g D.symm]at hd
  rw[←D]at p
  simp only at p
  clear D pe
  by_cases h0:e=0
  ·subst h0
   rw[if_neg zR6]at hd
   by_cases hn:n<1∨4096<n
   ·rw[if_pos hn]at hd
    subst hd
    repeat' first|simp(disch:=omega)only[go_sem, *,ae g,bT]|apply ab<;>intro h<;>try omega|refine ak p ?_
    all_goals rfl
   ·rw[if_neg hn]at hd
    have HD:=Lib.hid hd
    have M:1≤n∧n≤4096:=by omega
    clear hd hn
    have HT:=Lib.hid (show(acc.map λn=> [pI n])++ [[pI n]]=(acc++ [n]).map λn=> [pI n] by simp)
    repeat' first|simp(disch:=omega)only[go_sem, *,ae g,bT,wrap_i64]|apply ab<;>intro h<;>try omega|refine ak p ?_|refine aP rfl zS0 (aE rfl) zR8 zR8 ?_
    rw[HT.out]
    exact⟨(j+1,acc++ [n]), [(0,2)],⟨by omega,by simp;omega,HD⟩,by show _-_<_-_;omega,by simp⟩
  ·rw[if_pos h0]at hd
   subst hd
   repeat' first|simp(disch:=omega)only[go_sem, *,ae g,bT,h0]|apply ab<;>intro h<;>try omega|refine ak p ?_
   all_goals rfl
 ·rw[LC zR5]at hd
  subst hd
  repeat' first|simp(disch:=omega)only[go_sem, *]|apply ab<;>intro h<;>try omega
  all_goals rfl
theorem Gd: ∀{l:List Int},(∀x∈l,1≤x∧x≤4096)→1≤iS l
 | [],_=>zN4 _
 |n::r,h=>by
  have h1:=Gd λx hx=>h x (zC3 _ hx)
  have h2:=(h n zC5).1
  have h3:=zI4 h2 h1 zR5 zR5
  rw[iS]
  omega
theorem Y6 {l:List Int} {k:Nat} (h:k<l.length):iS (l.drop k)=l[k]*iS (l.drop (k+1)):=by
 rw[zC0 h,iS]
theorem CL {x:Int} (hn:1≤n∧n≤65537) (hx:1≤x∧x≤4096):1≤n*x∧n*x≤268439552:=by
 have h1:=zI4 hn.1 hx.1 zR5 zR5
 have h2:=zI4 hn.2 hx.2 zR5 zR5
 omega
def Xa (l:List Int):Int:=if 4096<iS l then 4097 else iS l
theorem V5 {l:List Int}:Xa l>4096↔4096<iS l:=by
 unfold Xa
 split<;>omega
theorem ME {l:List Int} (hl: ∀x∈l,1≤x∧x≤4096):ac Pa0 vh [aF l,I 4096] (I (Xa l)):=by
 refine ac.of Nw zR6 λhb=>aa ?_
 have hx:l.length≤9223372036854775807:=by simpa[f6,fB,f5]using hb.1
 conv in EE=>cbv
 have h0:Hid (1*iS (l.drop 0)=iS l):=Lib.hid (by rw[zK9,zJ0])
 have HL:=Lib.hid hl
 clear hl hb
 repeat' first|simp(disch:=omega)only[go_sem, *]|apply ab<;>intro h<;>try omega
 refine al (λs:Nat×Int=>⟨[(1,I 4096),(5,I s.2),(8,aF l),(9,I l.length),(10,I s.1)], [],0,0⟩) (λs=>s.1≤l.length∧(1≤s.2∧s.2≤4096)∧Hid (s.2*iS (l.drop s.1)=iS l)) (λs=>l.length-s.1) ⟨(0,1), [],⟨zE6 _,by show(1:Int)≤1∧(1:Int)≤4096;omega,h0⟩,by simp⟩ ?_
 clear h0
 rintro⟨k,n⟩ ⟨hk,hn,hr⟩
 refine aa ?_
 simp only at hk hn
 by_cases g:k<l.length
 ·have u:=HL.out _ (zA6 g)
  have hm:=CL (n:=n) zR5 u
  have hp:=Gd (l:=l.drop (k+1)) λx hx=>HL.out x (List.mem_of_mem_drop hx)
  have hd:=hr.out
  simp only at hd
  rw[Y6 g,←zL7]at hd
  have F:IntKind.wrap .i64 (n*l[k])=n*l[k]:=wrap_i64 zR5
  clear hr hn u
  by_cases hg:4096<n*l[k]
  ·have h1:=zI4 (show 4097≤n*l[k] by omega) hp zR5 zR5
   rw[Xa,if_pos zR5]
   clear hd h1 hp
   repeat' first|simp(disch:=omega)only[go_sem, *,ae g,F,wrap_i64]|apply ab<;>intro h<;>try omega
   all_goals rfl
  ·have HD:=Lib.hid hd
   clear hd hp
   repeat' first|simp(disch:=omega)only[go_sem, *,ae g,F,wrap_i64]|apply ab<;>intro h<;>try omega
   exact⟨(k+1,n*l[k]), [],⟨g,by show 1≤n*l[k]∧n*l[k]≤4096;omega,HD⟩,by show _-_<_-_;omega,by simp⟩
 ·have hd:=hr.out
  simp only at hd
  rw[zD6 zR5,iS,zQ3]at hd
  subst hd
  rw[Xa,if_neg zR5]
  exact zW0
def tyS (p:bu) (s:ByteArray):Ty:=match cY p s with
 |some (t,_)=>t
 |none=>jK
abbrev ack (p:bu) (env:List aG) (s:ByteArray):AV:= .tup [aF (Sx p env s).1,Hl (tyS p s),I (Sx p env s).2]
variable {s:ByteArray}
theorem Rq (hf:iD p) (hL:Et p) {t:Ty} {ds:List iB} (h:cY p s=some (t,ds)):ds.length≤1000∧ ∀l∈ds,d8 l:=by
 unfold cY at h
 split at h
 ·rename_i x hx
  have hm:=zK8 hx
  have e:x.2.2=ds:=by rw[Option.some.inj h]
  subst e
  exact⟨by have:=(hf.1 x hm).1;omega,hL.2.1 x hm⟩
 ·split at h
  ·rename_i d hd
   have hm:=zK8 hd
   cases h
   refine⟨by have:=(hf.2 d hm).1;simp;omega,λl hl=> ?_⟩
   obtain⟨a,ha,rfl⟩:=zE0.1 hl
   exact(hL.2.2 d hm).1 a (zF5 _ ha)
  ·cases h
theorem Oa (hf:iD p) (hL:Et p) (he: ∀m∈env,aH m.2):ac Pa0 zt [fL p,bF mP env,S s] (ack p env s):=by
 refine ac.of P8 zR6 λhb=>aa ?_
 conv in Gv=>cbv
 have cF:=lZ hf s
 have o:= λt ds h=>Rq (s:=s) (t:=t) (ds:=ds) hf hL h
 clear hb hf hL
 unfold ack Sx tyS
 cases z:cY p s with
 |none=>
  rw[z]at cF
  clear o
  repeat' first|simp(disch:=omega)only[go_sem, *]|apply ab<;>intro h<;>try omega|refine dH cF ?_
  all_goals rfl
 |some x=>
  obtain⟨t,ds⟩:=x
  rw[z]at cF
  obtain⟨h1,h2⟩:=o _ _ z
  have cE:=Ft h1 h2 he
  obtain⟨⟨r,e⟩,w⟩: ∃x,x=w9 env ds:=⟨_,rfl⟩
  rw[←w]at cE
  simp only
  rw[←w]
  simp only at cE ⊢
  clear z o h2 h1
  by_cases h0:e=0
  ·subst h0
   rw[if_neg zR6]
   have hr:=(Dn w.symm).2.1
   have cC:=ME hr
   clear w
   by_cases hg:4096<iS r
   ·rw[if_pos hg]
    have J:=V5.2 hg
    clear hg hr
    repeat' first|simp(disch:=omega)only[go_sem, *]|apply ab<;>intro h<;>try omega|refine dH cF ?_|refine dH cE ?_|refine ak cC ?_
    all_goals rfl
   ·rw[if_neg hg]
    have J: ¬Xa r>4096:= λh=>hg (V5.1 h)
    clear hg hr
    repeat' first|simp(disch:=omega)only[go_sem, *]|apply ab<;>intro h<;>try omega|refine dH cF ?_|refine dH cE ?_|refine ak cC ?_
    all_goals rfl
  ·rw[if_pos h0]
   clear w
   repeat' first|simp(disch:=omega)only[go_sem, *,h0]|apply ab<;>intro h<;>try omega|refine dH cF ?_|refine dH cE ?_
   all_goals rfl
def jV (p:bu) (env:List aG) (s:ByteArray):List Int×Int:=if Su p env≠0 then([],Su p env)else Sx p env s
theorem Bd (hf:iD p) (o:m9 p) (hL:Et p) (he: ∀m∈env,aH m.2):ac Pa0 xB [fL p,bF mP env,S s] (.tup [aF (jV p env s).1,I (jV p env s).2]):=by
 refine ac.of PM zR6 λhb=>aa ?_
 conv in Hd=>cbv
 have cA:=xa hf o hL he
 have cD:=Oa (s:=s) hf hL he
 clear hb hf o hL
 unfold jV
 by_cases h0:Su p env=0
 ·rw[if_neg (zA5 h0)]
  rw[h0]at cA
  clear h0
  exact yB7
 ·rw[if_pos h0]
  repeat' first|simp(disch:=omega)only[go_sem, *,h0]|apply ab<;>intro h<;>try omega|refine ak cA ?_
  all_goals rfl
set_option maxRecDepth 20000
set_option maxRecDepth 1000000
theorem Ga (env:List aG) (s:ByteArray):ac Pa0 qC [bF mP env,S s] (.tup [I ((su env s).getD 0),Go.Abs.B (su env s).isSome]):=by
 refine ac.of Hy zR6 λhb=>aa ?_
 have hx:env.length≤9223372036854775807:=by simpa[f6,fB,f5]using hb.1
 obtain⟨r,hr⟩: ∃r,r=su env s:=⟨_,rfl⟩
 rw[←hr]
 conv in yA=>cbv
 repeat' first|simp(disch:=omega)only[go_sem, *]|apply ab<;>intro h<;>try omega
 refine al (λk:Nat=>⟨[(6,I k),(0,bF mP env),(1,S s)], [],0,0⟩) (λk=>k≤env.length∧Hid (r=su (env.drop k) s)) (λk=>env.length-k) ⟨0, [],⟨by omega,hr⟩,by simp⟩ ?_
 rintro k ⟨hk,q⟩
 refine aa ?_
 clear hr
 by_cases g:k<env.length
 ·have Hall:Hid (r=if env[k].1=s then some env[k].2 else su (env.drop (k+1)) s):=by
   have:=q.out
   rwa [zC0 g,su]at this
  clear q
  repeat' first|simp(disch:=omega)only[go_sem, *,ae g,mP,wrap_i64]|apply ab<;>intro h<;>try omega
  ·rw[Hall.out,if_pos h]
   rfl
  ·refine⟨k+1, [],⟨by omega, ?_⟩,by omega,by simp⟩
   rw[Hid,Hall.out,if_neg h]
 ·have hn:=q.out
  rw[zD6 zR5,su]at hn
  clear q
  subst hn
  repeat' first|simp(disch:=omega)only[go_sem, *]|apply ab<;>intro h<;>try omega
  rfl
theorem nn (o: ∀c∈p.wher,VU c) (he: ∀m∈env,aH m.2):ac Pa0 jT [fL p,bF mP env] (I (DY p env)):=by
 refine ac.of Ag zR6 λhb=>aa ?_
 conv in qp=>cbv
 have pc: ∀c∈p.wher,ac Pa0 mO [W7 c,bF mP env] (.tup [Go.Abs.B (iY c env).1,I (iY c env).2]):= λc h=>Hx (o c h) he
 clear o he
 unfold DY
 by_cases h0:env.length=p.sizes.length
 ·rw[if_neg (zA5 h0)]
  have hi:(env.length:Int)=p.sizes.length:=by omega
  obtain⟨R,hR⟩: ∃R,R=CK env p.wher p.sizes:=⟨_,rfl⟩
  rw[←hR]
  have HR:Hid (CK env p.wher (p.sizes.drop 0)=R):=Lib.hid hR.symm
  clear hR h0
  have G:p.sizes.length≤9223372036854775807∧p.wher.length≤9223372036854775807:=by
   have:=hb.1
   simp[fB,om,f5]at this
   exact⟨this.1,this.2.1⟩
  obtain⟨b1,b2⟩:=G
  clear hb
  repeat' first|simp(disch:=omega)only[go_sem, *,hi]|apply ab<;>intro h<;>try omega
  refine al (λj:Nat=>⟨[(1,bF mP env),(2,.c (.ptr 0 0)),(5,I j)], [(0,dK p)],1,0⟩) (λj=>j≤p.sizes.length∧Hid (CK env p.wher (p.sizes.drop j)=R)) (λj=>p.sizes.length-j) ⟨0, [],⟨by omega,HR⟩,by simp⟩ ?_
  rintro j ⟨hj,hr⟩
  refine aa ?_
  have hd:=hr.out
  clear hr HR hi
  by_cases g:j<p.sizes.length
  ·have pn:=Ga env p.sizes[j]
   cases u:su env p.sizes[j]with
   |none=>
    rw[ED g (PD u)]at hd
    subst hd
    rw[u]at pn
    clear u pc
    simp only[zD3,zM1]at pn
    exact yC9
   |some v=>
    rw[u]at pn
    simp only[zA8,zF3]at pn
    by_cases A:v<1∨4096<v
    ·rw[ED g ((zQ u).2 A)]at hd
     subst hd
     clear u pc
     exact yC9
    ·rw[O9 g (mt (zQ u).1 A)]at hd
     have HD:=Lib.hid hd
     clear u pc hd
     repeat' first|simp(disch:=omega)only[go_sem, *,ae g,wrap_i64]|apply ab<;>intro h<;>try omega|refine ak pn ?_
     exact⟨j+1, [],⟨by omega,HD⟩,by omega,by simp⟩
  ·rw[Sc zR5]at hd
   have HR:Hid (Xv env (p.wher.drop 0)=R):=Lib.hid hd
   clear hd
   repeat' first|simp(disch:=omega)only[go_sem, *]|apply ab<;>intro h<;>try omega
   refine al (λj:Nat=>⟨[(1,bF mP env),(2,.c (.ptr 0 0)),(8,I j)], [(0,dK p)],1,0⟩) (λj=>j≤p.wher.length∧Hid (Xv env (p.wher.drop j)=R)) (λj=>p.wher.length-j) ⟨0, [],⟨by omega,HR⟩,by simp⟩ ?_
   clear g hj
   rintro j ⟨hj,hr⟩
   refine aa ?_
   have hd:=hr.out
   clear hr HR
   by_cases g:j<p.wher.length
   ·have p1:=pc _ (zA6 g)
    obtain⟨⟨b,e⟩,C⟩: ∃x,x=iY p.wher[j] env:=⟨_,rfl⟩
    rw[YI g C.symm]at hd
    rw[←C]at p1
    simp only at p1
    clear C pc
    by_cases h0:e=0
    ·subst h0
     rw[if_neg zR6]at hd
     cases b
     ·rw[if_pos rfl]at hd
      subst hd
      exact yC8
     ·rw[if_neg zR6]at hd
      have HD:=Lib.hid hd
      clear hd
      repeat' first|simp(disch:=omega)only[go_sem, *,ae g,cP,wrap_i64]|apply ab<;>intro h<;>try omega|refine ak p1 ?_
      exact⟨j+1, [],⟨by omega,HD⟩,by omega,by simp⟩
    ·rw[if_pos h0]at hd
     subst hd
     exact yC5
   ·rw[U6 zR5]at hd
    subst hd
    exact zW0
 ·rw[if_pos h0]
  have hi: ¬(env.length:Int)=p.sizes.length:=by omega
  clear h0 pc hb
  exact yE8
theorem Ho (hf:iD p) (o:m9 p) (hL:Et p) (he: ∀m∈env,aH m.2):ac Pa0 rY [fL p,bF mP env] (I (Su p env)):=by
 refine ac.of KZ zR6 λhb=>aa ?_
 conv in A5=>cbv
 have pv:=pV hf o
 have ps:=nn (p:=p) hL.1 he
 clear hb
 unfold Su
 by_cases h0:(bA p).2=0
 ·rw[if_neg (zA5 h0)]
  rw[h0]at pv
  clear h0
  exact yB6
 ·rw[if_pos h0]
  exact yD4
theorem Fk (hl:l.length≤1000) (o: ∀f∈l,d8 f) (he: ∀m∈env,aH m.2):ac Pa0 nR [qH l,bF mP env] (.tup [aF (w9 env l).1,I (w9 env l).2]):=by
 refine ac.of FK zR6 λhb=>aa ?_
 have pe: ∀a∈l,ac Pa0 iH [iK a.1 a.2,bF mP env] (.tup [I (io a.1 a.2 env).1,I (io a.1 a.2 env).2]):= λa ha=>fV (o a ha).1 (o a ha).2 he
 obtain⟨R,hR⟩: ∃R,R=kq env [] l:=⟨_,rfl⟩
 unfold w9
 rw[←hR]
 have HR:Hid (kq env [] (l.drop 0)=R):=Lib.hid hR.symm
 clear hR o hb
 conv in wo=>cbv
 repeat' first|simp(disch:=omega)only[go_sem, *]|apply ab<;>intro h<;>try omega
 refine dc 6 3 1 rfl zR9 ?_
 refine al (λx:Nat×List Int=>⟨[(0,qH l),(1,bF mP env),(6,.c (.ref 0)),(7,I x.1)], [(0,.arr 3 1 (x.2.map λn=> [pI n]))],1,0⟩) (λx=>x.1≤l.length∧x.2.length=x.1∧Hid (kq env x.2 (l.drop x.1)=R)) (λx=>l.length-x.1) ⟨(0, []), [],⟨by omega,rfl,HR⟩,by simp⟩ ?_
 rintro⟨j,acc⟩ ⟨hj,H,hr⟩
 refine aa ?_
 simp only at hj H
 have hd:=hr.out
 simp only at hd
 clear hr HR
 by_cases g:j<l.length
 ·have p:=pe _ (zA6 g)
  obtain⟨⟨n,e⟩,D⟩: ∃x,x=io l[j].1 l[j].2 env:=⟨_,rfl⟩
  rw[Qc g D.symm]at hd
  rw[←D]at p
  simp only at p
  clear D pe
  by_cases h0:e=0
  ·subst h0
   rw[if_neg zR6]at hd
   by_cases hn:n<1∨4096<n
   ·rw[if_pos hn]at hd
    subst hd
    repeat' first|simp(disch:=omega)only[go_sem, *,ae g,bT]|apply ab<;>intro h<;>try omega|refine ak p ?_
    all_goals rfl
   ·rw[if_neg hn]at hd
    have HD:=Lib.hid hd
    have M:1≤n∧n≤4096:=by omega
    clear hd hn
    have HT:=Lib.hid (show(acc.map λn=> [pI n])++ [[pI n]]=(acc++ [n]).map λn=> [pI n] by simp)
    repeat' first|simp(disch:=omega)only[go_sem, *,ae g,bT,wrap_i64]|apply ab<;>intro h<;>try omega|refine ak p ?_|refine aP rfl zS0 (aE rfl) zR8 zR8 ?_
    rw[HT.out]
    exact⟨(j+1,acc++ [n]), [(0,1)],⟨by omega,by simp;omega,HD⟩,by show _-_<_-_;omega,by simp⟩
  ·rw[if_pos h0]at hd
   subst hd
   repeat' first|simp(disch:=omega)only[go_sem, *,ae g,bT,h0]|apply ab<;>intro h<;>try omega|refine ak p ?_
   all_goals rfl
 ·rw[LC zR5]at hd
  subst hd
  repeat' first|simp(disch:=omega)only[go_sem, *]|apply ab<;>intro h<;>try omega
  all_goals rfl
abbrev adt (x:Option (Ty×List iB)):AV:=match x with
 |some (t,l)=> .tup [qH l,Hl t,Go.Abs.B true]
 |none=> .tup [.c (.pure (.slice [])),Hl jK,Go.Abs.B false]
theorem IN (hf:iD p) (s:ByteArray):ac Pa0 sc [fL p,S s] (adt (cY p s)):=by
 refine ac.of Kr zR6 λhb=>aa ?_
 have hl:p.params.length≤9223372036854775807∧p.defs.length≤9223372036854775807:=by
  have:=hb.1
  simp[fB,om,f5]at this
  omega
 conv in Bm=>cbv
 repeat' first|simp(disch:=omega)only[go_sem, *]|apply ab<;>intro h<;>try omega
 refine al (λk:Nat=>⟨[(7,I k),(5,.c (.ptr 1 0)),(2,.c (.ptr 0 0)),(1,S s)], [(1,.var [.pure (pI 0),.pure (pI 0),.pure (pI 0),.pure (pI 0),.pure (pI 0)]),(0,dK p)],2,0⟩) (λk=>k≤p.params.length∧ct (λj=> ∀h:j<p.params.length,¬p.params[j].1=s) k) (λk=>p.params.length-k) ⟨0, [],⟨by omega,.zero⟩,by simp⟩ ?_
 rintro k ⟨hk,q⟩
 refine aa ?_
 by_cases g:k<p.params.length
 ·by_cases he:p.params[k].1=s
  ·have HN:=Lib.hid (Fn g he λj hj=>q j hj zR5)
   clear q hf
   repeat' first|simp(disch:=omega)only[go_sem, *,ae g,ef,eK,he,decide_true,wrap_i64,]|apply zA1<;>intro h<;>try omega
   all_goals(rw[HN.out];try rfl)
  ·have HA:=Lib.hid q
   clear q hf
   repeat' first|simp(disch:=omega)only[go_sem, *,ae g,ef,eK,he,decide_false,wrap_i64]|apply ab<;>intro h<;>try omega
   exact⟨k+1, [],⟨by omega,HA.out.succ λ_=>he⟩,by omega,by simp⟩
 ·have h0: ∀j (hj:j<p.params.length),¬p.params[j].1=s:= λj hj=>q j zR5 hj
  have H0:=Lib.hid h0
  clear q h0
  repeat' first|simp(disch:=omega)only[go_sem, *]|apply ab<;>intro h<;>try omega
  refine al (λk:Nat=>⟨[(8,I k),(5,.c (.ptr 1 0)),(2,.c (.ptr 0 0)),(1,S s)], [(1,.var [.pure (pI 0),.pure (pI 0),.pure (pI 0),.pure (pI 0),.pure (pI 0)]),(0,dK p)],2,0⟩) (λk=>k≤p.defs.length∧ct (λj=> ∀h:j<p.defs.length,¬p.defs[j].name=s) k) (λk=>p.defs.length-k) ⟨0, [],⟨by omega,.zero⟩,by simp⟩ ?_
  rintro i ⟨hk,q⟩
  refine aa ?_
  by_cases hi:i<p.defs.length
  ·by_cases he:p.defs[i].name=s
   ·have HN:=Lib.hid (zP H0.out hi he λj hj=>q j hj zR5)
    have HF:=Lib.hid (hf.2 _ (zA6 hi))
    clear q hf
    repeat' first|simp(disch:=omega)only[go_sem, *,ae hi,bU,eK,he,decide_true,wrap_i64]|apply ab<;>intro h<;>try omega
    refine dc 9 62 2 rfl zR9 ?_
    refine al (λk:Nat=>⟨[(10,I k),(9,.c (.ref 2)),(8,I i),(5,.c (.ptr 1 0)),(2,.c (.ptr 0 0))], [(2,.arr 62 2 ((p.defs[i].dims.take k).map λa=>bT a.2)),(1,.var [.pure (pI 0),.pure (pI 0),.pure (pI 0),.pure (pI 0),.pure (pI 0)]),(0,dK p)],3,0⟩) (λk=>k≤p.defs[i].dims.length) (λk=>p.defs[i].dims.length-k) ⟨0, [],by omega,by simp⟩ ?_
    intro k hk
    refine aa ?_
    by_cases g:k<p.defs[i].dims.length
    ·have hd:=HF.out.1
     have ht:(p.defs[i].dims.take k).map (λa:iF=>bT a.2)++ [bT p.defs[i].dims[k].2]=(p.defs[i].dims.take (k+1)).map λa=>bT a.2:=by rw[zB5 g,zC8];rfl
     simp only[bT]at ht
     have HT:=Lib.hid ht
     clear ht HF
     repeat' first|simp(disch:=omega)only[go_sem, *,ae hi,bU,ae g,gw,bT,wrap_i64]|apply ab<;>intro h<;>try omega|refine aP rfl zS0 (aE rfl) zR8 zR8 ?_
     rw[HT.out]
     exact⟨k+1, [(2,3)],by omega,by omega,by simp[bT]⟩
    ·repeat' first|simp(disch:=omega)only[go_sem, *,ae hi,bU]|apply ab<;>intro h<;>try omega
     rw[HN.out,zB6 zR5]
     simp[zL1,zH3]
   ·have HA:=Lib.hid q
    clear q hf
    repeat' first|simp(disch:=omega)only[go_sem, *,ae hi,bU,eK,he,decide_false,wrap_i64]|apply ab<;>intro h<;>try omega
    exact⟨i+1, [],⟨by omega,HA.out.succ λ_=>he⟩,by omega,by simp⟩
  ·have HN:=Lib.hid (Cm H0.out λd hd=>by
    obtain⟨j,hj,rfl⟩:=zC2.1 hd
    exact q j zR5 hj)
   clear q hf
   repeat' first|simp(disch:=omega)only[go_sem, *]|apply ab<;>intro h<;>try omega
   rw[HN.out]
   try rfl
def Co:Int→List Int→Int
 |n, []=>n
 |n,x::r=>Co (min (n*x) 65537) r
theorem abr {l:List Int} {k:Nat} (h:k<l.length):Co n (l.drop k)=Co (min (n*l[k]) 65537) (l.drop (k+1)):=by
 rw[zC0 h,Co]
theorem Vv: ∀{l:List Int} {n:Int},(∀x∈l,1≤x∧x≤4096)→1≤n∧n≤65537→(4096<Co n l↔4096<n*iS l)
 | [],n,_,_=>by rw[Co,iS,zQ3]
 |x::r,n,hl,hn=>by
  have hx:=hl x zC5
  have hr:= λy hy=>hl y (zC3 _ hy)
  have hm:=CL hn hx
  have hp:=Gd hr
  rw[Co,iS,Vv hr zR5,←zL7]
  by_cases hg:n*x≤65537
  ·rw[Int.min_eq_left hg]
  ·rw[Int.min_eq_right zR5]
   have h1:=zI4 (show(65537:Int)≤65537 from zN4 _) hp zR5 zR5
   have h2:=zI4 (show 65538≤n*x by omega) hp zR5 zR5
   omega
theorem LU {l:List Int} (hl: ∀x∈l,1≤x∧x≤4096):ac Pa0 v7 [aF l] (I (Co 1 l)):=by
 refine ac.of NQ zR6 λhb=>aa ?_
 have hx:l.length≤9223372036854775807:=by simpa[f6,fB,f5]using hb.1
 conv in Eh=>cbv
 obtain⟨R,hR⟩: ∃R,R=Co 1 (l.drop 0):=⟨_,rfl⟩
 have L:Co 1 l=R:=hR.symm
 rw[L]
 have HR:Hid (Co 1 (l.drop 0)=R):=Lib.hid hR.symm
 have HL:=Lib.hid hl
 clear hR L hl hb
 repeat' first|simp(disch:=omega)only[go_sem, *]|apply ab<;>intro h<;>try omega
 refine al (λs:Nat×Int=>⟨[(0,aF l),(3,I s.2),(4,I s.1)], [],0,0⟩) (λs=>s.1≤l.length∧(1≤s.2∧s.2≤65537)∧Hid (Co s.2 (l.drop s.1)=R)) (λs=>l.length-s.1) ⟨(0,1), [],⟨zE6 _,by show(1:Int)≤1∧(1:Int)≤65537;omega,HR⟩,by simp⟩ ?_
 clear HR
 rintro⟨k,n⟩ ⟨hk,hn,hr⟩
 refine aa ?_
 simp only at hk hn
 have hd:=hr.out
 simp only at hd
 clear hr
 by_cases g:k<l.length
 ·have hm:=CL hn (HL.out _ (zA6 g))
  rw[abr g]at hd
  have HD:=Lib.hid hd
  have F:IntKind.wrap .i64 (n*l[k])=n*l[k]:=wrap_i64 zR5
  have N:1≤min (n*l[k]) 65537∧min (n*l[k]) 65537≤65537:=by omega
  clear hd hm
  repeat' first|simp(disch:=omega)only[go_sem, *,ae g,F,wrap_i64]|apply ab<;>intro h<;>try omega
  all_goals exact⟨(k+1,min (n*l[k]) 65537), [],⟨g,N,HD⟩,by show _-_<_-_;omega,by simp⟩
 ·rw[zD6 zR5,Co]at hd
  subst hd
  exact zW0
theorem Mm (hf:iD p) (hL:Et p) (he: ∀m∈env,aH m.2):ac Pa0 uH [fL p,bF mP env,S s] (.tup [aF (Sx p env s).1,I (Sx p env s).2]):=by
 refine ac.of Oi zR6 λhb=>aa ?_
 conv in D6=>cbv
 have cF:=IN hf s
 have o:= λt ds h=>Rq (s:=s) (t:=t) (ds:=ds) hf hL h
 clear hb hf hL
 unfold Sx
 cases z:cY p s with
 |none=>
  rw[z]at cF
  clear o
  repeat' first|simp(disch:=omega)only[go_sem, *]|apply ab<;>intro h<;>try omega|refine dH cF ?_
  all_goals rfl
 |some x=>
  obtain⟨t,ds⟩:=x
  rw[z]at cF
  obtain⟨h1,h2⟩:=o _ _ z
  have cE:=Fk h1 h2 he
  obtain⟨⟨r,e⟩,w⟩: ∃x,x=w9 env ds:=⟨_,rfl⟩
  rw[←w]at cE
  simp only
  rw[←w]
  simp only at cE ⊢
  clear z o h2 h1
  by_cases h0:e=0
  ·subst h0
   rw[if_neg zR6]
   have hr:=(Dn w.symm).2.1
   have cC:=LU hr
   have E:=Vv (n:=1) hr zR5
   rw[zJ0]at E
   clear w
   by_cases hg:4096<iS r
   ·rw[if_pos hg]
    have J:Co 1 r>4096:=E.2 hg
    clear hg hr E
    repeat' first|simp(disch:=omega)only[go_sem, *]|apply ab<;>intro h<;>try omega|refine dH cF ?_|refine dH cE ?_|refine ak cC ?_
    all_goals rfl
   ·rw[if_neg hg]
    have J: ¬Co 1 r>4096:= λh=>hg (E.1 h)
    clear hg hr E
    repeat' first|simp(disch:=omega)only[go_sem, *]|apply ab<;>intro h<;>try omega|refine dH cF ?_|refine dH cE ?_|refine ak cC ?_
    all_goals rfl
  ·rw[if_pos h0]
   have O:r= []:=aaf w.symm h0
   subst O
   clear w
   repeat' first|simp(disch:=omega)only[go_sem, *,h0]|apply ab<;>intro h<;>try omega|refine dH cF ?_|refine dH cE ?_
   all_goals rfl
theorem xK (hf:iD p) (o:m9 p) (hL:Et p) (he: ∀m∈env,aH m.2):ac Pa0 we [fL p,bF mP env,S s] (.tup [aF (jV p env s).1,I (jV p env s).2]):=by
 refine ac.of N8 zR6 λhb=>aa ?_
 conv in Ev=>cbv
 have cA:=Ho hf o hL he
 have cD:=Mm (s:=s) hf hL he
 clear hb hf o hL
 unfold jV
 by_cases h0:Su p env=0
 ·rw[if_neg (zA5 h0)]
  rw[h0]at cA
  clear h0
  exact yB7
 ·rw[if_pos h0]
  repeat' first|simp(disch:=omega)only[go_sem, *,h0]|apply ab<;>intro h<;>try omega|refine ak cA ?_
  all_goals rfl
end
end Go.Proofs.YtigdjhnndaokjaaGreatDoor
