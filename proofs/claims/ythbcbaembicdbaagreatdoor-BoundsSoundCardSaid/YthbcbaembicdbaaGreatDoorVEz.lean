import Derived.Test.YthbcbaembicdbaaGreatDoorVHo
import Derived.Test.YthbcbaembicdbaaGreatDoorVBx
set_option maxHeartbeats 4000000
set_option linter.unusedVariables false
set_option linter.unusedSimpArgs false
set_option maxRecDepth 1000000
namespace Go.Proofs.YthbcbaembicdbaaGreatDoor
open Go.Abs Go.RowKit
noncomputable section
def mU (env:List aD):List Int→List dW→List Int×Int
 |acc, []=>(acc,0)
 |acc,a::r=>if(x9 a.2.1 a.2.2 env).2≠0 then([],(x9 a.2.1 a.2.2 env).2)else if(x9 a.2.1 a.2.2 env).1<1∨4096<(x9 a.2.1 a.2.2 env).1 then([],15)else mU env (acc++ [(x9 a.2.1 a.2.2 env).1]) r
def tR (env:List aD) (l:List dW):List Int×Int:=
 if(mU env [] l).2≠0 then([],(mU env [] l).2)else if CY (mU env [] l).1≠0 then([],2)else((mU env [] l).1,0)
theorem Yj: ∀{l:List Int} {p:Int},vb p l=0∨vb p l=2
 | [],_=> .inl rfl
 |n::r,p=>by
  rw[vb]
  split
  ·exact .inr rfl
  ·exact Yj
theorem WA (l:List Int):CY l=0∨CY l=2:=by
 unfold CY
 split
 ·exact .inr rfl
 ·exact Yj
theorem XO {env:List aD} {acc:List Int} {l:List dW} {j:Nat} {n e:Int} (h:j<l.length) (hr:x9 l[j].2.1 l[j].2.2 env=(n,e)):mU env acc (l.drop j)=if e≠0 then([],e)else if n<1∨4096<n then([],15)else mU env (acc++ [n]) (l.drop (j+1)):=by
 rw[List.drop_eq_getElem_cons h,mU,hr]
theorem U8 {env:List aD} {acc:List Int} {l:List dW} {j:Nat} (h:l.length≤j):mU env acc (l.drop j)=(acc,0):=by
 rw[List.drop_of_length_le h,mU]
theorem Ii {l:List Int} {n:Int} (h:pK l) (h1: ¬(n<1∨4096<n)):pK (l++ [n]):= λx hx=>(List.mem_append.1 hx).elim (h x) λhx=>by
 obtain rfl:=List.mem_singleton.1 hx
 omega
theorem xS {d:y5} {env:List aD} (h1:d.dims.length≤1000) (h2:d.red.length≤1000) (h64: ∀a∈d.dims++d.red,br a.2) (he: ∀m∈env,ar m.2):af Tryz.prog qU [Qa d,gG mP env] (.tup [dc (tR env (d.dims++d.red)).1,I (tR env (d.dims++d.red)).2]):=by
 refine af.of zB (by simp) λhb=>aa ?_
 have pa:=mg d h1 h2
 have hl:(d.dims++d.red).length≤2000:=by simp;omega
 generalize d.dims++d.red=l at*
 have pe: ∀a∈l,af Tryz.prog yk [dR a.2.1 a.2.2,gG mP env] (.tup [I (x9 a.2.1 a.2.2 env).1,I (x9 a.2.1 a.2.2 env).2]):= λa ha=>zH (h64 a ha).1 (h64 a ha).2 he
 obtain⟨R,hR⟩: ∃R,R=mU env [] l:=⟨_,rfl⟩
 unfold tR
 rw[←hR]
 have HR:Hid (mU env [] (l.drop 0)=R):=Lib.hid hR.symm
 clear hR h64
 conv in pY=>cbv
 repeat' first|simp(disch:=omega) only[go_sem, *]|((with_reducible apply ab)<;>intro h<;>try omega)|(refine el pa rfl rfl ?_)
 refine fj 6 3 1 rfl (by decide) ?_
 refine ap (λx:Nat×List Int=>⟨[(1,gG mP env),(6,.c (.ref 1)),(13,gG ic l),(14,I l.length),(15,I x.1)], [(1,.arr 3 1 (x.2.map λn=> [pI n]))],2,0⟩) (λx=>x.1≤l.length∧x.2.length=x.1∧pK x.2∧Hid (mU env x.2 (l.drop x.1)=R)) (λx=>l.length-x.1) ⟨(0, []), [],⟨by omega,rfl,λx hx=>(by cases hx),HR⟩,by simp⟩ ?_
 rintro⟨j,acc⟩ ⟨hj,hal,hac,hr⟩
 refine aa ?_
 simp only at hj hal hac
 have hd:=hr.out
 simp only at hd
 clear hr HR pa
 by_cases hlt:j<l.length
 ·have p:=pe _ (List.getElem_mem hlt)
  obtain⟨⟨n,e⟩,hne⟩: ∃x,x=x9 l[j].2.1 l[j].2.2 env:=⟨_,rfl⟩
  rw[XO hlt hne.symm]at hd
  rw[←hne]at p
  simp only at p
  clear hne pe
  by_cases h0:e=0
  ·subst h0
   rw[if_neg (by simp)]at hd
   by_cases hn:n<1∨4096<n
   ·rw[if_pos hn]at hd
    subst hd
    rw[if_pos (show(15:Int)≠0 by decide)]
    repeat' first|simp(disch:=omega) only[go_sem, *,ai hlt,ic]|((with_reducible apply ab)<;>intro h<;>try omega)|(refine aY p rfl rfl ?_)
    all_goals rfl
   ·rw[if_neg hn]at hd
    have HD:=Lib.hid hd
    have hx:=Ii hac hn
    have hn1:1≤n∧n≤4096:=by omega
    clear hd hac hn
    have HT:=Lib.hid (show(acc.map λn=> [pI n])++ [[pI n]]=(acc++ [n]).map λn=> [pI n] by simp)
    repeat' first|simp(disch:=omega) only[go_sem, *,ai hlt,ic,wrap_i64]|((with_reducible apply ab)<;>intro h<;>try omega)|(refine aY p rfl rfl ?_)|(refine bf rfl (by intro h;cases h) (aO rfl) (by simp;omega) (by simp;omega) ?_)
    rw[HT.out]
    exact⟨(j+1,acc++ [n]), [(1,3)],⟨by omega,by simp;omega,hx,HD⟩,by show _-_<_-_;omega,by simp⟩
  ·rw[if_pos h0]at hd
   subst hd
   rw[if_pos h0]
   repeat' first|simp(disch:=omega) only[go_sem, *,ai hlt,ic,h0]|((with_reducible apply ab)<;>intro h<;>try omega)|(refine aY p rfl rfl ?_)
   all_goals rfl
 ·rw[U8 (by omega)]at hd
  subst hd
  have pv:=qC hac
  rcases WA acc with hv|hv
  ·rw[hv]at pv
   rw[if_neg (by simp),if_neg (by rw[hv];simp)]
   clear hv
   repeat' first|simp(disch:=omega) only[go_sem, *]|((with_reducible apply ab)<;>intro h<;>try omega)|(refine aY pv rfl rfl ?_)
  ·rw[hv]at pv
   rw[if_neg (by simp),if_pos (by rw[hv];simp)]
   clear hv
   repeat' first|simp(disch:=omega) only[go_sem, *]|((with_reducible apply ab)<;>intro h<;>try omega)|(refine aY pv rfl rfl ?_)
   all_goals rfl
def Jl (env:List aD) (s:ByteArray):Prop:=match CF env s with
 |none=>True
 |some v=>v<1∨4096<v
def MA (env:List aD):List aR→Int
 | []=>0
 |c::r=>if(cY c env).2≠0 then(cY c env).2 else if(cY c env).1=false then 16 else MA env r
def sZ (env:List aD) (wh:List aR):List ByteArray→Int
 | []=>MA env wh
 |s::r=>open Classical in if Jl env s then 15 else sZ env wh r
def xd (p:bz) (env:List aD):Int:=if env.length≠p.sizes.length then 15 else sZ env p.wher p.sizes
theorem Y8 {env:List aD} {l:List aR} {j:Nat} {b:Bool} {e:Int} (h:j<l.length) (hr:cY l[j] env=(b,e)):MA env (l.drop j)=if e≠0 then e else if b=false then 16 else MA env (l.drop (j+1)):=by
 rw[List.drop_eq_getElem_cons h,MA,hr]
theorem W9 {env:List aD} {l:List aR} {j:Nat} (h:l.length≤j):MA env (l.drop j)=0:=by
 rw[List.drop_of_length_le h,MA]
theorem Kz {env:List aD} {wh:List aR} {l:List ByteArray} {j:Nat} (h:j<l.length) (hb:Jl env l[j]):sZ env wh (l.drop j)=15:=by
 rw[List.drop_eq_getElem_cons h,sZ,if_pos hb]
theorem QL {env:List aD} {wh:List aR} {l:List ByteArray} {j:Nat} (h:j<l.length) (hb: ¬Jl env l[j]):sZ env wh (l.drop j)=sZ env wh (l.drop (j+1)):=by
 rw[List.drop_eq_getElem_cons h,sZ,if_neg hb]
theorem Ti {env:List aD} {wh:List aR} {l:List ByteArray} {j:Nat} (h:l.length≤j):sZ env wh (l.drop j)=MA env wh:=by
 rw[List.drop_of_length_le h,sZ]
theorem IB {env:List aD} {s:ByteArray} {v:Int} (h:CF env s=some v):Jl env s↔v<1∨4096<v:=by
 unfold Jl
 rw[h]
theorem Rx {env:List aD} {s:ByteArray} (h:CF env s=none):Jl env s:=by
 unfold Jl
 rw[h]
 trivial
theorem Ni (s:ByteArray):aaE ik [pS s] s:=by
 intro b
 refine af.of nW (by simp) λhb=>aa ?_
 conv in im=>cbv
 repeat' first|simp(disch:=omega) only[go_sem, *,ry]|((with_reducible apply ab)<;>intro h<;>try omega)
 rw[Vs]
theorem pG {p:bz} {env:List aD} (h64: ∀c∈p.wher,bk c) (he: ∀m∈env,ar m.2):af Tryz.prog jr [jE p,gG mP env] (I (xd p env)):=by
 refine af.of pV (by simp) λhb=>aa ?_
 conv in jB=>cbv
 have pc: ∀c∈p.wher,af Tryz.prog ft [iG c,gG mP env] (.tup [Go.Abs.B (cY c env).1,I (cY c env).2]):= λc h=>gq (h64 c h) he
 clear h64 he
 unfold xd
 by_cases h0:env.length=p.sizes.length
 ·rw[if_neg (not_not_intro h0)]
  have hi:(env.length:Int)=p.sizes.length:=by omega
  obtain⟨R,hR⟩: ∃R,R=sZ env p.wher p.sizes:=⟨_,rfl⟩
  rw[←hR]
  have HR:Hid (sZ env p.wher (p.sizes.drop 0)=R):=Lib.hid hR.symm
  have H0:=Lib.hid h0
  clear hR h0
  have hbl:p.sizes.length≤9223372036854775807∧p.wher.length≤9223372036854775807:=by
   have:=hb.1
   simp[iI,sR,jt]at this
   exact⟨this.1,this.2.1⟩
  obtain⟨b1,b2⟩:=hbl
  repeat' first|simp(disch:=omega) only[go_sem, *,hi]|((with_reducible apply ab)<;>intro h<;>try omega)
  refine ap (λj:Nat=>⟨[(1,gG mP env),(2,.c (.ptr 0 0)),(19,.c (.pure (gn p.sizes))),(20,I p.sizes.length),(21,I j)], [(0,kx p)],1,0⟩) (λj=>j≤p.sizes.length∧Hid (sZ env p.wher (p.sizes.drop j)=R)) (λj=>p.sizes.length-j) ⟨0, [],⟨by omega,HR⟩,by simp⟩ ?_
  rintro j ⟨hj,hr⟩
  refine aa ?_
  have hd:=hr.out
  clear hr HR hb hi H0
  by_cases hlt:j<p.sizes.length
  ·have pi:=eA (Ni p.sizes[j]) env
   rcases OY env p.sizes[j]with⟨hi,hb1⟩|⟨i,hi0,hi,hb1⟩
   ·rw[Kz hlt (Rx hb1)]at hd
    subst hd
    rw[hi]at pi
    clear hi hb1 pc
    repeat' first|simp(disch:=omega) only[go_sem, *,ai hlt]|((with_reducible apply ab)<;>intro h<;>try omega)|(refine aY pi rfl rfl ?_)
   ·rw[hi]at pi
    by_cases hbad:env[i].2<1∨4096<env[i].2
    ·rw[Kz hlt ((IB hb1).2 hbad)]at hd
     subst hd
     clear hi hb1 pc
     repeat' first|simp(disch:=omega) only[go_sem, *,ai hlt,ai hi0,mP]|((with_reducible apply ab)<;>intro h<;>try omega)|(refine aY pi rfl rfl ?_)
    ·rw[QL hlt (mt (IB hb1).1 hbad)]at hd
     have HD:=Lib.hid hd
     clear hi hb1 pc hd
     repeat' first|simp(disch:=omega) only[go_sem, *,ai hlt,ai hi0,mP,wrap_i64]|((with_reducible apply ab)<;>intro h<;>try omega)|(refine aY pi rfl rfl ?_)
     exact⟨j+1, [],⟨by omega,HD⟩,by omega,by simp⟩
  ·rw[Ti (by omega)]at hd
   have HR:Hid (MA env (p.wher.drop 0)=R):=Lib.hid hd
   clear hd
   repeat' first|simp(disch:=omega) only[go_sem, *]|((with_reducible apply ab)<;>intro h<;>try omega)
   refine ap (λj:Nat=>⟨[(1,gG mP env),(48,bR p.wher),(49,I p.wher.length),(50,I j)], [],0,0⟩) (λj=>j≤p.wher.length∧Hid (MA env (p.wher.drop j)=R)) (λj=>p.wher.length-j) ⟨0, [],⟨by omega,HR⟩,by simp⟩ ?_
   clear hlt hj
   rintro j ⟨hj,hr⟩
   refine aa ?_
   have hd:=hr.out
   clear hr HR
   by_cases hlt:j<p.wher.length
   ·have p1:=pc _ (List.getElem_mem hlt)
    obtain⟨⟨b,e⟩,hbe⟩: ∃x,x=cY p.wher[j] env:=⟨_,rfl⟩
    rw[Y8 hlt hbe.symm]at hd
    rw[←hbe]at p1
    simp only at p1
    clear hbe pc
    by_cases h0:e=0
    ·subst h0
     rw[if_neg (by simp)]at hd
     cases b
     ·rw[if_pos rfl]at hd
      subst hd
      repeat' first|simp(disch:=omega) only[go_sem, *,ai hlt,cP]|((with_reducible apply ab)<;>intro h<;>try omega)|(refine aY p1 rfl rfl ?_)
     ·rw[if_neg (by simp)]at hd
      have HD:=Lib.hid hd
      clear hd
      repeat' first|simp(disch:=omega) only[go_sem, *,ai hlt,cP,wrap_i64]|((with_reducible apply ab)<;>intro h<;>try omega)|(refine aY p1 rfl rfl ?_)
      exact⟨j+1, [],⟨by omega,HD⟩,by omega,by simp⟩
    ·rw[if_pos h0]at hd
     subst hd
     repeat' first|simp(disch:=omega) only[go_sem, *,ai hlt,cP,h0]|((with_reducible apply ab)<;>intro h<;>try omega)|(refine aY p1 rfl rfl ?_)
   ·rw[W9 (by omega)]at hd
    subst hd
    repeat' first|simp(disch:=omega) only[go_sem, *]|((with_reducible apply ab)<;>intro h<;>try omega)
 ·rw[if_pos h0]
  have hi: ¬(env.length:Int)=p.sizes.length:=by omega
  clear h0 pc
  repeat' first|simp(disch:=omega) only[go_sem, *,hi]|((with_reducible apply ab)<;>intro h<;>try omega)
set_option maxRecDepth 20000
def dF (l:List dW) (p:List Int):List aD:=(l.zip p).map λx=>(x.1.1,x.2)
def AH (l:List dW) (ext:List Int) (env:List aD) (o:Ob):Nat→Nat→Int
 |0,_=>0
 |m+1,k=>if jy (dF l (kB ext k).1++env) o.1 o.2≠0 then jy (dF l (kB ext k).1++env) o.1 o.2 else AH l ext env o m (k+1)
def Ml (l:List dW) (env:List aD) (o:Ob):Int:=if(tR env l).2≠0 then(tR env l).2 else AH l (tR env l).1 env o (gW (tR env l).1).toNat 0
theorem P6 {l:List dW} {p:List Int} (h:p.length=l.length):(dF l p).length=l.length:=by simp[dF,h]
theorem M0 {l:List dW} {p:List Int} {j:Nat} (h:j<l.length) (hp:j<p.length):(dF l p).take (j+1)=(dF l p).take j++ [(l[j].1,p[j])]:=by
 rw[List.take_succ_eq_append_getElem (by simp[dF];omega)]
 simp[dF]
theorem SJ {l:List dW} {xs:List Int} {k:Nat} {env:List aD} (hx:pK xs) (he: ∀m∈env,ar m.2): ∀m∈dF l (kB xs k).1++env,ar m.2:= λm hm=>by
 rcases List.mem_append.1 hm with hm|hm
 ·obtain⟨x,hx1,rfl⟩:=List.mem_map.1 hm
  have:=Nr (z:=(k:Int)) hx _ (List.of_mem_zip hx1).2
  show ar x.2
  unfold ar
  omega
 ·exact he m hm
theorem OI {env:List aD}: ∀{l:List dW} {acc r:List Int},pK acc→mU env acc l=(r,0)→pK r∧r.length=acc.length+l.length
 |[],acc,r,ha,h=>by
  rw[mU]at h
  cases h
  exact⟨ha,rfl⟩
 |a::l,acc,r,ha,h=>by
  rw[mU]at h
  split at h
  ·rename_i h0
   exact absurd (Prod.ext_iff.1 h).2 h0
  ·split at h
   ·cases (Prod.ext_iff.1 h).2
   ·rename_i h1
    obtain⟨g1,g2⟩:=OI (Ii ha h1) h
    exact⟨g1,by rw[g2];simp;omega⟩
theorem Pc {env:List aD} {l:List dW} {r:List Int} (h:tR env l=(r,0)):okX r∧r.length=l.length:=by
 unfold tR at h
 split at h
 ·rename_i h0
  exact absurd (Prod.ext_iff.1 h).2 h0
 ·rename_i h0
  split at h
  ·cases (Prod.ext_iff.1 h).2
  ·rename_i h1
   obtain rfl:(mU env [] l).1=r:=(Prod.ext_iff.1 h).1
   obtain⟨g1,g2⟩:=OI (env:=env) (l:=l) (acc:= []) (λx hx=>by cases hx) (Prod.ext rfl (Classical.not_not.1 h0))
   exact⟨⟨g1,Classical.not_not.1 h1⟩,by simpa using g2⟩
theorem XN {l:List dW} {ext:List Int} {env:List aD} {o:Ob} {N k:Nat} {e:Int} (h:k<N) (hr:jy (dF l (kB ext k).1++env) o.1 o.2=e):AH l ext env o (N-k) k=if e≠0 then e else AH l ext env o (N-(k+1)) (k+1):=by
 rw[show N-k=(N-(k+1))+1 by omega,AH,hr]
theorem TM {l:List dW} {ext:List Int} {env:List aD} {o:Ob} {N k:Nat} (h:N≤k):AH l ext env o (N-k) k=0:=by
 rw[show N-k=0 by omega,AH]
theorem RY {l:List dW} {p:List Int} {j:Nat} (h:j<l.length) (hp:j<p.length):((dF l p).take j).map mP++ [[pS l[j].1,pI p[j]]]=((dF l p).take (j+1)).map mP:=by
 rw[M0 h hp,List.map_append]
 rfl
def Ca (p:bz) (d:Nat):List dW:=match p.defs[d]? with
 |some d=>d.dims++d.red
 |none=> []
def Ag (p:bz) (env:List aD):List yA→Nat→Int×Int
 | [],_=>(0,0)
 |x::r,i=>if Ml (Ca p x.1) env x.2.2≠0 then(i,Ml (Ca p x.1) env x.2.2)else Ag p env r (i+1)
def Qb (p:bz) (env:List aD):Int×Int:=if(bB p).2≠0 then bB p else if xd p env≠0 then(0,xd p env)else Ag p env (lG p) 0
theorem Lb {p:bz} {d:Nat} (h:d<p.defs.length):Ca p d=p.defs[d].dims++p.defs[d].red:=by
 unfold Ca
 rw[List.getElem?_eq_getElem h]
theorem WO {p:bz} {env:List aD} {l:List yA} {i:Nat} {e:Int} (h:i<l.length) (hr:Ml (Ca p l[i].1) env l[i].2.2=e):Ag p env (l.drop i) i=if e≠0 then((i:Int),e)else Ag p env (l.drop (i+1)) (i+1):=by
 rw[List.drop_eq_getElem_cons h,Ag,hr]
theorem Sj {p:bz} {env:List aD} {l:List yA} {i:Nat} (h:l.length≤i):Ag p env (l.drop i) i=(0,0):=by
 rw[List.drop_of_length_le h,Ag]
theorem OB {l:List dW} {env:List aD} {o:Ob} {ext:List Int} {e:Int} (h:tR env l=(ext,e)):Ml l env o=if e≠0 then e else AH l ext env o (gW ext).toNat 0:=by
 unfold Ml
 rw[h]
def abJ (p:bz):Prop:= ∀d∈p.defs,d.dims.length≤1000∧d.red.length≤1000∧ ∀a∈d.dims++d.red,br a.2
def XS (p:bz):Prop:=Qm p∧abJ p∧(∀s∈p.sizes,gk s)∧(∀c∈p.wher,bk c)
theorem XS.ob {p:bz} (h:XS p) {x:yA} (hx:x∈lG p): ∃hd:x.1<p.defs.length,Jh x.2.2∧p.defs[x.1].dims.length≤1000∧p.defs[x.1].red.length≤1000∧ ∀a∈p.defs[x.1].dims++p.defs[x.1].red,br a.2:=by
 obtain⟨hd,h1⟩:=Kp hx
 have hm:=List.getElem_mem hd
 exact⟨hd,Yn p _ (h.1.2 _ hm).1.1 [] (λc hc=>by cases hc) _ h1,h.2.1 _ hm⟩
abbrev abX (x:yA):List PC:= [pI x.1,pI x.2.1,pI x.2.2.1.1.1,aw x.2.2.1.1.2,pB x.2.2.1.2,dg cP x.2.2.2]
theorem ti {p:bz} {env:List aD} (hf:rI p) (h64:tP p) (hz:(bB p).2=0→XS p) (he: ∀m∈env,ar m.2) (hel:env.length≤1000):af Tryz.prog mD [jE p,gG mP env] (.tup [I (Qb p env).1,I (Qb p env).2]):=by
 refine af.of tz (by simp) λhb=>aa ?_
 simp only[mA]
 clear hb
 have pv:=eJ hf h64
 unfold Qb
 by_cases h0:(bB p).2=0
 ·have h:=hz h0
  have ps:=pG h.2.2.2 he
  have pg:=nO hf h.1
  rw[if_neg (not_not_intro h0)]
  rw[h0]at pv
  by_cases h1:xd p env=0
  ·rw[if_neg (not_not_intro h1)]
   rw[h1]at ps
   have hlen:=FC h.1
   have hob: ∀x∈lG p,∃hd:x.1<p.defs.length,Jh x.2.2∧p.defs[x.1].dims.length≤1000∧p.defs[x.1].red.length≤1000∧ ∀a∈p.defs[x.1].dims++p.defs[x.1].red,br a.2:= λx hx=>h.ob hx
   clear h0 h1 hz h
   generalize lG p=L at*
   obtain⟨R,hR⟩: ∃R,R=Ag p env L 0:=⟨_,rfl⟩
   rw[←hR]
   have HR:Hid (Ag p env (L.drop 0) 0=R):=Lib.hid hR.symm
   clear hR
   repeat' first|simp(disch:=omega) only[go_sem]|((with_reducible refine ab ?_ ?_)<;>intro h<;>try first|omega|simp(disch:=omega) only[go_sem, *])|(with_reducible apply ah)|(with_reducible refine aj (λh=> ?_) ?_)|(refine aY pv rfl rfl ?_)|(refine aY ps rfl rfl ?_)|(refine el pg rfl rfl ?_)
   refine ap (λi:Nat=>⟨[(2,.c (.ptr 0 0)),(3,.c (.ptr 1 0)),(4,.c (.ptr 2 0)),(5,.c (.ptr 3 0)),(35,gG a6 L),(36,I L.length),(37,I i)], [(3,.var [.pure (pI 0)]),(2,.var [.pure (pI 0)]),(1,.var [.pure (dg mP env)]),(0,kx p)],4,0⟩) (λi=>i≤L.length∧Hid (Ag p env (L.drop i) i=R)) (λi=>L.length-i) ⟨0, [],⟨by omega,HR⟩,by simp⟩ ?_
   clear pv ps pg HR
   rintro i ⟨hi,hr⟩
   refine aa ?_
   have hd:=hr.out
   clear hr
   by_cases hlt:i<L.length
   ·obtain⟨hdl,o64,d1,d2,d64⟩:=hob _ (List.getElem_mem hlt)
    have g1:(L.map a6)[i]? =some (abX L[i]):=ai (f:=a6) hlt
    have g2:=ai (f:=eh) hdl
    have px:=xS (env:=env) d1 d2 d64 he
    have pa:=mg p.defs[L[i].1] d1 d2
    have hax:=Lb hdl
    have hll:(p.defs[L[i].1].dims++p.defs[L[i].1].red).length≤2000:=by simp;omega
    obtain⟨e,hee⟩: ∃e,e=Ml (Ca p L[i].1) env L[i].2.2:=⟨_,rfl⟩
    rw[WO hlt hee.symm]at hd
    rw[hax]at hee
    clear hob hax d64
    generalize hl:p.defs[L[i].1].dims++p.defs[L[i].1].red=l at*
    obtain⟨⟨ext,f⟩,hx⟩: ∃x,x=tR env l:=⟨_,rfl⟩
    rw[OB hx.symm]at hee
    rw[←hx]at px
    simp only at px
    by_cases hf0:f=0
    ·subst hf0
     rw[if_neg (by simp)]at hee
     obtain⟨hX,hxl⟩:=Pc hx.symm
     have hbd:=hX.bd
     have pall:=LF (xs:=ext) hbd.1
     obtain⟨N,hN⟩: ∃N,N=(gW ext).toNat:=⟨_,rfl⟩
     have hNi:(N:Int)=gW ext:=by omega
     have hNb:N≤65536:=by omega
     have hY:=KV (xs:=ext) (n:=N) (pt:= λk=>(kB ext k).1) (by omega) (by rw[hNi];exact xf hX) (Cv ext) (λk hk=>Gg hX ⟨by omega,by omega⟩)
     rw[←hN]at hee
     have HG:Hid (AH l ext env L[i].2.2 (N-0) 0=e):=Lib.hid hee.symm
     have HDD:=Lib.hid hd
     have pf: ∀k:Nat,af Tryz.prog fW [Z6 L[i].1 L[i].2.1 L[i].2.2,.c (.pure (.slice ((dF l (kB ext k).1).map mP++env.map mP)))] (I (jy (dF l (kB ext k).1++env) L[i].2.2.1 L[i].2.2.2)):= λk=>by
      rw[←List.map_append]
      exact AZ o64 (SJ hX.1 he)
     have hm':bC 2 (env.map mP):=aQ λx=>rfl
     have hpl: ∀k:Nat,(kB ext k).1.length=l.length:= λk=>by rw[Dg,hxl]
     have hin: ∀(k:Nat) j (h:j<(kB ext k).1.length),ar (kB ext k).1[j]:= λk j h=>by
      have:=Nr (z:=(k:Int)) hX.1 _ (List.getElem_mem h)
      unfold ar
      omega
     clear hd hee hN hNi hx
     repeat' first|simp(disch:=omega) only[go_sem,g1,g2,eh]|((with_reducible refine ab ?_ ?_)<;>intro h<;>try first|omega|simp(disch:=omega) only[go_sem, *,g1,g2,eh])|(with_reducible apply ah)|(with_reducible refine aj (λh=> ?_) ?_)|(refine el px rfl rfl ?_)|(refine el pall rfl rfl ?_)
     refine qc 7 [(2,.c (.ptr 0 0)),(3,.c (.ptr 1 0)),(4,.c (.ptr 2 0)),(5,.c (.ptr 3 0)),(9,.c (.ptr 4 0)),(10,.c (.ptr 5 0)),(11,.c (.ptr 6 0)),(35,gG a6 L),(36,I L.length),(37,I i)] (λk (_:Unit)=>([(6,QD p.defs[L[i].1]),(5,bOb L[i].1 L[i].2.1 L[i].2.2),(4,.var [.pure (pI i)]),(3,.var [.pure (pI 0)]),(2,.var [.pure (pI 0)]),(1,.var [.pure (dg mP env)]),(0,kx p)],7)) (λk _=>Hid (AH l ext env L[i].2.2 (N-k) k=e)) rfl rfl rfl hY ?_ ⟨by simp,by simp⟩ (by simp[gi,ij,c7,b8,dp,rn,yv,ct,aV,cU,cG,bv,c9,cz,aA,al,ja,gQ,cw]) ⟨(), [],HG,by simp⟩ ?_ ?_
     ·intro x hx
      obtain⟨a,_,rfl⟩:=List.mem_map.1 hx
      rfl
     ·intro k x t hx hg
      obtain⟨hk,rfl⟩:k<N∧ [dc (kB ext k).1]=x:=by
       obtain⟨h1,h2⟩:=List.getElem?_eq_some_iff.1 hx
       have h1:k<N:=by simpa using h1
       exact⟨h1,by rw[←h2];simp⟩
      have p1:=pf k
      have hgd:=hg.out
      obtain⟨v,hv⟩: ∃v,v=jy (dF l (kB ext k).1++env) L[i].2.2.1 L[i].2.2.2:=⟨_,rfl⟩
      rw[XN hk hv.symm]at hgd
      rw[←hv]at p1
      have hpk:=hpl k
      have hik:=hin k
      have hrow: ∀j (h:j<l.length) (hp:j<(kB ext k).1.length),((dF l (kB ext k).1).take j).map mP++ [[pS l[j].1,pI (kB ext k).1[j]]]=((dF l (kB ext k).1).take (j+1)).map mP:= λj h hp=>RY h hp
      have hbl:=P6 hpk
      have HGD:=Lib.hid hgd
      clear hgd hv hx hg pf hpl hin hY HG px pall hX hbd hxl
      generalize (kB ext k).1=pt at*
      generalize dF l pt=bp at*
      repeat' first|simp(disch:=omega) only[go_sem,pa]|((with_reducible refine ab ?_ ?_)<;>intro h<;>try first|omega|simp(disch:=omega) only[go_sem, *,pa])|(refine el pa rfl rfl ?_)
      refine fj 15 65 2 rfl (by decide) ?_
      refine ap (λj:Nat=>⟨[(3,.c (.ptr 1 0)),(4,.c (.ptr 2 0)),(5,.c (.ptr 3 0)),(9,.c (.ptr 4 0)),(10,.c (.ptr 5 0)),(14,dc pt),(15,.c (.ref 7)),(63,gG ic l),(64,I l.length),(65,I j)], [(7,.arr 65 2 ((bp.take j).map mP)),(6,QD p.defs[L[i].1]),(5,bOb L[i].1 L[i].2.1 L[i].2.2),(4,.var [.pure (pI i)]),(3,.var [.pure (pI 0)]),(2,.var [.pure (pI 0)]),(1,.var [.pure (dg mP env)]),(0,kx p)],8,7⟩) (λj=>j≤l.length) (λj=>l.length-j) ⟨0, [],by omega,by simp⟩ ?_
      intro j hj
      refine aa ?_
      by_cases hlt2:j<l.length
      ·have hjp:j<pt.length:=by omega
       have HT:=Lib.hid (hrow j hlt2 hjp)
       have h64j:=hik j hjp
       unfold ar at h64j
       clear hrow hik p1 pa
       repeat' first|simp(disch:=omega) only[go_sem,ai hlt2,ic,ai hjp,wrap_i64]|((with_reducible refine ab ?_ ?_)<;>intro h<;>try first|omega|simp(disch:=omega) only[go_sem, *,ai hlt2,ic,ai hjp,wrap_i64])|(with_reducible apply ah)|(with_reducible refine aj (λh=> ?_) ?_)|(refine bf rfl (by intro h;cases h) (aO rfl) (by simp;omega) (by simp;omega) ?_)
       rw[HT.out]
       exact⟨j+1, [(7,9)],by omega,by omega,by simp⟩
      ·have ht:bp.take j=bp:=List.take_of_length_le (by omega)
       rw[ht]
       clear hrow hik pa
       by_cases h0:v=0
       ·subst h0
        have HG:=Lib.hid ((if_neg (by simp)).symm.trans HGD.out)
        clear HGD
        repeat' first|simp(disch:=omega) only[go_sem]|((with_reducible refine ab ?_ ?_)<;>intro h<;>try first|omega|simp(disch:=omega) only[go_sem, *])|(with_reducible apply ah)|(with_reducible refine aj (λh=> ?_) ?_)|(refine aY p1 rfl rfl ?_)|(refine bf rfl (by intro h;cases h) hm' (by simp;omega) (by simp;omega) ?_)
        all_goals exact⟨(), [],HG,by simp⟩
       ·obtain rfl:v=e:=(if_pos h0).symm.trans HGD.out
        obtain rfl:=(if_pos h0).symm.trans HDD.out
        clear HGD HDD
        repeat' first|simp(disch:=omega) only[go_sem,h0]|((with_reducible refine ab ?_ ?_)<;>intro h<;>try first|omega|simp(disch:=omega) only[go_sem, *,h0])|(with_reducible apply ah)|(with_reducible refine aj (λh=> ?_) ?_)|(refine aY p1 rfl rfl ?_)|(refine bf rfl (by intro h;cases h) hm' (by simp;omega) (by simp;omega) ?_)
        all_goals rfl
     ·intro t hg
      have hgd:=hg.out
      rw[List.length_map,List.length_range,TM (Nat.le_refl _)]at hgd
      subst hgd
      have HD:=Lib.hid ((if_neg (by simp)).symm.trans HDD.out)
      clear hY px pall pf HDD
      repeat' first|simp(disch:=omega) only[go_sem,wrap_i64]|((with_reducible refine ab ?_ ?_)<;>intro h<;>try first|omega|simp(disch:=omega) only[go_sem, *,wrap_i64])
      exact⟨i+1, [],⟨by omega,HD⟩,by omega,by simp⟩
    ·rw[if_pos hf0]at hee
     subst hee
     rw[if_pos hf0]at hd
     subst hd
     clear hx
     repeat' first|simp(disch:=omega) only[go_sem,g1,g2,eh,hf0]|((with_reducible refine ab ?_ ?_)<;>intro h<;>try first|omega|simp(disch:=omega) only[go_sem, *,g1,g2,eh,hf0])|(with_reducible apply ah)|(with_reducible refine aj (λh=> ?_) ?_)|(refine el px rfl rfl ?_)
     all_goals rfl
   ·rw[Sj (by omega)]at hd
    subst hd
    repeat' first|simp(disch:=omega) only[go_sem]|((with_reducible refine ab ?_ ?_)<;>intro h<;>try first|omega|simp(disch:=omega) only[go_sem, *])
    all_goals rfl
  ·rw[if_pos h1]
   clear h0 hz h
   repeat' first|simp(disch:=omega) only[go_sem,h1]|((with_reducible refine ab ?_ ?_)<;>intro h<;>try first|omega|simp(disch:=omega) only[go_sem, *,h1])|(refine aY pv rfl rfl ?_)|(refine aY ps rfl rfl ?_)
   all_goals rfl
 ·rw[if_pos h0]
  clear hz
  repeat' first|simp(disch:=omega) only[go_sem,h0]|((with_reducible refine ab ?_ ?_)<;>intro h<;>try first|omega|simp(disch:=omega) only[go_sem, *,h0])|(refine aY pv rfl rfl ?_)
  all_goals rfl
end
end Go.Proofs.YthbcbaembicdbaaGreatDoor
