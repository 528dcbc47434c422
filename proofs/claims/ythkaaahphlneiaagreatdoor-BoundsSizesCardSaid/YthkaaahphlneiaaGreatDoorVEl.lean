import Derived.Test.YthkaaahphlneiaaGreatDoorVHo
import Derived.Test.YthkaaahphlneiaaGreatDoorVBx
import Derived.Test.YthkaaahphlneiaaGreatDoorV18g
import Derived.Test.YthkaaahphlneiaaGreatDoorV18v
import Derived.Test.YthkaaahphlneiaaGreatDoorV18p
import Derived.Test.YthkaaahphlneiaaGreatDoorInY
set_option linter.unusedVariables false
set_option linter.unusedSimpArgs false
set_option maxRecDepth 20000
set_option maxHeartbeats 4000000
set_option maxRecDepth 1000000
namespace Go.Proofs.YthkaaahphlneiaaGreatDoor
open Go.Abs Go.RowKit
noncomputable def pu (env:List aP):List Int→List eY→List Int×Int
 |acc, []=>(acc,0)
 |acc,a::r=>if(rR a.2.1 a.2.2 env).2≠0 then([],(rR a.2.1 a.2.2 env).2)else if(rR a.2.1 a.2.2 env).1<1∨4096<(rR a.2.1 a.2.2 env).1 then([],15)else pu env (acc++ [(rR a.2.1 a.2.2 env).1]) r
noncomputable def Ai (env:List aP) (l:List eY):List Int×Int:=
 if(pu env [] l).2≠0 then([],(pu env [] l).2)else if xv (pu env [] l).1≠0 then([],2)else((pu env [] l).1,0)
theorem VP: ∀{l:List Int} {p:Int},vb p l=0∨vb p l=2
 | [],_=> .inl rfl
 |n::r,p=>by
  rw[vb]
  split
  ·exact .inr rfl
  ·exact VP
theorem OZ (l:List Int):xv l=0∨xv l=2:=by
 unfold xv
 split
 ·exact .inr rfl
 ·exact VP
theorem O0 {env:List aP} {acc:List Int} {l:List eY} {j:Nat} {n e:Int} (h:j<l.length) (hr:rR l[j].2.1 l[j].2.2 env=(n,e)):pu env acc (l.drop j)=if e≠0 then([],e)else if n<1∨4096<n then([],15)else pu env (acc++ [n]) (l.drop (j+1)):=by
 rw[List.drop_eq_getElem_cons h,pu,hr]
theorem KR {env:List aP} {acc:List Int} {l:List eY} {j:Nat} (h:l.length≤j):pu env acc (l.drop j)=(acc,0):=by
 rw[List.drop_of_length_le h,pu]
theorem zJ {l:List Int} {n:Int} (h:nK l) (h1: ¬(n<1∨4096<n)):nK (l++ [n]):=fun x hx=>(List.mem_append.1 hx).elim (h x) fun hx=>by
 obtain rfl:=List.mem_singleton.1 hx
 omega
theorem xg {d:zH} {env:List aP} (h1:d.dims.length≤1000) (h2:d.red.length≤1000) (h64: ∀a∈d.dims++d.red,bj a.2) (he: ∀m∈env,aA m.2):ac Tryz.prog ka [JI d,d8 mP env] (.tup [du (Ai env (d.dims++d.red)).1,I (Ai env (d.dims++d.red)).2]):=by
 refine ac.of yf (by simp) fun hb=>aa ?_
 have pa:=rJ d h1 h2
 have hl:(d.dims++d.red).length≤2000:=by simp;omega
 generalize d.dims++d.red=l at*
 have pe: ∀a∈l,ac Tryz.prog rB [dj a.2.1 a.2.2,d8 mP env] (.tup [I (rR a.2.1 a.2.2 env).1,I (rR a.2.1 a.2.2 env).2]):=fun a ha=>ya (h64 a ha).1 (h64 a ha).2 he
 obtain⟨R,hR⟩: ∃R,R=pu env [] l:=⟨_,rfl⟩
 unfold Ai
 rw[←hR]
 have HR:Hid (pu env [] (l.drop 0)=R):=Lib.hid hR.symm
 clear hR h64
 conv in qw=>cbv
 repeat' first|simp(disch:=omega) only[go_sem, *]|((with_reducible refine ab ?_ ?_)<;>intro h<;>try omega)|(refine bS pa rfl rfl ?_)
 refine dv 6 3 1 rfl (by decide) ?_
 refine aj (fun x:Nat×List Int=>⟨[(1,d8 mP env),(6,.c (.ref 1)),(13,d8 ed l),(14,I l.length),(15,I x.1)], [(1,.arr 3 1 (x.2.map fun n=> [pI n]))],2,0⟩) (fun x=>x.1≤l.length∧x.2.length=x.1∧nK x.2∧Hid (pu env x.2 (l.drop x.1)=R)) (fun x=>l.length-x.1) ⟨(0, []), [],⟨by omega,rfl,fun x hx=>(by cases hx),HR⟩,by simp⟩ ?_
 rintro⟨j,acc⟩ ⟨hj,hal,hac,hr⟩
 refine aa ?_
 simp only at hj hal hac
 have hd:=hr.out
 simp only at hd
 clear hr HR pa
 by_cases hlt:j<l.length
 ·have p:=pe _ (List.getElem_mem hlt)
  obtain⟨⟨n,e⟩,hne⟩: ∃x,x=rR l[j].2.1 l[j].2.2 env:=⟨_,rfl⟩
  rw[O0 hlt hne.symm]at hd
  rw[←hne]at p
  simp only at p
  clear hne pe
  by_cases h0:e=0
  ·subst h0
   rw[if_neg (by simp)]at hd
   by_cases hn:n<1∨4096<n
   ·rw[if_pos hn]at hd
    subst hd
    rw[if_pos (show(15:Int)≠0 by decide)]
    repeat' first|simp(disch:=omega) only[go_sem, *,ae hlt,ed]|((with_reducible refine ab ?_ ?_)<;>intro h<;>try omega)|(refine av p rfl rfl ?_)
    all_goals rfl
   ·rw[if_neg hn]at hd
    have HD:=Lib.hid hd
    have hx:=zJ hac hn
    have hn1:1≤n∧n≤4096:=by omega
    clear hd hac hn
    have HT:=Lib.hid (show(acc.map fun n=> [pI n])++ [[pI n]]=(acc++ [n]).map fun n=> [pI n] by simp)
    repeat' first|simp(disch:=omega) only[go_sem, *,ae hlt,ed,wrap_i64]|((with_reducible refine ab ?_ ?_)<;>intro h<;>try omega)|(refine av p rfl rfl ?_)|(refine aN rfl (by intro h;cases h) (aI rfl) (by simp;omega) (by simp;omega) ?_)
    rw[HT.out]
    exact⟨(j+1,acc++ [n]), [(1,3)],⟨by omega,by simp;omega,hx,HD⟩,by show _-_<_-_;omega,by simp⟩
  ·rw[if_pos h0]at hd
   subst hd
   rw[if_pos h0]
   repeat' first|simp(disch:=omega) only[go_sem, *,ae hlt,ed,h0]|((with_reducible refine ab ?_ ?_)<;>intro h<;>try omega)|(refine av p rfl rfl ?_)
   all_goals rfl
 ·rw[KR (by omega)]at hd
  subst hd
  have pv:=pQ hac
  rcases OZ acc with hv|hv
  ·rw[hv]at pv
   rw[if_neg (by simp),if_neg (by rw[hv];simp)]
   clear hv
   repeat' first|simp(disch:=omega) only[go_sem, *]|((with_reducible refine ab ?_ ?_)<;>intro h<;>try omega)|(refine av pv rfl rfl ?_)
  ·rw[hv]at pv
   rw[if_neg (by simp),if_pos (by rw[hv];simp)]
   clear hv
   repeat' first|simp(disch:=omega) only[go_sem, *]|((with_reducible refine ab ?_ ?_)<;>intro h<;>try omega)|(refine av pv rfl rfl ?_)
   all_goals rfl
def Mz (env:List aP) (s:ByteArray):Prop:=match ry env s with
 |none=>True
 |some v=>v<1∨4096<v
noncomputable def Qm (env:List aP):List gf→Int
 | []=>0
 |c::r=>if(cJ c env).2≠0 then(cJ c env).2 else if(cJ c env).1=false then 16 else Qm env r
noncomputable def xr (env:List aP) (wh:List gf):List ByteArray→Int
 | []=>Qm env wh
 |s::r=>open Classical in if Mz env s then 15 else xr env wh r
noncomputable def A7 (p:bK) (env:List aP):Int:=if env.length≠p.sizes.length then 15 else xr env p.wher p.sizes
theorem SA {env:List aP} {l:List gf} {j:Nat} {b:Bool} {e:Int} (h:j<l.length) (hr:cJ l[j] env=(b,e)):Qm env (l.drop j)=if e≠0 then e else if b=false then 16 else Qm env (l.drop (j+1)):=by
 rw[List.drop_eq_getElem_cons h,Qm,hr]
theorem NS {env:List aP} {l:List gf} {j:Nat} (h:l.length≤j):Qm env (l.drop j)=0:=by
 rw[List.drop_of_length_le h,Qm]
theorem yW {env:List aP} {wh:List gf} {l:List ByteArray} {j:Nat} (h:j<l.length) (hb:Mz env l[j]):xr env wh (l.drop j)=15:=by
 rw[List.drop_eq_getElem_cons h,xr,if_pos hb]
theorem G5 {env:List aP} {wh:List gf} {l:List ByteArray} {j:Nat} (h:j<l.length) (hb: ¬Mz env l[j]):xr env wh (l.drop j)=xr env wh (l.drop (j+1)):=by
 rw[List.drop_eq_getElem_cons h,xr,if_neg hb]
theorem KV {env:List aP} {wh:List gf} {l:List ByteArray} {j:Nat} (h:l.length≤j):xr env wh (l.drop j)=Qm env wh:=by
 rw[List.drop_of_length_le h,xr]
theorem u9 {env:List aP} {s:ByteArray} {v:Int} (h:ry env s=some v):Mz env s↔v<1∨4096<v:=by
 unfold Mz
 rw[h]
theorem Ih {env:List aP} {s:ByteArray} (h:ry env s=none):Mz env s:=by
 unfold Mz
 rw[h]
 trivial
theorem Nl (s:ByteArray):XV eX [pS s] s:=by
 intro b
 refine ac.of nG (by simp) fun hb=>aa ?_
 conv in ik=>cbv
 repeat' first|simp(disch:=omega) only[go_sem, *,jA]|((with_reducible refine ab ?_ ?_)<;>intro h<;>try omega)
 rw[QW]
theorem ou {p:bK} {env:List aP} (h64: ∀c∈p.wher,fR c) (he: ∀m∈env,aA m.2):ac Tryz.prog fB [fK p,d8 mP env] (I (A7 p env)):=by
 refine ac.of qa (by simp) fun hb=>aa ?_
 conv in jk=>cbv
 have pc: ∀c∈p.wher,ac Tryz.prog fC [nI c,d8 mP env] (.tup [Go.Abs.B (cJ c env).1,I (cJ c env).2]):=fun c h=>gz (h64 c h) he
 clear h64 he
 unfold A7
 by_cases h0:env.length=p.sizes.length
 ·rw[if_neg (not_not_intro h0)]
  have hi:(env.length:Int)=p.sizes.length:=by omega
  obtain⟨R,hR⟩: ∃R,R=xr env p.wher p.sizes:=⟨_,rfl⟩
  rw[←hR]
  have HR:Hid (xr env p.wher (p.sizes.drop 0)=R):=Lib.hid hR.symm
  have H0:=Lib.hid h0
  clear hR h0
  have hbl:p.sizes.length≤9223372036854775807∧p.wher.length≤9223372036854775807:=by
   have:=hb.1
   simp[ie,lO,iz]at this
   exact⟨this.1,this.2.1⟩
  obtain⟨b1,b2⟩:=hbl
  repeat' first|simp(disch:=omega) only[go_sem, *,hi]|((with_reducible refine ab ?_ ?_)<;>intro h<;>try omega)
  refine aj (fun j:Nat=>⟨[(1,d8 mP env),(2,.c (.ptr 0 0)),(19,.c (.pure (cH p.sizes))),(20,I p.sizes.length),(21,I j)], [(0,d6 p)],1,0⟩) (fun j=>j≤p.sizes.length∧Hid (xr env p.wher (p.sizes.drop j)=R)) (fun j=>p.sizes.length-j) ⟨0, [],⟨by omega,HR⟩,by simp⟩ ?_
  rintro j ⟨hj,hr⟩
  refine aa ?_
  have hd:=hr.out
  clear hr HR hb hi H0
  by_cases hlt:j<p.sizes.length
  ·have pi:=eF (Nl p.sizes[j]) env
   rcases NP env p.sizes[j]with⟨hi,hb1⟩|⟨i,hi0,hi,hb1⟩
   ·rw[yW hlt (Ih hb1)]at hd
    subst hd
    rw[hi]at pi
    clear hi hb1 pc
    repeat' first|simp(disch:=omega) only[go_sem, *,ae hlt]|((with_reducible refine ab ?_ ?_)<;>intro h<;>try omega)|(refine av pi rfl rfl ?_)
   ·rw[hi]at pi
    by_cases hbad:env[i].2<1∨4096<env[i].2
    ·rw[yW hlt ((u9 hb1).2 hbad)]at hd
     subst hd
     clear hi hb1 pc
     repeat' first|simp(disch:=omega) only[go_sem, *,ae hlt,ae hi0,mP]|((with_reducible refine ab ?_ ?_)<;>intro h<;>try omega)|(refine av pi rfl rfl ?_)
    ·rw[G5 hlt (mt (u9 hb1).1 hbad)]at hd
     have HD:=Lib.hid hd
     clear hi hb1 pc hd
     repeat' first|simp(disch:=omega) only[go_sem, *,ae hlt,ae hi0,mP,wrap_i64]|((with_reducible refine ab ?_ ?_)<;>intro h<;>try omega)|(refine av pi rfl rfl ?_)
     exact⟨j+1, [],⟨by omega,HD⟩,by omega,by simp⟩
  ·rw[KV (by omega)]at hd
   have HR:Hid (Qm env (p.wher.drop 0)=R):=Lib.hid hd
   clear hd
   repeat' first|simp(disch:=omega) only[go_sem, *]|((with_reducible refine ab ?_ ?_)<;>intro h<;>try omega)
   refine aj (fun j:Nat=>⟨[(1,d8 mP env),(48,ej p.wher),(49,I p.wher.length),(50,I j)], [],0,0⟩) (fun j=>j≤p.wher.length∧Hid (Qm env (p.wher.drop j)=R)) (fun j=>p.wher.length-j) ⟨0, [],⟨by omega,HR⟩,by simp⟩ ?_
   clear hlt hj
   rintro j ⟨hj,hr⟩
   refine aa ?_
   have hd:=hr.out
   clear hr HR
   by_cases hlt:j<p.wher.length
   ·have p1:=pc _ (List.getElem_mem hlt)
    obtain⟨⟨b,e⟩,hbe⟩: ∃x,x=cJ p.wher[j] env:=⟨_,rfl⟩
    rw[SA hlt hbe.symm]at hd
    rw[←hbe]at p1
    simp only at p1
    clear hbe pc
    by_cases h0:e=0
    ·subst h0
     rw[if_neg (by simp)]at hd
     cases b
     ·rw[if_pos rfl]at hd
      subst hd
      repeat' first|simp(disch:=omega) only[go_sem, *,ae hlt,cP]|((with_reducible refine ab ?_ ?_)<;>intro h<;>try omega)|(refine av p1 rfl rfl ?_)
     ·rw[if_neg (by simp)]at hd
      have HD:=Lib.hid hd
      clear hd
      repeat' first|simp(disch:=omega) only[go_sem, *,ae hlt,cP,wrap_i64]|((with_reducible refine ab ?_ ?_)<;>intro h<;>try omega)|(refine av p1 rfl rfl ?_)
      exact⟨j+1, [],⟨by omega,HD⟩,by omega,by simp⟩
    ·rw[if_pos h0]at hd
     subst hd
     repeat' first|simp(disch:=omega) only[go_sem, *,ae hlt,cP,h0]|((with_reducible refine ab ?_ ?_)<;>intro h<;>try omega)|(refine av p1 rfl rfl ?_)
   ·rw[NS (by omega)]at hd
    subst hd
    repeat' first|simp(disch:=omega) only[go_sem, *]|((with_reducible refine ab ?_ ?_)<;>intro h<;>try omega)
 ·rw[if_pos h0]
  have hi: ¬(env.length:Int)=p.sizes.length:=by omega
  clear h0 pc
  repeat' first|simp(disch:=omega) only[go_sem, *,hi]|((with_reducible refine ab ?_ ?_)<;>intro h<;>try omega)
set_option maxRecDepth 20000
set_option maxRecDepth 1000000
theorem Hq {s:ByteArray} (h:fp s):cd [(s,1)]:=by
 intro j hj hl
 obtain rfl:j=0:=by simpa using hj
 exact⟨h,by show(1:Int)≠0;decide,fun h0=>absurd h0 (by omega)⟩
theorem R4 {s:ByteArray} {env:List aP} (h:fp s) (hb:ry env s=none):rR 0 [(s,1)] env=(0,9):=by
 unfold rR
 rw[if_neg (not_not_intro (Hq h)),if_pos ⟨_,List.mem_cons_self,hb⟩]
theorem Rn {s:ByteArray} {env:List aP} {v:Int} (h:fp s) (hb:ry env s=some v) (hv:aA v):rR 0 [(s,1)] env=(v,0):=by
 have e:0+lu (jx env) [(s,1)]=v:=by simp[lu,jx,hb]
 unfold rR
 rw[if_neg (not_not_intro (Hq h)),if_neg (by
  rintro⟨m,hm,h1⟩
  rw[List.mem_singleton.1 hm,hb]at h1
  cases h1),e,if_pos hv]
theorem CF {p:bK} {env:List aP} (hid: ∀s∈p.sizes,fp s) (h64: ∀c∈p.wher,fR c) (he: ∀m∈env,aA m.2):ac Tryz.prog oW [fK p,d8 mP env] (I (A7 p env)):=by
 refine ac.of Ef (by simp) fun hb=>aa ?_
 conv in ws=>cbv
 have pc: ∀c∈p.wher,ac Tryz.prog io [nI c,d8 mP env] (.tup [Go.Abs.B (cJ c env).1,I (cJ c env).2]):=fun c h=>lv (h64 c h) he
 have pe: ∀s,ac Tryz.prog jp [dj 0 [(s,1)],d8 mP env] (.tup [I (rR 0 [(s,1)] env).1,I (rR 0 [(s,1)] env).2]):=fun s=>ny (by simp[aA]) (fun m hm=>by rw[List.mem_singleton.1 hm];simp[aA]) he
 have hv: ∀{s v},ry env s=some v→aA v:=fun h=>by
  obtain⟨m,hm,rfl⟩:=N3 h
  exact he m hm
 clear h64 he
 unfold A7
 by_cases h0:env.length=p.sizes.length
 ·rw[if_neg (not_not_intro h0)]
  have hi:(env.length:Int)=p.sizes.length:=by omega
  obtain⟨R,hR⟩: ∃R,R=xr env p.wher p.sizes:=⟨_,rfl⟩
  rw[←hR]
  have HR:Hid (xr env p.wher (p.sizes.drop 0)=R):=Lib.hid hR.symm
  clear hR h0
  have hbl:p.sizes.length≤9223372036854775807∧p.wher.length≤9223372036854775807:=by
   have:=hb.1
   simp[ie,lO,iz]at this
   exact⟨this.1,this.2.1⟩
  obtain⟨b1,b2⟩:=hbl
  repeat' first|simp(disch:=omega) only[go_sem, *,hi]|((with_reducible refine ab ?_ ?_)<;>intro h<;>try omega)
  refine aj (fun j:Nat=>⟨[(1,d8 mP env),(2,.c (.ptr 0 0)),(5,I j)], [(0,d6 p)],1,0⟩) (fun j=>j≤p.sizes.length∧Hid (xr env p.wher (p.sizes.drop j)=R)) (fun j=>p.sizes.length-j) ⟨0, [],⟨by omega,HR⟩,by simp⟩ ?_
  rintro j ⟨hj,hr⟩
  refine aa ?_
  have hd:=hr.out
  clear hr HR hb hi
  by_cases hlt:j<p.sizes.length
  ·have hs:=hid _ (List.getElem_mem hlt)
   have pv:=GK hs
   have p1:=pe p.sizes[j]
   cases hb1:ry env p.sizes[j]with
   |none=>
    rw[yW hlt (Ih hb1)]at hd
    subst hd
    rw[R4 hs hb1]at p1
    clear hb1 pc pe hv hid hs
    repeat' first|simp(disch:=omega) only[go_sem, *,ae hlt]|((with_reducible refine ab ?_ ?_)<;>intro h<;>try omega)|(with_reducible refine af ?_ ?_)|(with_reducible refine ag (fun h=> ?_) ?_)|(refine bS pv rfl rfl ?_)|(refine av p1 rfl rfl ?_)
    all_goals rfl
   |some v=>
    rw[Rn hs hb1 (hv hb1)]at p1
    by_cases hbad:v<1∨4096<v
    ·rw[yW hlt ((u9 hb1).2 hbad)]at hd
     subst hd
     clear hb1 pc pe hv hid hs
     repeat' first|simp(disch:=omega) only[go_sem, *,ae hlt]|((with_reducible refine ab ?_ ?_)<;>intro h<;>try omega)|(with_reducible refine af ?_ ?_)|(with_reducible refine ag (fun h=> ?_) ?_)|(refine bS pv rfl rfl ?_)|(refine av p1 rfl rfl ?_)
     all_goals rfl
    ·rw[G5 hlt (mt (u9 hb1).1 hbad)]at hd
     have HD:=Lib.hid hd
     clear hb1 pc pe hv hid hs hd
     have hn:1≤v∧v≤4096:=by omega
     clear hbad
     repeat' first|simp(disch:=omega) only[go_sem, *,ae hlt,wrap_i64]|((with_reducible refine ab ?_ ?_)<;>intro h<;>try omega)|(with_reducible refine af ?_ ?_)|(with_reducible refine ag (fun h=> ?_) ?_)|(refine bS pv rfl rfl ?_)|(refine av p1 rfl rfl ?_)
     exact⟨j+1, [],⟨by omega,HD⟩,by omega,by simp⟩
  ·rw[KV (by omega)]at hd
   have HR:Hid (Qm env (p.wher.drop 0)=R):=Lib.hid hd
   clear hd
   repeat' first|simp(disch:=omega) only[go_sem, *]|((with_reducible refine ab ?_ ?_)<;>intro h<;>try omega)
   refine aj (fun j:Nat=>⟨[(1,d8 mP env),(2,.c (.ptr 0 0)),(8,I j)], [(0,d6 p)],1,0⟩) (fun j=>j≤p.wher.length∧Hid (Qm env (p.wher.drop j)=R)) (fun j=>p.wher.length-j) ⟨0, [],⟨by omega,HR⟩,by simp⟩ ?_
   clear hlt hj
   rintro j ⟨hj,hr⟩
   refine aa ?_
   have hd:=hr.out
   clear hr HR
   by_cases hlt:j<p.wher.length
   ·have p1:=pc _ (List.getElem_mem hlt)
    obtain⟨⟨b,e⟩,hbe⟩: ∃x,x=cJ p.wher[j] env:=⟨_,rfl⟩
    rw[SA hlt hbe.symm]at hd
    rw[←hbe]at p1
    simp only at p1
    clear hbe pc pe
    by_cases h0:e=0
    ·subst h0
     rw[if_neg (by simp)]at hd
     cases b
     ·rw[if_pos rfl]at hd
      subst hd
      repeat' first|simp(disch:=omega) only[go_sem, *,ae hlt,cP]|((with_reducible refine ab ?_ ?_)<;>intro h<;>try omega)|(refine av p1 rfl rfl ?_)
     ·rw[if_neg (by simp)]at hd
      have HD:=Lib.hid hd
      clear hd
      repeat' first|simp(disch:=omega) only[go_sem, *,ae hlt,cP,wrap_i64]|((with_reducible refine ab ?_ ?_)<;>intro h<;>try omega)|(refine av p1 rfl rfl ?_)
      exact⟨j+1, [],⟨by omega,HD⟩,by omega,by simp⟩
    ·rw[if_pos h0]at hd
     subst hd
     repeat' first|simp(disch:=omega) only[go_sem, *,ae hlt,cP,h0]|((with_reducible refine ab ?_ ?_)<;>intro h<;>try omega)|(refine av p1 rfl rfl ?_)
   ·rw[NS (by omega)]at hd
    subst hd
    repeat' first|simp(disch:=omega) only[go_sem, *]|((with_reducible refine ab ?_ ?_)<;>intro h<;>try omega)
 ·rw[if_pos h0]
  have hi: ¬(env.length:Int)=p.sizes.length:=by omega
  clear h0 pc pe
  repeat' first|simp(disch:=omega) only[go_sem, *,hi]|((with_reducible refine ab ?_ ?_)<;>intro h<;>try omega)
def f5 (l:List eY) (p:List Int):List aP:=(l.zip p).map fun x=>(x.1.1,x.2)
noncomputable def Au (l:List eY) (ext:List Int) (env:List aP) (o:Ob):Nat→Nat→Int
 |0,_=>0
 |m+1,k=>if ib (f5 l (jz ext k).1++env) o.1 o.2≠0 then ib (f5 l (jz ext k).1++env) o.1 o.2 else Au l ext env o m (k+1)
noncomputable def FS (l:List eY) (env:List aP) (o:Ob):Int:=if(Ai env l).2≠0 then(Ai env l).2 else Au l (Ai env l).1 env o (dJ (Ai env l).1).toNat 0
theorem H4 {l:List eY} {p:List Int} (h:p.length=l.length):(f5 l p).length=l.length:=by simp[f5,h]
theorem MS {l:List eY} {p:List Int} {j:Nat} (h:j<l.length) (hp:j<p.length):(f5 l p).take (j+1)=(f5 l p).take j++ [(l[j].1,p[j])]:=by
 rw[List.take_succ_eq_append_getElem (by simp[f5];omega)]
 simp[f5]
theorem LP {l:List eY} {xs:List Int} {k:Nat} {env:List aP} (hx:nK xs) (he: ∀m∈env,aA m.2): ∀m∈f5 l (jz xs k).1++env,aA m.2:=fun m hm=>by
 rcases List.mem_append.1 hm with hm|hm
 ·obtain⟨x,hx1,rfl⟩:=List.mem_map.1 hm
  have:=IW (z:=(k:Int)) hx _ (List.of_mem_zip hx1).2
  show aA x.2
  unfold aA
  omega
 ·exact he m hm
theorem O1 {env:List aP}: ∀{l:List eY} {acc r:List Int},nK acc→pu env acc l=(r,0)→nK r∧r.length=acc.length+l.length
 |[],acc,r,ha,h=>by
  rw[pu]at h
  cases h
  exact⟨ha,rfl⟩
 |a::l,acc,r,ha,h=>by
  rw[pu]at h
  split at h
  ·rename_i h0
   exact absurd (Prod.ext_iff.1 h).2 h0
  ·split at h
   ·cases (Prod.ext_iff.1 h).2
   ·rename_i h1
    obtain⟨g1,g2⟩:=O1 (zJ ha h1) h
    exact⟨g1,by rw[g2];simp;omega⟩
theorem NZ {env:List aP} {l:List eY} {r:List Int} (h:Ai env l=(r,0)):UE r∧r.length=l.length:=by
 unfold Ai at h
 split at h
 ·rename_i h0
  exact absurd (Prod.ext_iff.1 h).2 h0
 ·rename_i h0
  split at h
  ·cases (Prod.ext_iff.1 h).2
  ·rename_i h1
   obtain rfl:(pu env [] l).1=r:=(Prod.ext_iff.1 h).1
   obtain⟨g1,g2⟩:=O1 (env:=env) (l:=l) (acc:= []) (fun x hx=>by cases hx) (Prod.ext rfl (Classical.not_not.1 h0))
   exact⟨⟨g1,Classical.not_not.1 h1⟩,by simpa using g2⟩
theorem O5 {l:List eY} {ext:List Int} {env:List aP} {o:Ob} {N k:Nat} {e:Int} (h:k<N) (hr:ib (f5 l (jz ext k).1++env) o.1 o.2=e):Au l ext env o (N-k) k=if e≠0 then e else Au l ext env o (N-(k+1)) (k+1):=by
 rw[show N-k=(N-(k+1))+1 by omega,Au,hr]
theorem LJ {l:List eY} {ext:List Int} {env:List aP} {o:Ob} {N k:Nat} (h:N≤k):Au l ext env o (N-k) k=0:=by
 rw[show N-k=0 by omega,Au]
theorem G4 {l:List eY} {p:List Int} {j:Nat} (h:j<l.length) (hp:j<p.length):((f5 l p).take j).map mP++ [[pS l[j].1,pI p[j]]]=((f5 l p).take (j+1)).map mP:=by
 rw[MS h hp,List.map_append]
 rfl
set_option maxHeartbeats 4000000 in
theorem s7 {p:bK} {env:List aP} {d:Nat} {z:Int} {o:Ob} (hd:d<p.defs.length) (h1:p.defs[d].dims.length≤1000) (h2:p.defs[d].red.length≤1000) (h64: ∀a∈p.defs[d].dims++p.defs[d].red,bj a.2) (ho:GC o) (he: ∀m∈env,aA m.2) (hel:env.length≤1000):
  ac Tryz.prog fD [fK p,d8 mP env,Xl d z o] (I (FS (p.defs[d].dims++p.defs[d].red) env o)):=by
 refine ac.of vA (by simp) fun hb=>aa ?_
 have hd':bl 3 (p.defs[d].dims.map ed):=ar fun x=>rfl
 have hr':bl 3 (p.defs[d].red.map ed):=ar fun x=>rfl
 have hm':bl 2 (env.map mP):=ar fun x=>rfl
 have HM:=Lib.hid (List.map_append (f:=ed) (l₁:=p.defs[d].dims) (l₂:=p.defs[d].red)).symm
 have hll:(p.defs[d].dims++p.defs[d].red).length≤2000:=by simp;omega
 conv in m0=>cbv
 clear hb
 repeat' first|simp(disch:=omega) only[go_sem, *,ae hd,cr]|((with_reducible refine ab ?_ ?_)<;>intro h<;>try omega)|(refine nN hd' (by simp;omega) (by simp;omega) ?_)|(refine aN rfl (by intro h;cases h) hr' (by simp;omega) (by simp;omega) ?_)
 rw[HM.out]
 generalize p.defs[d].dims++p.defs[d].red=l at*
 clear hd' hr' HM h1 h2
 have pe: ∀a∈l,ac Tryz.prog jp [dj a.2.1 a.2.2,d8 mP env] (.tup [I (rR a.2.1 a.2.2 env).1,I (rR a.2.1 a.2.2 env).2]):=fun a ha=>ny (h64 a ha).1 (h64 a ha).2 he
 obtain⟨R,hR⟩: ∃R,R=pu env [] l:=⟨_,rfl⟩
 have HR:Hid (pu env [] (l.drop 0)=R):=Lib.hid hR.symm
 have hok: ∀r,Ai env l=(r,0)→UE r∧r.length=l.length:=fun r h=>NZ h
 have hS:Ai env l=if R.2≠0 then([],R.2)else if xv R.1≠0 then([],2)else(R.1,0):=by rw[hR];rfl
 unfold FS
 clear hR h64
 refine dv 8 3 1 rfl (by decide) ?_
 refine aj (fun x:Nat×List Int=>⟨[(1,d8 mP env),(5,.c (.ptr 1 0)),(7,.c (.ref 3)),(8,.c (.ref 4)),(9,I x.1)], [(4,.arr 3 1 (x.2.map fun n=> [pI n])),(3,.arr 73 3 (l.map ed)),(1,WX d z o)],5,0⟩) (fun x=>x.1≤l.length∧x.2.length=x.1∧nK x.2∧Hid (pu env x.2 (l.drop x.1)=R)) (fun x=>l.length-x.1) ⟨(0, []), [],⟨by omega,rfl,fun x hx=>(by cases hx),HR⟩,by simp⟩ ?_
 rintro⟨j,acc⟩ ⟨hj,hal,hac,hr⟩
 refine aa ?_
 simp only at hj hal hac
 have hd:=hr.out
 simp only at hd
 clear hr HR
 by_cases hlt:j<l.length
 ·have p1:=pe _ (List.getElem_mem hlt)
  obtain⟨⟨n,e⟩,hne⟩: ∃x,x=rR l[j].2.1 l[j].2.2 env:=⟨_,rfl⟩
  rw[O0 hlt hne.symm]at hd
  rw[←hne]at p1
  simp only at p1
  clear hne pe hok
  by_cases h0:e=0
  ·subst h0
   rw[if_neg (by simp)]at hd
   by_cases hn:n<1∨4096<n
   ·rw[if_pos hn]at hd
    subst hd
    rw[hS,if_pos (show(15:Int)≠0 by decide),if_pos (show(15:Int)≠0 by decide)]
    clear hS
    repeat' first|simp(disch:=omega) only[go_sem, *,ae hlt,ed]|((with_reducible refine ab ?_ ?_)<;>intro h<;>try omega)|(refine av p1 rfl rfl ?_)
   ·rw[if_neg hn]at hd
    have HD:=Lib.hid hd
    have hx:=zJ hac hn
    have hn1:1≤n∧n≤4096:=by omega
    clear hd hac hn hS
    have HT:=Lib.hid (show(acc.map fun n=> [pI n])++ [[pI n]]=(acc++ [n]).map fun n=> [pI n] by simp)
    repeat' first|simp(disch:=omega) only[go_sem, *,ae hlt,ed,wrap_i64]|((with_reducible refine ab ?_ ?_)<;>intro h<;>try omega)|(refine av p1 rfl rfl ?_)|(refine aN rfl (by intro h;cases h) (aI rfl) (by simp;omega) (by simp;omega) ?_)
    rw[HT.out]
    exact⟨(j+1,acc++ [n]), [(4,5)],⟨by omega,by simp;omega,hx,HD⟩,by show _-_<_-_;omega,by simp⟩
  ·rw[if_pos h0]at hd
   subst hd
   rw[hS,if_pos h0,if_pos h0]
   clear hS
   repeat' first|simp(disch:=omega) only[go_sem, *,ae hlt,ed,h0]|((with_reducible refine ab ?_ ?_)<;>intro h<;>try omega)|(refine av p1 rfl rfl ?_)
 ·rw[KR (by omega)]at hd
  subst hd
  have pv:=m7 hac
  have hlt1: ¬(j:Int)<l.length:=by omega
  clear pe hlt
  rcases OZ acc with hv|hv
  ·rw[hv]at pv
   rw[if_neg (by simp),if_neg (by rw[hv];simp)]at hS
   have hX:=(hok _ hS).1
   have hxl:=(hok _ hS).2
   simp only at hX hxl
   have pa:=Gn hX
   have hbd:=hX.bd
   have hN:=KS acc
   rw[hS,if_neg (by simp)]
   simp only
   obtain⟨N,hNe⟩: ∃N,N=(dJ acc).toNat:=⟨_,rfl⟩
   rw[←hNe]
   rw[←hNe]at hN
   obtain⟨R,hR⟩: ∃R,R=Au l acc env o N 0:=⟨_,rfl⟩
   rw[←hR]
   have HR:Hid (Au l acc env o (N-0) 0=R):=Lib.hid hR.symm
   have hNb:N≤65536:=by omega
   clear hR hv hS hok hNe
   repeat' first|simp(disch:=omega) only[go_sem, *]|((with_reducible refine ab ?_ ?_)<;>intro h<;>try omega)|(refine av pv rfl rfl ?_)|(refine Tl 4 3 1 (acc.map fun n=> [pI n]) pa (by simp(disch:=omega) only[ak,aB,dm,eq_self,↓reduceIte,Option.map_some]<;>rfl) (by simp[AL,o7,aZ,ct,zl,cK,cz]) (.inr (by simp[AL,o7,fY,Aa,kg])) ?_)
   have pf: ∀k:Nat,ac Tryz.prog kq [Xl d z o,.c (.pure (.slice ((f5 l (jz acc k).1).map mP++env.map mP)))] (I (ib (f5 l (jz acc k).1++env) o.1 o.2)):=fun k=>by
    rw[←List.map_append]
    exact Cb ho (LP hX.1 he)
   clear pv pa
   refine aj (fun k:Nat=>⟨[(1,d8 mP env),(5,.c (.ptr 1 0)),(7,.c (.ref 3)),(12,V7 (pJ acc)),(13,I k)], [(3,.arr 73 3 (l.map ed)),(1,WX d z o)],5,0⟩) (fun k=>k≤N∧Hid (Au l acc env o (N-k) k=R)) (fun k=>N-k) ⟨0, [],⟨by omega,HR⟩,by simp[bo,St.frz,Gu,sP,AL,o7,IV,ak]⟩ ?_
   clear HR hj
   rintro k ⟨hk,hr⟩
   refine aa ?_
   have hd:=hr.out
   clear hr
   by_cases hlt:k<N
   ·have p1:=pf k
    obtain⟨e,hee⟩: ∃e,e=ib (f5 l (jz acc k).1++env) o.1 o.2:=⟨_,rfl⟩
    rw[O5 hlt hee.symm]at hd
    rw[←hee]at p1
    have g1:(((pJ acc).map fun p=> [su p])[k]? :Option (List PC))=some [su (jz acc k).1]:=by
     rw[ae (f:=fun p=> [su p]) (show k<(pJ acc).length by omega),Mf]
    have hpl:(jz acc k).1.length=l.length:=by rw[JK,hxl]
    have hbl:=H4 hpl
    have hrow: ∀j (h:j<l.length) (hp:j<(jz acc k).1.length),((f5 l (jz acc k).1).take j).map mP++ [[pS l[j].1,pI (jz acc k).1[j]]]=((f5 l (jz acc k).1).take (j+1)).map mP:=fun j h hp=>G4 h hp
    have hin: ∀j (h:j<(jz acc k).1.length),aA (jz acc k).1[j]:=fun j h=>by
     have:=IW (z:=(k:Int)) hX.1 _ (List.getElem_mem h)
     unfold aA
     omega
    clear hee pf
    generalize (jz acc k).1=pt at*
    generalize f5 l pt=bp at*
    have HD:=Lib.hid hd
    clear hd
    repeat' first|simp(disch:=omega) only[go_sem, *,g1]|((with_reducible refine ab ?_ ?_)<;>intro h<;>try omega)
    refine dv 14 36 2 rfl (by decide) ?_
    refine aj (fun j:Nat=>⟨[(1,d8 mP env),(5,.c (.ptr 1 0)),(7,.c (.ref 3)),(12,V7 (pJ acc)),(13,I k),(14,.c (.ref 5)),(15,I j)], [(5,.arr 36 2 ((bp.take j).map mP)),(3,.arr 73 3 (l.map ed)),(1,WX d z o)],6,0⟩) (fun j=>j≤l.length) (fun j=>l.length-j) ⟨0, [],by omega,by simp⟩ ?_
    intro j hj
    refine aa ?_
    by_cases hlt2:j<l.length
    ·have hjp:j<pt.length:=by omega
     have HT:=Lib.hid (hrow j hlt2 hjp)
     have h64j:=hin j hjp
     unfold aA at h64j
     clear hrow hin p1
     repeat' first|simp(disch:=omega) only[go_sem, *,ae hlt2,ed,g1,ae hjp,wrap_i64]|((with_reducible refine ab ?_ ?_)<;>intro h<;>try omega)|(refine aN rfl (by intro h;cases h) (aI rfl) (by simp;omega) (by simp;omega) ?_)
     rw[HT.out]
     exact⟨j+1, [(5,6)],by omega,by omega,by simp⟩
    ·have ht:bp.take j=bp:=List.take_of_length_le (by omega)
     rw[ht]
     clear hrow hin
     by_cases h0:e=0
     ·subst h0
      have HD:=Lib.hid (HD.out.symm.trans (if_neg (by simp))).symm
      repeat' first|simp(disch:=omega) only[go_sem, *,wrap_i64]|((with_reducible refine ab ?_ ?_)<;>intro h<;>try omega)|(refine av p1 rfl rfl ?_)|(refine aN rfl (by intro h;cases h) hm' (by simp;omega) (by simp;omega) ?_)
      exact⟨k+1, [],⟨by omega,HD⟩,by omega,by simp⟩
     ·have hd:e=R:=(if_pos h0).symm.trans HD.out
      subst hd
      repeat' first|simp(disch:=omega) only[go_sem, *,h0]|((with_reducible refine ab ?_ ?_)<;>intro h<;>try omega)|(refine av p1 rfl rfl ?_)|(refine aN rfl (by intro h;cases h) hm' (by simp;omega) (by simp;omega) ?_)
   ·rw[LJ (by omega)]at hd
    subst hd
    repeat' first|simp(disch:=omega) only[go_sem, *]|((with_reducible refine ab ?_ ?_)<;>intro h<;>try omega)
  ·rw[hv]at pv
   rw[if_neg (by simp),if_pos (by rw[hv];simp)]at hS
   rw[hS,if_pos (show(2:Int)≠0 by decide)]
   clear hv hS hok
   repeat' first|simp(disch:=omega) only[go_sem, *]|((with_reducible refine ab ?_ ?_)<;>intro h<;>try omega)|(refine av pv rfl rfl ?_)
set_option maxRecDepth 20000
set_option maxRecDepth 1000000
noncomputable def AU (p:bK) (d:Nat):List eY:=match p.defs[d]? with
 |some d=>d.dims++d.red
 |none=> []
noncomputable def AJ (p:bK) (env:List aP):List Qo→Nat→Int×Int
 | [],_=>(0,0)
 |x::r,i=>if FS (AU p x.1) env x.2.2≠0 then(i,FS (AU p x.1) env x.2.2)else AJ p env r (i+1)
noncomputable def MM (p:bK) (env:List aP):Int×Int:=if(c7 p).2≠0 then c7 p else if A7 p env≠0 then(0,A7 p env)else AJ p env (vG p) 0
theorem LU {p:bK} {d:Nat} (h:d<p.defs.length):AU p d=p.defs[d].dims++p.defs[d].red:=by
 unfold AU
 rw[List.getElem?_eq_getElem h]
theorem OW {p:bK} {env:List aP} {l:List Qo} {i:Nat} {e:Int} (h:i<l.length) (hr:FS (AU p l[i].1) env l[i].2.2=e):AJ p env (l.drop i) i=if e≠0 then((i:Int),e)else AJ p env (l.drop (i+1)) (i+1):=by
 rw[List.drop_eq_getElem_cons h,AJ,hr]
theorem KQ {p:bK} {env:List aP} {l:List Qo} {i:Nat} (h:l.length≤i):AJ p env (l.drop i) i=(0,0):=by
 rw[List.drop_of_length_le h,AJ]
theorem UO {l:List eY} {env:List aP} {o:Ob} {ext:List Int} {e:Int} (h:Ai env l=(ext,e)):FS l env o=if e≠0 then e else Au l ext env o (dJ ext).toNat 0:=by
 unfold FS
 rw[h]
theorem Tf {p:bK} {x:Qo} (h:x∈vG p): ∃hd:x.1<p.defs.length,x.2.2∈ns p p.defs[x.1].body []:=by
 obtain⟨⟨d,k⟩,h1,h2⟩:=List.mem_flatMap.1 h
 obtain⟨⟨o,j⟩,h3,rfl⟩:=List.mem_map.1 h2
 obtain⟨hk,h4⟩:=List.getElem?_eq_some_iff.1 (List.mem_zipIdx_iff_getElem?.1 h1)
 refine⟨hk, ?_⟩
 have:=List.mem_of_getElem? (List.mem_zipIdx_iff_getElem?.1 h3)
 simp only at this h4 ⊢
 rw[h4]
 exact this
def Zd (p:bK):Prop:= ∀d∈p.defs,d.dims.length≤1000∧d.red.length≤1000∧ ∀a∈d.dims++d.red,bj a.2
def TI (p:bK):Prop:=R9 p∧Zd p∧(∀s∈p.sizes,fp s)∧(∀c∈p.wher,fR c)
theorem TI.ob {p:bK} (h:TI p) {x:Qo} (hx:x∈vG p): ∃hd:x.1<p.defs.length,GC x.2.2∧p.defs[x.1].dims.length≤1000∧p.defs[x.1].red.length≤1000∧ ∀a∈p.defs[x.1].dims++p.defs[x.1].red,bj a.2:=by
 obtain⟨hd,h1⟩:=Tf hx
 have hm:=List.getElem_mem hd
 exact⟨hd,X2 p _ (h.1.2 _ hm).1.1 [] (fun c hc=>by cases hc) _ h1,h.2.1 _ hm⟩
abbrev Yd (x:Qo):List PC:= [pI x.1,pI x.2.1,pI x.2.2.1.1.1,aE x.2.2.1.1.2,pB x.2.2.1.2,c9 cP x.2.2.2]
theorem uP {p:bK} {env:List aP} (hf:j8 p) (h64:sd p) (hz:(c7 p).2=0→TI p) (he: ∀m∈env,aA m.2) (hel:env.length≤1000):ac Tryz.prog iL [fK p,d8 mP env] (.tup [I (MM p env).1,I (MM p env).2]):=by
 refine ac.of vI (by simp) fun hb=>aa ?_
 conv in na=>cbv
 clear hb
 have pv:=mL hf h64
 unfold MM
 by_cases h0:(c7 p).2=0
 ·have h:=hz h0
  have ps:=CF h.2.2.1 h.2.2.2 he
  have pg:=Ce hf h64 fun h0=>(hz h0).1
  rw[Uf,if_neg (not_not_intro h0)]at pg
  rw[if_neg (not_not_intro h0)]
  rw[h0]at pv
  by_cases h1:A7 p env=0
  ·rw[if_neg (not_not_intro h1)]
   rw[h1]at ps
   have hlen:=LT h.1
   have pe: ∀x∈vG p,ac Tryz.prog fD [fK p,d8 mP env,Xl x.1 x.2.1 x.2.2] (I (FS (AU p x.1) env x.2.2)):=fun x hx=>by
    obtain⟨hd,q1,q2,q3,q4⟩:=h.ob hx
    rw[LU hd]
    exact s7 hd q2 q3 q4 q1 he hel
   clear h0 h1 hz h
   generalize vG p=L at*
   obtain⟨R,hR⟩: ∃R,R=AJ p env L 0:=⟨_,rfl⟩
   rw[←hR]
   have HR:Hid (AJ p env (L.drop 0) 0=R):=Lib.hid hR.symm
   clear hR
   repeat' first|simp(disch:=omega) only[go_sem]|((with_reducible refine ab ?_ ?_)<;>intro h<;>try first|omega|simp(disch:=omega) only[go_sem, *])|(refine ah pv rfl (.inl rfl) ?_)|(refine ah ps rfl (.inl rfl) ?_)|(refine ah pg rfl (.inr rfl) ?_)
   refine aj (fun i:Nat=>⟨[(1,d8 mP env),(2,.c (.ptr 0 0)),(9,d8 a6 L),(10,I i)], [(0,d6 p)],1,0⟩) (fun i=>i≤L.length∧Hid (AJ p env (L.drop i) i=R)) (fun i=>L.length-i) ⟨0, [],⟨by omega,HR⟩,by simp⟩ ?_
   clear pv ps pg HR
   rintro i ⟨hi,hr⟩
   refine aa ?_
   have hd:=hr.out
   clear hr
   by_cases hlt:i<L.length
   ·have p1:=pe _ (List.getElem_mem hlt)
    have g1:(L.map a6)[i]? =some (Yd L[i]):=ae (f:=a6) hlt
    obtain⟨e,hee⟩: ∃e,e=FS (AU p L[i].1) env L[i].2.2:=⟨_,rfl⟩
    rw[OW hlt hee.symm]at hd
    rw[←hee]at p1
    clear hee pe
    by_cases h0:e=0
    ·subst h0
     rw[if_neg (by simp)]at hd
     have HD:=Lib.hid hd
     clear hd
     repeat' first|simp(disch:=omega) only[go_sem,g1,wrap_i64]|((with_reducible refine ab ?_ ?_)<;>intro h<;>try first|omega|simp(disch:=omega) only[go_sem, *,g1,wrap_i64])|(with_reducible refine af ?_ ?_)|(with_reducible refine ag (fun h=> ?_) ?_)|(refine ah p1 rfl (.inl rfl) ?_)
     exact⟨i+1, [],⟨by omega,HD⟩,by omega,by simp⟩
    ·rw[if_pos h0]at hd
     subst hd
     repeat' first|simp(disch:=omega) only[go_sem,g1,h0]|((with_reducible refine ab ?_ ?_)<;>intro h<;>try first|omega|simp(disch:=omega) only[go_sem, *,g1,h0])|(with_reducible refine af ?_ ?_)|(with_reducible refine ag (fun h=> ?_) ?_)|(refine ah p1 rfl (.inl rfl) ?_)
     all_goals rfl
   ·rw[KQ (by omega)]at hd
    subst hd
    repeat' first|simp(disch:=omega) only[go_sem]|((with_reducible refine ab ?_ ?_)<;>intro h<;>try first|omega|simp(disch:=omega) only[go_sem, *])
    all_goals rfl
  ·rw[if_pos h1]
   clear h0 hz h
   repeat' first|simp(disch:=omega) only[go_sem,h1]|((with_reducible refine ab ?_ ?_)<;>intro h<;>try first|omega|simp(disch:=omega) only[go_sem, *,h1])|(refine ah pv rfl (.inl rfl) ?_)|(refine ah ps rfl (.inl rfl) ?_)
   all_goals rfl
 ·rw[if_pos h0]
  clear hz
  repeat' first|simp(disch:=omega) only[go_sem,h0]|((with_reducible refine ab ?_ ?_)<;>intro h<;>try first|omega|simp(disch:=omega) only[go_sem, *,h0])|(refine ah pv rfl (.inl rfl) ?_)
  all_goals rfl
set_option maxHeartbeats 4000000 in
theorem sN {p:bK} {env:List aP} (hf:j8 p) (h64:sd p) (hz:(c7 p).2=0→TI p) (he: ∀m∈env,aA m.2) (hel:env.length≤1000):ac Tryz.prog gY [fK p,d8 mP env] (.tup [I (MM p env).1,I (MM p env).2]):=by
 refine ac.of ux (by simp) fun hb=>aa ?_
 conv in lS=>cbv
 clear hb
 have pv:=k9 hf h64
 unfold MM
 by_cases h0:(c7 p).2=0
 ·have h:=hz h0
  have ps:=ou h.2.2.2 he
  have pg:=D6 hf h.1
  rw[if_neg (not_not_intro h0)]
  rw[h0]at pv
  by_cases h1:A7 p env=0
  ·rw[if_neg (not_not_intro h1)]
   rw[h1]at ps
   have hlen:=LT h.1
   have hob: ∀x∈vG p,∃hd:x.1<p.defs.length,GC x.2.2∧p.defs[x.1].dims.length≤1000∧p.defs[x.1].red.length≤1000∧ ∀a∈p.defs[x.1].dims++p.defs[x.1].red,bj a.2:=fun x hx=>h.ob hx
   clear h0 h1 hz h
   generalize vG p=L at*
   obtain⟨R,hR⟩: ∃R,R=AJ p env L 0:=⟨_,rfl⟩
   rw[←hR]
   have HR:Hid (AJ p env (L.drop 0) 0=R):=Lib.hid hR.symm
   clear hR
   repeat' first|simp(disch:=omega) only[go_sem]|((with_reducible refine ab ?_ ?_)<;>intro h<;>try first|omega|simp(disch:=omega) only[go_sem, *])|(with_reducible refine af ?_ ?_)|(with_reducible refine ag (fun h=> ?_) ?_)|(refine ah pv rfl (.inl rfl) ?_)|(refine ah ps rfl (.inl rfl) ?_)|(refine ah pg rfl (.inr rfl) ?_)
   refine aj (fun i:Nat=>⟨[(2,.c (.ptr 0 0)),(3,.c (.ptr 1 0)),(4,.c (.ptr 2 0)),(5,.c (.ptr 3 0)),(35,d8 a6 L),(36,I L.length),(37,I i)], [(3,.var [.pure (pI 0)]),(2,.var [.pure (pI 0)]),(1,.var [.pure (c9 mP env)]),(0,d6 p)],4,0⟩) (fun i=>i≤L.length∧Hid (AJ p env (L.drop i) i=R)) (fun i=>L.length-i) ⟨0, [],⟨by omega,HR⟩,by simp⟩ ?_
   clear pv ps pg HR
   rintro i ⟨hi,hr⟩
   refine aa ?_
   have hd:=hr.out
   clear hr
   by_cases hlt:i<L.length
   ·obtain⟨hdl,o64,d1,d2,d64⟩:=hob _ (List.getElem_mem hlt)
    have g1:(L.map a6)[i]? =some (Yd L[i]):=ae (f:=a6) hlt
    have g2:=ae (f:=cr) hdl
    have px:=xg (env:=env) d1 d2 d64 he
    have pa:=rJ p.defs[L[i].1] d1 d2
    have hax:=LU hdl
    have hll:(p.defs[L[i].1].dims++p.defs[L[i].1].red).length≤2000:=by simp;omega
    obtain⟨e,hee⟩: ∃e,e=FS (AU p L[i].1) env L[i].2.2:=⟨_,rfl⟩
    rw[OW hlt hee.symm]at hd
    rw[hax]at hee
    clear hob hax d64
    generalize hl:p.defs[L[i].1].dims++p.defs[L[i].1].red=l at*
    obtain⟨⟨ext,f⟩,hx⟩: ∃x,x=Ai env l:=⟨_,rfl⟩
    rw[UO hx.symm]at hee
    rw[←hx]at px
    simp only at px
    by_cases hf0:f=0
    ·subst hf0
     rw[if_neg (by simp)]at hee
     obtain⟨hX,hxl⟩:=NZ hx.symm
     have hbd:=hX.bd
     have pall:=Mn (xs:=ext) hbd.1
     obtain⟨N,hN⟩: ∃N,N=(dJ ext).toNat:=⟨_,rfl⟩
     have hNi:(N:Int)=dJ ext:=by omega
     have hNb:N≤65536:=by omega
     have hY:=Ki (xs:=ext) (n:=N) (pt:=fun k=>(jz ext k).1) (by omega) (by rw[hNi];exact vL hX) (Ct ext) (fun k hk=>GI hX ⟨by omega,by omega⟩)
     rw[←hN]at hee
     have HG:Hid (Au l ext env L[i].2.2 (N-0) 0=e):=Lib.hid hee.symm
     have HDD:=Lib.hid hd
     have pf: ∀k:Nat,ac Tryz.prog eo [Xl L[i].1 L[i].2.1 L[i].2.2,.c (.pure (.slice ((f5 l (jz ext k).1).map mP++env.map mP)))] (I (ib (f5 l (jz ext k).1++env) L[i].2.2.1 L[i].2.2.2)):=fun k=>by
      rw[←List.map_append]
      exact Ac o64 (LP hX.1 he)
     have hm':bl 2 (env.map mP):=ar fun x=>rfl
     have hpl: ∀k:Nat,(jz ext k).1.length=l.length:=fun k=>by rw[JK,hxl]
     have hin: ∀(k:Nat) j (h:j<(jz ext k).1.length),aA (jz ext k).1[j]:=fun k j h=>by
      have:=IW (z:=(k:Int)) hX.1 _ (List.getElem_mem h)
      unfold aA
      omega
     clear hd hee hN hNi hx
     repeat' first|simp(disch:=omega) only[go_sem,g1,g2,cr]|((with_reducible refine ab ?_ ?_)<;>intro h<;>try first|omega|simp(disch:=omega) only[go_sem, *,g1,g2,cr])|(with_reducible refine af ?_ ?_)|(with_reducible refine ag (fun h=> ?_) ?_)|(refine ah px rfl (.inr rfl) ?_)|(refine ah pall rfl (.inr rfl) ?_)
     refine pD 7 [(2,.c (.ptr 0 0)),(3,.c (.ptr 1 0)),(4,.c (.ptr 2 0)),(5,.c (.ptr 3 0)),(9,.c (.ptr 4 0)),(10,.c (.ptr 5 0)),(11,.c (.ptr 6 0)),(35,d8 a6 L),(36,I L.length),(37,I i)] (fun k (_:Unit)=>([(6,J4 p.defs[L[i].1]),(5,WX L[i].1 L[i].2.1 L[i].2.2),(4,.var [.pure (pI i)]),(3,.var [.pure (pI 0)]),(2,.var [.pure (pI 0)]),(1,.var [.pure (c9 mP env)]),(0,d6 p)],7)) (fun k _=>Hid (Au l ext env L[i].2.2 (N-k) k=e)) rfl rfl rfl hY ?_ ⟨by simp,by simp⟩ (by simp[gi,ia,cZ,b8,df,rn,yv,ct,aZ,cK,cz,bu,c6,ci,ay,ak,i6,gR,cp]) ⟨(), [],HG,by simp⟩ ?_ ?_
     ·intro x hx
      obtain⟨a,_,rfl⟩:=List.mem_map.1 hx
      rfl
     ·intro k x t hx hg
      obtain⟨hk,rfl⟩:k<N∧ [du (jz ext k).1]=x:=by
       obtain⟨h1,h2⟩:=List.getElem?_eq_some_iff.1 hx
       have h1:k<N:=by simpa using h1
       exact⟨h1,by rw[←h2];simp⟩
      have p1:=pf k
      have hgd:=hg.out
      obtain⟨v,hv⟩: ∃v,v=ib (f5 l (jz ext k).1++env) L[i].2.2.1 L[i].2.2.2:=⟨_,rfl⟩
      rw[O5 hk hv.symm]at hgd
      rw[←hv]at p1
      have hpk:=hpl k
      have hik:=hin k
      have hrow: ∀j (h:j<l.length) (hp:j<(jz ext k).1.length),((f5 l (jz ext k).1).take j).map mP++ [[pS l[j].1,pI (jz ext k).1[j]]]=((f5 l (jz ext k).1).take (j+1)).map mP:=fun j h hp=>G4 h hp
      have hbl:=H4 hpk
      have HGD:=Lib.hid hgd
      clear hgd hv hx hg pf hpl hin hY HG px pall hX hbd hxl
      generalize (jz ext k).1=pt at*
      generalize f5 l pt=bp at*
      repeat' first|simp(disch:=omega) only[go_sem,pa]|((with_reducible refine ab ?_ ?_)<;>intro h<;>try first|omega|simp(disch:=omega) only[go_sem, *,pa])|(refine ah pa rfl (.inr rfl) ?_)
      refine dv 15 36 2 rfl (by decide) ?_
      refine aj (fun j:Nat=>⟨[(3,.c (.ptr 1 0)),(4,.c (.ptr 2 0)),(5,.c (.ptr 3 0)),(9,.c (.ptr 4 0)),(10,.c (.ptr 5 0)),(14,du pt),(15,.c (.ref 7)),(63,d8 ed l),(64,I l.length),(65,I j)], [(7,.arr 36 2 ((bp.take j).map mP)),(6,J4 p.defs[L[i].1]),(5,WX L[i].1 L[i].2.1 L[i].2.2),(4,.var [.pure (pI i)]),(3,.var [.pure (pI 0)]),(2,.var [.pure (pI 0)]),(1,.var [.pure (c9 mP env)]),(0,d6 p)],8,7⟩) (fun j=>j≤l.length) (fun j=>l.length-j) ⟨0, [],by omega,by simp⟩ ?_
      intro j hj
      refine aa ?_
      by_cases hlt2:j<l.length
      ·have hjp:j<pt.length:=by omega
       have HT:=Lib.hid (hrow j hlt2 hjp)
       have h64j:=hik j hjp
       unfold aA at h64j
       clear hrow hik p1 pa
       repeat' first|simp(disch:=omega) only[go_sem,ae hlt2,ed,ae hjp,wrap_i64]|((with_reducible refine ab ?_ ?_)<;>intro h<;>try first|omega|simp(disch:=omega) only[go_sem, *,ae hlt2,ed,ae hjp,wrap_i64])|(with_reducible refine af ?_ ?_)|(with_reducible refine ag (fun h=> ?_) ?_)|(refine aN rfl (by intro h;cases h) (aI rfl) (by simp;omega) (by simp;omega) ?_)
       rw[HT.out]
       exact⟨j+1, [(7,9)],by omega,by omega,by simp⟩
      ·have ht:bp.take j=bp:=List.take_of_length_le (by omega)
       rw[ht]
       clear hrow hik pa
       by_cases h0:v=0
       ·subst h0
        have HG:=Lib.hid ((if_neg (by simp)).symm.trans HGD.out)
        clear HGD
        repeat' first|simp(disch:=omega) only[go_sem]|((with_reducible refine ab ?_ ?_)<;>intro h<;>try first|omega|simp(disch:=omega) only[go_sem, *])|(with_reducible refine af ?_ ?_)|(with_reducible refine ag (fun h=> ?_) ?_)|(refine ah p1 rfl (.inl rfl) ?_)|(refine aN rfl (by intro h;cases h) hm' (by simp;omega) (by simp;omega) ?_)
        all_goals exact⟨(), [],HG,by simp⟩
       ·obtain rfl:v=e:=(if_pos h0).symm.trans HGD.out
        obtain rfl:=(if_pos h0).symm.trans HDD.out
        clear HGD HDD
        repeat' first|simp(disch:=omega) only[go_sem,h0]|((with_reducible refine ab ?_ ?_)<;>intro h<;>try first|omega|simp(disch:=omega) only[go_sem, *,h0])|(with_reducible refine af ?_ ?_)|(with_reducible refine ag (fun h=> ?_) ?_)|(refine ah p1 rfl (.inl rfl) ?_)|(refine aN rfl (by intro h;cases h) hm' (by simp;omega) (by simp;omega) ?_)
        all_goals rfl
     ·intro t hg
      have hgd:=hg.out
      rw[List.length_map,List.length_range,LJ (Nat.le_refl _)]at hgd
      subst hgd
      have HD:=Lib.hid ((if_neg (by simp)).symm.trans HDD.out)
      clear hY px pall pf HDD
      repeat' first|simp(disch:=omega) only[go_sem,wrap_i64]|((with_reducible refine ab ?_ ?_)<;>intro h<;>try first|omega|simp(disch:=omega) only[go_sem, *,wrap_i64])
      exact⟨i+1, [],⟨by omega,HD⟩,by omega,by simp⟩
    ·rw[if_pos hf0]at hee
     subst hee
     rw[if_pos hf0]at hd
     subst hd
     clear hx
     repeat' first|simp(disch:=omega) only[go_sem,g1,g2,cr,hf0]|((with_reducible refine ab ?_ ?_)<;>intro h<;>try first|omega|simp(disch:=omega) only[go_sem, *,g1,g2,cr,hf0])|(with_reducible refine af ?_ ?_)|(with_reducible refine ag (fun h=> ?_) ?_)|(refine ah px rfl (.inr rfl) ?_)
     all_goals rfl
   ·rw[KQ (by omega)]at hd
    subst hd
    repeat' first|simp(disch:=omega) only[go_sem]|((with_reducible refine ab ?_ ?_)<;>intro h<;>try first|omega|simp(disch:=omega) only[go_sem, *])
    all_goals rfl
  ·rw[if_pos h1]
   clear h0 hz h
   repeat' first|simp(disch:=omega) only[go_sem,h1]|((with_reducible refine ab ?_ ?_)<;>intro h<;>try first|omega|simp(disch:=omega) only[go_sem, *,h1])|(refine ah pv rfl (.inl rfl) ?_)|(refine ah ps rfl (.inl rfl) ?_)
   all_goals rfl
 ·rw[if_pos h0]
  clear hz
  repeat' first|simp(disch:=omega) only[go_sem,h0]|((with_reducible refine ab ?_ ?_)<;>intro h<;>try first|omega|simp(disch:=omega) only[go_sem, *,h0])|(refine ah pv rfl (.inl rfl) ?_)
  all_goals rfl
set_option maxRecDepth 20000
set_option maxRecDepth 1000000
def GD (p:bK) (env:List aP):Prop:=(p.defs.length≤8∧ ¬lR p)∧p.wher.length≤4∧env.length≤20∧(∀m∈env,m.2≤6)∧ ∀d∈p.defs,d.dims.length+d.red.length≤5
noncomputable instance (p:bK) (env:List aP):Decidable (GD p env):=Classical.propDecidable _
theorem GH (p:bK) (env:List aP):ac Tryz.prog tP [fK p,d8 mP env] (Go.Abs.B (decide (GD p env))):=by
 refine ac.of IM (by simp) fun hb=>aa ?_
 conv in A4=>cbv
 have ps:=Ca p
 by_cases hs:p.defs.length≤8∧ ¬lR p
 ·rw[decide_eq_true hs]at ps
  by_cases hw:p.wher.length≤4
  ·by_cases hl:env.length≤20
   ·obtain⟨R,hR⟩: ∃R,R=decide (GD p env):=⟨_,rfl⟩
    rw[←hR]
    have hT:(∀m∈env,m.2≤6)→(∀d∈p.defs,d.dims.length+d.red.length≤5)→R=true:=fun h1 h2=>by rw[hR,decide_eq_true (show GD p env from⟨hs,hw,hl,h1,h2⟩)]
    have hE: ∀k (h:k<env.length),¬env[k].2≤6→R=false:=fun k h h1=>by rw[hR,decide_eq_false];exact fun hf=>h1 (hf.2.2.2.1 _ (List.getElem_mem h))
    have hD: ∀k (h:k<p.defs.length),¬p.defs[k].dims.length+p.defs[k].red.length≤5→R=false:=fun k h h1=>by rw[hR,decide_eq_false];exact fun hf=>h1 (hf.2.2.2.2 _ (List.getElem_mem h))
    have hdl:=hs.1
    have HT:=Lib.hid hT
    have HE:=Lib.hid hE
    have HD:=Lib.hid hD
    have hb1: ∀d∈p.defs,d.dims.length≤300000∧d.red.length≤300000:=fun d hd=>⟨by have:=((Aq hs.2).2 d hd).1;omega,by have:=((Aq hs.2).2 d hd).2.1;omega⟩
    clear hT hE hD hR hs hb
    repeat' first|simp(disch:=omega) only[go_sem, *]|((with_reducible refine ab ?_ ?_)<;>intro h<;>try omega)|(with_reducible refine af ?_ ?_)|(with_reducible refine ag (fun h=> ?_) ?_)|(refine av ps rfl rfl ?_)
    refine aj (fun k:Nat=>⟨[(1,d8 mP env),(2,.c (.ptr 0 0)),(5,I k)], [(0,d6 p)],1,0⟩) (fun k=>k≤env.length∧dW (fun j=> ∀h:j<env.length,env[j].2≤6) k) (fun k=>env.length-k) ⟨0, [],⟨by omega,.zero⟩,by simp⟩ ?_
    clear ps
    rintro k ⟨hk,hall⟩
    refine aa ?_
    by_cases hlt:k<env.length
    ·by_cases h6:env[k].2≤6
     ·have HA:=Lib.hid (hall.succ fun _=>h6)
      clear hall
      repeat' first|simp(disch:=omega) only[go_sem, *,ae hlt,mP,wrap_i64]|((with_reducible refine ab ?_ ?_)<;>intro h<;>try omega)
      exact⟨k+1, [],⟨by omega,HA.out⟩,by omega,by simp⟩
     ·have e:=HE.out k hlt h6
      subst e
      clear hall
      repeat' first|simp(disch:=omega) only[go_sem, *,ae hlt,mP]|((with_reducible refine ab ?_ ?_)<;>intro h<;>try omega)
    ·have HA:=Lib.hid<|show ∀m∈env,m.2≤6 from fun m (hm:m∈env)=>by
      obtain⟨j,hj,rfl⟩:=List.mem_iff_getElem.1 hm
      exact hall j (by omega) hj
     clear hall
     repeat' first|simp(disch:=omega) only[go_sem, *]|((with_reducible refine ab ?_ ?_)<;>intro h<;>try omega)
     refine aj (fun k:Nat=>⟨[(2,.c (.ptr 0 0)),(6,I k)], [(0,d6 p)],1,0⟩) (fun k=>k≤p.defs.length∧dW (fun j=> ∀h:j<p.defs.length,p.defs[j].dims.length+p.defs[j].red.length≤5) k) (fun k=>p.defs.length-k) ⟨0, [],⟨by omega,.zero⟩,by simp⟩ ?_
     rintro i ⟨hi,hall⟩
     refine aa ?_
     by_cases hlt:i<p.defs.length
     ·have hbi:=hb1 _ (List.getElem_mem hlt)
      by_cases h6:p.defs[i].dims.length+p.defs[i].red.length≤5
      ·have HB:=Lib.hid (hall.succ fun _=>h6)
       clear hall
       repeat' first|simp(disch:=omega) only[go_sem, *,ae hlt,cr,wrap_i64]|((with_reducible refine ab ?_ ?_)<;>intro h<;>try omega)
       exact⟨i+1, [],⟨by omega,HB.out⟩,by omega,by simp⟩
      ·have e:=HD.out i hlt h6
       subst e
       clear hall
       repeat' first|simp(disch:=omega) only[go_sem, *,ae hlt,cr,wrap_i64]|((with_reducible refine ab ?_ ?_)<;>intro h<;>try omega)
     ·have e:=HT.out HA.out fun m (hm:m∈p.defs)=>by
       obtain⟨j,hj,rfl⟩:=List.mem_iff_getElem.1 hm
       exact hall j (by omega) hj
      subst e
      clear hall
      repeat' first|simp(disch:=omega) only[go_sem, *]|((with_reducible refine ab ?_ ?_)<;>intro h<;>try omega)
   ·rw[decide_eq_false (show ¬GD p env from fun h=>hl h.2.2.1)]
    clear hs hb
    repeat' first|simp(disch:=omega) only[go_sem, *]|((with_reducible refine ab ?_ ?_)<;>intro h<;>try omega)|(with_reducible refine af ?_ ?_)|(with_reducible refine ag (fun h=> ?_) ?_)|(refine av ps rfl rfl ?_)
  ·rw[decide_eq_false (show ¬GD p env from fun h=>hw h.2.1)]
   clear hs hb
   repeat' first|simp(disch:=omega) only[go_sem, *]|((with_reducible refine ab ?_ ?_)<;>intro h<;>try omega)|(with_reducible refine af ?_ ?_)|(with_reducible refine ag (fun h=> ?_) ?_)|(refine av ps rfl rfl ?_)
 ·rw[decide_eq_false (show ¬GD p env from fun h=>hs h.1)]
  rw[decide_eq_false hs]at ps
  clear hs hb
  repeat' first|simp(disch:=omega) only[go_sem, *]|((with_reducible refine ab ?_ ?_)<;>intro h<;>try omega)|(with_reducible refine af ?_ ?_)|(with_reducible refine ag (fun h=> ?_) ?_)|(refine av ps rfl rfl ?_)
theorem GD.sz {p:bK} {env:List aP} (h:GD p env) (h64:sd p) (hL:PS p) (h0:(c7 p).2=0):TI p:=by
 refine⟨⟨by have:=h.1.1;omega,fun d hd=> ?_⟩,fun d hd=>⟨by have:=h.2.2.2.2 d hd;omega,by have:=h.2.2.2.2 d hd;omega,(hL.2.2 d hd).1⟩,(uM h0).2.1,hL.1⟩
 obtain⟨k,hk,rfl⟩:=List.mem_iff_getElem.1 hd
 obtain⟨g1,g2⟩:=RD h.1.2 h64 hL h0 hk
 exact⟨g1,by omega⟩
theorem BS (ha:ac Tryz.prog Gf [] (Go.Abs.B true)) {p:bK} {env:List aP} (h64:sd p) (hL:PS p) (he: ∀m∈env,aA m.2):ac Tryz.prog hZ [fK p,d8 mP env] (Go.Abs.B true):=by
 refine ac.of uU (by simp) fun _=>aa ?_
 conv in lZ=>cbv
 have pf:=GH p env
 by_cases hs:GD p env
 ·rw[decide_eq_true hs]at pf
  have hf:=Aq hs.1.2
  have hel:=hs.2.2.1
  have p1:=sN hf h64 (hs.sz h64 hL) he (by omega)
  have p2:=uP hf h64 (hs.sz h64 hL) he (by omega)
  clear hs hf h64 hL he
  generalize MM p env=Z at*
  repeat' first|simp(disch:=omega) only[go_sem, *]|((with_reducible refine ab ?_ ?_)<;>intro h<;>try omega)|(with_reducible refine af ?_ ?_)|(with_reducible refine ag (fun h=> ?_) ?_)|(refine av pf rfl rfl ?_)|(refine av p1 rfl rfl ?_)|(refine av p2 rfl rfl ?_)|(refine av ha rfl rfl ?_)
  all_goals rfl
 ·rw[decide_eq_false hs]at pf
  clear hs h64 hL he
  repeat' first|simp(disch:=omega) only[go_sem, *]|((with_reducible refine ab ?_ ?_)<;>intro h<;>try omega)|(with_reducible refine af ?_ ?_)|(with_reducible refine ag (fun h=> ?_) ?_)|(refine av pf rfl rfl ?_)|(refine av ha rfl rfl ?_)
  all_goals rfl
theorem Cv {ps qs:List PC} (h:qh Wj ps) (hq:pV [.slice [.str,.int .i64]] qs):ac Tryz.prog 3 [.agg (ps.map .pure),WS false qs] (Go.Abs.B true):=by
 obtain⟨p,rfl,h64,hL⟩:=X9 h
 obtain⟨_,rfl,k1⟩:=wX hq
 obtain⟨env,rfl,he,_⟩:=tH mP (fun m=>aA m.2) (fun r hr=>by
  obtain⟨p,r,rfl,hp,hr⟩:=dz hr
  obtain⟨q,rfl,hq⟩:=wX hr
  obtain⟨s,rfl,_⟩:=zj hp
  obtain⟨n,rfl,hn⟩:=dL hq
  exact⟨(s,n),rfl,hn⟩) k1
 exact BS Cc h64 hL he
end Go.Proofs.YthkaaahphlneiaaGreatDoor
