import Derived.Test.YtjhkikmonejkjaaGreatDoorP54b
import Derived.Test.YtjhkikmonejkjaaGreatDoorV17m
set_option linter.unusedVariables false
set_option linter.unusedSimpArgs false
set_option maxRecDepth 20000
open Go.Proofs.Tryz renaming prog→Ya
namespace Go.Proofs.YtjhkikmonejkjaaGreatDoor
open Go.Abs Go.RowKit
noncomputable section
theorem P7 (s:ByteArray):VA kQ [pS s] s:=by
 intro b
 refine af.of rO (by simp) λhb=>aa ?_
 simp only[kE]
 repeat' first|simp(disch:=omega)only[go_sem,aj]|((with_reducible refine ab ?_ ?_)<;>intro h<;>try first|omega|simp(disch:=omega)only[go_sem, *,aj])
 rw[Lc]
theorem kN {p:be} {env:List aH} (o: ∀c∈p.wher,LK c) (he: ∀m∈env,aX m.2):af Ya nh [eX p,bZ mP env] (I (lZ p env)):=by
 refine af.of vZ (by simp) λhb=>aa ?_
 simp only[mH]
 have pc: ∀c∈p.wher,af Ya gQ [MS c,bZ mP env] (.tup [Go.Abs.B (gf c env).1,I (gf c env).2]):= λc h=>rj (o c h) he
 clear o he
 unfold lZ
 by_cases h0:env.length=p.sizes.length
 ·rw[if_neg (not_not_intro h0)]
  have hi:(env.length:Int)=p.sizes.length:=by omega
  obtain⟨R,hR⟩: ∃R,R=qI env p.wher p.sizes:=⟨_,rfl⟩
  rw[←hR]
  have HR:Hid (qI env p.wher (p.sizes.drop 0)=R):=Lib.hid hR.symm
  have H0:=Lib.hid h0
  clear hR h0
  have H:p.sizes.length≤9223372036854775807∧p.wher.length≤9223372036854775807:=by
   have:=hb.1
   simp[eW,jP,ft]at this
   exact⟨this.1,this.2.1⟩
  obtain⟨b1,b2⟩:=H
  repeat' first|simp(disch:=omega)only[go_sem,hi]|((with_reducible refine ab ?_ ?_)<;>intro h<;>try first|omega|simp(disch:=omega)only[go_sem, *,hi])
  refine ai (λj:Nat=>⟨[(1,bZ mP env),(2,.c (.ptr 0 0)),(19,.c (.pure (b6 p.sizes))),(20,I p.sizes.length),(21,I j)], [(0,dL p)],1,0⟩) (λj=>j≤p.sizes.length∧Hid (qI env p.wher (p.sizes.drop j)=R)) (λj=>p.sizes.length-j) ⟨0, [],⟨by omega,HR⟩,by simp⟩ ?_
  rintro j ⟨hj,hr⟩
  refine aa ?_
  have hd:=hr.out
  clear hr HR hb hi H0
  by_cases g:j<p.sizes.length
  ·have pi:=dS (P7 p.sizes[j]) env
   rcases My env p.sizes[j]with⟨hi,u⟩|⟨i,G,hi,u⟩
   ·rw[yq g (FC u)]at hd
    subst hd
    rw[hi]at pi
    clear hi u pc
    repeat' first|simp(disch:=omega)only[go_sem,ac g]|((with_reducible refine ab ?_ ?_)<;>intro h<;>try first|omega|simp(disch:=omega)only[go_sem, *,ac g])|refine ae pi rfl (.inl rfl) ?_
   ·rw[hi]at pi
    by_cases A:env[i].2<1∨4096<env[i].2
    ·rw[yq g ((tR u).2 A)]at hd
     subst hd
     clear hi u pc
     repeat' first|simp(disch:=omega)only[go_sem,ac g,ac G,mP]|((with_reducible refine ab ?_ ?_)<;>intro h<;>try first|omega|simp(disch:=omega)only[go_sem, *,ac g,ac G,mP])|refine ae pi rfl (.inl rfl) ?_
    ·rw[GA g (mt (tR u).1 A)]at hd
     have HD:=Lib.hid hd
     clear hi u pc hd
     repeat' first|simp(disch:=omega)only[go_sem,ac g,ac G,mP,wrap_i64]|((with_reducible refine ab ?_ ?_)<;>intro h<;>try first|omega|simp(disch:=omega)only[go_sem, *,ac g,ac G,mP,wrap_i64])|refine ae pi rfl (.inl rfl) ?_
     exact⟨j+1, [],⟨by omega,HD⟩,by omega,by simp⟩
  ·rw[JC (by omega)]at hd
   have HR:Hid (MZ env (p.wher.drop 0)=R):=Lib.hid hd
   clear hd
   repeat' first|simp(disch:=omega)only[go_sem]|((with_reducible refine ab ?_ ?_)<;>intro h<;>try first|omega|simp(disch:=omega)only[go_sem, *])
   refine ai (λj:Nat=>⟨[(1,bZ mP env),(48,U3 p.wher),(49,I p.wher.length),(50,I j)], [],0,0⟩) (λj=>j≤p.wher.length∧Hid (MZ env (p.wher.drop j)=R)) (λj=>p.wher.length-j) ⟨0, [],⟨by omega,HR⟩,by simp⟩ ?_
   clear g hj
   rintro j ⟨hj,hr⟩
   refine aa ?_
   have hd:=hr.out
   clear hr HR
   by_cases g:j<p.wher.length
   ·have p1:=pc _ (List.getElem_mem g)
    obtain⟨⟨b,e⟩,C⟩: ∃x,x=gf p.wher[j] env:=⟨_,rfl⟩
    rw[Qp g C.symm]at hd
    rw[←C]at p1
    simp only at p1
    clear C pc
    by_cases h0:e=0
    ·subst h0
     rw[if_neg (by simp)]at hd
     cases b
     ·rw[if_pos rfl]at hd
      subst hd
      repeat' first|simp(disch:=omega)only[go_sem,ac g,cP]|((with_reducible refine ab ?_ ?_)<;>intro h<;>try first|omega|simp(disch:=omega)only[go_sem, *,ac g,cP])|refine ae p1 rfl (.inl rfl) ?_
     ·rw[if_neg (by simp)]at hd
      have HD:=Lib.hid hd
      clear hd
      repeat' first|simp(disch:=omega)only[go_sem,ac g,cP,wrap_i64]|((with_reducible refine ab ?_ ?_)<;>intro h<;>try first|omega|simp(disch:=omega)only[go_sem, *,ac g,cP,wrap_i64])|refine ae p1 rfl (.inl rfl) ?_
      exact⟨j+1, [],⟨by omega,HD⟩,by omega,by simp⟩
    ·rw[if_pos h0]at hd
     subst hd
     repeat' first|simp(disch:=omega)only[go_sem,ac g,cP,h0]|((with_reducible refine ab ?_ ?_)<;>intro h<;>try first|omega|simp(disch:=omega)only[go_sem, *,ac g,cP,h0])|refine ae p1 rfl (.inl rfl) ?_
   ·rw[LW (by omega)]at hd
    subst hd
    repeat' first|simp(disch:=omega)only[go_sem]|((with_reducible refine ab ?_ ?_)<;>intro h<;>try first|omega|simp(disch:=omega)only[go_sem, *])
 ·rw[if_pos h0]
  have hi: ¬(env.length:Int)=p.sizes.length:=by omega
  clear h0 pc
  repeat' first|simp(disch:=omega)only[go_sem,hi]|((with_reducible refine ab ?_ ?_)<;>intro h<;>try first|omega|simp(disch:=omega)only[go_sem, *,hi])
def qN (p:be) (env:List aH):Int:=if(aV p).2≠0 then(aV p).2 else lZ p env
theorem qU {p:be} {env:List aH} (hf:eR p) (o:ij p) (hL:pu p) (he: ∀m∈env,aX m.2):af Ya kr [eX p,bZ mP env] (I (qN p env)):=by
 refine af.of so (by simp) λhb=>aa ?_
 simp only[kD]
 have pv:=jR hf o
 have ps:=kN (p:=p) hL.1 he
 clear hb
 unfold qN
 by_cases h0:(aV p).2=0
 ·rw[if_neg (not_not_intro h0)]
  rw[h0]at pv
  clear h0
  repeat' first|simp(disch:=omega)only[go_sem]|((with_reducible refine ab ?_ ?_)<;>intro h<;>try first|omega|simp(disch:=omega)only[go_sem, *])|refine ae pv rfl (.inl rfl) ?_|refine ae ps rfl (.inl rfl) ?_
 ·rw[if_pos h0]
  repeat' first|simp(disch:=omega)only[go_sem,h0]|((with_reducible refine ab ?_ ?_)<;>intro h<;>try first|omega|simp(disch:=omega)only[go_sem, *,h0])|refine ae pv rfl (.inl rfl) ?_
theorem zW {l:List fc} {env:List aH} (hl:l.length≤1000) (o: ∀f∈l,c6 f) (he: ∀m∈env,aX m.2):af Ya rp [my l,bZ mP env] (.tup [bw (iv env l).1,I (iv env l).2]):=by
 refine af.of Bc (by simp) λhb=>aa ?_
 have pe: ∀a∈l,af Ya px [f9 a.1 a.2,bZ mP env] (.tup [I (mB a.1 a.2 env).1,I (mB a.1 a.2 env).2]):= λa ha=>pz (o a ha).1 (o a ha).2 he
 obtain⟨R,hR⟩: ∃R,R=jI env [] l:=⟨_,rfl⟩
 unfold iv
 rw[←hR]
 have HR:Hid (jI env [] (l.drop 0)=R):=Lib.hid hR.symm
 clear hR o hb
 simp only[rG]
 repeat' first|simp(disch:=omega)only[go_sem]|((with_reducible refine ab ?_ ?_)<;>intro h<;>try first|omega|simp(disch:=omega)only[go_sem, *])
 refine co 6 3 1 rfl (by decide) ?_
 refine ai (λx:Nat×List Int=>⟨[(1,bZ mP env),(6,.c (.ref 0)),(11,my l),(12,I l.length),(13,I x.1)], [(0,.arr 3 1 (x.2.map λn=> [pI n]))],1,0⟩) (λx=>x.1≤l.length∧x.2.length=x.1∧Hid (jI env x.2 (l.drop x.1)=R)) (λx=>l.length-x.1) ⟨(0, []), [],⟨by omega,rfl,HR⟩,by simp⟩ ?_
 rintro⟨j,acc⟩ ⟨hj,J,hr⟩
 refine aa ?_
 simp only at hj J
 have hd:=hr.out
 simp only at hd
 clear hr HR
 by_cases g:j<l.length
 ·have p:=pe _ (List.getElem_mem g)
  obtain⟨⟨n,e⟩,D⟩: ∃x,x=mB l[j].1 l[j].2 env:=⟨_,rfl⟩
  rw[xK g D.symm]at hd
  rw[←D]at p
  simp only at p
  clear D pe
  by_cases h0:e=0
  ·subst h0
   rw[if_neg (by simp)]at hd
   by_cases hn:n<1∨4096<n
   ·rw[if_pos hn]at hd
    subst hd
    repeat' first|simp(disch:=omega)only[go_sem,ac g,bP]|((with_reducible refine ab ?_ ?_)<;>intro h<;>try first|omega|simp(disch:=omega)only[go_sem, *,ac g,bP])|refine ae p rfl (.inl rfl) ?_
    all_goals rfl
   ·rw[if_neg hn]at hd
    have HD:=Lib.hid hd
    have M:1≤n∧n≤4096:=by omega
    clear hd hn
    have HT:=Lib.hid (show(acc.map λn=> [pI n])++ [[pI n]]=(acc++ [n]).map λn=> [pI n] by simp)
    repeat' first|simp(disch:=omega)only[go_sem,ac g,bP,wrap_i64]|((with_reducible refine ab ?_ ?_)<;>intro h<;>try first|omega|simp(disch:=omega)only[go_sem, *,ac g,bP,wrap_i64])|refine ae p rfl (.inl rfl) ?_|refine aF rfl (by intro h;cases h) (ak rfl) (by simp;omega) (by simp;omega) ?_
    rw[HT.out]
    exact⟨(j+1,acc++ [n]), [(0,2)],⟨by omega,by simp;omega,HD⟩,by show _-_<_-_;omega,by simp⟩
  ·rw[if_pos h0]at hd
   subst hd
   repeat' first|simp(disch:=omega)only[go_sem,ac g,bP,h0]|((with_reducible refine ab ?_ ?_)<;>intro h<;>try first|omega|simp(disch:=omega)only[go_sem, *,ac g,bP,h0])|refine ae p rfl (.inl rfl) ?_
   all_goals rfl
 ·rw[sw (by omega)]at hd
  subst hd
  repeat' first|simp(disch:=omega)only[go_sem]|((with_reducible refine ab ?_ ?_)<;>intro h<;>try first|omega|simp(disch:=omega)only[go_sem, *])
  all_goals rfl
theorem zB: ∀{l:List Int},(∀x∈l,1≤x∧x≤4096)→1≤gy l
 | [],_=>Int.le_refl _
 |n::r,h=>by
  have h1:=zB λx hx=>h x (List.mem_cons_of_mem _ hx)
  have h2:=(h n List.mem_cons_self).1
  have h3:=Int.mul_le_mul h2 h1 (by omega) (by omega)
  rw[gy]
  omega
theorem PQ {l:List Int} {k:Nat} (h:k<l.length):gy (l.drop k)=l[k]*gy (l.drop (k+1)):=by
 rw[List.drop_eq_getElem_cons h,gy]
theorem ws {n x:Int} (hn:1≤n∧n≤65537) (hx:1≤x∧x≤4096):1≤n*x∧n*x≤268439552:=by
 have h1:=Int.mul_le_mul hn.1 hx.1 (by omega) (by omega)
 have h2:=Int.mul_le_mul hn.2 hx.2 (by omega) (by omega)
 omega
def MM (l:List Int):Int:=if 4096<gy l then 4097 else gy l
theorem Mt {l:List Int}:MM l>4096↔4096<gy l:=by
 unfold MM
 split<;>omega
theorem D6 {l:List Int} (hl: ∀x∈l,1≤x∧x≤4096):af Ya yR [bw l,I 4096] (I (MM l)):=by
 refine af.of Fl (by simp) λhb=>aa ?_
 have hx:l.length≤9223372036854775807:=by simpa[fL,eW,ft]using hb.1
 simp only[yV]
 have h0:Hid (1*gy (l.drop 0)=gy l):=Lib.hid (by rw[List.drop_zero,Int.one_mul])
 have HL:=Lib.hid hl
 clear hl hb
 repeat' first|simp(disch:=omega)only[go_sem]|((with_reducible refine ab ?_ ?_)<;>intro h<;>try first|omega|simp(disch:=omega)only[go_sem, *])
 refine ai (λs:Nat×Int=>⟨[(1,I 4096),(5,I s.2),(8,bw l),(9,I l.length),(10,I s.1)], [],0,0⟩) (λs=>s.1≤l.length∧(1≤s.2∧s.2≤4096)∧Hid (s.2*gy (l.drop s.1)=gy l)) (λs=>l.length-s.1) ⟨(0,1), [],⟨Nat.zero_le _,by show(1:Int)≤1∧(1:Int)≤4096;omega,h0⟩,by simp⟩ ?_
 clear h0
 rintro⟨k,n⟩ ⟨hk,hn,hr⟩
 refine aa ?_
 simp only at hk hn
 by_cases g:k<l.length
 ·have u:=HL.out _ (List.getElem_mem g)
  have hm:=ws (n:=n) (by omega) u
  have hp:=zB (l:=l.drop (k+1)) λx hx=>HL.out x (List.mem_of_mem_drop hx)
  have hd:=hr.out
  simp only at hd
  rw[PQ g,←Int.mul_assoc]at hd
  have E:IntKind.wrap .i64 (n*l[k])=n*l[k]:=wrap_i64 (by omega)
  clear hr hn u
  by_cases hg:4096<n*l[k]
  ·have h1:=Int.mul_le_mul (show 4097≤n*l[k] by omega) hp (by omega) (by omega)
   rw[MM,if_pos (by omega)]
   clear hd h1 hp
   repeat' first|simp(disch:=omega)only[go_sem,ac g,E,wrap_i64]|((with_reducible refine ab ?_ ?_)<;>intro h<;>try first|omega|simp(disch:=omega)only[go_sem, *,ac g,E,wrap_i64])
   all_goals rfl
  ·have HD:=Lib.hid hd
   clear hd hp
   repeat' first|simp(disch:=omega)only[go_sem,ac g,E,wrap_i64]|((with_reducible refine ab ?_ ?_)<;>intro h<;>try first|omega|simp(disch:=omega)only[go_sem, *,ac g,E,wrap_i64])
   exact⟨(k+1,n*l[k]), [],⟨g,by show 1≤n*l[k]∧n*l[k]≤4096;omega,HD⟩,by show _-_<_-_;omega,by simp⟩
 ·have hd:=hr.out
  simp only at hd
  rw[List.drop_eq_nil_of_le (by omega),gy,Int.mul_one]at hd
  subst hd
  rw[MM,if_neg (by omega)]
  repeat' first|simp(disch:=omega)only[go_sem]|((with_reducible refine ab ?_ ?_)<;>intro h<;>try first|omega|simp(disch:=omega)only[go_sem, *])
def WA (p:be) (s:ByteArray):Ty:=match aZ p s with
 |some (t,_)=>t
 |none=>gL
abbrev Si (p:be) (env:List aH) (s:ByteArray):AV:= .tup [bw (ej p env s).1,yG (WA p s),I (ej p env s).2]
theorem Ji {p:be} (hf:eR p) (hL:pu p) {s:ByteArray} {t:Ty} {ds:List fc} (h:aZ p s=some (t,ds)):ds.length≤1000∧ ∀l∈ds,c6 l:=by
 unfold aZ at h
 split at h
 ·rename_i x hx
  have hm:=List.mem_of_find?_eq_some hx
  have e:x.2.2=ds:=by rw[Option.some.inj h]
  subst e
  exact⟨by have:=(hf.1 x hm).1;omega,hL.2.1 x hm⟩
 ·split at h
  ·rename_i d hd
   have hm:=List.mem_of_find?_eq_some hd
   cases h
   refine⟨by have:=(hf.2 d hm).1;simp;omega,λl hl=> ?_⟩
   obtain⟨a,ha,rfl⟩:=List.mem_map.1 hl
   exact(hL.2.2 d hm).1 a (List.mem_append_left _ ha)
  ·cases h
theorem Fk {p:be} {env:List aH} {s:ByteArray} (hf:eR p) (hL:pu p) (he: ∀m∈env,aX m.2):af Ya AU [eX p,bZ mP env,S s] (Si p env s):=by
 refine af.of GZ (by simp) λhb=>aa ?_
 simp only[AE]
 have cF:=jp hf s
 have o:= λt ds h=>Ji (s:=s) (t:=t) (ds:=ds) hf hL h
 clear hb hf hL
 unfold Si ej WA
 cases z:aZ p s with
 |none=>
  rw[z]at cF
  clear o
  repeat' first|simp(disch:=omega)only[go_sem]|((with_reducible refine ab ?_ ?_)<;>intro h<;>try first|omega|simp(disch:=omega)only[go_sem, *])|refine ae cF rfl (.inr rfl) ?_
  all_goals rfl
 |some x=>
  obtain⟨t,ds⟩:=x
  rw[z]at cF
  obtain⟨h1,h2⟩:=o _ _ z
  have cE:=zW h1 h2 he
  obtain⟨⟨r,e⟩,w⟩: ∃x,x=iv env ds:=⟨_,rfl⟩
  rw[←w]at cE
  simp only
  rw[←w]
  simp only at cE ⊢
  clear z o h2 h1
  by_cases h0:e=0
  ·subst h0
   rw[if_neg (by simp)]
   have hr:=(pK w.symm).2.1
   have cC:=D6 hr
   clear w
   by_cases hg:4096<gy r
   ·rw[if_pos hg]
    have K:=Mt.2 hg
    clear hg hr
    repeat' first|simp(disch:=omega)only[go_sem]|((with_reducible refine ab ?_ ?_)<;>intro h<;>try first|omega|simp(disch:=omega)only[go_sem, *])|refine ae cF rfl (.inr rfl) ?_|refine ae cE rfl (.inr rfl) ?_|refine ae cC rfl (.inl rfl) ?_
    all_goals rfl
   ·rw[if_neg hg]
    have K: ¬MM r>4096:= λh=>hg (Mt.1 h)
    clear hg hr
    repeat' first|simp(disch:=omega)only[go_sem]|((with_reducible refine ab ?_ ?_)<;>intro h<;>try first|omega|simp(disch:=omega)only[go_sem, *])|refine ae cF rfl (.inr rfl) ?_|refine ae cE rfl (.inr rfl) ?_|refine ae cC rfl (.inl rfl) ?_
    all_goals rfl
  ·rw[if_pos h0]
   clear w
   repeat' first|simp(disch:=omega)only[go_sem,h0]|((with_reducible refine ab ?_ ?_)<;>intro h<;>try first|omega|simp(disch:=omega)only[go_sem, *,h0])|refine ae cF rfl (.inr rfl) ?_|refine ae cE rfl (.inr rfl) ?_
   all_goals rfl
def Ku (p:be) (env:List aH) (s:ByteArray):List Int×Int:=if qN p env≠0 then([],qN p env)else ej p env s
theorem nq {p:be} {env:List aH} {s:ByteArray} (hf:eR p) (o:ij p) (hL:pu p) (he: ∀m∈env,aX m.2):af Ya Ap [eX p,bZ mP env,S s] (.tup [bw (Ku p env s).1,I (Ku p env s).2]):=by
 refine af.of Hm (by simp) λhb=>aa ?_
 simp only[AP]
 have cA:=qU hf o hL he
 have cD:=Fk (s:=s) hf hL he
 clear hb hf o hL
 unfold Ku
 by_cases h0:qN p env=0
 ·rw[if_neg (not_not_intro h0)]
  rw[h0]at cA
  clear h0
  repeat' first|simp(disch:=omega)only[go_sem]|((with_reducible refine ab ?_ ?_)<;>intro h<;>try first|omega|simp(disch:=omega)only[go_sem, *])|refine ae cA rfl (.inl rfl) ?_|refine ae cD rfl (.inr rfl) ?_
 ·rw[if_pos h0]
  repeat' first|simp(disch:=omega)only[go_sem,h0]|((with_reducible refine ab ?_ ?_)<;>intro h<;>try first|omega|simp(disch:=omega)only[go_sem, *,h0])|refine ae cA rfl (.inl rfl) ?_
  all_goals rfl
theorem z6 (env:List aH) (s:ByteArray):af Ya sv [bZ mP env,S s] (.tup [I ((lz env s).getD 0),Go.Abs.B (lz env s).isSome]):=by
 refine af.of A1 (by simp) λhb=>aa ?_
 have hx:env.length≤9223372036854775807:=by simpa[fL,eW,ft]using hb.1
 obtain⟨r,hr⟩: ∃r,r=lz env s:=⟨_,rfl⟩
 rw[←hr]
 simp only[sT]
 repeat' first|simp(disch:=omega)only[go_sem]|((with_reducible refine ab ?_ ?_)<;>intro h<;>try first|omega|simp(disch:=omega)only[go_sem, *])
 refine ai (λk:Nat=>⟨[(6,I k),(0,bZ mP env),(1,S s)], [],0,0⟩) (λk=>k≤env.length∧Hid (r=lz (env.drop k) s)) (λk=>env.length-k) ⟨0, [],⟨by omega,hr⟩,by simp⟩ ?_
 rintro k ⟨hk,q⟩
 refine aa ?_
 clear hr
 by_cases g:k<env.length
 ·have Hall:Hid (r=if env[k].1=s then some env[k].2 else lz (env.drop (k+1)) s):=by
   have:=q.out
   rwa [List.drop_eq_getElem_cons g,lz]at this
  clear q
  repeat' first|simp(disch:=omega)only[go_sem,ac g,mP,wrap_i64]|((with_reducible refine ab ?_ ?_)<;>intro h<;>try first|omega|simp(disch:=omega)only[go_sem, *,ac g,mP,wrap_i64])
  ·rw[Hall.out,if_pos h]
   rfl
  ·refine⟨k+1, [],⟨by omega, ?_⟩,by omega,by simp⟩
   rw[Hid,Hall.out,if_neg h]
 ·have hn:=q.out
  rw[List.drop_eq_nil_of_le (by omega),lz]at hn
  clear q
  subst hn
  repeat' first|simp(disch:=omega)only[go_sem]|((with_reducible refine ab ?_ ?_)<;>intro h<;>try first|omega|simp(disch:=omega)only[go_sem, *])
  rfl
theorem j6 {p:be} {env:List aH} (o: ∀c∈p.wher,LK c) (he: ∀m∈env,aX m.2):af Ya lW [eX p,bZ mP env] (I (lZ p env)):=by
 refine af.of tX (by simp) λhb=>aa ?_
 simp only[lY]
 have pc: ∀c∈p.wher,af Ya nA [MS c,bZ mP env] (.tup [Go.Abs.B (gf c env).1,I (gf c env).2]):= λc h=>Bh (o c h) he
 clear o he
 unfold lZ
 by_cases h0:env.length=p.sizes.length
 ·rw[if_neg (not_not_intro h0)]
  have hi:(env.length:Int)=p.sizes.length:=by omega
  obtain⟨R,hR⟩: ∃R,R=qI env p.wher p.sizes:=⟨_,rfl⟩
  rw[←hR]
  have HR:Hid (qI env p.wher (p.sizes.drop 0)=R):=Lib.hid hR.symm
  clear hR h0
  have H:p.sizes.length≤9223372036854775807∧p.wher.length≤9223372036854775807:=by
   have:=hb.1
   simp[eW,jP,ft]at this
   exact⟨this.1,this.2.1⟩
  obtain⟨b1,b2⟩:=H
  clear hb
  repeat' first|simp(disch:=omega)only[go_sem,hi]|((with_reducible refine ab ?_ ?_)<;>intro h<;>try first|omega|simp(disch:=omega)only[go_sem, *,hi])
  refine ai (λj:Nat=>⟨[(1,bZ mP env),(2,.c (.ptr 0 0)),(5,I j)], [(0,dL p)],1,0⟩) (λj=>j≤p.sizes.length∧Hid (qI env p.wher (p.sizes.drop j)=R)) (λj=>p.sizes.length-j) ⟨0, [],⟨by omega,HR⟩,by simp⟩ ?_
  rintro j ⟨hj,hr⟩
  refine aa ?_
  have hd:=hr.out
  clear hr HR hi
  by_cases g:j<p.sizes.length
  ·have pn:=z6 env p.sizes[j]
   cases u:lz env p.sizes[j]with
   |none=>
    rw[yq g (FC u)]at hd
    subst hd
    rw[u]at pn
    clear u pc
    simp only[Option.getD_none,Option.isSome_none]at pn
    repeat' first|simp(disch:=omega)only[go_sem,ac g]|((with_reducible refine ab ?_ ?_)<;>intro h<;>try first|omega|simp(disch:=omega)only[go_sem, *,ac g])|refine ae pn rfl (.inl rfl) ?_
   |some v=>
    rw[u]at pn
    simp only[Option.getD_some,Option.isSome_some]at pn
    by_cases A:v<1∨4096<v
    ·rw[yq g ((tR u).2 A)]at hd
     subst hd
     clear u pc
     repeat' first|simp(disch:=omega)only[go_sem,ac g]|((with_reducible refine ab ?_ ?_)<;>intro h<;>try first|omega|simp(disch:=omega)only[go_sem, *,ac g])|refine ae pn rfl (.inl rfl) ?_
    ·rw[GA g (mt (tR u).1 A)]at hd
     have HD:=Lib.hid hd
     clear u pc hd
     repeat' first|simp(disch:=omega)only[go_sem,ac g,wrap_i64]|((with_reducible refine ab ?_ ?_)<;>intro h<;>try first|omega|simp(disch:=omega)only[go_sem, *,ac g,wrap_i64])|refine ae pn rfl (.inl rfl) ?_
     exact⟨j+1, [],⟨by omega,HD⟩,by omega,by simp⟩
  ·rw[JC (by omega)]at hd
   have HR:Hid (MZ env (p.wher.drop 0)=R):=Lib.hid hd
   clear hd
   repeat' first|simp(disch:=omega)only[go_sem]|((with_reducible refine ab ?_ ?_)<;>intro h<;>try first|omega|simp(disch:=omega)only[go_sem, *])
   refine ai (λj:Nat=>⟨[(1,bZ mP env),(2,.c (.ptr 0 0)),(8,I j)], [(0,dL p)],1,0⟩) (λj=>j≤p.wher.length∧Hid (MZ env (p.wher.drop j)=R)) (λj=>p.wher.length-j) ⟨0, [],⟨by omega,HR⟩,by simp⟩ ?_
   clear g hj
   rintro j ⟨hj,hr⟩
   refine aa ?_
   have hd:=hr.out
   clear hr HR
   by_cases g:j<p.wher.length
   ·have p1:=pc _ (List.getElem_mem g)
    obtain⟨⟨b,e⟩,C⟩: ∃x,x=gf p.wher[j] env:=⟨_,rfl⟩
    rw[Qp g C.symm]at hd
    rw[←C]at p1
    simp only at p1
    clear C pc
    by_cases h0:e=0
    ·subst h0
     rw[if_neg (by simp)]at hd
     cases b
     ·rw[if_pos rfl]at hd
      subst hd
      repeat' first|simp(disch:=omega)only[go_sem,ac g,cP]|((with_reducible refine ab ?_ ?_)<;>intro h<;>try first|omega|simp(disch:=omega)only[go_sem, *,ac g,cP])|refine ae p1 rfl (.inl rfl) ?_
     ·rw[if_neg (by simp)]at hd
      have HD:=Lib.hid hd
      clear hd
      repeat' first|simp(disch:=omega)only[go_sem,ac g,cP,wrap_i64]|((with_reducible refine ab ?_ ?_)<;>intro h<;>try first|omega|simp(disch:=omega)only[go_sem, *,ac g,cP,wrap_i64])|refine ae p1 rfl (.inl rfl) ?_
      exact⟨j+1, [],⟨by omega,HD⟩,by omega,by simp⟩
    ·rw[if_pos h0]at hd
     subst hd
     repeat' first|simp(disch:=omega)only[go_sem,ac g,cP,h0]|((with_reducible refine ab ?_ ?_)<;>intro h<;>try first|omega|simp(disch:=omega)only[go_sem, *,ac g,cP,h0])|refine ae p1 rfl (.inl rfl) ?_
   ·rw[LW (by omega)]at hd
    subst hd
    repeat' first|simp(disch:=omega)only[go_sem]|((with_reducible refine ab ?_ ?_)<;>intro h<;>try first|omega|simp(disch:=omega)only[go_sem, *])
 ·rw[if_pos h0]
  have hi: ¬(env.length:Int)=p.sizes.length:=by omega
  clear h0 pc hb
  repeat' first|simp(disch:=omega)only[go_sem,hi]|((with_reducible refine ab ?_ ?_)<;>intro h<;>try first|omega|simp(disch:=omega)only[go_sem, *,hi])
theorem Ba {p:be} {env:List aH} (hf:eR p) (o:ij p) (hL:pu p) (he: ∀m∈env,aX m.2):af Ya uQ [eX p,bZ mP env] (I (qN p env)):=by
 refine af.of DX (by simp) λhb=>aa ?_
 simp only[vh]
 have pv:=lX hf o
 have ps:=j6 (p:=p) hL.1 he
 clear hb
 unfold qN
 by_cases h0:(aV p).2=0
 ·rw[if_neg (not_not_intro h0)]
  rw[h0]at pv
  clear h0
  repeat' first|simp(disch:=omega)only[go_sem]|((with_reducible refine ab ?_ ?_)<;>intro h<;>try first|omega|simp(disch:=omega)only[go_sem, *])|refine ae pv rfl (.inl rfl) ?_|refine ae ps rfl (.inl rfl) ?_
 ·rw[if_pos h0]
  repeat' first|simp(disch:=omega)only[go_sem,h0]|((with_reducible refine ab ?_ ?_)<;>intro h<;>try first|omega|simp(disch:=omega)only[go_sem, *,h0])|refine ae pv rfl (.inl rfl) ?_
theorem xV {l:List fc} {env:List aH} (hl:l.length≤1000) (o: ∀f∈l,c6 f) (he: ∀m∈env,aX m.2):af Ya qn [my l,bZ mP env] (.tup [bw (iv env l).1,I (iv env l).2]):=by
 refine af.of zp (by simp) λhb=>aa ?_
 have pe: ∀a∈l,af Ya lb [f9 a.1 a.2,bZ mP env] (.tup [I (mB a.1 a.2 env).1,I (mB a.1 a.2 env).2]):= λa ha=>lK (o a ha).1 (o a ha).2 he
 obtain⟨R,hR⟩: ∃R,R=jI env [] l:=⟨_,rfl⟩
 unfold iv
 rw[←hR]
 have HR:Hid (jI env [] (l.drop 0)=R):=Lib.hid hR.symm
 clear hR o hb
 simp only[qj]
 repeat' first|simp(disch:=omega)only[go_sem]|((with_reducible refine ab ?_ ?_)<;>intro h<;>try first|omega|simp(disch:=omega)only[go_sem, *])
 refine co 6 3 1 rfl (by decide) ?_
 refine ai (λx:Nat×List Int=>⟨[(0,my l),(1,bZ mP env),(6,.c (.ref 0)),(7,I x.1)], [(0,.arr 3 1 (x.2.map λn=> [pI n]))],1,0⟩) (λx=>x.1≤l.length∧x.2.length=x.1∧Hid (jI env x.2 (l.drop x.1)=R)) (λx=>l.length-x.1) ⟨(0, []), [],⟨by omega,rfl,HR⟩,by simp⟩ ?_
 rintro⟨j,acc⟩ ⟨hj,J,hr⟩
 refine aa ?_
 simp only at hj J
 have hd:=hr.out
 simp only at hd
 clear hr HR
 by_cases g:j<l.length
 ·have p:=pe _ (List.getElem_mem g)
  obtain⟨⟨n,e⟩,D⟩: ∃x,x=mB l[j].1 l[j].2 env:=⟨_,rfl⟩
  rw[xK g D.symm]at hd
  rw[←D]at p
  simp only at p
  clear D pe
  by_cases h0:e=0
  ·subst h0
   rw[if_neg (by simp)]at hd
   by_cases hn:n<1∨4096<n
   ·rw[if_pos hn]at hd
    subst hd
    repeat' first|simp(disch:=omega)only[go_sem,ac g,bP]|((with_reducible refine ab ?_ ?_)<;>intro h<;>try first|omega|simp(disch:=omega)only[go_sem, *,ac g,bP])|refine ae p rfl (.inl rfl) ?_
    all_goals rfl
   ·rw[if_neg hn]at hd
    have HD:=Lib.hid hd
    have M:1≤n∧n≤4096:=by omega
    clear hd hn
    have HT:=Lib.hid (show(acc.map λn=> [pI n])++ [[pI n]]=(acc++ [n]).map λn=> [pI n] by simp)
    repeat' first|simp(disch:=omega)only[go_sem,ac g,bP,wrap_i64]|((with_reducible refine ab ?_ ?_)<;>intro h<;>try first|omega|simp(disch:=omega)only[go_sem, *,ac g,bP,wrap_i64])|refine ae p rfl (.inl rfl) ?_|refine aF rfl (by intro h;cases h) (ak rfl) (by simp;omega) (by simp;omega) ?_
    rw[HT.out]
    exact⟨(j+1,acc++ [n]), [(0,1)],⟨by omega,by simp;omega,HD⟩,by show _-_<_-_;omega,by simp⟩
  ·rw[if_pos h0]at hd
   subst hd
   repeat' first|simp(disch:=omega)only[go_sem,ac g,bP,h0]|((with_reducible refine ab ?_ ?_)<;>intro h<;>try first|omega|simp(disch:=omega)only[go_sem, *,ac g,bP,h0])|refine ae p rfl (.inl rfl) ?_
   all_goals rfl
 ·rw[sw (by omega)]at hd
  subst hd
  repeat' first|simp(disch:=omega)only[go_sem]|((with_reducible refine ab ?_ ?_)<;>intro h<;>try first|omega|simp(disch:=omega)only[go_sem, *])
  all_goals rfl
abbrev TB (x:Option (Ty×List fc)):AV:=match x with
 |some (t,l)=> .tup [my l,yG t,Go.Abs.B true]
 |none=> .tup [.c (.pure (.slice [])),yG gL,Go.Abs.B false]
theorem BM {p:be} (hf:eR p) (s:ByteArray):af Ya ui [eX p,S s] (TB (aZ p s)):=by
 refine af.of CD (by simp) λhb=>aa ?_
 have hl:p.params.length≤9223372036854775807∧p.defs.length≤9223372036854775807:=by
  have:=hb.1
  simp[eW,jP,ft]at this
  omega
 simp only[vA]
 repeat' first|simp(disch:=omega)only[go_sem]|((with_reducible refine ab ?_ ?_)<;>intro h<;>try first|omega|simp(disch:=omega)only[go_sem, *])
 refine ai (λk:Nat=>⟨[(7,I k),(5,.c (.ptr 1 0)),(2,.c (.ptr 0 0)),(1,S s)], [(1,.var [.pure (pI 0),.pure (pI 0),.pure (pI 0),.pure (pI 0),.pure (pI 0)]),(0,dL p)],2,0⟩) (λk=>k≤p.params.length∧bI (λj=> ∀h:j<p.params.length,¬p.params[j].1=s) k) (λk=>p.params.length-k) ⟨0, [],⟨by omega,.zero⟩,by simp⟩ ?_
 rintro k ⟨hk,q⟩
 refine aa ?_
 by_cases g:k<p.params.length
 ·by_cases he:p.params[k].1=s
  ·have HN:=Lib.hid (tF g he λj hj=>q j hj (by omega))
   clear q hf
   repeat' first|simp(disch:=omega)only[go_sem,ac g,d7,aj,he,decide_true,wrap_i64,]|((with_reducible refine ab ?_ ?_)<;>intro h<;>try first|omega|simp(disch:=omega)only[go_sem, *,ac g,d7,aj,he,decide_true,wrap_i64,])|apply au|(with_reducible refine az (λh=> ?_) ?_)
   all_goals(rw[HN.out];try rfl)
  ·have HA:=Lib.hid q
   clear q hf
   repeat' first|simp(disch:=omega)only[go_sem,ac g,d7,aj,he,decide_false,wrap_i64]|((with_reducible refine ab ?_ ?_)<;>intro h<;>try first|omega|simp(disch:=omega)only[go_sem, *,ac g,d7,aj,he,decide_false,wrap_i64])
   exact⟨k+1, [],⟨by omega,HA.out.succ λ_=>he⟩,by omega,by simp⟩
 ·have h0: ∀j (hj:j<p.params.length),¬p.params[j].1=s:= λj hj=>q j (by omega) hj
  have H0:=Lib.hid h0
  clear q h0
  repeat' first|simp(disch:=omega)only[go_sem]|((with_reducible refine ab ?_ ?_)<;>intro h<;>try first|omega|simp(disch:=omega)only[go_sem, *])
  refine ai (λk:Nat=>⟨[(8,I k),(5,.c (.ptr 1 0)),(2,.c (.ptr 0 0)),(1,S s)], [(1,.var [.pure (pI 0),.pure (pI 0),.pure (pI 0),.pure (pI 0),.pure (pI 0)]),(0,dL p)],2,0⟩) (λk=>k≤p.defs.length∧bI (λj=> ∀h:j<p.defs.length,¬p.defs[j].name=s) k) (λk=>p.defs.length-k) ⟨0, [],⟨by omega,.zero⟩,by simp⟩ ?_
  rintro i ⟨hk,q⟩
  refine aa ?_
  by_cases hi:i<p.defs.length
  ·by_cases he:p.defs[i].name=s
   ·have HN:=Lib.hid (tK H0.out hi he λj hj=>q j hj (by omega))
    have HF:=Lib.hid (hf.2 _ (List.getElem_mem hi))
    clear q hf
    repeat' first|simp(disch:=omega)only[go_sem,ac hi,br,aj,he,decide_true,wrap_i64]|((with_reducible refine ab ?_ ?_)<;>intro h<;>try first|omega|simp(disch:=omega)only[go_sem, *,ac hi,br,aj,he,decide_true,wrap_i64])
    refine co 9 62 2 rfl (by decide) ?_
    refine ai (λk:Nat=>⟨[(10,I k),(9,.c (.ref 2)),(8,I i),(5,.c (.ptr 1 0)),(2,.c (.ptr 0 0))], [(2,.arr 62 2 ((p.defs[i].dims.take k).map λa=>bP a.2)),(1,.var [.pure (pI 0),.pure (pI 0),.pure (pI 0),.pure (pI 0),.pure (pI 0)]),(0,dL p)],3,0⟩) (λk=>k≤p.defs[i].dims.length) (λk=>p.defs[i].dims.length-k) ⟨0, [],by omega,by simp⟩ ?_
    intro k hk
    refine aa ?_
    by_cases g:k<p.defs[i].dims.length
    ·have hd:=HF.out.1
     have ht:(p.defs[i].dims.take k).map (λa:eU=>bP a.2)++ [bP p.defs[i].dims[k].2]=(p.defs[i].dims.take (k+1)).map λa=>bP a.2:=by rw[List.take_succ_eq_append_getElem g,List.map_append];rfl
     simp only[bP]at ht
     have HT:=Lib.hid ht
     clear ht HF
     repeat' first|simp(disch:=omega)only[go_sem,ac hi,br,ac g,ee,bP,wrap_i64]|((with_reducible refine ab ?_ ?_)<;>intro h<;>try first|omega|simp(disch:=omega)only[go_sem, *,ac hi,br,ac g,ee,bP,wrap_i64])|refine aF rfl (by intro h;cases h) (ak rfl) (by simp;omega) (by simp;omega) ?_
     rw[HT.out]
     exact⟨k+1, [(2,3)],by omega,by omega,by simp[bP]⟩
    ·repeat' first|simp(disch:=omega)only[go_sem,ac hi,br]|((with_reducible refine ab ?_ ?_)<;>intro h<;>try first|omega|simp(disch:=omega)only[go_sem, *,ac hi,br])
     rw[HN.out,List.take_of_length_le (by omega)]
     simp[List.map_map,Function.comp_def]
   ·have HA:=Lib.hid q
    clear q hf
    repeat' first|simp(disch:=omega)only[go_sem,ac hi,br,aj,he,decide_false,wrap_i64]|((with_reducible refine ab ?_ ?_)<;>intro h<;>try first|omega|simp(disch:=omega)only[go_sem, *,ac hi,br,aj,he,decide_false,wrap_i64])
    exact⟨i+1, [],⟨by omega,HA.out.succ λ_=>he⟩,by omega,by simp⟩
  ·have HN:=Lib.hid (vG H0.out λd hd=>by
    obtain⟨j,hj,rfl⟩:=List.mem_iff_getElem.1 hd
    exact q j (by omega) hj)
   clear q hf
   repeat' first|simp(disch:=omega)only[go_sem]|((with_reducible refine ab ?_ ?_)<;>intro h<;>try first|omega|simp(disch:=omega)only[go_sem, *])
   rw[HN.out]
   try rfl
def we:Int→List Int→Int
 |n, []=>n
 |n,x::r=>we (min (n*x) 65537) r
theorem Q2 {n:Int} {l:List Int} {k:Nat} (h:k<l.length):we n (l.drop k)=we (min (n*l[k]) 65537) (l.drop (k+1)):=by
 rw[List.drop_eq_getElem_cons h,we]
theorem Mg: ∀{l:List Int} {n:Int},(∀x∈l,1≤x∧x≤4096)→1≤n∧n≤65537→(4096<we n l↔4096<n*gy l)
 | [],n,_,_=>by rw[we,gy,Int.mul_one]
 |x::r,n,hl,hn=>by
  have hx:=hl x List.mem_cons_self
  have hr:= λy hy=>hl y (List.mem_cons_of_mem _ hy)
  have hm:=ws hn hx
  have hp:=zB hr
  rw[we,gy,Mg hr (by omega),←Int.mul_assoc]
  by_cases hg:n*x≤65537
  ·rw[Int.min_eq_left hg]
  ·rw[Int.min_eq_right (by omega)]
   have h1:=Int.mul_le_mul (show(65537:Int)≤65537 from Int.le_refl _) hp (by omega) (by omega)
   have h2:=Int.mul_le_mul (show 65538≤n*x by omega) hp (by omega) (by omega)
   omega
theorem DA {l:List Int} (hl: ∀x∈l,1≤x∧x≤4096):af Ya xG [bw l] (I (we 1 l)):=by
 refine af.of Fc (by simp) λhb=>aa ?_
 have hx:l.length≤9223372036854775807:=by simpa[fL,eW,ft]using hb.1
 simp only[yA]
 obtain⟨R,hR⟩: ∃R,R=we 1 (l.drop 0):=⟨_,rfl⟩
 have L:we 1 l=R:=hR.symm
 rw[L]
 have HR:Hid (we 1 (l.drop 0)=R):=Lib.hid hR.symm
 have HL:=Lib.hid hl
 clear hR L hl hb
 repeat' first|simp(disch:=omega)only[go_sem]|((with_reducible refine ab ?_ ?_)<;>intro h<;>try first|omega|simp(disch:=omega)only[go_sem, *])
 refine ai (λs:Nat×Int=>⟨[(0,bw l),(3,I s.2),(4,I s.1)], [],0,0⟩) (λs=>s.1≤l.length∧(1≤s.2∧s.2≤65537)∧Hid (we s.2 (l.drop s.1)=R)) (λs=>l.length-s.1) ⟨(0,1), [],⟨Nat.zero_le _,by show(1:Int)≤1∧(1:Int)≤65537;omega,HR⟩,by simp⟩ ?_
 clear HR
 rintro⟨k,n⟩ ⟨hk,hn,hr⟩
 refine aa ?_
 simp only at hk hn
 have hd:=hr.out
 simp only at hd
 clear hr
 by_cases g:k<l.length
 ·have hm:=ws hn (HL.out _ (List.getElem_mem g))
  rw[Q2 g]at hd
  have HD:=Lib.hid hd
  have E:IntKind.wrap .i64 (n*l[k])=n*l[k]:=wrap_i64 (by omega)
  have N:1≤min (n*l[k]) 65537∧min (n*l[k]) 65537≤65537:=by omega
  clear hd hm
  repeat' first|simp(disch:=omega)only[go_sem,ac g,E,wrap_i64]|((with_reducible refine ab ?_ ?_)<;>intro h<;>try first|omega|simp(disch:=omega)only[go_sem, *,ac g,E,wrap_i64])
  all_goals exact⟨(k+1,min (n*l[k]) 65537), [],⟨g,N,HD⟩,by show _-_<_-_;omega,by simp⟩
 ·rw[List.drop_eq_nil_of_le (by omega),we]at hd
  subst hd
  repeat' first|simp(disch:=omega)only[go_sem]|((with_reducible refine ab ?_ ?_)<;>intro h<;>try first|omega|simp(disch:=omega)only[go_sem, *])
theorem Du {p:be} {env:List aH} {s:ByteArray} (hf:eR p) (hL:pu p) (he: ∀m∈env,aX m.2):af Ya xz [eX p,bZ mP env,S s] (.tup [bw (ej p env s).1,I (ej p env s).2]):=by
 refine af.of Fm (by simp) λhb=>aa ?_
 simp only[xQ]
 have cF:=BM hf s
 have o:= λt ds h=>Ji (s:=s) (t:=t) (ds:=ds) hf hL h
 clear hb hf hL
 unfold ej
 cases z:aZ p s with
 |none=>
  rw[z]at cF
  clear o
  repeat' first|simp(disch:=omega)only[go_sem]|((with_reducible refine ab ?_ ?_)<;>intro h<;>try first|omega|simp(disch:=omega)only[go_sem, *])|refine ae cF rfl (.inr rfl) ?_
  all_goals rfl
 |some x=>
  obtain⟨t,ds⟩:=x
  rw[z]at cF
  obtain⟨h1,h2⟩:=o _ _ z
  have cE:=xV h1 h2 he
  obtain⟨⟨r,e⟩,w⟩: ∃x,x=iv env ds:=⟨_,rfl⟩
  rw[←w]at cE
  simp only
  rw[←w]
  simp only at cE ⊢
  clear z o h2 h1
  by_cases h0:e=0
  ·subst h0
   rw[if_neg (by simp)]
   have hr:=(pK w.symm).2.1
   have cC:=DA hr
   have F:=Mg (n:=1) hr (by omega)
   rw[Int.one_mul]at F
   clear w
   by_cases hg:4096<gy r
   ·rw[if_pos hg]
    have K:we 1 r>4096:=F.2 hg
    clear hg hr F
    repeat' first|simp(disch:=omega)only[go_sem]|((with_reducible refine ab ?_ ?_)<;>intro h<;>try first|omega|simp(disch:=omega)only[go_sem, *])|refine ae cF rfl (.inr rfl) ?_|refine ae cE rfl (.inr rfl) ?_|refine ae cC rfl (.inl rfl) ?_
    all_goals rfl
   ·rw[if_neg hg]
    have K: ¬we 1 r>4096:= λh=>hg (F.1 h)
    clear hg hr F
    repeat' first|simp(disch:=omega)only[go_sem]|((with_reducible refine ab ?_ ?_)<;>intro h<;>try first|omega|simp(disch:=omega)only[go_sem, *])|refine ae cF rfl (.inr rfl) ?_|refine ae cE rfl (.inr rfl) ?_|refine ae cC rfl (.inl rfl) ?_
    all_goals rfl
  ·rw[if_pos h0]
   have O:r= []:=N6 w.symm h0
   subst O
   clear w
   repeat' first|simp(disch:=omega)only[go_sem,h0]|((with_reducible refine ab ?_ ?_)<;>intro h<;>try first|omega|simp(disch:=omega)only[go_sem, *,h0])|refine ae cF rfl (.inr rfl) ?_|refine ae cE rfl (.inr rfl) ?_
   all_goals rfl
theorem th {p:be} {env:List aH} {s:ByteArray} (hf:eR p) (o:ij p) (hL:pu p) (he: ∀m∈env,aX m.2):af Ya yk [eX p,bZ mP env,S s] (.tup [bw (Ku p env s).1,I (Ku p env s).2]):=by
 refine af.of EN (by simp) λhb=>aa ?_
 simp only[xY]
 have cA:=Ba hf o hL he
 have cD:=Du (s:=s) hf hL he
 clear hb hf o hL
 unfold Ku
 by_cases h0:qN p env=0
 ·rw[if_neg (not_not_intro h0)]
  rw[h0]at cA
  clear h0
  repeat' first|simp(disch:=omega)only[go_sem]|((with_reducible refine ab ?_ ?_)<;>intro h<;>try first|omega|simp(disch:=omega)only[go_sem, *])|refine ae cA rfl (.inl rfl) ?_|refine ae cD rfl (.inr rfl) ?_
 ·rw[if_pos h0]
  repeat' first|simp(disch:=omega)only[go_sem,h0]|((with_reducible refine ab ?_ ?_)<;>intro h<;>try first|omega|simp(disch:=omega)only[go_sem, *,h0])|refine ae cA rfl (.inl rfl) ?_
  all_goals rfl
end
end Go.Proofs.YtjhkikmonejkjaaGreatDoor
