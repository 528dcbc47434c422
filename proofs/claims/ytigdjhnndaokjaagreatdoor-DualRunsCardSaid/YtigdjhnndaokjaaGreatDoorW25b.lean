import Derived.Test.YtigdjhnndaokjaaGreatDoorV25R
set_option linter.unusedVariables false
set_option linter.unusedSimpArgs false
set_option maxHeartbeats 4000000
set_option maxRecDepth 1000000
open Go.Proofs.Tryz renaming prog→Pa0
namespace Go.Proofs.YtigdjhnndaokjaaGreatDoor
open Go.Abs Go.RowKit
theorem dW (L:List Nm) (s:ByteArray):ac Pa0 u9 [bF d7 L,S s] (.tup [Nh ((bm L s).getD MD),Go.Abs.B (bm L s).isSome]):=by
 refine ac.of NV zR6 λhb=>aa ?_
 have hl:=Js hb
 conv in Di=>cbv
 repeat' first|simp(disch:=omega)only[go_sem,↓ai]|((with_reducible refine ab ?_ ?_)<;>intro h<;>try first|omega|simp(disch:=omega)only[go_sem,↓ai, *])
 refine al (λk:Nat=>⟨[(0,bF d7 L),(1,S s),(4,.c (.ptr 0 0)),(6,I k)], [(0,.var [i_ 0,i_ 0,i_ 0,i_ 0,i_ 0,.nils,.nils])],1,0⟩) (λk=>k≤L.length∧ct (λj=> ∀h:j<L.length,¬L[j].1=s) k) (λk=>L.length-k) ⟨0, [],⟨by omega,.zero⟩,by simp⟩ ?_
 rintro k ⟨hk,E⟩
 refine aa ?_
 by_cases b:k<L.length
 ·by_cases he:L[k].1=s
  ·have hf:=PA b he λj hj=>E j hj zR5
   rw[hf]
   have hg: ∀f:Nm→List PC,(List.map f L)[k]? =some (f L[k]):= λf=>ae b
   clear E hf
   generalize L[k]=x at*
   obtain⟨n,⟨t1,t2,t3,t4,t5⟩,es,vs⟩:=x
   simp only at he
   repeat' first|simp(disch:=omega)only[go_sem,↓ai,hg,d7,eK,he,decide_true,wrap_i64]|((with_reducible refine ab ?_ ?_)<;>intro h<;>try first|omega|simp(disch:=omega)only[go_sem,↓ai, *,hg,d7,eK,he,decide_true,wrap_i64])|apply af|(with_reducible refine ag (λh=> ?_) ?_)
   all_goals rfl
  ·have HA:=Lib.hid E
   clear E
   repeat' first|simp(disch:=omega)only[go_sem,↓ai,ae b,d7,eK,he,decide_false,wrap_i64]|((with_reducible refine ab ?_ ?_)<;>intro h<;>try first|omega|simp(disch:=omega)only[go_sem,↓ai, *,ae b,d7,eK,he,decide_false,wrap_i64])|apply af|(with_reducible refine ag (λh=> ?_) ?_)
   exact⟨k+1, [],⟨by omega,HA.out.succ λ_=>he⟩,by omega,by simp⟩
 ·have hf:bm L s=none:=jP.2 λhm=>by
   obtain⟨y,hy,h2⟩:=zE0.1 hm
   obtain⟨j,hj,rfl⟩:=zC2.1 hy
   exact E j zR5 hj h2
  rw[hf]
  clear E
  repeat' first|simp(disch:=omega)only[go_sem,↓ai]|((with_reducible refine ab ?_ ?_)<;>intro h<;>try first|omega|simp(disch:=omega)only[go_sem,↓ai, *])
  all_goals rfl
variable {T:Tn}
theorem aet (h:d9 T=0): ∀a∈T.2.2,bD a:= λa ha=>dt (fY h).1 ((fY h).2.2.2 a ha)
variable {M:List Nm}{s:ByteArray}
theorem tG (hf:bm M s=some T) (hT:d9 T=0):ac Pa0 qr [bF d7 M,S s] (.tup [Nh T,I 0]):=by
 refine ac.of IJ zR6 λhb=>aa ?_
 have p1:=dW M s
 have p2:=jQ (x:=T) (aet hT)
 rw[hf]at p1
 rw[hT]at p2
 simp only[zA8,zF3]at p1
 obtain⟨⟨t1,t2,t3,t4,t5⟩,es,vs⟩:=T
 conv in y9=>cbv
 clear hf hT
 repeat' first|simp(disch:=omega)only[go_sem,↓ai]|((with_reducible refine ab ?_ ?_)<;>intro h<;>try first|omega|simp(disch:=omega)only[go_sem,↓ai, *])|apply af|(with_reducible refine ag (λh=> ?_) ?_)|refine dH p1 ?_|refine ak p2 ?_
theorem JF {L:List Nm} {t:Ty} {ds:List Int} (hL: ∀x∈L,∀a∈x.2.2.2,bD a):ac Pa0 vC [bF d7 L,S s,mj t,aF ds] (I (gP L s t ds)):=by
 refine ac.of M3 zR6 λhb=>aa ?_
 conv in E8=>cbv
 have p1:=dW L s
 cases hf:bm L s with
 |none=>
  rw[hf]at p1
  simp only[zD3,zM1]at p1
  rw[gP,hf]
  repeat' first|simp(disch:=omega)only[go_sem,↓ai]|((with_reducible refine ab ?_ ?_)<;>intro h<;>try first|omega|simp(disch:=omega)only[go_sem,↓ai, *])|refine dH p1 ?_
 |some T=>
  have p2:=jQ (x:=T) (hL _ (FE hf))
  have p3:=te T.2.1 ds
  rw[hf]at p1
  simp only[zA8,zF3]at p1
  have hp:gP L s t ds=if d9 T≠0 then 1 else if T.1≠t then 10 else if T.2.1≠ds then 15 else 0:=by unfold gP;rw[hf]
  rw[hp]
  clear hL hp hf hb
  obtain⟨⟨t1,t2,t3,t4,t5⟩,es,vs⟩:=T
  obtain⟨u1,u2,u3,u4,u5⟩:=t
  simp only at p3
  by_cases h0:d9 ((t1,t2,t3,t4,t5),es,vs)=0
  ·simp only[h0,ne_eq,not_true,if_false]
   rw[h0]at p2
   by_cases h5:es=ds
   ·rw[zB1 h5]at p3
    subst h5
    repeat' first|simp(disch:=omega)only[go_sem,↓ai]|((with_reducible refine ab ?_ ?_)<;>intro h<;>try first|omega|simp(disch:=omega)only[go_sem,↓ai, *])|apply af|(with_reducible refine ag (λh=> ?_) ?_)|refine dH p1 ?_|refine ak p2 ?_|refine ak p3 ?_
    ·obtain⟨rfl,rfl,rfl,rfl,rfl⟩:=h
     simp
    ·rw[if_pos (λe=>h zV9)]
   ·rw[zA9 h5]at p3
    have H5:=Lib.hid h5
    clear h5
    repeat' first|simp(disch:=omega)only[go_sem,↓ai]|((with_reducible refine ab ?_ ?_)<;>intro h<;>try first|omega|simp(disch:=omega)only[go_sem,↓ai, *])|apply af|(with_reducible refine ag (λh=> ?_) ?_)|refine dH p1 ?_|refine ak p2 ?_|refine ak p3 ?_
    ·obtain⟨rfl,rfl,rfl,rfl,rfl⟩:=h
     have h5:=H5.out
     simp[h5]
    ·rw[if_pos (λe=>h zV9)]
  ·simp only[ne_eq,h0,not_false_eq_true,if_true]
   repeat' first|simp(disch:=omega)only[go_sem,↓ai,h0]|((with_reducible refine ab ?_ ?_)<;>intro h<;>try first|omega|simp(disch:=omega)only[go_sem,↓ai, *,h0])|apply af|(with_reducible refine ag (λh=> ?_) ?_)|refine dH p1 ?_|refine ak p2 ?_
theorem U8 {ds acc:List Int} {k:Nat} {v:Int} (hg:yk ds=0) (h:Vx ds acc) (D:acc.length=k) (hk:k<ds.length) (hv: ¬(v<0∨ds[k]≤v)):Vx ds (acc++ [v])∧IntKind.wrap .i64 (rk ds acc*ds[k])=rk ds acc*ds[k]∧IntKind.wrap .i64 (rk ds acc*ds[k]+v)=rk ds (acc++ [v]):=by
 have hI:=h.snoc (v:=v) zR5 (by rw[D,zA7 hk,zA8];exact hv)
 have b1:=h.bd hg
 have b2:=hI.bd hg
 have hd:=(b8 hg).get hk
 rw[zA7 hk,zA8]at hd
 have e1:rk ds (acc++ [v])=rk ds acc*ds[k]+v:=by rw[abL,D,zA7 hk,zA8]
 have m1:0≤rk ds acc*ds[k]:=zM5 b1.1 zR5
 rw[e1]at b2
 exact⟨hI,wrap_i64 zR5,by rw[e1];exact wrap_i64 zR5⟩
variable {env:List aG}
theorem IH {x:Ix} {n:Int} (hx:T8 M x) (hn:1≤n∧n≤4096) (he: ∀m∈env,aH m.2): ∃v,ac Pa0 mC [bF d7 M,bF mP env,aIx x,I n] (.tup [I v,I (Rl M env x n).2])∧((Rl M env x n).2=0→(Rl M env x n).1=v∧aH v):=by
 obtain⟨⟨K,J⟩,hT⟩:=hx
 by_cases q:x.2.1=nul
 ·have p1:=fV K.1 K.2 he
  unfold Rl
  rw[if_pos q]
  clear hT J
  obtain⟨⟨v,e⟩,F⟩: ∃y,y=io x.1.1 x.1.2 env:=⟨_,rfl⟩
  rw[←F]at p1 ⊢
  refine⟨v,ac.of zx zR6 λ_=>aa ?_,λh=>⟨rfl,ZS (k:=x.1.1) (l:=x.1.2) (env:=env) (by rw[←F];exact zL0 rfl h)⟩⟩
  clear F
  conv in rZ=>cbv
  repeat' first|simp(disch:=omega)only[go_sem,↓ai,q]|((with_reducible refine ab ?_ ?_)<;>intro h<;>try first|omega|simp(disch:=omega)only[go_sem,↓ai, *,q])|refine ak p1 ?_
 ·obtain⟨T,t1,t2,t3,tk⟩:=hT q
  have pe: ∀f∈x.2.2,ac Pa0 iH [iK f.1 f.2,bF mP env] (.tup [I (io f.1 f.2 env).1,I (io f.1 f.2 env).2]):= λf hf=>fV (J f hf).1 (J f hf).2 he
  have pT:=tG t1 t2
  unfold Rl
  rw[if_neg q,t1,zA8]
  obtain⟨v1,v2,v3,v4⟩:=fY t2
  have hg:=b8 v2
  have Z:=hg.len
  obtain⟨R,hR⟩: ∃R,R=OK env x.2.2 T.2.1:=⟨_,rfl⟩
  rw[←hR]
  have HR:Hid (MX [] (OK env (x.2.2.drop 0) (T.2.1.drop 0))=R):=Lib.hid (by rw[hR];exact Jc λh=>Vy h)
  have hB:x.2.2.length≤6:=by omega
  have t3':(x.2.2.length:Int)=T.2.1.length:=by omega
  have hC: ∀k (h:k<T.2.1.length),1≤T.2.1[k]∧T.2.1[k]≤4096:= λk h=>by
   have:=hg.get h
   rwa [zA7 h,zA8]at this
  clear hR hT K J v1 v4 hg he
  have key: ∀v e,(R.2≠0→e=R.2∧v=0)→(R.2=0→e=0∧v=min (max (T.2.2[(qD T.2.1 R.1).toNat]?.getD (0,0)).1 0) (n-1))→ac Pa0 mC [bF d7 M,bF mP env,aIx x,I n] (.tup [I v,I e]):=by
   intro v e V W
   refine ac.of zx zR6 λ_=>aa ?_
   have HR1:=Lib.hid V
   have HR2:=Lib.hid W
   have HT2:=Lib.hid t2
   have HT3:=Lib.hid t3
   have HV2:=Lib.hid v2
   clear V W v3 t2 t3 v2
   conv in rZ=>cbv
   repeat' first|simp(disch:=omega)only[go_sem,↓ai,q,tk,t3']|((with_reducible refine ab ?_ ?_)<;>intro h<;>try first|omega|simp(disch:=omega)only[go_sem,↓ai, *,q,tk,t3'])|apply af|(with_reducible refine ag (λh=> ?_) ?_)|refine dH pT ?_
   clear q pT
   refine al (λs:Nat×List Int=>⟨[(1,bF mP env),(3,I n),(6,.c (.ptr 0 0)),(10,.c (.ptr 1 0)),(12,I (rk T.2.1 s.2)),(13,I s.1)], [(1,bTn T),(0,.var [.pure (pI x.1.1),.pure (bQ x.1.2),.pure (pS x.2.1),.pure (dp bT x.2.2)])],2,0⟩) (λs=>s.1≤x.2.2.length∧s.2.length=s.1∧Hid (Vx T.2.1 s.2)∧Hid (MX s.2 (OK env (x.2.2.drop s.1) (T.2.1.drop s.1))=R)) (λs=>x.2.2.length-s.1) ⟨(0, []), [],⟨by omega,rfl,Vx.nil _,HR⟩,by simp[rk,dR,tk]⟩ ?_
   clear HR
   rintro⟨k,acc⟩ ⟨hk,D,z,hr⟩
   refine aa ?_
   simp only at hk D z
   have hd:=hr.out
   simp only at hd
   clear hr
   by_cases b:k<x.2.2.length
   ·have d:k<T.2.1.length:=by rw[←HT3.out];exact b
    have p1:=pe _ (zA6 b)
    obtain⟨⟨v0,e0⟩,F⟩: ∃y,y=io x.2.2[k].1 x.2.2[k].2 env:=⟨_,rfl⟩
    rw[ZX b F.symm,zA7 d,zA8]at hd
    rw[←F]at p1
    simp only at p1
    clear F pe
    by_cases h0:e0=0
    ·subst h0
     rw[if_neg zR6]at hd
     by_cases hb:v0<0∨T.2.1[k]≤v0
     ·rw[if_pos hb]at hd
      subst hd
      obtain⟨rfl,rfl⟩:=HR1.out zR6
      clear HR1 HR2
      by_cases o:v0<0
      ·repeat' first|simp(disch:=omega)only[go_sem,↓ai,ae b,bT,o]|((with_reducible refine ab ?_ ?_)<;>intro h<;>try first|omega|simp(disch:=omega)only[go_sem,↓ai, *,ae b,bT,o])|apply af|(with_reducible refine ag (λh=> ?_) ?_)|refine ak p1 ?_
      ·have C:T.2.1[k]≤v0:=by omega
       clear hb
       repeat' first|simp(disch:=omega)only[go_sem,↓ai,ae b,bT,o,ae d,C]|((with_reducible refine ab ?_ ?_)<;>intro h<;>try first|omega|simp(disch:=omega)only[go_sem,↓ai, *,ae b,bT,o,ae d,C])|apply af|(with_reducible refine ag (λh=> ?_) ?_)|refine ak p1 ?_
     ·rw[if_neg hb]at hd
      have HD:=Lib.hid hd
      obtain⟨hI,w2,w3⟩:=U8 HV2.out z.out D d hb
      have HI:=Lib.hid hI
      have o: ¬v0<0:=by omega
      have C: ¬T.2.1[k]≤v0:=by omega
      have w1:IntKind.wrap .i64 ((k:Int)+1)=(k:Int)+1:=wrap_i64 zR5
      clear hb hd z HR1 HR2 hI
      repeat' first|simp(disch:=omega)only[go_sem,↓ai,ae b,bT,o,ae d,C,w1,w2,w3]|((with_reducible refine ab ?_ ?_)<;>intro h<;>try first|omega|simp(disch:=omega)only[go_sem,↓ai, *,ae b,bT,o,ae d,C,w1,w2,w3])|apply af|(with_reducible refine ag (λh=> ?_) ?_)|refine ak p1 ?_
      all_goals exact⟨(k+1,acc++ [v0]), [],⟨by show k+1≤_;omega,by simp[D],HI,HD⟩,by show _-_<_-_;omega,by simp⟩
    ·rw[if_pos h0]at hd
     subst hd
     obtain⟨rfl,rfl⟩:=HR1.out h0
     clear HR1 HR2
     repeat' first|simp(disch:=omega)only[go_sem,↓ai,ae b,bT,h0]|((with_reducible refine ab ?_ ?_)<;>intro h<;>try first|omega|simp(disch:=omega)only[go_sem,↓ai, *,ae b,bT,h0])|apply af|(with_reducible refine ag (λh=> ?_) ?_)|refine ak p1 ?_
   ·rw[VV zR5]at hd
    subst hd
    obtain⟨rfl,rfl⟩:=HR2.out rfl
    obtain⟨G,N⟩:=z.out.full (by show acc.length=_;have:=HT3.out;omega)
    obtain⟨i,H⟩:=m5 HT2.out G
    obtain⟨r,hr⟩: ∃r:Nat,(qD T.2.1 acc).toNat=r:=⟨_,rfl⟩
    rw[hr]at i H
    rw[N,←H]
    simp only[hr,zA7 i,zA8]
    have w1:IntKind.wrap .i64 (n-1)=n-1:=wrap_i64 zR5
    have hA: ¬(k:Int)<x.2.2.length:=by omega
    clear HR1 HR2 HT2 HT3 HV2 z G N pe hr H b
    repeat' first|simp(disch:=omega)only[go_sem,↓ai,ae i,w1]|((with_reducible refine ab ?_ ?_)<;>intro h<;>try first|omega|simp(disch:=omega)only[go_sem,↓ai, *,ae i,w1])|apply af|(with_reducible refine ag (λh=> ?_) ?_)
    rw[zA7 i,zA8,show max 0 (min (n-1) T.2.2[r].1)=min (max T.2.2[r].1 0) (n-1) by omega]
  by_cases O:R.2=0
  ·rw[if_neg (zA5 O)]
   refine⟨_,key _ _ (λh=>absurd O h) (λ_=>⟨rfl,rfl⟩),λ_=>⟨rfl, ?_⟩⟩
   unfold aH
   omega
  ·rw[if_pos O]
   exact⟨0,key _ _ (λ_=>⟨rfl,rfl⟩) (λh=>absurd h O),λh=>absurd h O⟩
theorem wl {idx:List Ix} (hT:d9 T=0) (hl:idx.length=T.2.1.length) (hx: ∀x∈idx,T8 M x) (he: ∀m∈env,aH m.2):
  ac Pa0 rU [bF d7 M,bF mP env,Nh T,.c (.pure (dp gS idx))] (.tup [I (if(qS M env idx T.2.1).2=0 then qD T.2.1 (qS M env idx T.2.1).1 else 0),I (qS M env idx T.2.1).2]):=by
 refine ac.of Jn zR6 λ_=>aa ?_
 obtain⟨v1,v2,v3,v4⟩:=fY hT
 have hg:=b8 v2
 have Z:=hg.len
 have hd: ∀k (h:k<T.2.1.length),1≤T.2.1[k]∧T.2.1[k]≤4096:= λk h=>by
  have:=hg.get h
  rwa [zA7 h,zA8]at this
 obtain⟨R,hR⟩: ∃R,R=qS M env idx T.2.1:=⟨_,rfl⟩
 rw[←hR]
 have HR:Hid (MX [] (qS M env (idx.drop 0) (T.2.1.drop 0))=R):=Lib.hid (by rw[hR];exact Jc λh=>Vp h)
 have hD:idx.length≤6:=by omega
 have X:(idx.length:Int)=T.2.1.length:=by omega
 have HL:=Lib.hid hl
 have HV:=Lib.hid v2
 clear hR v1 v2 v3 v4 hg hT hl
 conv in Bs=>cbv
 repeat' first|simp(disch:=omega)only[go_sem,↓ai,X]|((with_reducible refine ab ?_ ?_)<;>intro h<;>try first|omega|simp(disch:=omega)only[go_sem,↓ai, *,X])|apply af|(with_reducible refine ag (λh=> ?_) ?_)
 refine al (λs:Nat×List Int=>⟨[(0,bF d7 M),(1,bF mP env),(3,bF gS idx),(6,.c (.ptr 0 0)),(10,I (rk T.2.1 s.2)),(11,I s.1)], [(0,bTn T)],1,0⟩) (λs=>s.1≤idx.length∧s.2.length=s.1∧Hid (Vx T.2.1 s.2)∧Hid (MX s.2 (qS M env (idx.drop s.1) (T.2.1.drop s.1))=R)) (λs=>idx.length-s.1) ⟨(0, []), [],⟨by omega,rfl,Vx.nil _,HR⟩,by simp[rk,dR]⟩ ?_
 clear HR
 rintro⟨k,acc⟩ ⟨hk,D,z,hr⟩
 refine aa ?_
 simp only at hk D z
 have u:=hr.out
 simp only at u
 clear hr
 by_cases b:k<idx.length
 ·have d:k<T.2.1.length:=by rw[←HL.out];exact b
  obtain⟨v0,p1,P⟩:=IH (hx _ (zA6 b)) (hd k d) he
  obtain⟨⟨w0,e0⟩,Q⟩: ∃y,y=Rl M env idx[k] T.2.1[k]:=⟨_,rfl⟩
  rw[XK b (v:=w0) (e:=e0) (by rw[zA7 d,zA8];exact Q.symm),zA7 d,zA8]at u
  rw[←Q]at p1 P
  simp only at p1 P
  clear Q hx he hd
  by_cases h0:e0=0
  ·subst h0
   obtain⟨rfl,Y⟩:=P rfl
   clear P Y
   rw[if_neg zR6]at u
   by_cases hb:w0<0∨T.2.1[k]≤w0
   ·rw[if_pos hb]at u
    subst u
    rw[if_neg zR6]
    by_cases o:w0<0
    ·repeat' first|simp(disch:=omega)only[go_sem,↓ai,ae b,gS,o,ae d]|((with_reducible refine ab ?_ ?_)<;>intro h<;>try first|omega|simp(disch:=omega)only[go_sem,↓ai, *,ae b,gS,o,ae d])|apply af|(with_reducible refine ag (λh=> ?_) ?_)|refine ak p1 ?_
    ·have C:T.2.1[k]≤w0:=by omega
     clear hb
     repeat' first|simp(disch:=omega)only[go_sem,↓ai,ae b,gS,o,ae d,C]|((with_reducible refine ab ?_ ?_)<;>intro h<;>try first|omega|simp(disch:=omega)only[go_sem,↓ai, *,ae b,gS,o,ae d,C])|apply af|(with_reducible refine ag (λh=> ?_) ?_)|refine ak p1 ?_
   ·rw[if_neg hb]at u
    have HD:=Lib.hid u
    obtain⟨hI,w2,w3⟩:=U8 HV.out z.out D d hb
    have HI:=Lib.hid hI
    have o: ¬w0<0:=by omega
    have C: ¬T.2.1[k]≤w0:=by omega
    have w1:IntKind.wrap .i64 ((k:Int)+1)=(k:Int)+1:=wrap_i64 zR5
    clear hb u z hI
    repeat' first|simp(disch:=omega)only[go_sem,↓ai,ae b,gS,o,ae d,C,w1,w2,w3]|((with_reducible refine ab ?_ ?_)<;>intro h<;>try first|omega|simp(disch:=omega)only[go_sem,↓ai, *,ae b,gS,o,ae d,C,w1,w2,w3])|apply af|(with_reducible refine ag (λh=> ?_) ?_)|refine ak p1 ?_
    all_goals exact⟨(k+1,acc++ [w0]), [],⟨by show k+1≤_;omega,by simp[D],HI,HD⟩,by show _-_<_-_;omega,by simp⟩
  ·rw[if_pos h0]at u
   subst u
   rw[if_neg h0]
   clear P
   repeat' first|simp(disch:=omega)only[go_sem,↓ai,ae b,gS,h0,ae d]|((with_reducible refine ab ?_ ?_)<;>intro h<;>try first|omega|simp(disch:=omega)only[go_sem,↓ai, *,ae b,gS,h0,ae d])|apply af|(with_reducible refine ag (λh=> ?_) ?_)|refine ak p1 ?_
 ·rw[Vd zR5]at u
  subst u
  rw[if_pos rfl]
  obtain⟨G,N⟩:=z.out.full (by show acc.length=_;have:=HL.out;omega)
  rw[N]
  have hA: ¬(k:Int)<idx.length:=by omega
  clear hx he hd z G N b
  generalize qD T.2.1 acc=r at*
  repeat' first|simp(disch:=omega)only[go_sem,↓ai]|((with_reducible refine ab ?_ ?_)<;>intro h<;>try first|omega|simp(disch:=omega)only[go_sem,↓ai, *])|apply af|(with_reducible refine ag (λh=> ?_) ?_)
set_option maxRecDepth 20000
set_option maxRecDepth 1000000
theorem J4 {p:bu} {vars:List ByteArray} {e:Ex} (hw:W6 p vars e) (ha:e.args= []):hO e=0:=by
 have h1:=hw.1 e (ZC e)
 have h2:jE e=0:=by
  rw[J7,if_neg (zA5 h1),ha]
  rfl
 unfold hO
 rw[h2]
 obtain⟨op,name,val,ty,lin,idx,args⟩:=e
 obtain rfl:args= []:=ha
 rw[if_neg (by simp[Ex.dep,Ex.deps]),if_neg (by simp[Ex.sz,Ex.szs])]
abbrev aLf (v:Fr) (t:Ty) (e:Int):AV:= .agg [.pure (pI v.1),.pure (pI v.2),.pure (pI t.1),.pure (pI t.2.1),.pure (pI t.2.2.1),.pure (pI t.2.2.2.1),.pure (pI t.2.2.2.2),.pure (pI e)]
section
variable {M A : List Nm} {env : List aG} {e : Ex}
theorem cp:ac Pa0 vR [] (eX z1):=by
 refine ac.of Oc zR6 λ_=>aa ?_
 conv in C9=>cbv
 repeat' first|simp(disch:=omega)only[go_sem,↓ai, *]|apply ab<;>intro h<;>try omega
 all_goals rfl
theorem Qj (g:e.op=2) (hl:d8 e.lin) (he: ∀m∈env,aH m.2): ∃v t,ac Pa0 gu [bF d7 M,bF mP env,fp e] (aLf v t (jr M A env e).2)∧((jr M A env e).2=0→(jr M A env e).1=(t,(v,z1))):=by
 rw[YH g]
 have p1:=fV hl.1 hl.2 he
 generalize io e.lin.1 e.lin.2 env=R at*
 obtain⟨n,r⟩:=R
 simp only at p1 ⊢
 have key: ∀er,er=(if r=0∧(2147483647<n∨n< -2147483647)then 3 else r)→ac Pa0 gu [bF d7 M,bF mP env,fp e] (aLf (if er=0 then(n,1)else(0,0)) (if er=0 then ty3 else(0,0,0,0,0)) er):=by
  intro er hr
  refine ac.of sb zR6 λ_=>aa ?_
  conv in oW=>cbv
  clear hl he
  by_cases h0:r=0
  ·subst h0
   by_cases h1:2147483647<n
   ·rw[if_pos ⟨rfl,.inl h1⟩]at hr
    subst hr
    rw[if_neg zR9,if_neg zR9]
    repeat' first|simp(disch:=omega)only[go_sem,↓ai, *,g,h1]|apply zA1<;>intro h<;>try omega|refine ak p1 ?_
   ·by_cases h2:n< -2147483647
    ·rw[if_pos ⟨rfl,.inr h2⟩]at hr
     subst hr
     rw[if_neg zR9,if_neg zR9]
     exact yC2
    ·rw[if_neg zV4]at hr
     subst hr
     rw[if_pos rfl,if_pos rfl]
     exact yC2
  ·rw[if_neg (λh=>h0 h.1)]at hr
   subst hr
   rw[if_neg h0,if_neg h0]
   repeat' first|simp(disch:=omega)only[go_sem,↓ai, *,g,h0]|apply zA1<;>intro h<;>try omega|refine ak p1 ?_
 refine⟨_,_,key _ rfl,λh=> ?_⟩
 rw[if_pos h,if_pos h]
theorem Rf {T:Tn} (g:e.op=3) (hf:bm M e.name=some T) (hT:d9 T=0) (hl:e.idx.length=T.2.1.length) (hx: ∀x∈e.idx,T8 M x) (he: ∀m∈env,aH m.2): ∃v t,ac Pa0 gu [bF d7 M,bF mP env,fp e] (aLf v t (qS M env e.idx T.2.1).2)∧((qS M env e.idx T.2.1).2=0→t=T.1∧v=T.2.2[(qD T.2.1 (qS M env e.idx T.2.1).1).toNat]?.getD (0,0)):=by
 have p1:=tG hf hT
 have p2:=wl hT hl hx he
 by_cases h0:(qS M env e.idx T.2.1).2=0
 ·rw[if_pos h0,h0]at p2
  rw[h0]
  have G:T3 T.2.1 (qS M env e.idx T.2.1).1:=by
   obtain⟨h1,h2⟩:=JP h0
   exact⟨by rw[h1];exact hl,λk hk=>h2 k zR5⟩
  obtain⟨i,H⟩:=m5 hT G
  obtain⟨r,hr⟩: ∃r:Nat,(qD T.2.1 (qS M env e.idx T.2.1).1).toNat=r:=⟨_,rfl⟩
  rw[hr]at i H
  rw[←H]at p2
  rw[hr,zA7 i,zA8]
  refine⟨T.2.2[r],T.1,ac.of sb zR6 λ_=>aa ?_,λ_=>⟨rfl,rfl⟩⟩
  have hg: ∀f:Fr→List PC,(List.map f T.2.2)[r]? =some (f T.2.2[r]):= λf=>ae i
  clear hf hT hl hx he hr H h0 G
  generalize T.2.2[r]=w at*
  conv in oW=>cbv
  obtain⟨⟨t1,t2,t3,t4,t5⟩,es,vs⟩:=T
  obtain⟨w1,w2⟩:=w
  simp only at hg i
  repeat' first|simp(disch:=omega)only[go_sem,↓ai, *,g,hg]|apply zA1<;>intro h<;>try omega|refine dH p1 ?_|refine ak p2 ?_
  all_goals trace_state
 ·refine⟨(0,0),(0,0,0,0,0),ac.of sb zR6 λ_=>aa ?_,λh=>absurd h h0⟩
  conv in oW=>cbv
  rw[if_neg h0]at p2
  clear hf hT hl hx he
  generalize (qS M env e.idx T.2.1).2=er at*
  obtain⟨⟨t1,t2,t3,t4,t5⟩,es,vs⟩:=T
  repeat' first|simp(disch:=omega)only[go_sem,↓ai, *,g,h0]|apply zA1<;>intro h<;>try omega|refine dH p1 ?_|refine ak p2 ?_
variable {er:Int}
theorem Fx {v:Fr} {t:Ty} (g:e.op≤3) (p1:ac Pa0 gu [bF d7 M,bF mP env,fp e] (aLf v t er)):ac Pa0 rM [bF d7 M,bF mP env,fp e] (aLf v t er):=by
 refine ac.of MT zR6 λ_=>aa ?_
 conv in BL=>cbv
 repeat' first|simp(disch:=omega)only[go_sem,↓ai, *,g]|apply zA1<;>intro h<;>try omega|refine ak p1 ?_
theorem wV {v:Fr} {t:Ty} (g:e.op≤3) (hx:hO e=0) (K: ∀a∈e.pre,bD a.val) (p1:ac Pa0 gu [bF d7 M,bF mP env,fp e] (aLf v t er)):ac Pa0 uS [bF d7 M,bF mP env,fp e] (.tup [eX v,mj t,I er]):=by
 have p2:=Fx g p1
 have p3:=pL K
 rw[hx]at p3
 have p4:=dL e
 rw[zA9 zS6]at p4
 refine ac.of Ow zR6 λ_=>aa ?_
 conv in DF=>cbv
 clear p1 hx K
 repeat' first|simp(disch:=omega)only[go_sem,↓ai, *]|apply zA1<;>intro h<;>try omega|refine ak p2 ?_|refine ak p3 ?_|refine ak p4 ?_
end
end Go.Proofs.YtigdjhnndaokjaaGreatDoor
