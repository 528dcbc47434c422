import Derived.Test.YtigdjhnndaokjaaGreatDoorV25z
set_option linter.unusedVariables false
set_option linter.unusedSimpArgs false
set_option maxHeartbeats 4000000
set_option maxRecDepth 1000000
open Go.Proofs.Tryz renaming prog→Pa0
namespace Go.Proofs.YtigdjhnndaokjaaGreatDoor
open Go.Abs Go.RowKit
noncomputable section
theorem CU (a b:List Int):ac Pa0 gq [aF a,aF b] (Go.Abs.B (decide (a=b))):=by
 refine ac.of uy zR6 λhb=>aa ?_
 have hx:a.length≤9223372036854775807:=by simpa[f6,fB,f5]using hb.1
 conv in ll=>cbv
 by_cases hl:a.length=b.length
 ·have HL:=Lib.hid hl
  have K:(a.length:Int)=b.length:=by omega
  clear hl
  repeat' first|simp(disch:=omega)only[go_sem,↓ai,K]|((with_reducible refine ab ?_ ?_)<;>intro h<;>try first|omega|simp(disch:=omega)only[go_sem,↓ai, *,K])
  refine al (λk:Nat=>⟨[(0,aF a),(1,aF b),(12,I b.length),(13,I k)], [],0,0⟩) (λk=>k≤b.length∧Hid (a.take k=b.take k)) (λk=>b.length-k) ⟨0, [],⟨zE6 _,rfl⟩,by simp⟩ ?_
  rintro k ⟨hk,C⟩
  refine aa ?_
  clear K
  by_cases o:k<b.length
  ·have J:k<a.length:=by have:=HL.out;omega
   by_cases e:a[k]=b[k]
   ·have E:Hid (a.take (k+1)=b.take (k+1)):=by
     show _=_
     rw[zB5 J,zB5 o,C.out,e]
    repeat' first|simp(disch:=omega)only[go_sem,↓ai,ae J,ae o,e,wrap_i64]|((with_reducible refine ab ?_ ?_)<;>intro h<;>try first|omega|simp(disch:=omega)only[go_sem,↓ai, *,ae J,ae o,e,wrap_i64])
    exact⟨k+1, [],⟨o,E⟩,by omega,by simp⟩
   ·have Y: ¬a=b:=by rintro rfl;exact e rfl
    rw[zA9 Y]
    clear Y
    repeat' first|simp(disch:=omega)only[go_sem,↓ai,ae J,ae o,e,wrap_i64]|((with_reducible refine ab ?_ ?_)<;>intro h<;>try first|omega|simp(disch:=omega)only[go_sem,↓ai, *,ae J,ae o,e,wrap_i64])
  ·have e:a=b:=by
    have h:=C.out
    rwa [zB6 (by have:=HL.out;omega),zB6 zR5]at h
   rw[zB1 e]
   have hh: ¬(k:Int)<b.length:=by omega
   clear e
   repeat' first|simp(disch:=omega)only[go_sem,↓ai]|((with_reducible refine ab ?_ ?_)<;>intro h<;>try first|omega|simp(disch:=omega)only[go_sem,↓ai, *])
 ·have K: ¬(a.length:Int)=b.length:=by omega
  have Y: ¬a=b:=by rintro rfl;exact hl rfl
  rw[zA9 Y]
  clear Y
  repeat' first|simp(disch:=omega)only[go_sem,↓ai,K]|((with_reducible refine ab ?_ ?_)<;>intro h<;>try first|omega|simp(disch:=omega)only[go_sem,↓ai, *,K])
theorem Lg (a b:List Int):ac Pa0 uE [aF a,aF b] (Go.Abs.B (decide (a=b))):=by
 refine ac.of NE zR6 λhb=>aa ?_
 have p1:=CU a b
 conv in EC=>cbv
 repeat' first|simp(disch:=omega)only[go_sem,↓ai]|((with_reducible refine ab ?_ ?_)<;>intro h<;>try first|omega|simp(disch:=omega)only[go_sem,↓ai, *])|refine ak p1 ?_
abbrev aNm (x:Nm):AV:= .agg ((d7 x).map .pure)
variable {L:List Nm}{s:ByteArray}
theorem PA {k:Nat} (hk:k<L.length) (h:L[k].1=s) (hn: ∀j (hj:j<k),¬(L[j]' zR5).1=s):bm L s=some L[k].2:=by
 have:L.find? (λx=>decide (x.1=s))=some L[k]:=by
  rw[zM3]
  exact⟨by simpa using h,k,hk,rfl,λj hj=>by simpa using hn j hj⟩
 unfold bm
 rw[this]
 rfl
theorem Ay (x:Nm) (s:ByteArray):ac Pa0 e7 [aNm x,.c (.cptr [pS s])] (Go.Abs.B (uM (x.1=s))):=by
 refine ac.of CD zR6 λhb=>aa ?_
 conv in rt=>cbv
 repeat' first|simp(disch:=omega)only[go_sem,↓ai,eK,zB8,zC9]|((with_reducible refine ab ?_ ?_)<;>intro h<;>try first|omega|simp(disch:=omega)only[go_sem,↓ai, *,eK,zB8,zC9])
 rw[UL]
theorem NB (s:ByteArray) (xs:List Nm):ac Pa0 cq [bF d7 xs,.c (.clo e7 [.cptr [pS s]])] (I (oz (λx=>x.1=s) xs)):=by
 refine ac.of gQ zR6 λhb=>aa ?_
 have hl:=Js hb
 conv in dU=>cbv
 repeat' first|simp(disch:=omega)only[go_sem,↓ai]|((with_reducible refine ab ?_ ?_)<;>intro h<;>try first|omega|simp(disch:=omega)only[go_sem,↓ai, *])
 refine al (λk:Nat=>⟨[(0,bF d7 xs),(1,.c (.clo e7 [.cptr [pS s]])),(7,I xs.length),(8,I k)], [],0,0⟩) (λk=>k≤xs.length∧ct (λj=> ∀h:j<xs.length,¬xs[j].1=s) k) (λk=>xs.length-k) ⟨0, [],⟨by omega,.zero⟩,by simp⟩ ?_
 rintro k ⟨hk,C⟩
 refine aa ?_
 by_cases o:k<xs.length
 ·have HN:=Lib.hid λh=>yC (p:= λx:Nm=>x.1=s) o h λj hj=>C j hj zR5
  have HA:=Lib.hid C
  have p1:=Ay xs[k] s
  clear C
  repeat' first|simp(disch:=omega)only[go_sem,↓ai,ae o,d7,wrap_i64]|((with_reducible refine ab ?_ ?_)<;>intro h<;>try first|omega|simp(disch:=omega)only[go_sem,↓ai, *,ae o,d7,wrap_i64])|refine ak p1 ?_
  ·rw[HN.out h]
  ·exact⟨k+1, [],⟨by omega,HA.out.succ λ_=>h⟩,by omega,by simp⟩
 ·have HN:=Lib.hid (qy (p:= λx:Nm=>x.1=s) λj hj=>C j zR5 hj)
  clear C
  repeat' first|simp(disch:=omega)only[go_sem,↓ai]|((with_reducible refine ab ?_ ?_)<;>intro h<;>try first|omega|simp(disch:=omega)only[go_sem,↓ai, *])
  rw[HN.out]
variable {t:Ty}{ds:List Int}
theorem rm (hL: ∀x∈L,∀a∈x.2.2.2,bD a):ac Pa0 nT [bF d7 L,S s,mj t,aF ds] (.tup [Nh (if gP L s t ds=0 then(bm L s).getD MD else MD),I (gP L s t ds)]):=by
 refine ac.of FO zR6 λhb=>aa ?_
 conv in wP=>cbv
 have pi:=NB s L
 rcases rc (λx:Nm=>x.1=s) L with⟨e,hn⟩|⟨k,hk,e,h1,h2⟩
 ·have hf:bm L s=none:=jP.2 λhm=>by
   obtain⟨y,hy,rfl⟩:=zE0.1 hm
   exact hn y hy rfl
  rw[e]at pi
  have hp:gP L s t ds=9:=by unfold gP;rw[hf]
  rw[hp,if_neg zR9]
  repeat' first|simp(disch:=omega)only[go_sem,↓ai]|((with_reducible refine ab ?_ ?_)<;>intro h<;>try first|omega|simp(disch:=omega)only[go_sem,↓ai, *])|refine ak pi ?_
  all_goals rfl
 ·have hf:=PA hk h1 h2
  rw[e]at pi
  have pv:=As (x:=L[k].2) (hL _ (zA6 hk))
  have hp:gP L s t ds=if d9 L[k].2≠0 then 1 else if L[k].2.1≠t then 10 else if L[k].2.2.1≠ds then 15 else 0:=by unfold gP;rw[hf]
  have pS:=Lg L[k].2.2.1 ds
  rw[hp,hf,zA8]
  have hg: ∀f:Nm→List PC,(List.map f L)[k]? =some (f L[k]):= λf=>ae hk
  generalize L[k]=x at*
  clear hL hp h2 hf e
  obtain⟨n,⟨t1,t2,t3,t4,t5⟩,es,vs⟩:=x
  simp only at pv pS h1
  by_cases h0:d9 ((t1,t2,t3,t4,t5),es,vs)=0
  ·simp only[h0,ne_eq,not_true,if_false]
   rw[h0]at pv
   obtain⟨u1,u2,u3,u4,u5⟩:=t
   by_cases h5:es=ds
   ·rw[zB1 h5]at pS
    subst h5
    repeat' first|simp(disch:=omega)only[go_sem,↓ai,hg,d7]|((with_reducible refine ab ?_ ?_)<;>intro h<;>try first|omega|simp(disch:=omega)only[go_sem,↓ai, *,hg,d7])|apply af|(with_reducible refine ag (λh=> ?_) ?_)|refine ak pi ?_|refine ak pv ?_|refine ak pS ?_
    ·obtain⟨rfl,rfl,rfl,rfl,rfl⟩:=h
     simp
    ·rw[if_pos (λe=>h zV9)]
     rfl
   ·rw[zA9 h5]at pS
    have H5:=Lib.hid h5
    clear h5
    repeat' first|simp(disch:=omega)only[go_sem,↓ai,hg,d7]|((with_reducible refine ab ?_ ?_)<;>intro h<;>try first|omega|simp(disch:=omega)only[go_sem,↓ai, *,hg,d7])|apply af|(with_reducible refine ag (λh=> ?_) ?_)|refine ak pi ?_|refine ak pv ?_|refine ak pS ?_
    ·obtain⟨rfl,rfl,rfl,rfl,rfl⟩:=h
     have h5:=H5.out
     simp[h5]
    ·rw[if_pos (λe=>h zV9)]
     rfl
  ·simp only[ne_eq,h0,not_false_eq_true,if_true]
   repeat' first|simp(disch:=omega)only[go_sem,↓ai,hg,d7,h0]|((with_reducible refine ab ?_ ?_)<;>intro h<;>try first|omega|simp(disch:=omega)only[go_sem,↓ai, *,hg,d7,h0])|apply af|(with_reducible refine ag (λh=> ?_) ?_)|refine ak pi ?_|refine ak pv ?_
   all_goals rfl
theorem ZL (l:List Fr) (hl:l.length≤100000000):ac Pa0 dQ [bF ln l] (bF ln l):=by
 refine ac.of lq zR6 λ_=>aa ?_
 conv in fF=>cbv
 have D:dO 2 (l.map ln):=aD λx=>rfl
 cases l with
 |nil=>
  repeat' first|simp(disch:=omega)only[go_sem,↓ai]|((with_reducible refine ab ?_ ?_)<;>intro h<;>try first|omega|simp(disch:=omega)only[go_sem,↓ai, *])|apply af|(with_reducible refine ag (λh=> ?_) ?_)|refine jn (by intro r hr;cases hr) ?_
  all_goals rfl
 |cons x l=>
  have K:l.length+1≤100000000:=by simpa using hl
  repeat' first|simp(disch:=omega)only[go_sem,↓ai]|((with_reducible refine ab ?_ ?_)<;>intro h<;>try first|omega|simp(disch:=omega)only[go_sem,↓ai, *])|apply af|(with_reducible refine ag (λh=> ?_) ?_)|refine gO (by intro r hr;cases hr) D zR6 zR8 zR8 ?_
  all_goals rfl
theorem XL (xs:List Int) (hm:xs.length≤17592186044416):ac Pa0 vM [aF xs] (aF xs):=(WR xs [] 0 hm).toP rfl
theorem wM {x:Tn} (h1:x.2.1.length≤1000) (h2:x.2.2.length≤100000000):ac Pa0 sM [Nh x] (Nh x):=by
 refine ac.of JG zR6 λhb=>aa ?_
 conv in Bo=>cbv
 have p1:=XL x.2.1 zR5
 have p2:=ZL x.2.2 h2
 repeat' first|simp(disch:=omega)only[go_sem,↓ai]|((with_reducible refine ab ?_ ?_)<;>intro h<;>try first|omega|simp(disch:=omega)only[go_sem,↓ai, *])|apply af|(with_reducible refine ag (λh=> ?_) ?_)|refine dH p1 ?_|refine dH p2 ?_
 all_goals trace_state
set_option maxRecDepth 20000
set_option maxRecDepth 1000000
abbrev mR (p:bu) (M A:List Nm) (E:List aG):List (Nat×bP):= [(4,.var [.ptr 3 0]),(3,bSt E),(2,bMp A),(1,bMp M),(0,dK p)]
variable {p:bu}{j:Nat}{M:List Nm}
theorem NK.new (hv:(bA p).2=0) (hj:j<p.params.length) (h:NK p j M):bm M p.params[j].1=none:=jP.2 λhm=>(Wg hv hj).2 (zE5 _ (h.1▸hm))
variable {A:List Nm}
theorem alI.new (hn:(M.map (·.1)).Nodup) (h:alI M j A) (hj:j<M.length):bm A M[j].1=none:=jP.2 λhm=>by
 obtain⟨x,hx,he⟩:=zE0.1 hm
 obtain⟨i',hW,ho,hX,_⟩:=h.1 x hx
 have:i'=j:=by
  refine(zO8 (xs:=M.map (·.1)) (h₀:=by simpa using hW) (h₁:=by simpa using hj) hn).1 ?_
  simp[←hX,he]
 omega
theorem Wh (h:bm L s=none):gP L s t ds=9:=by unfold gP;rw[h]
theorem Xf {T:Tn} (h:bm L s=some T):gP L s t ds≠9:=by
 unfold gP
 rw[h]
 simp only
 repeat' split
 all_goals decide
def NU (p:bu) (env:List aG) (ins:List Nm):List gV→List Nm→List Nm
 | [],M=>M
 |x::r,M=>if(jV p env x.1).2≠0 then M else if gP ins x.1 x.2.1 (jV p env x.1).1≠0 then M else NU p env ins r (M++ [(x.1,(bm ins x.1).getD MD)])
variable {env:List aG}{ins:List Nm}{l:List gV}
theorem V7 (h:j<l.length):NU p env ins (l.drop j) M=if(jV p env l[j].1).2≠0 then M else if gP ins l[j].1 l[j].2.1 (jV p env l[j].1).1≠0 then M else NU p env ins (l.drop (j+1)) (M++ [(l[j].1,(bm ins l[j].1).getD MD)]):=by
 rw[zC0 h,NU]
theorem Ta (h:l.length≤j):NU p env ins (l.drop j) M=M:=by
 rw[zF8 h,NU]
def Sk (along:List Nm):List Nm→List Nm→List Nm
 | [],A=>A
 |x::r,A=>if x.2.1.1≠1 then Sk along r A else match bm along x.1 with
  |none=>Sk along r (A++ [(x.1,ot x.2)])
  |some U=>if gP along x.1 x.2.1 x.2.2.1≠0 then A else Sk along r (A++ [(x.1,U)])
def alN (along:List Nm) (x:Nm) (r A:List Nm):List Nm:=match bm along x.1 with
  |none=>Sk along r (A++ [(x.1,ot x.2)])
  |some U=>if gP along x.1 x.2.1 x.2.2.1≠0 then A else Sk along r (A++ [(x.1,U)])
variable {along:List Nm}
theorem aam {l:List Nm} (h:j<l.length):Sk along (l.drop j) A=if l[j].2.1.1≠1 then Sk along (l.drop (j+1)) A else alN along l[j] (l.drop (j+1)) A:=by
 rw[zC0 h,Sk]
 rfl
theorem SO {r:List Nm} {x:Nm} (h:bm along x.1=none):alN along x r A=Sk along r (A++ [(x.1,ot x.2)]):=by
 unfold alN
 rw[h]
theorem Sp {r:List Nm} {x:Nm} {U:Tn} (h:bm along x.1=some U):alN along x r A=if gP along x.1 x.2.1 x.2.2.1≠0 then A else Sk along r (A++ [(x.1,U)]):=by
 unfold alN
 rw[h]
theorem Vg {l:List Nm} (h:l.length≤j):Sk along (l.drop j) A=A:=by
 rw[zF8 h,Sk]
theorem OD {p:bu} {env:List aG} {ins:List Nm} (hv:(bA p).2=0) {MP:List Nm}: ∀(k j:Nat) (M:List Nm),j+k=p.params.length→NK p j M→nk p env ins (p.params.drop j) M=(MP,0)→NK p p.params.length MP∧NU p env ins (p.params.drop j) M=MP
 |0,j,M,hk,hI,h=>by
  rw[MC zR5]at h
  obtain rfl:=(Prod.mk.inj h).1
  rw[Ta zR5]
  obtain rfl:j=p.params.length:=by omega
  exact⟨hI,rfl⟩
 |k+1,j,M,hk,hI,h=>by
  have hj:j<p.params.length:=by omega
  rw[P5 hj]at h
  rw[V7 hj]
  split at h
  ·rename_i h0
   exact absurd (Prod.mk.inj h).2 h0
  ·rename_i h0
   rw[if_neg h0]
   split at h
   ·rename_i h1
    exact absurd (Prod.mk.inj h).2 h1
   ·rename_i h1
    rw[if_neg h1]
    exact OD hv k (j+1) _ zR5 (hI.step hv hj (zB9.1 h0) (zB9.1 h1)) h
theorem Jb {along MP AP:List Nm} (hn:(MP.map (·.1)).Nodup) (ht: ∀x∈MP,d9 x.2=0): ∀(k j:Nat) (A:List Nm),j+k=MP.length→alI MP j A→GT along (MP.drop j) A=(AP,0)→alI MP MP.length AP∧Sk along (MP.drop j) A=AP
 |0,j,A,hk,hI,h=>by
  rw[PX zR5]at h
  obtain rfl:=(Prod.mk.inj h).1
  rw[Vg zR5]
  obtain rfl:j=MP.length:=by omega
  exact⟨hI,rfl⟩
 |k+1,j,A,hk,hI,h=>by
  have hj:j<MP.length:=by omega
  rw[UP hj]at h
  rw[aam hj]
  split at h
  ·rename_i h0
   rw[if_pos h0]
   exact Jb hn ht k (j+1) _ zR5 (hI.skip hj h0) h
  ·rename_i h0
   rw[if_neg h0]
   have h1:=zB9.1 h0
   have hY:=ht _ (zA6 hj)
   cases hf:bm along MP[j].1 with
   |none=>
    rw[KW hf]at h
    rw[SO hf]
    exact Jb hn ht k (j+1) _ zR5 (hI.step hn hj h1 ⟨rfl,rfl,LY hY h1⟩) h
   |some U=>
    rw[K0 hf]at h
    rw[Sp hf]
    split at h
    ·rename_i h2
     exact absurd (Prod.mk.inj h).2 h2
    ·rename_i h2
     rw[if_neg h2]
     obtain⟨T,t1,t2,t3,t4⟩:=Qo (zB9.1 h2)
     rw[hf]at t1
     cases t1
     exact Jb hn ht k (j+1) _ zR5 (hI.step hn hj h1 ⟨t3,t4,t2⟩) h
theorem NK.all (h:NK p p.params.length M): ∀x∈M,d9 x.2=0:= λx hx=>by
 obtain⟨i,hi,rfl⟩:=zC2.1 hx
 have hl:=h.len (zB2 _)
 exact(h.2 i hi zR5).2.2
theorem NK.nd (hv:(bA p).2=0) (h:NK p p.params.length M):(M.map (·.1)).Nodup:=by
 have hn:M.map (·.1)=p.params.map (·.1):=by rw[h.1,zB6 (zB2 _)]
 rw[hn]
 exact Xp hv
theorem NK.nil (p:bu):NK p 0 []:=⟨by simp,λi h=>absurd h zR6⟩
theorem alI.nil (M:List Nm):alI M 0 []:=⟨λx hx=>(by cases hx),λi hi h=>absurd h zR5⟩
theorem I3 {E:List aG} (hv:(bA p).2=0) (hf:iD p) (N:m9 p) (hL:Et p) (he: ∀m∈env,aH m.2) (hi: ∀x∈ins,∀a∈x.2.2.2,bD a) (ha: ∀x∈along,∀a∈x.2.2.2,bD a) {MP AP:List Nm} {e1 e2:Int} (hP:nk p env ins p.params []=(MP,e1)) (hA:GT along MP []=(AP,e2)):
  ∃M' A',bJ Pa0 fK [.agg [.ptr 3 0],fL p,bF mP env,bF d7 ins,bF d7 along] (mR p [] [] E) 5 (I (if e1≠0 then e1 else e2)) (mR p M' A' E) 5∧(e1=0→e2=0→M'=MP∧A'=AP∧mI p 0 MP AP):=by
 have cD:= λs=>Bd (p:=p) (s:=s) hf N hL he
 have cI:= λ(s:ByteArray) (t:Ty) (ds:List Int)=>rm (L:=ins) (s:=s) (t:=t) (ds:=ds) hi
 have cA:= λ(s:ByteArray) (t:Ty) (ds:List Int)=>rm (L:=along) (s:=s) (t:=t) (ds:=ds) ha
 have cz:=bG
 have hq:p.params.length≤4096:=by
  have:=(gZ hv).1
  unfold gE at this
  omega
 obtain⟨M',hE⟩: ∃M',NU p env ins p.params []=M':=⟨_,rfl⟩
 obtain⟨A',w⟩: ∃A',A'=if e1≠0 then []else Sk along MP []:=⟨_,rfl⟩
 refine⟨M',A', ?_,λh1 h2=> ?_⟩
 ·have HP:Hid (nk p env ins (p.params.drop 0) []=(MP,e1)):=hP
  have HM:Hid (NU p env ins (p.params.drop 0) []=M'):=hE
  have HA:Hid (GT along (MP.drop 0) []=(AP,e2)):=hA
  have HA':Hid (A'=if e1≠0 then []else Sk along MP []):=w
  clear hP hE hA w hf N hL he hi ha
  refine bJ.ofZ (ress:= [_]) sW zR6 λhb=>aa ?_
  conv in kd=>reduce;simp only[Int.reduceOfNat,Int.reduceNegSucc]
  clear hb
  repeat' first|simp(disch:=omega)only[go_sem,↓ai, *,aI]|apply ab<;>intro h<;>try omega
  refine al (λs:Nat×List Nm=>⟨[(2,bF mP env),(3,bF d7 ins),(4,bF d7 along),(5,.c (.ptr 5 0)),(6,.c (.ptr 6 0)),(21,bF ef p.params),(22,I p.params.length),(23,I s.1)],(6,dK p)::(5,.var [.ptr 3 0])::mR p s.2 [] E,7,5⟩) (λs=>s.1≤p.params.length∧NK p s.1 s.2∧Hid (nk p env ins (p.params.drop s.1) s.2=(MP,e1))∧Hid (NU p env ins (p.params.drop s.1) s.2=M')) (λs=>p.params.length-s.1) ⟨(0, []), [],⟨by omega,NK.nil p,HP,HM⟩,by simp[dj,eA]⟩ ?_
  clear HP HM
  rintro⟨j,M⟩ ⟨hj,hI,hr,hm⟩
  simp only at hj hI hr hm
  have hd:=hr.out
  have g:=hm.out
  clear hr hm
  by_cases o:j<p.params.length
  ·have c1:=cD p.params[j].1
   have c2:= λds=>cI p.params[j].1 p.params[j].2.1 ds
   have Z:=hI.new hv o
   have q:= λh1 h2=>hI.step (env:=env) (ins:=ins) hv o h1 h2
   have hg: ∀f:gV→List PC,(p.params.map f)[j]? =some (f p.params[j]):= λf=>ae o
   rw[P5 o]at hd
   rw[V7 o]at g
   clear cD cI cA cz hI
   generalize p.params[j]=x at*
   obtain⟨⟨ds,e⟩,hG⟩: ∃y,y=jV p env x.1:=⟨_,rfl⟩
   rw[←hG]at c1 q hd g
   clear hG
   simp only at c1 q hd g
   have c2:=c2 ds
   obtain⟨e',hJ⟩: ∃e',e'=gP ins x.1 x.2.1 ds:=⟨_,rfl⟩
   rw[←hJ]at c2 q hd g
   clear hJ
   obtain⟨T,hT⟩: ∃T,T=(bm ins x.1).getD MD:=⟨_,rfl⟩
   rw[←hT]at c2 q hd g
   clear hT
   obtain⟨n,⟨t1,t2,t3,t4,t5⟩,fs⟩:=x
   simp only at c1 c2 q hd g Z
   refine lT (aa ?_)
   by_cases h0:e=0
   ·subst h0
    by_cases h1:e'=0
    ·subst h1
     rw[if_neg zR6,if_neg zR6]at hd g
     rw[if_pos rfl]at c2
     have HD:=Lib.hid hd
     have HDM:=Lib.hid g
     have hI:=q rfl rfl
     have hB:= λc=>lf (c:=c) Z
     have w1:IntKind.wrap .i64 ((j:Int)+1)=(j:Int)+1:=wrap_i64 zR5
     clear hd g q Z HA HA'
     obtain⟨⟨u1,u2,u3,u4,u5⟩,es,vs⟩:=T
     repeat' first|simp(disch:=omega)only[go_sem,↓ai, *,hg,ef,hB,w1]|apply zA1<;>intro h<;>try omega|refine dH c1 ?_|refine dH c2 ?_
     exact⟨(j+1,M++ [(n,(u1,u2,u3,u4,u5),es,vs)]), [],⟨by show j+1≤_;omega,hI,HD,HDM⟩,by show _-_<_-_;omega,by have c:=eA 7 (M++ [(n,(u1,u2,u3,u4,u5),es,vs)]);rw[gG]at c;simp[gG,dj,eA];simpa using c⟩
    ·rw[if_neg zR6,if_pos h1]at hd g
     obtain⟨rfl,rfl⟩:=Prod.mk.inj hd
     subst g
     have w:=HA'.out
     rw[if_pos h1]at w
     subst w
     rw[if_neg h1]at c2
     clear hd q HA HA'
     repeat' first|simp(disch:=omega)only[go_sem,↓ai, *,hg,ef,h1]|apply zA1<;>intro h<;>try omega|refine dH c1 ?_|refine dH c2 ?_
     all_goals
      refine⟨[], [], ?_⟩
      simp(disch:=omega)only[go_sem,↓ai,bM]
      simp[h1,dj,eA]
   ·rw[if_pos h0]at hd g
    obtain⟨rfl,rfl⟩:=Prod.mk.inj hd
    subst g
    have w:=HA'.out
    rw[if_pos h0]at w
    subst w
    clear hd q HA HA'
    repeat' first|simp(disch:=omega)only[go_sem,↓ai, *,hg,ef,h0]|apply zA1<;>intro h<;>try omega|refine dH c1 ?_
    all_goals
     refine⟨[], [], ?_⟩
     simp(disch:=omega)only[go_sem,↓ai,bM]
     simp[h0,dj,eA]
  ·rw[MC zR5]at hd
   rw[Ta zR5]at g
   obtain⟨rfl,rfl⟩:=Prod.mk.inj hd
   subst g
   obtain rfl:j=p.params.length:=by omega
   have w:=HA'.out
   rw[if_neg zR6]at w
   have HB:Hid (Sk along (M.drop 0) []=A'):=w.symm
   have O:=hI.nd hv
   have hK:=hI.all
   have hc:=hI.len (zB2 _)
   clear hd w HA' cD cI
   refine aa ?_
   repeat' first|simp(disch:=omega)only[go_sem,↓ai, *]|apply ab<;>intro h<;>try omega
   refine al (λs:Nat×List Nm=>⟨[(4,bF d7 along),(5,.c (.ptr 5 0)),(61,bF ef p.params),(62,I p.params.length),(63,I s.1)],(6,dK p)::(5,.var [.ptr 3 0])::mR p M s.2 E,7,5⟩) (λs=>s.1≤p.params.length∧alI M s.1 s.2∧Hid (GT along (M.drop s.1) s.2=(AP,e2))∧Hid (Sk along (M.drop s.1) s.2=A')) (λs=>p.params.length-s.1) ⟨(0, []), [],⟨by omega,alI.nil M,HA,HB⟩,by simp[dj,eA]⟩ ?_
   clear HA HB o hj
   rintro⟨j,A⟩ ⟨hj,P,hr,hm⟩
   simp only at hj P hr hm
   have hd:=hr.out
   have g:=hm.out
   clear hr hm
   by_cases o:j<p.params.length
   ·have H:j<M.length:=by omega
    have G:=Tu O H
    have Q:=P.new O H
    have W:= λh=>P.skip H h
    have q:= λ(U:Tn) h=>P.step (U:=U) O H h
    have V:=hK _ (zA6 H)
    have hz:=LY V
    have hM:M[j].1=p.params[j].1:=by
     have:(M.map (·.1))[j]'(by simpa using H)=((p.params.take p.params.length).map (·.1))[j]'(by simpa using o):=by simp only[hI.1]
     simpa using this
    have hN:=(hI.2 j H o).1
    have hg: ∀f:gV→List PC,(p.params.map f)[j]? =some (f p.params[j]):= λf=>ae o
    rw[UP H]at hd
    rw[aam H]at g
    clear hI hK hc P
    generalize M[j]=y at*
    generalize p.params[j]=x at*
    obtain⟨n,⟨t1,t2,t3,t4,t5⟩,fs⟩:=x
    obtain⟨n',T,es,vs⟩:=y
    simp only at hM hN
    subst hM hN
    have F:=vX n' M
    rw[G]at F
    simp only[zE1]at F
    have w1:IntKind.wrap .i64 ((j:Int)+1)=(j:Int)+1:=wrap_i64 zR5
    simp only at hd g G Q W q V hz
    refine lT (aa ?_)
    by_cases ht:t1=1
    ·rw[if_neg (zA5 ht)]at hd g
     have c1:=cA n' (t1,t2,t3,t4,t5) es
     cases u:bm along n' with
     |none=>
      rw[KW u]at hd
      rw[SO u]at g
      rw[Wh u,if_neg zR9]at c1
      obtain⟨k1,k2,k3,k4⟩:=fY V
      have cF:=Iz (t:=(t1,t2,t3,t4,t5)) (ds:=es) (v:=z1) k1 k2 ((zB ht).2 Jh)
      have hC:=q (ot ((t1,t2,t3,t4,t5),es,vs)) ht ⟨rfl,rfl,hz ht⟩
      have HD:=Lib.hid hd
      have HDM:=Lib.hid g
      have hB:= λc=>lf (c:=c) Q
      clear hd g q W Q hz V k1 k2 k3 k4 cA u G O
      subst ht
      repeat' first|simp(disch:=omega)only[go_sem,↓ai, *,hg,ef,F,hB,w1]|apply zA1<;>intro h<;>try omega|refine dH c1 ?_|refine dH cF ?_|refine ak cz ?_
      exact⟨(j+1,A++ [(n',ot ((1,t2,t3,t4,t5),es,vs))]), [],⟨by show j+1≤_;omega,hC,HD,HDM⟩,by show _-_<_-_;omega,by have c:=eA 7 (A++ [(n',ot ((1,t2,t3,t4,t5),es,vs))]);rw[gG]at c;simp only[ot]at c ⊢;simp[gG,dj,eA];simpa using c⟩
     |some U=>
      rw[K0 u]at hd
      rw[Sp u]at g
      simp only at hd g
      have hQ:=Xf (s:=n') (t:=(t1,t2,t3,t4,t5)) (ds:=es) u
      rw[u,zA8]at c1
      have D:= λh=>Qo (L:=along) (s:=n') (t:=(t1,t2,t3,t4,t5)) (ds:=es) h
      generalize gP along n' (t1,t2,t3,t4,t5) es=e' at*
      by_cases h1:e'=0
      ·subst h1
       rw[if_neg zR6]at hd g
       rw[if_pos rfl]at c1
       obtain⟨T',k1,k2,k3,k4⟩:=D rfl
       rw[u]at k1
       cases k1
       have hC:=q U ht ⟨k3,k4,k2⟩
       have HD:=Lib.hid hd
       have HDM:=Lib.hid g
       have hB:= λc=>lf (c:=c) Q
       clear hd g q W Q hz V k2 k3 k4 cA u G O D cz hQ
       subst ht
       obtain⟨⟨u1,u2,u3,u4,u5⟩,us,ws⟩:=U
       repeat' first|simp(disch:=omega)only[go_sem,↓ai, *,hg,ef,F,hB,w1]|apply zA1<;>intro h<;>try omega|refine dH c1 ?_
       exact⟨(j+1,A++ [(n',(u1,u2,u3,u4,u5),us,ws)]), [],⟨by show j+1≤_;omega,hC,HD,HDM⟩,by show _-_<_-_;omega,by have c:=eA 7 (A++ [(n',(u1,u2,u3,u4,u5),us,ws)]);rw[gG]at c;simp[gG,dj,eA];simpa using c⟩
      ·rw[if_pos h1]at hd g
       rw[if_neg h1]at c1
       obtain⟨rfl,rfl⟩:=Prod.mk.inj hd
       subst g
       clear hd q W Q hz V cA u G O D cz
       subst ht
       repeat' first|simp(disch:=omega)only[go_sem,↓ai, *,hg,ef,F,h1,hQ]|apply zA1<;>intro h<;>try omega|refine dH c1 ?_
       all_goals
        refine⟨[], [], ?_⟩
        simp(disch:=omega)only[go_sem,↓ai,bM]
        simp[h1,dj,eA]
    ·rw[if_pos ht]at hd g
     have hC:=W ht
     have HD:=Lib.hid hd
     have HDM:=Lib.hid g
     clear hd g q W Q hz V cA G O cz
     repeat' first|simp(disch:=omega)only[go_sem,↓ai, *,hg,ef,ht,w1]|apply zA1<;>intro h<;>try omega
     exact⟨(j+1,A), [],⟨by show j+1≤_;omega,hC,HD,HDM⟩,by show _-_<_-_;omega,by simp[dj,eA]⟩
   ·rw[PX zR5]at hd
    rw[Vg zR5]at g
    obtain⟨rfl,rfl⟩:=Prod.mk.inj hd
    subst g
    refine aa ?_
    clear hd
    repeat' first|simp(disch:=omega)only[go_sem,↓ai, *]|apply ab<;>intro h<;>try omega
    refine⟨[], [], ?_⟩
    simp(disch:=omega)only[go_sem,↓ai,bM]
    simp[dj,eA]
 ·subst h1 h2
  rw[if_neg zR6]at w
  obtain⟨p1,p2⟩:=OD (j:=0) hv p.params.length [] zR5 (NK.nil p) hP
  obtain⟨a1,a2⟩:=Jb (j:=0) (p1.nd hv) p1.all MP.length [] zR5 (alI.nil MP) hA
  exact⟨by rw[←hE];exact p2,by rw[w];exact a2,mI.first hv p1 a1⟩
set_option maxRecDepth 20000
set_option maxRecDepth 1000000
theorem TJ (h:(bA p).2=0) (hs:s∈p.outs):cY p s≠none:=by
 have h0:gE p:=zD5 λhn=>by rw[vg hn]at h;cases h
 have h1:ow p=0:=zD5 λhn=>by rw[Aa h0 rfl hn]at h;exact hn h
 have h2:yB p=0:=zD5 λhn=>by rw[zX h0 h1 rfl hn]at h;exact hn h
 obtain⟨_,_,h3,h4⟩:=gZ h
 have h5: ∀j,j<p.outs.length→Qh p j=0:=by
  intro j
  induction j using Nat.strongRecOn with
  |_ j ih=>
   intro hj
   refine zD5 λhn=> ?_
   rw[pu h0 h1 h2 h3 h4 hj (λi hi=>ih i hi zR5) rfl hn]at h
   exact hn h
 obtain⟨j,hj,rfl⟩:=zC2.1 hs
 have h6:=h5 j hj
 rw[Rb hj]at h6
 intro hn
 rw[if_pos hn]at h6
 cases h6
theorem Vt (h:(bA p).2=0) (hI:mI p p.defs.length M A) (hs:s∈p.outs): ∃T,bm M s=some T∧d9 T=0∧ ∀U,bm A s=some U→d9 U=0:=by
 have h1:=TJ h hs
 cases hf:cY p s with
 |none=>exact absurd hf h1
 |some x=>
  obtain⟨t,ds⟩:=x
  obtain⟨T,t1,t2,t3,t4,t5,t6⟩:=hI.2.2 s t ds (by rw[←hf];unfold cY cd;simp)
  refine⟨T,t1,t4,λU hU=> ?_⟩
  by_cases ht:t.1=1
  ·obtain⟨U',u1,u2,u3,u4⟩:=t5 ht
   rw[u1]at hU
   cases hU
   exact u4
  ·rw[t6 ht]at hU
   cases hU
theorem Qx {T:Tn} (h:d9 T=0):T.2.1.length≤1000∧T.2.2.length≤100000000:=by
 obtain⟨_,h2,h3,_⟩:=fY h
 have hg:=b8 h2
 have h4:=hg.le
 have h5:=hg.len
 omega
abbrev aeq (x:(List Nm×List Nm)×Int):AV:= .tup [bF d7 x.1.1,bF d7 x.1.2,I x.2]
theorem QA (hf:iD p) (N:m9 p) (hL:Et p) (he: ∀m∈env,aH m.2) (hS:env.length≤500) (hi: ∀x∈ins,∀a∈x.2.2.2,bD a) (ha: ∀x∈along,∀a∈x.2.2.2,bD a):ac Pa0 CE [fL p,bF mP env,bF d7 ins,bF d7 along] (aeq (rnS p env ins along)):=by
 refine ac.of RE zR6 λhb=> ?_
 have cF:=th hf N
 conv in JH=>cbv
 clear hb
 unfold rnS
 by_cases h0:(FP p).2=0
 ·rw[if_neg (zA5 h0)]
  have hv:(bA p).2=0:=zD5 λh=>h (by rw[←EZ h];exact h0)
  have cS:=oj (p:=p) (env:=env) hL.1 he
  rw[h0]at cF
  by_cases h1:DY p env=0
  ·rw[if_neg (zA5 h1)]
   rw[h1]at cS
   obtain⟨⟨MP,e1⟩,hP⟩: ∃y,nk p env ins p.params []=y:=⟨_,rfl⟩
   simp only[hP]
   obtain⟨⟨AP,e2⟩,hA⟩: ∃y,GT along MP []=y:=⟨_,rfl⟩
   simp only[hA]
   obtain⟨M',A',pP,D⟩:=I3 (E:= []) hv hf N hL he hi ha hP hA
   have hV:=(gZ hv).1
   unfold gE at hV
   refine VL ⟨[(1,bF mP env),(2,bF d7 ins),(3,bF d7 along),(4,.c (.ptr 0 0)),(14,.c (.ptr 4 0))], [(4,.var [.ptr 3 0]),(3,.var [.mref 1,.mref 2,.nils]),(2,bMp []),(1,bMp []),(0,dK p)],5,0⟩ ?_ ?_
   ·clear hP hA pP D hi ha hV
    repeat' first|simp(disch:=omega)only[go_sem,↓ai, *]|apply ab<;>intro h<;>try omega|refine ak cF ?_|refine ak cS ?_
    all_goals exact⟨[],by simp[dj,eA,rX];exact eA 5 []⟩
   ·refine abz 3 2 _ rfl rfl (show AW _ _ _ ⟨[(1,bF mP env),(2,bF d7 ins),(3,bF d7 along),(4,.c (.ptr 0 0)),(14,.c (.ptr 4 0))],mR p [] [] [],5,0⟩ _ from aa ?_)
    clear cF cS hP hA hi ha
    by_cases g1:e1=0
    ·subst g1
     rw[if_neg zR6]at pP
     rw[if_neg zR6]
     by_cases g2:e2=0
     ·subst g2
      rw[if_neg zR6]
      obtain⟨rfl,rfl,hI⟩:=D rfl rfl
      obtain⟨R,hR⟩: ∃R,Tz p env p.defs M' A'=R:=⟨_,rfl⟩
      simp only[hR]
      have HR:Hid (Tz p env (p.defs.drop 0) M' A'=R):=hR
      have pC:= λ(M A:List Nm) (E:List aG) (k:Nat) (hk:k<p.defs.length) (hI:mI p k M A)=>IV (E:=E) hv hf N hL he hS hk hI
      clear hR hf N hL he hS D
      repeat' first|simp(disch:=omega)only[go_sem,↓ai, *]|apply ab<;>intro h<;>try omega|refine bN pP ?_
      refine al (λs:Nat×List Nm×List Nm×List aG=>⟨[(1,bF mP env),(4,.c (.ptr 0 0)),(14,.c (.ptr 4 0)),(54,bF bU p.defs),(55,I p.defs.length),(56,I s.1)],mR p s.2.1 s.2.2.1 s.2.2.2,5,0⟩) (λs=>s.1≤p.defs.length∧mI p s.1 s.2.1 s.2.2.1∧Hid (Tz p env (p.defs.drop s.1) s.2.1 s.2.2.1=R)) (λs=>p.defs.length-s.1) ⟨(0,M',A', []), [],⟨by omega,hI,HR⟩,by simp[dj,eA]⟩ ?_
      clear HR hI pP
      rintro⟨j,M,A,E⟩ ⟨hj,hI,hr⟩
      simp only at hj hI hr
      have hd:=hr.out
      clear hr
      by_cases o:j<p.defs.length
      ·rw[XA o]at hd
       obtain⟨E',pD⟩:=pC M A E j o hI
       have q:= λx=>hI.step (x:=x) (env:=env) hv o
       have hg: ∀f:lH→List PC,(p.defs.map f)[j]? =some (f p.defs[j]):= λf=>ae o
       have w1:IntKind.wrap .i64 ((j:Int)+1)=(j:Int)+1:=wrap_i64 zR5
       clear pC
       generalize p.defs[j]=d at*
       obtain⟨⟨x,e⟩,hx⟩: ∃y,Rk p env M A d=y:=⟨_,rfl⟩
       rw[hx]at pD hd
       simp only[hx]at q
       simp only at pD hd
       clear hx hI
       by_cases z:e=0
       ·subst z
        refine lT (aa ?_)
        rw[if_pos rfl]at pD
        rw[if_neg zR6]at hd
        have P:=q x rfl
        have HD:=Lib.hid hd
        clear q hd
        repeat' first|simp(disch:=omega)only[go_sem,↓ai, *,hg,bU,w1]|apply ab<;>intro h<;>try omega|refine bN pD ?_
        exact⟨(j+1,M++ [Xu d x],(if d.ty.1=1 then A++ [nmT d x]else A),E'), [],⟨by show j+1≤_;omega,P,HD⟩,by show _-_<_-_;omega,by simp[dj,eA]⟩
       ·refine aa ?_
        rw[if_neg z]at pD
        rw[if_pos z]at hd
        subst hd
        clear q
        repeat' first|simp(disch:=omega)only[go_sem,↓ai, *,hg,bU,z]|apply ab<;>intro h<;>try omega|refine bN pD ?_
        all_goals
         rw[if_pos z]
         rfl
      ·rw[VN zR5]at hd
       subst hd
       rw[if_neg zR6]
       obtain rfl:j=p.defs.length:=by omega
       have hF:= λs hs=>Vt hv hI (s:=s) hs
       clear pC hI
       refine aa ?_
       repeat' first|simp(disch:=omega)only[go_sem,↓ai, *]|apply ab<;>intro h<;>try omega
       refine dc 19 76 8 rfl zR9 ?_
       refine dc 20 76 8 rfl zR9 ?_
       refine al (λi:Nat=>⟨[(14,.c (.ptr 4 0)),(19,.c (.ref 5)),(20,.c (.ref 6)),(70,.c (.pure (bj p.outs))),(71,I p.outs.length),(72,I i)],(6,.arr 76 8 ((lI A (p.outs.take i)).map d7))::(5,.arr 76 8 ((rO M (p.outs.take i)).map d7))::mR p M A E,7,0⟩) (λi=>i≤p.outs.length) (λi=>p.outs.length-i) ⟨0, [],by omega,by simp[dj,eA,lI,rO]⟩ ?_
       intro i hi
       by_cases hD:i<p.outs.length
       ·obtain⟨T,f1,f2,f3⟩:=hF _ (zA6 hD)
        have F:=vX p.outs[i] M
        rw[f1]at F
        simp only[zE1]at F
        have X:=vX p.outs[i] A
        have hg: ∀f:ByteArray→List PC,(p.outs.map f)[i]? =some (f p.outs[i]):= λf=>ae hD
        have cT:=wM (Qx f2).1 (Qx f2).2
        have w1:IntKind.wrap .i64 ((i:Int)+1)=(i:Int)+1:=wrap_i64 zR5
        have HT1:Hid ((rO M (p.outs.take i)).map d7++ [d7 (p.outs[i],T)]=(rO M (p.outs.take (i+1))).map d7):=by
         show _=_
         rw[zB5 hD,rO,rO,zC8,zC8]
         simp[f1]
        have hu:(rO M (p.outs.take i)).length≤64:=by simp[rO];omega
        have hw:(lI A (p.outs.take i)).length≤64:=by
         have:=List.length_filterMap_le (λs=>(bm A s).map λT=>(s,T)) (p.outs.take i)
         rw[zI2]at this
         unfold lI
         omega
        obtain⟨⟨t1,t2,t3,t4,t5⟩,es,vs⟩:=T
        refine lT (aa ?_)
        cases u:bm A p.outs[i]with
        |none=>
         rw[u]at X
         have HT2:Hid (lI A (p.outs.take (i+1))=lI A (p.outs.take i)):=by
          show _=_
          rw[zB5 hD,lI,lI,zM7]
          simp[u]
         simp only[zG9]at X
         clear hF f1 f2 f3 u
         repeat' first|simp(disch:=omega)only[go_sem,↓ai, *,hg,F,X,w1]|apply zA1<;>intro h<;>try omega|refine dH cT ?_|refine aP rfl zS0 (aE rfl) zR8 zR8 ?_
         rw[show(rO M (p.outs.take i)).map d7++ [[pS p.outs[i],pI t1,pI t2,pI t3,pI t4,pI t5,c6 es,dp ln vs]]=_ from HT1.out]
         exact⟨i+1, [(5,7)],by omega,by show _-_<_-_;omega,by simp[dj,eA,HT2.out]⟩
        |some U=>
         rw[u]at X
         have HT2:Hid ((lI A (p.outs.take i)).map d7++ [d7 (p.outs[i],U)]=(lI A (p.outs.take (i+1))).map d7):=by
          show _=_
          rw[zB5 hD,lI,lI,zM7,zC8]
          simp[u]
         simp only[zE1]at X
         have f4:=f3 U u
         have cU:=wM (Qx f4).1 (Qx f4).2
         obtain⟨⟨u1,u2,u3,u4,u5⟩,us,ws⟩:=U
         clear hF f1 f2 f3 u f4
         repeat' first|simp(disch:=omega)only[go_sem,↓ai, *,hg,F,X,w1]|apply zA1<;>intro h<;>try omega|refine dH cT ?_|refine dH cU ?_|refine aP rfl zS0 (aE rfl) zR8 zR8 ?_
         rw[show(rO M (p.outs.take i)).map d7++ [[pS p.outs[i],pI t1,pI t2,pI t3,pI t4,pI t5,c6 es,dp ln vs]]=_ from HT1.out,show(lI A (p.outs.take i)).map d7++ [[pS p.outs[i],pI u1,pI u2,pI u3,pI u4,pI u5,c6 us,dp ln ws]]=_ from HT2.out]
         exact⟨i+1, [(5,7),(6,9)],by omega,by show _-_<_-_;omega,by simp[dj,eA]⟩
       ·refine aa ?_
        rw[zB6 zR5]
        exact yA5
     ·rw[if_pos g2]
      clear D
      repeat' first|simp(disch:=omega)only[go_sem,↓ai, *,g2]|apply ab<;>intro h<;>try omega|refine bN pP ?_
      all_goals rfl
    ·rw[if_pos g1]at pP
     rw[if_pos g1]
     clear D
     repeat' first|simp(disch:=omega)only[go_sem,↓ai, *,g1]|apply ab<;>intro h<;>try omega|refine bN pP ?_
     all_goals rfl
  ·rw[if_pos h1]
   refine aa ?_
   repeat' first|simp(disch:=omega)only[go_sem,↓ai, *,h1]|apply ab<;>intro h<;>try omega|refine ak cF ?_|refine ak cS ?_
   all_goals rfl
 ·rw[if_pos h0]
  refine aa ?_
  repeat' first|simp(disch:=omega)only[go_sem,↓ai, *,h0]|apply ab<;>intro h<;>try omega|refine ak cF ?_
  all_goals rfl
end
end Go.Proofs.YtigdjhnndaokjaaGreatDoor
