import Derived.Test.YtigdjhnndaokjaaGreatDoorV17j
set_option linter.unusedVariables false
set_option linter.unusedSimpArgs false
set_option maxHeartbeats 4000000
set_option maxRecDepth 1000000
namespace Go.Proofs.YtigdjhnndaokjaaGreatDoor
open Go.Abs Go.RowKit
def Kt (K:KL) (taken:List ByteArray):Prop:= ∀s,xi K s≠0↔s∈taken
variable {taken:List ByteArray}{s:ByteArray}
theorem D8 (h:aQ taken s=0):oE s∧ ¬s∈taken:=by
 unfold aQ at h
 split at h
 ·cases h
 ·split at h
  ·cases h
  ·exact⟨zB9.1 ‹_›,‹_›⟩
theorem Na (h: ¬aQ taken s=0):(¬oE s∧aQ taken s=7)∨(oE s∧s∈taken∧aQ taken s=8):=by
 unfold aQ at h ⊢
 split
 ·exact .inl ⟨‹_›,rfl⟩
 ·rename_i h1
  rw[if_neg h1]at h
  split
  ·exact .inr ⟨zB9.1 h1,‹_›,rfl⟩
  ·rename_i h2
   exact absurd (if_neg h2) h
variable {mem:List (Nat×bP)}{p:bu}{K:KL}
theorem fW {nx c m:Nat} (h2:ar mem c=some (X5 p m)) (h1:ar mem m=some (mK K)) (hT:Kt K taken) (h:aQ taken s=0) (k:Int):
  bJ Tryz.prog eC [.c (.ptr c 0),S s,I k] mem nx (I 0) (gF mem m (mK (CC K s k))) nx:=by
 refine bJ.of kk zR6 λhb=>aa ?_
 obtain⟨hi,hn⟩:=D8 h
 have hz:xi K s=0:=zB9.1 λhh=>hn ((hT s).1 hh)
 have hm:=vI s K
 have hs:=PZ s k K
 clear h hn
 conv in gc=>cbv
 cases hL:lh K s with
 |none=>
  rw[hL]at hm
  clear hL hz hT
  repeat' first|simp(disch:=omega)only[go_sem, *,hm,zG9,hs,hi,decide_true,h1,h2]|apply ab<;>intro h<;>try omega|refine ak (bB _) ?_
 |some j=>
  rw[kj hL]at hz
  rw[hL,hz]at hm
  clear hL hz hT
  repeat' first|simp(disch:=omega)only[go_sem, *,hm,zE1,hs,hi,decide_true,h1,h2]|apply ab<;>intro h<;>try omega|refine ak (bB _) ?_
theorem fq {nx c m:Nat} (h2:ar mem c=some (X5 p m)) (h1:ar mem m=some (mK K)) (hT:Kt K taken) (h: ¬aQ taken s=0) (k:Int):
  bJ Tryz.prog eC [.c (.ptr c 0),S s,I k] mem nx (I (aQ taken s)) mem nx:=by
 refine bJ.of kk zR6 λhb=>aa ?_
 have hm:=vI s K
 conv in gc=>cbv
 rcases Na h with⟨hi,hE⟩|⟨hi,hn,hE⟩
 ·rw[hE]
  clear h hE hm hT
  repeat' first|simp(disch:=omega)only[go_sem, *,hi,decide_false,h1,h2]|apply ab<;>intro h<;>try omega|refine ak (bB _) ?_
 ·rw[hE]
  have hz:=(hT s).2 hn
  clear h hE hn hT
  cases hL:lh K s with
  |none=>exact absurd (qM hL) hz
  |some j=>
   rw[kj hL]at hz
   rw[hL]at hm
   clear hL
   repeat' first|simp(disch:=omega)only[go_sem, *,hm,zE1,hi,decide_true,h1,h2,hz]|apply ab<;>intro h<;>try omega|refine ak (bB _) ?_
noncomputable def Tj (K:KL) (taken:List ByteArray) (s:ByteArray):KL:=if aQ taken s=0 then CC K s 2 else K
theorem Kc.add (hK:Kc p K) (hS: ∀x∈p.sizes,x∈taken) (h:aQ taken s=0):Kc p (CC K s 2):= λx=>by
 rw[Z0]
 by_cases e:s=x
 ·subst e
  rw[if_pos rfl]
  exact⟨λh=>absurd h zR9,λhx=>absurd (hS _ hx) (D8 h).2⟩
 ·rw[if_neg e]
  exact hK x
theorem Kt.add (hT:Kt K taken) {k:Int} (hk:k≠0):Kt (CC K s k) (taken++ [s]):= λx=>by
 rw[Z0]
 by_cases e:s=x
 ·subst e
  rw[if_pos rfl]
  exact⟨λ_=>by simp,λ_=>hk⟩
 ·rw[if_neg e,hT x,zE7,zG1]
  exact⟨.inl,λh=>h.resolve_right λh=>e h.symm⟩
theorem PH {sizes:List ByteArray} {x:gV} (h1:aQ taken x.1=0) (h2:cj x.2.1) (h3: ¬6<x.2.2.length):dX sizes taken x=dz (x.2.2.map (bL sizes)):=by unfold dX;rw[if_neg (zA5 h1),if_neg (zA5 h2),if_neg h3]
theorem qU (hT:Kt K taken) (hK:Kc p K) (hS: ∀x∈p.sizes,x∈taken) (x:gV):
  bJ Tryz.prog fH [.c (.ptr 2 0),adK x] [(3,aae x),(2,X5 p 1),(1,mK K),(0,dK p)] 4 (I (dX p.sizes taken x)) [(3,aae x),(2,X5 p 1),(1,mK (Tj K taken x.1)),(0,dK p)] 4:=by
 refine bJ.ofZ (ress:= [I (dX p.sizes taken x)]) si zR6 λhb=>aa ?_
 have hl:x.2.2.length≤9223372036854775807:=by
  have:=hb.2.1
  simp[fB,om,f5]at this
  omega
 have cD:=y5 (t:=x.2.1) x.2.2.length
 conv in kb=>cbv
 by_cases h1:aQ taken x.1=0
 ·rw[show Tj K taken x.1=CC K x.1 2 from if_pos h1]
  have i:=hK.add hS h1
  have hn:= λmem nx h2 h3=>fW (mem:=mem) (nx:=nx) (c:=2) (m:=1) (p:=p) h2 h3 hT h1 2
  by_cases h2:cj x.2.1
  ·rw[if_neg (zA5 h2)]at cD
   by_cases h3:6<x.2.2.length
   ·rw[if_pos h3]at cD
    rw[show dX p.sizes taken x=11 by unfold dX;rw[if_neg (zA5 h1),if_neg (zA5 h2),if_pos h3]]
    repeat' first|simp(disch:=omega)only[go_sem, *]|apply ab<;>intro h<;>try omega|refine bN (hn _ _ rfl rfl) ?_|refine ak cD ?_
    refine⟨[], [], ?_⟩
    simp(disch:=omega)only[go_sem,bM]
    simp[fy,lr]
   ·rw[if_neg h3]at cD
    rw[PH h1 h2 h3]
    repeat' first|simp(disch:=omega)only[go_sem, *]|apply ab<;>intro h<;>try omega|refine bN (hn _ _ rfl rfl) ?_|refine ak cD ?_
    clear cD hn h1 h2
    generalize CC K x.1 2=K' at*
    refine al (λk:Nat=>⟨[(30,I k),(29,I x.2.2.length),(28,qH x.2.2),(0,.c (.ptr 2 0))], [(4,aae x),(3,aae x),(2,X5 p 1),(1,mK K'),(0,dK p)],5,4⟩) (λk=>k≤x.2.2.length∧Hid (dz ((x.2.2.map (bL p.sizes)).take k)=0)) (λk=>x.2.2.length-k) ⟨0, [],⟨by omega,by show _=_;simp[dz]⟩,by simp[fy,lr]⟩ ?_
    rintro k ⟨hk,f⟩
    refine aa ?_
    by_cases n:k<x.2.2.length
    ·have v:k<(x.2.2.map (bL p.sizes)).length:=by simpa using n
     have h4:=jL v f.out
     have h5:=qk v f.out
     rw[zJ2]at h4 h5
     have cS:=eU i x.2.2[k]
     clear f
     by_cases hz:bL p.sizes x.2.2[k]=0
     ·have HN:=Lib.hid (h4.trans hz)
      clear h4 h5
      repeat' first|simp(disch:=omega)only[go_sem, *,ae n,bT,wrap_i64,hz]|apply ab<;>intro h<;>try omega|refine ah cS (rW (c:=2) (m:=1) rfl rfl rfl) (.inl rfl) ?_
      exact⟨k+1, [],⟨by omega,HN⟩,by omega,by simp[fy,lr]⟩
     ·rw[h5 hz]
      clear h4 h5
      repeat' first|simp(disch:=omega)only[go_sem, *,ae n,bT,wrap_i64,hz]|apply ab<;>intro h<;>try omega|refine ah cS (rW (c:=2) (m:=1) rfl rfl rfl) (.inl rfl) ?_
      refine⟨[], [], ?_⟩
      simp(disch:=omega)only[go_sem,bM]
      simp[fy,lr]
    ·have hz:=f.out
     rw[zB6 zR8]at hz
     rw[hz]
     clear hz f
     repeat' first|simp(disch:=omega)only[go_sem, *]|apply ab<;>intro h<;>try omega
     refine⟨[], [], ?_⟩
     simp(disch:=omega)only[go_sem,bM]
     simp[fy,lr]
  ·rw[if_pos h2]at cD
   rw[show dX p.sizes taken x=10 by unfold dX;rw[if_neg (zA5 h1),if_pos h2]]
   repeat' first|simp(disch:=omega)only[go_sem, *]|apply ab<;>intro h<;>try omega|refine bN (hn _ _ rfl rfl) ?_|refine ak cD ?_
   refine⟨[], [], ?_⟩
   simp(disch:=omega)only[go_sem,bM]
   simp[fy,lr]
 ·rw[show Tj K taken x.1=K from if_neg h1]
  have hn:= λmem nx h2 h3=>fq (mem:=mem) (nx:=nx) (c:=2) (m:=1) (p:=p) h2 h3 hT h1 2
  rw[show dX p.sizes taken x=aQ taken x.1 by unfold dX;rw[if_pos h1]]
  repeat' first|simp(disch:=omega)only[go_sem, *,h1]|apply ab<;>intro h<;>try omega|refine bN (hn _ _ rfl rfl) ?_
  refine⟨[], [], ?_⟩
  simp(disch:=omega)only[go_sem,bM]
  simp[fy,lr]
section
variable {p q : bu} (hs : p.sizes = q.sizes) (hp : p.params = q.params) (hd : p.defs = q.defs)
include hs hp hd
theorem Qd (vars:List ByteArray) (e:Ex) (l:List Ty):bh p vars e l=bh q vars e l:=by
 obtain⟨s1,w1,p1,d1,o1⟩:=p
 obtain⟨s2,w2,p2,d2,o2⟩:=q
 simp only at hs hp hd
 subst hs hp hd
 rfl
theorem UK (vars:List ByteArray) (e:Ex):fC p vars e=fC q vars e:=by
 refine Ex.ind (p:= λe=>fC p vars e=fC q vars e) (λe ih=> ?_) e
 have key: ∀l:List Ex,(∀a∈l,fC p vars a=fC q vars a)→eF p vars l=eF q vars l:=by
  intro l
  induction l with
  |nil=>intro _;rfl
  |cons a r w=>
   intro h
   simp only[eF]
   rw[h a zC5,w λb hb=>h b (zC3 _ hb)]
 rw[zT,zT,key _ ih]
 cases eF q vars e.args with
 |inl x=>rfl
 |inr l=>exact Qd hs hp hd vars e l
theorem QX (vars:List ByteArray) (e:Ex):be p vars e=be q vars e:=by
 unfold be
 rw[UK hs hp hd vars e]
end
set_option maxRecDepth 20000
set_option maxRecDepth 1000000
open Go.Abs Go.RowKit
theorem uj (hf:iD p) (o:m9 p) (hT:Kt K taken) (hK:Kc p K) (hS: ∀x∈p.sizes,x∈taken) {k:Nat} (hk:k<p.defs.length):
  bJ Tryz.prog gI [.c (.ptr 2 0),I k] [(2,X5 p 1),(1,mK K),(0,dK p)] 3 (I (bq p k taken p.defs[k])) [(2,X5 p 1),(1,mK (Tj K taken p.defs[k].name)),(0,dK p)] 3:=by
 refine bJ.ofZ (ress:= [I (bq p k taken p.defs[k])]) vD zR6 λhb=>aa ?_
 have cD:=zl (t:=p.defs[k].ty) p.defs[k].dims.length p.defs[k].red.length
 have u:iD {p with defs:=p.defs.take k}:=Hi hf k
 have y:=(hf.2 _ (zA6 hk)).1
 have z:=(hf.2 _ (zA6 hk)).2.1
 have cT:=pN u (aR p.defs[k]) (o _ (zA6 hk))
 rw[QX (p:={p with defs:=p.defs.take k}) (q:=cd p k) rfl rfl rfl]at cT
 have g:dO 22 (p.defs.map bU):=aD λx=>rfl
 have cF:=Gk p.defs[k]
 have cI:=kL (d:=p.defs[k]) zR5 zR5
 conv in lu=>cbv
 by_cases h1:aQ taken p.defs[k].name=0
 ·rw[show Tj K taken p.defs[k].name=CC K p.defs[k].name 2 from if_pos h1]
  have i:=hK.add hS h1
  have hn:= λmem nx h2 h3=>fW (mem:=mem) (nx:=nx) (c:=2) (m:=1) (p:=p) h2 h3 hT h1 2
  have cA:=rV i p.defs[k] zR5 zR5
  clear hT hK hS i hf u o
  by_cases h2:cj p.defs[k].ty
  ·rw[if_neg (zA5 h2)]at cD
   by_cases h3:6<p.defs[k].dims.length∨6<p.defs[k].red.length
   ·rw[if_pos h3]at cD
    rw[show bq p k taken p.defs[k]=11 by unfold bq;rw[if_neg (zA5 h1),if_neg (zA5 h2),if_pos h3]]
    clear h1 h2 h3 cT cA cF cI
    repeat' first|simp(disch:=omega)only[go_sem, *,ae hk,bU,←zF9,g,zD3,zA8]|apply ab<;>intro h<;>try omega|refine bN (hn _ _ rfl rfl) ?_|refine ak cD ?_
    refine⟨[], [], ?_⟩
    simp(disch:=omega)only[go_sem,bM]
    simp[fy,lr]
   ·rw[if_neg h3]at cD
    by_cases h4:bE p.sizes p.sizes (p.defs[k].dims++p.defs[k].red)=0
    ·rw[h4]at cA
     by_cases h5:iI p.defs[k]=0
     ·have hT:(be (cd p k) (aR p.defs[k]) p.defs[k].body)=(be {p with wher:= [],defs:=p.defs.take k,outs:= []} (aR p.defs[k]) p.defs[k].body):=rfl
      by_cases h6:(be (cd p k) (aR p.defs[k]) p.defs[k].body).2=0
      ·by_cases h7:(be (cd p k) (aR p.defs[k]) p.defs[k].body).1=p.defs[k].ty
       ·rw[show bq p k taken p.defs[k]=0 by unfold bq;rw[if_neg (zA5 h1),if_neg (zA5 h2),if_neg h3,if_neg (zA5 h4),if_neg (zA5 h5),←hT,if_neg (zA5 h6),if_neg (zA5 h7)]]
        clear hT
        generalize be (cd p k) (aR p.defs[k]) p.defs[k].body=r at*
        obtain⟨r1,r2⟩:=r
        simp only at h6 h7
        subst h7
        clear h1 h2 h3 h4
        repeat' first|simp(disch:=omega)only[go_sem, *,ae hk,bU,←zF9,g,zD3,zA8,h5,h6]|apply ab<;>intro h<;>try omega|refine bN (hn _ _ rfl rfl) ?_|refine ak cD ?_|refine ah cA (rW (c:=2) (m:=1) rfl rfl rfl) (.inl rfl) ?_|refine ak cF ?_|refine dH cI ?_|refine ak cT ?_
        refine⟨[], [], ?_⟩
        simp(disch:=omega)only[go_sem,bM]
        simp[fy,lr]
       ·rw[show bq p k taken p.defs[k]=10 by unfold bq;rw[if_neg (zA5 h1),if_neg (zA5 h2),if_neg h3,if_neg (zA5 h4),if_neg (zA5 h5),←hT,if_neg (zA5 h6),if_pos h7]]
        clear hT
        generalize be (cd p k) (aR p.defs[k]) p.defs[k].body=r at*
        clear h1 h2 h3 h4
        have H7:=Lib.hid h7
        clear h7
        repeat' first|simp(disch:=omega)only[go_sem, *,ae hk,bU,←zF9,g,zD3,zA8,h5,h6]|apply ab<;>intro h<;>try omega|refine bN (hn _ _ rfl rfl) ?_|refine ak cD ?_|refine ah cA (rW (c:=2) (m:=1) rfl rfl rfl) (.inl rfl) ?_|refine ak cF ?_|refine dH cI ?_|refine ak cT ?_
        all_goals first
         |exact absurd (yK h) H7.out
         |skip
        refine⟨[], [], ?_⟩
        simp(disch:=omega)only[go_sem,bM]
        simp[fy,lr]
      ·rw[show bq p k taken p.defs[k]=(be (cd p k) (aR p.defs[k]) p.defs[k].body).2 by unfold bq;rw[if_neg (zA5 h1),if_neg (zA5 h2),if_neg h3,if_neg (zA5 h4),if_neg (zA5 h5),←hT,if_pos h6]]
       clear hT
       generalize be (cd p k) (aR p.defs[k]) p.defs[k].body=r at*
       clear h1 h2 h3 h4
       repeat' first|simp(disch:=omega)only[go_sem, *,ae hk,bU,←zF9,g,zD3,zA8,h5,h6]|apply ab<;>intro h<;>try omega|refine bN (hn _ _ rfl rfl) ?_|refine ak cD ?_|refine ah cA (rW (c:=2) (m:=1) rfl rfl rfl) (.inl rfl) ?_|refine ak cF ?_|refine dH cI ?_|refine ak cT ?_
       refine⟨[], [], ?_⟩
       simp(disch:=omega)only[go_sem,bM]
       simp[fy,lr]
     ·rw[show bq p k taken p.defs[k]=iI p.defs[k] by unfold bq;rw[if_neg (zA5 h1),if_neg (zA5 h2),if_neg h3,if_neg (zA5 h4),if_pos h5]]
      clear h1 h2 h3 h4 cT
      repeat' first|simp(disch:=omega)only[go_sem, *,ae hk,bU,←zF9,g,zD3,zA8,h5]|apply ab<;>intro h<;>try omega|refine bN (hn _ _ rfl rfl) ?_|refine ak cD ?_|refine ah cA (rW (c:=2) (m:=1) rfl rfl rfl) (.inl rfl) ?_|refine ak cF ?_
      refine⟨[], [], ?_⟩
      simp(disch:=omega)only[go_sem,bM]
      simp[fy,lr]
    ·rw[show bq p k taken p.defs[k]=bE p.sizes p.sizes (p.defs[k].dims++p.defs[k].red) by unfold bq;rw[if_neg (zA5 h1),if_neg (zA5 h2),if_neg h3,if_pos h4]]
     clear h1 h2 h3 cT cF
     repeat' first|simp(disch:=omega)only[go_sem, *,ae hk,bU,←zF9,g,zD3,zA8,h4]|apply ab<;>intro h<;>try omega|refine bN (hn _ _ rfl rfl) ?_|refine ak cD ?_|refine ah cA (rW (c:=2) (m:=1) rfl rfl rfl) (.inl rfl) ?_
     refine⟨[], [], ?_⟩
     simp(disch:=omega)only[go_sem,bM]
     simp[fy,lr]
  ·rw[if_pos h2]at cD
   rw[show bq p k taken p.defs[k]=10 by unfold bq;rw[if_neg (zA5 h1),if_pos h2]]
   clear h1 h2 cT cA cF cI
   repeat' first|simp(disch:=omega)only[go_sem, *,ae hk,bU,←zF9,g,zD3,zA8]|apply ab<;>intro h<;>try omega|refine bN (hn _ _ rfl rfl) ?_|refine ak cD ?_
   refine⟨[], [], ?_⟩
   simp(disch:=omega)only[go_sem,bM]
   simp[fy,lr]
 ·rw[show Tj K taken p.defs[k].name=K from if_neg h1]
  have hn:= λmem nx h2 h3=>fq (mem:=mem) (nx:=nx) (c:=2) (m:=1) (p:=p) h2 h3 hT h1 2
  rw[show bq p k taken p.defs[k]=aQ taken p.defs[k].name by unfold bq;rw[if_pos h1]]
  clear hT hK hS hf u o cT cF cI cD
  repeat' first|simp(disch:=omega)only[go_sem, *,ae hk,bU,←zF9,g,zD3,zA8,h1]|apply ab<;>intro h<;>try omega|refine bN (hn _ _ rfl rfl) ?_
  refine⟨[], [], ?_⟩
  simp(disch:=omega)only[go_sem,bM]
  simp[fy,lr]
end Go.Proofs.YtigdjhnndaokjaaGreatDoor
