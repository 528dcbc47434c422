import Derived.Test.YtiapgekjmcjjgaaGreatDoorV17j
set_option maxHeartbeats 4000000
set_option linter.unusedVariables false
set_option linter.unusedSimpArgs false
set_option maxRecDepth 1000000
namespace Go.Proofs.YtiapgekjmcjjgaaGreatDoor
open Go.Abs Go.RowKit
def Kt (K:KL) (taken:List ByteArray):Prop:= ∀s,pN K s≠0↔s∈taken
theorem oo {taken:List ByteArray} {s:ByteArray} (h:aP taken s=0):fW s∧ ¬s∈taken:=by
 unfold aP at h
 split at h
 ·cases h
 ·split at h
  ·cases h
  ·exact⟨Classical.not_not.1 ‹_›,‹_›⟩
theorem Ce {taken:List ByteArray} {s:ByteArray} (h: ¬aP taken s=0):(¬fW s∧aP taken s=7)∨(fW s∧s∈taken∧aP taken s=8):=by
 unfold aP at h ⊢
 split
 ·exact .inl ⟨‹_›,rfl⟩
 ·rename_i h1
  rw[if_neg h1]at h
  split
  ·exact .inr ⟨Classical.not_not.1 h1,‹_›,rfl⟩
  ·rename_i h2
   exact absurd (if_neg h2) h
theorem fC {mem:List (Nat×bk)} {nx c m:Nat} {p:bG} {K:KL} (h2:al mem c=some (OO p m)) (h1:al mem m=some (mK K)) {s:ByteArray} {taken:List ByteArray} (hT:Kt K taken) (h:aP taken s=0) (k:Int):
  aw Tryz.prog 26 [.c (.ptr c 0),S s,I k] mem nx (I 0) (dJ mem m (mK (sM K s k))) nx:=by
 refine aw.of iG (by simp) λhb=>aa ?_
 obtain⟨hi,hn⟩:=oo h
 have hz:pN K s=0:=Classical.not_not.1 λhh=>hn ((hT s).1 hh)
 have hm:=oi s K
 have hs:=El s k K
 clear h hn
 conv in bh _ _=>cbv
 cases hL:jj K s with
 |none=>
  rw[hL]at hm
  clear hL hz hT
  repeat' first|simp(disch:=omega)only[go_sem, *,hm,Option.map_none,hs,hi,decide_true,h1,h2]|apply ab<;>intro h<;>try omega|refine aq (bK _) rfl rfl ?_
 |some j=>
  rw[iz hL]at hz
  rw[hL,hz]at hm
  clear hL hz hT
  repeat' first|simp(disch:=omega)only[go_sem, *,hm,Option.map_some,hs,hi,decide_true,h1,h2]|apply ab<;>intro h<;>try omega|refine aq (bK _) rfl rfl ?_
theorem fh {mem:List (Nat×bk)} {nx c m:Nat} {p:bG} {K:KL} (h2:al mem c=some (OO p m)) (h1:al mem m=some (mK K)) {s:ByteArray} {taken:List ByteArray} (hT:Kt K taken) (h: ¬aP taken s=0) (k:Int):
  aw Tryz.prog 26 [.c (.ptr c 0),S s,I k] mem nx (I (aP taken s)) mem nx:=by
 refine aw.of iG (by simp) λhb=>aa ?_
 have hm:=oi s K
 conv in bh _ _=>cbv
 rcases Ce h with⟨hi,hE⟩|⟨hi,hn,hE⟩
 ·rw[hE]
  clear h hE hm hT
  repeat' first|simp(disch:=omega)only[go_sem, *,hi,decide_false,h1,h2]|apply ab<;>intro h<;>try omega|refine aq (bK _) rfl rfl ?_
 ·rw[hE]
  have hz:=(hT s).2 hn
  clear h hE hn hT
  cases hL:jj K s with
  |none=>exact absurd (lJ hL) hz
  |some j=>
   rw[iz hL]at hz
   rw[hL]at hm
   clear hL
   repeat' first|simp(disch:=omega)only[go_sem, *,hm,Option.map_some,hi,decide_true,h1,h2,hz]|apply ab<;>intro h<;>try omega|refine aq (bK _) rfl rfl ?_
noncomputable def If (K:KL) (taken:List ByteArray) (s:ByteArray):KL:=if aP taken s=0 then sM K s 2 else K
theorem Kc.add {p:bG} {K:KL} {taken:List ByteArray} {s:ByteArray} (hK:Kc p K) (hS: ∀x∈p.sizes,x∈taken) (h:aP taken s=0):Kc p (sM K s 2):= λx=>by
 rw[Gt]
 by_cases e:s=x
 ·subst e
  rw[if_pos rfl]
  exact⟨λh=>absurd h (by decide),λhx=>absurd (hS _ hx) (oo h).2⟩
 ·rw[if_neg e]
  exact hK x
theorem Fs {sizes taken:List ByteArray} {x:nP} (h1:aP taken x.1=0) (h2:kU x.2.1) (h3: ¬6<x.2.2.length):dL sizes taken x=de (x.2.2.map (bH sizes)):=by unfold dL;rw[if_neg (not_not_intro h1),if_neg (not_not_intro h2),if_neg h3]
theorem mr {p:bG} {K:KL} {taken:List ByteArray} (hT:Kt K taken) (hK:Kc p K) (hS: ∀x∈p.sizes,x∈taken) (x:nP):
  aw Tryz.prog 28 [.c (.ptr 2 0),UV x] [(3,Pa x),(2,OO p 1),(1,mK K),(0,eJ p)] 4 (I (dL p.sizes taken x)) [(3,Pa x),(2,OO p 1),(1,mK (If K taken x.1)),(0,eJ p)] 4:=by
 refine aw.ofZ (ress:= [I (dL p.sizes taken x)]) mJ (by simp) λhb=>aa ?_
 have hl:x.2.2.length≤9223372036854775807:=by
  have:=hb.2.1
  simp[gw,nc,gT]at this
  omega
 have cD:=qz (t:=x.2.1) x.2.2.length
 conv in bh _ _=>cbv
 by_cases h1:aP taken x.1=0
 ·rw[show If K taken x.1=sM K x.1 2 from if_pos h1]
  have i:=hK.add hS h1
  have hn:= λmem nx h2 h3=>fC (mem:=mem) (nx:=nx) (c:=2) (m:=1) (p:=p) h2 h3 hT h1 2
  by_cases h2:kU x.2.1
  ·rw[if_neg (not_not_intro h2)]at cD
   by_cases h3:6<x.2.2.length
   ·rw[if_pos h3]at cD
    rw[show dL p.sizes taken x=11 by unfold dL;rw[if_neg (not_not_intro h1),if_neg (not_not_intro h2),if_pos h3]]
    repeat' first|simp(disch:=omega)only[go_sem, *]|apply ab<;>intro h<;>try omega|refine ap (hn _ _ rfl rfl) ?_|refine aq cD rfl rfl ?_
    refine⟨[], [], ?_⟩
    simp(disch:=omega)only[go_sem,aQ]
    simp[cn,dW]
   ·rw[if_neg h3]at cD
    rw[Fs h1 h2 h3]
    repeat' first|simp(disch:=omega)only[go_sem, *]|apply ab<;>intro h<;>try omega|refine ap (hn _ _ rfl rfl) ?_|refine aq cD rfl rfl ?_
    clear cD hn h1 h2
    generalize sM K x.1 2=K' at*
    refine ai (λk:Nat=>⟨[(30,I k),(29,I x.2.2.length),(28,j6 x.2.2),(0,.c (.ptr 2 0))], [(4,Pa x),(3,Pa x),(2,OO p 1),(1,mK K'),(0,eJ p)],5,4⟩) (λk=>k≤x.2.2.length∧Hid (de ((x.2.2.map (bH p.sizes)).take k)=0)) (λk=>x.2.2.length-k) ⟨0, [],⟨by omega,by show _=_;simp[de]⟩,by simp[cn,dW]⟩ ?_
    rintro k ⟨hk,f⟩
    refine aa ?_
    by_cases n:k<x.2.2.length
    ·have v:k<(x.2.2.map (bH p.sizes)).length:=by simpa using n
     have h4:=ix v f.out
     have h5:=lY v f.out
     rw[List.getElem_map]at h4 h5
     have cS:=eW i x.2.2[k]
     clear f
     by_cases hz:bH p.sizes x.2.2[k]=0
     ·have HN:=Lib.hid (h4.trans hz)
      clear h4 h5
      repeat' first|simp(disch:=omega)only[go_sem, *,ah n,b9,wrap_i64,hz]|apply ab<;>intro h<;>try omega|refine bA cS (mU (c:=2) (m:=1) rfl rfl rfl) (.inl rfl) ?_
      exact⟨k+1, [],⟨by omega,HN⟩,by omega,by simp[cn,dW]⟩
     ·rw[h5 hz]
      clear h4 h5
      repeat' first|simp(disch:=omega)only[go_sem, *,ah n,b9,wrap_i64,hz]|apply ab<;>intro h<;>try omega|refine bA cS (mU (c:=2) (m:=1) rfl rfl rfl) (.inl rfl) ?_
      refine⟨[], [], ?_⟩
      simp(disch:=omega)only[go_sem,aQ]
      simp[cn,dW]
    ·have hz:=f.out
     rw[List.take_of_length_le (by simp;omega)]at hz
     rw[hz]
     clear hz f
     repeat' first|simp(disch:=omega)only[go_sem, *]|apply ab<;>intro h<;>try omega
     refine⟨[], [], ?_⟩
     simp(disch:=omega)only[go_sem,aQ]
     simp[cn,dW]
  ·rw[if_pos h2]at cD
   rw[show dL p.sizes taken x=10 by unfold dL;rw[if_neg (not_not_intro h1),if_pos h2]]
   repeat' first|simp(disch:=omega)only[go_sem, *]|apply ab<;>intro h<;>try omega|refine ap (hn _ _ rfl rfl) ?_|refine aq cD rfl rfl ?_
   refine⟨[], [], ?_⟩
   simp(disch:=omega)only[go_sem,aQ]
   simp[cn,dW]
 ·rw[show If K taken x.1=K from if_neg h1]
  have hn:= λmem nx h2 h3=>fh (mem:=mem) (nx:=nx) (c:=2) (m:=1) (p:=p) h2 h3 hT h1 2
  rw[show dL p.sizes taken x=aP taken x.1 by unfold dL;rw[if_pos h1]]
  repeat' first|simp(disch:=omega)only[go_sem, *,h1]|apply ab<;>intro h<;>try omega|refine ap (hn _ _ rfl rfl) ?_
  refine⟨[], [], ?_⟩
  simp(disch:=omega)only[go_sem,aQ]
  simp[cn,dW]
section
variable {p q : bG} (hs : p.sizes = q.sizes) (hp : p.params = q.params) (hd : p.defs = q.defs)
include hs hp hd
theorem Fy (vars:List ByteArray) (e:Ex) (l:List Ty):aY p vars e l=aY q vars e l:=by
 obtain⟨s1,w1,p1,d1,o1⟩:=p
 obtain⟨s2,w2,p2,d2,o2⟩:=q
 simp only at hs hp hd
 subst hs hp hd
 rfl
theorem Kl (vars:List ByteArray) (e:Ex):eD p vars e=eD q vars e:=by
 refine Ex.ind (p:= λe=>eD p vars e=eD q vars e) (λe ih=> ?_) e
 have key: ∀l:List Ex,(∀a∈l,eD p vars a=eD q vars a)→dN p vars l=dN q vars l:=by
  intro l
  induction l with
  |nil=>intro _;rfl
  |cons a r w=>
   intro h
   simp only[dN]
   rw[h a List.mem_cons_self,w λb hb=>h b (List.mem_cons_of_mem _ hb)]
 rw[mE,mE,key _ ih]
 cases dN q vars e.args with
 |inl x=>rfl
 |inr l=>exact Fy hs hp hd vars e l
theorem FE (vars:List ByteArray) (e:Ex):bv p vars e=bv q vars e:=by
 unfold bv
 rw[Kl hs hp hd vars e]
end
set_option maxRecDepth 20000
set_option maxRecDepth 1000000
open Go.Abs Go.RowKit
theorem nM {p:bG} (hf:iR p) (o:kI p) {K:KL} {taken:List ByteArray} (hT:Kt K taken) (hK:Kc p K) (hS: ∀x∈p.sizes,x∈taken) {k:Nat} (hk:k<p.defs.length):
  aw Tryz.prog 29 [.c (.ptr 2 0),I k] [(2,OO p 1),(1,mK K),(0,eJ p)] 3 (I (bt p k taken p.defs[k])) [(2,OO p 1),(1,mK (If K taken p.defs[k].name)),(0,eJ p)] 3:=by
 refine aw.ofZ (ress:= [I (bt p k taken p.defs[k])]) nY (by simp) λhb=>aa ?_
 have cD:=qS (t:=p.defs[k].ty) p.defs[k].dims.length p.defs[k].red.length
 have u:iR {p with defs:=p.defs.take k}:=xp hf k
 have y:=(hf.2 _ (List.getElem_mem hk)).1
 have z:=(hf.2 _ (List.getElem_mem hk)).2.1
 have cT:=tL u (aS p.defs[k]) (o _ (List.getElem_mem hk))
 rw[FE (p:={p with defs:=p.defs.take k}) (q:=cU p k) rfl rfl rfl]at cT
 have g:aK 22 (p.defs.map di):=ar λx=>rfl
 have cF:=wU p.defs[k]
 have cI:=oG (d:=p.defs[k]) (by omega) (by omega)
 conv in bh _ _=>cbv
 by_cases h1:aP taken p.defs[k].name=0
 ·rw[show If K taken p.defs[k].name=sM K p.defs[k].name 2 from if_pos h1]
  have i:=hK.add hS h1
  have hn:= λmem nx h2 h3=>fC (mem:=mem) (nx:=nx) (c:=2) (m:=1) (p:=p) h2 h3 hT h1 2
  have cA:=mS i p.defs[k] (by omega) (by omega)
  clear hT hK hS i hf u o
  by_cases h2:kU p.defs[k].ty
  ·rw[if_neg (not_not_intro h2)]at cD
   by_cases h3:6<p.defs[k].dims.length∨6<p.defs[k].red.length
   ·rw[if_pos h3]at cD
    rw[show bt p k taken p.defs[k]=11 by unfold bt;rw[if_neg (not_not_intro h1),if_neg (not_not_intro h2),if_pos h3]]
    clear h1 h2 h3 cT cA cF cI
    repeat' first|simp(disch:=omega)only[go_sem, *,ah hk,di,←List.map_take,g,Option.getD_none,Option.getD_some]|apply ab<;>intro h<;>try omega|refine ap (hn _ _ rfl rfl) ?_|refine aq cD rfl rfl ?_
    refine⟨[], [], ?_⟩
    simp(disch:=omega)only[go_sem,aQ]
    simp[cn,dW]
   ·rw[if_neg h3]at cD
    by_cases h4:bF p.sizes p.sizes (p.defs[k].dims++p.defs[k].red)=0
    ·rw[h4]at cA
     by_cases h5:f8 p.defs[k]=0
     ·have hT:(bv (cU p k) (aS p.defs[k]) p.defs[k].body)=(bv {p with wher:= [],defs:=p.defs.take k,outs:= []} (aS p.defs[k]) p.defs[k].body):=rfl
      by_cases h6:(bv (cU p k) (aS p.defs[k]) p.defs[k].body).2=0
      ·by_cases h7:(bv (cU p k) (aS p.defs[k]) p.defs[k].body).1=p.defs[k].ty
       ·rw[show bt p k taken p.defs[k]=0 by unfold bt;rw[if_neg (not_not_intro h1),if_neg (not_not_intro h2),if_neg h3,if_neg (not_not_intro h4),if_neg (not_not_intro h5),←hT,if_neg (not_not_intro h6),if_neg (not_not_intro h7)]]
        clear hT
        generalize bv (cU p k) (aS p.defs[k]) p.defs[k].body=r at*
        obtain⟨r1,r2⟩:=r
        simp only at h6 h7
        subst h7
        clear h1 h2 h3 h4
        repeat' first|simp(disch:=omega)only[go_sem, *,ah hk,di,←List.map_take,g,Option.getD_none,Option.getD_some,h5,h6]|apply ab<;>intro h<;>try omega|refine ap (hn _ _ rfl rfl) ?_|refine aq cD rfl rfl ?_|refine bA cA (mU (c:=2) (m:=1) rfl rfl rfl) (.inl rfl) ?_|refine aq cF rfl rfl ?_|refine aW cI rfl rfl ?_|refine aq cT rfl rfl ?_
        refine⟨[], [], ?_⟩
        simp(disch:=omega)only[go_sem,aQ]
        simp[cn,dW]
       ·rw[show bt p k taken p.defs[k]=10 by unfold bt;rw[if_neg (not_not_intro h1),if_neg (not_not_intro h2),if_neg h3,if_neg (not_not_intro h4),if_neg (not_not_intro h5),←hT,if_neg (not_not_intro h6),if_pos h7]]
        clear hT
        generalize bv (cU p k) (aS p.defs[k]) p.defs[k].body=r at*
        clear h1 h2 h3 h4
        have H7:=Lib.hid h7
        clear h7
        repeat' first|simp(disch:=omega)only[go_sem, *,ah hk,di,←List.map_take,g,Option.getD_none,Option.getD_some,h5,h6]|apply ab<;>intro h<;>try omega|refine ap (hn _ _ rfl rfl) ?_|refine aq cD rfl rfl ?_|refine bA cA (mU (c:=2) (m:=1) rfl rfl rfl) (.inl rfl) ?_|refine aq cF rfl rfl ?_|refine aW cI rfl rfl ?_|refine aq cT rfl rfl ?_
        all_goals first
         |exact absurd (tG h) H7.out
         |skip
        refine⟨[], [], ?_⟩
        simp(disch:=omega)only[go_sem,aQ]
        simp[cn,dW]
      ·rw[show bt p k taken p.defs[k]=(bv (cU p k) (aS p.defs[k]) p.defs[k].body).2 by unfold bt;rw[if_neg (not_not_intro h1),if_neg (not_not_intro h2),if_neg h3,if_neg (not_not_intro h4),if_neg (not_not_intro h5),←hT,if_pos h6]]
       clear hT
       generalize bv (cU p k) (aS p.defs[k]) p.defs[k].body=r at*
       clear h1 h2 h3 h4
       repeat' first|simp(disch:=omega)only[go_sem, *,ah hk,di,←List.map_take,g,Option.getD_none,Option.getD_some,h5,h6]|apply ab<;>intro h<;>try omega|refine ap (hn _ _ rfl rfl) ?_|refine aq cD rfl rfl ?_|refine bA cA (mU (c:=2) (m:=1) rfl rfl rfl) (.inl rfl) ?_|refine aq cF rfl rfl ?_|refine aW cI rfl rfl ?_|refine aq cT rfl rfl ?_
       refine⟨[], [], ?_⟩
       simp(disch:=omega)only[go_sem,aQ]
       simp[cn,dW]
     ·rw[show bt p k taken p.defs[k]=f8 p.defs[k] by unfold bt;rw[if_neg (not_not_intro h1),if_neg (not_not_intro h2),if_neg h3,if_neg (not_not_intro h4),if_pos h5]]
      clear h1 h2 h3 h4 cT
      repeat' first|simp(disch:=omega)only[go_sem, *,ah hk,di,←List.map_take,g,Option.getD_none,Option.getD_some,h5]|apply ab<;>intro h<;>try omega|refine ap (hn _ _ rfl rfl) ?_|refine aq cD rfl rfl ?_|refine bA cA (mU (c:=2) (m:=1) rfl rfl rfl) (.inl rfl) ?_|refine aq cF rfl rfl ?_
      refine⟨[], [], ?_⟩
      simp(disch:=omega)only[go_sem,aQ]
      simp[cn,dW]
    ·rw[show bt p k taken p.defs[k]=bF p.sizes p.sizes (p.defs[k].dims++p.defs[k].red) by unfold bt;rw[if_neg (not_not_intro h1),if_neg (not_not_intro h2),if_neg h3,if_pos h4]]
     clear h1 h2 h3 cT cF
     repeat' first|simp(disch:=omega)only[go_sem, *,ah hk,di,←List.map_take,g,Option.getD_none,Option.getD_some,h4]|apply ab<;>intro h<;>try omega|refine ap (hn _ _ rfl rfl) ?_|refine aq cD rfl rfl ?_|refine bA cA (mU (c:=2) (m:=1) rfl rfl rfl) (.inl rfl) ?_
     refine⟨[], [], ?_⟩
     simp(disch:=omega)only[go_sem,aQ]
     simp[cn,dW]
  ·rw[if_pos h2]at cD
   rw[show bt p k taken p.defs[k]=10 by unfold bt;rw[if_neg (not_not_intro h1),if_pos h2]]
   clear h1 h2 cT cA cF cI
   repeat' first|simp(disch:=omega)only[go_sem, *,ah hk,di,←List.map_take,g,Option.getD_none,Option.getD_some]|apply ab<;>intro h<;>try omega|refine ap (hn _ _ rfl rfl) ?_|refine aq cD rfl rfl ?_
   refine⟨[], [], ?_⟩
   simp(disch:=omega)only[go_sem,aQ]
   simp[cn,dW]
 ·rw[show If K taken p.defs[k].name=K from if_neg h1]
  have hn:= λmem nx h2 h3=>fh (mem:=mem) (nx:=nx) (c:=2) (m:=1) (p:=p) h2 h3 hT h1 2
  rw[show bt p k taken p.defs[k]=aP taken p.defs[k].name by unfold bt;rw[if_pos h1]]
  clear hT hK hS hf u o cT cF cI cD
  repeat' first|simp(disch:=omega)only[go_sem, *,ah hk,di,←List.map_take,g,Option.getD_none,Option.getD_some,h1]|apply ab<;>intro h<;>try omega|refine ap (hn _ _ rfl rfl) ?_
  refine⟨[], [], ?_⟩
  simp(disch:=omega)only[go_sem,aQ]
  simp[cn,dW]
end Go.Proofs.YtiapgekjmcjjgaaGreatDoor
