import Derived.Test.YthbcbaembicdbaaGreatDoorV17j
set_option linter.unusedVariables false
set_option linter.unusedSimpArgs false
set_option maxRecDepth 20000
namespace Go.Proofs.YthbcbaembicdbaaGreatDoor
open Go.Abs Go.RowKit
def Kt (K:KL) (taken:List ByteArray):Prop:= ∀s,s8 K s≠0↔s∈taken
theorem rm {taken:List ByteArray} {s:ByteArray} (h:be taken s=0):gk s∧ ¬s∈taken:=by
 unfold be at h
 split at h
 ·cases h
 ·split at h
  ·cases h
  ·exact⟨Classical.not_not.1 ‹_›,‹_›⟩
theorem GB {taken:List ByteArray} {s:ByteArray} (h: ¬be taken s=0):(¬gk s∧be taken s=7)∨(gk s∧s∈taken∧be taken s=8):=by
 unfold be at h ⊢
 split
 ·exact .inl ⟨‹_›,rfl⟩
 ·rename_i h1
  rw[if_neg h1]at h
  split
  ·exact .inr ⟨Classical.not_not.1 h1,‹_›,rfl⟩
  ·rename_i h2
   exact absurd (if_neg h2) h
theorem fb {mem:List (Nat×aU)} {nx c m:Nat} {p:bz} {K:KL} (h2:al mem c=some (U5 p m)) (h1:al mem m=some (mK K)) {s:ByteArray} {taken:List ByteArray} (hT:Kt K taken) (h:be taken s=0) (k:Int):
  aq Tryz.prog fD [.c (.ptr c 0),S s,I k] mem nx (I 0) (cm mem m (mK (vj K s k))) nx:=by
 refine aq.of iX (by simp) λhb=>aa ?_
 obtain⟨hi,hn⟩:=rm h
 have hz:s8 K s=0:=Classical.not_not.1 λhh=>hn ((hT s).1 hh)
 have hm:=rQ s K
 have hs:=JR s k K
 clear h hn
 simp only[fC]
 cases hL:jF K s with
 |none=>
  rw[hL]at hm
  clear hL hz hT
  repeat' first|simp(disch:=omega) only[go_sem, *,hm,Option.map_none,hs,hi,decide_true,h1,h2]|((with_reducible apply ab)<;>intro h<;>try omega)|(refine aY (bu _) rfl rfl ?_)
 |some j=>
  rw[iY hL]at hz
  rw[hL,hz]at hm
  clear hL hz hT
  repeat' first|simp(disch:=omega) only[go_sem, *,hm,Option.map_some,hs,hi,decide_true,h1,h2]|((with_reducible apply ab)<;>intro h<;>try omega)|(refine aY (bu _) rfl rfl ?_)
theorem eV {mem:List (Nat×aU)} {nx c m:Nat} {p:bz} {K:KL} (h2:al mem c=some (U5 p m)) (h1:al mem m=some (mK K)) {s:ByteArray} {taken:List ByteArray} (hT:Kt K taken) (h: ¬be taken s=0) (k:Int):
  aq Tryz.prog fD [.c (.ptr c 0),S s,I k] mem nx (I (be taken s)) mem nx:=by
 refine aq.of iX (by simp) λhb=>aa ?_
 have hm:=rQ s K
 simp only[fC]
 rcases GB h with⟨hi,hE⟩|⟨hi,hn,hE⟩
 ·rw[hE]
  clear h hE hm hT
  repeat' first|simp(disch:=omega) only[go_sem, *,hi,decide_false,h1,h2]|((with_reducible apply ab)<;>intro h<;>try omega)|(refine aY (bu _) rfl rfl ?_)
 ·rw[hE]
  have hz:=(hT s).2 hn
  clear h hE hn hT
  cases hL:jF K s with
  |none=>exact absurd (nw hL) hz
  |some j=>
   rw[iY hL]at hz
   rw[hL]at hm
   clear hL
   repeat' first|simp(disch:=omega) only[go_sem, *,hm,Option.map_some,hi,decide_true,h1,h2,hz]|((with_reducible apply ab)<;>intro h<;>try omega)|(refine aY (bu _) rfl rfl ?_)
noncomputable def Mq (K:KL) (taken:List ByteArray) (s:ByteArray):KL:=if be taken s=0 then vj K s 2 else K
theorem Kc.add {p:bz} {K:KL} {taken:List ByteArray} {s:ByteArray} (hK:Kc p K) (hS: ∀x∈p.sizes,x∈taken) (h:be taken s=0):Kc p (vj K s 2):= λx=>by
 rw[E7]
 by_cases e:s=x
 ·subst e
  rw[if_pos rfl]
  exact⟨λh=>absurd h (by decide),λhx=>absurd (hS _ hx) (rm h).2⟩
 ·rw[if_neg e]
  exact hK x
theorem Jq {sizes taken:List ByteArray} {x:su} (h1:be taken x.1=0) (h2:uz x.2.1) (h3: ¬6<x.2.2.length):gH sizes taken x=dV (x.2.2.map (cq sizes)):=by unfold gH;rw[if_neg (not_not_intro h1),if_neg (not_not_intro h2),if_neg h3]
set_option maxHeartbeats 1000000 in
theorem nZ {p:bz} {K:KL} {taken:List ByteArray} (hT:Kt K taken) (hK:Kc p K) (hS: ∀x∈p.sizes,x∈taken) (x:su):
  aq Tryz.prog jg [.c (.ptr 2 0),abE x] [(3,WK x),(2,U5 p 1),(1,mK K),(0,kx p)] 4 (I (gH p.sizes taken x)) [(3,WK x),(2,U5 p 1),(1,mK (Mq K taken x.1)),(0,kx p)] 4:=by
 refine aq.ofZ (ress:= [I (gH p.sizes taken x)]) pL (by simp) λhb=>aa ?_
 have hl:x.2.2.length≤9223372036854775807:=by
  have:=hb.2.1
  simp[iI,sR,jt]at this
  omega
 have cD:=ut (t:=x.2.1) x.2.2.length
 simp only[iW]
 by_cases h1:be taken x.1=0
 ·rw[show Mq K taken x.1=vj K x.1 2 from if_pos h1]
  have hK':=hK.add hS h1
  have hn:= λmem nx h2 h3=>fb (mem:=mem) (nx:=nx) (c:=2) (m:=1) (p:=p) h2 h3 hT h1 2
  by_cases h2:uz x.2.1
  ·rw[if_neg (not_not_intro h2)]at cD
   by_cases h3:6<x.2.2.length
   ·rw[if_pos h3]at cD
    rw[show gH p.sizes taken x=11 by unfold gH;rw[if_neg (not_not_intro h1),if_neg (not_not_intro h2),if_pos h3]]
    repeat' first|simp(disch:=omega) only[go_sem, *]|((with_reducible apply ab)<;>intro h<;>try omega)|(refine an (hn _ _ rfl rfl) ?_)|(refine aY cD rfl rfl ?_)
    refine⟨[], [], ?_⟩
    simp(disch:=omega) only[go_sem,aP]
    simp[bS,dM]
   ·rw[if_neg h3]at cD
    rw[Jq h1 h2 h3]
    repeat' first|simp(disch:=omega) only[go_sem, *]|((with_reducible apply ab)<;>intro h<;>try omega)|(refine an (hn _ _ rfl rfl) ?_)|(refine aY cD rfl rfl ?_)
    clear cD hn h1 h2
    generalize vj K x.1 2=K' at*
    refine ap (λk:Nat=>⟨[(30,I k),(29,I x.2.2.length),(28,sH x.2.2),(0,.c (.ptr 2 0))], [(4,WK x),(3,WK x),(2,U5 p 1),(1,mK K'),(0,kx p)],5,4⟩) (λk=>k≤x.2.2.length∧Hid (dV ((x.2.2.map (cq p.sizes)).take k)=0)) (λk=>x.2.2.length-k) ⟨0, [],⟨by omega,by show _=_;simp[dV]⟩,by simp[bS,dM]⟩ ?_
    rintro k ⟨hk,hall⟩
    refine aa ?_
    by_cases hlt:k<x.2.2.length
    ·have hlm:k<(x.2.2.map (cq p.sizes)).length:=by simpa using hlt
     have h4:=ni hlm hall.out
     have h5:=uL hlm hall.out
     rw[List.getElem_map]at h4 h5
     have cS:=eD hK' x.2.2[k]
     clear hall
     by_cases hz:cq p.sizes x.2.2[k]=0
     ·have HN:=Lib.hid (h4.trans hz)
      clear h4 h5
      repeat' first|simp(disch:=omega) only[go_sem, *,ai hlt,cR,wrap_i64,hz]|((with_reducible apply ab)<;>intro h<;>try omega)|(refine ac cS (pz (c:=2) (m:=1) rfl rfl rfl) (.inl rfl) ?_)
      exact⟨k+1, [],⟨by omega,HN⟩,by omega,by simp[bS,dM]⟩
     ·rw[h5 hz]
      clear h4 h5
      repeat' first|simp(disch:=omega) only[go_sem, *,ai hlt,cR,wrap_i64,hz]|((with_reducible apply ab)<;>intro h<;>try omega)|(refine ac cS (pz (c:=2) (m:=1) rfl rfl rfl) (.inl rfl) ?_)
      refine⟨[], [], ?_⟩
      simp(disch:=omega) only[go_sem,aP]
      simp[bS,dM]
    ·have hz:=hall.out
     rw[List.take_of_length_le (by simp;omega)]at hz
     rw[hz]
     clear hz hall
     repeat' first|simp(disch:=omega) only[go_sem, *]|((with_reducible apply ab)<;>intro h<;>try omega)
     refine⟨[], [], ?_⟩
     simp(disch:=omega) only[go_sem,aP]
     simp[bS,dM]
  ·rw[if_pos h2]at cD
   rw[show gH p.sizes taken x=10 by unfold gH;rw[if_neg (not_not_intro h1),if_pos h2]]
   repeat' first|simp(disch:=omega) only[go_sem, *]|((with_reducible apply ab)<;>intro h<;>try omega)|(refine an (hn _ _ rfl rfl) ?_)|(refine aY cD rfl rfl ?_)
   refine⟨[], [], ?_⟩
   simp(disch:=omega) only[go_sem,aP]
   simp[bS,dM]
 ·rw[show Mq K taken x.1=K from if_neg h1]
  have hn:= λmem nx h2 h3=>eV (mem:=mem) (nx:=nx) (c:=2) (m:=1) (p:=p) h2 h3 hT h1 2
  rw[show gH p.sizes taken x=be taken x.1 by unfold gH;rw[if_pos h1]]
  repeat' first|simp(disch:=omega) only[go_sem, *,h1]|((with_reducible apply ab)<;>intro h<;>try omega)|(refine an (hn _ _ rfl rfl) ?_)
  refine⟨[], [], ?_⟩
  simp(disch:=omega) only[go_sem,aP]
  simp[bS,dM]
section
variable {p q : bz} (hs : p.sizes = q.sizes) (hp : p.params = q.params) (hd : p.defs = q.defs)
include hs hp hd
theorem I7 (vars:List ByteArray) (e:Ex) (l:List Ty):b9 p vars e l=b9 q vars e l:=by
 obtain⟨s1,w1,p1,d1,o1⟩:=p
 obtain⟨s2,w2,p2,d2,o2⟩:=q
 simp only at hs hp hd
 subst hs hp hd
 rfl
theorem N5 (vars:List ByteArray) (e:Ex):eS p vars e=eS q vars e:=by
 refine Ex.ind (p:= λe=>eS p vars e=eS q vars e) (λe ih=> ?_) e
 have key: ∀l:List Ex,(∀a∈l,eS p vars a=eS q vars a)→d5 p vars l=d5 q vars l:=by
  intro l
  induction l with
  |nil=>intro _;rfl
  |cons a r ihr=>
   intro h
   simp only[d5]
   rw[h a List.mem_cons_self,ihr λb hb=>h b (List.mem_cons_of_mem _ hb)]
 rw[vP,vP,key _ ih]
 cases d5 q vars e.args with
 |inl x=>rfl
 |inr l=>exact I7 hs hp hd vars e l
theorem I1 (vars:List ByteArray) (e:Ex):du p vars e=du q vars e:=by
 unfold du
 rw[N5 hs hp hd vars e]
end
set_option maxRecDepth 20000
open Go.Abs Go.RowKit
set_option maxHeartbeats 4000000 in
theorem qT {p:bz} (hf:rI p) (h64:tP p) {K:KL} {taken:List ByteArray} (hT:Kt K taken) (hK:Kc p K) (hS: ∀x∈p.sizes,x∈taken) {k:Nat} (hk:k<p.defs.length):
  aq Tryz.prog kd [.c (.ptr 2 0),I k] [(2,U5 p 1),(1,mK K),(0,kx p)] 3 (I (dE p k taken p.defs[k])) [(2,U5 p 1),(1,mK (Mq K taken p.defs[k].name)),(0,kx p)] 3:=by
 refine aq.ofZ (ress:= [I (dE p k taken p.defs[k])]) rK (by simp) λhb=>aa ?_
 have cD:=ug (t:=p.defs[k].ty) p.defs[k].dims.length p.defs[k].red.length
 have hf':rI {p with defs:=p.defs.take k}:=Lw hf k
 have hc1:=(hf.2 _ (List.getElem_mem hk)).1
 have hc2:=(hf.2 _ (List.getElem_mem hk)).2.1
 have cT:=xC hf' (bX p.defs[k]) (h64 _ (List.getElem_mem hk))
 rw[I1 (p:={p with defs:=p.defs.take k}) (q:=fe p k) rfl rfl rfl]at cT
 have hRo:bC 22 (p.defs.map eh):=aQ λx=>rfl
 have cF:=AL p.defs[k]
 have cI:=rC (d:=p.defs[k]) (by omega) (by omega)
 simp only[j8]
 by_cases h1:be taken p.defs[k].name=0
 ·rw[show Mq K taken p.defs[k].name=vj K p.defs[k].name 2 from if_pos h1]
  have hK':=hK.add hS h1
  have hn:= λmem nx h2 h3=>fb (mem:=mem) (nx:=nx) (c:=2) (m:=1) (p:=p) h2 h3 hT h1 2
  have cA:=py hK' p.defs[k] (by omega) (by omega)
  clear hT hK hS hK' hf hf' h64
  by_cases h2:uz p.defs[k].ty
  ·rw[if_neg (not_not_intro h2)]at cD
   by_cases h3:6<p.defs[k].dims.length∨6<p.defs[k].red.length
   ·rw[if_pos h3]at cD
    rw[show dE p k taken p.defs[k]=11 by unfold dE;rw[if_neg (not_not_intro h1),if_neg (not_not_intro h2),if_pos h3]]
    clear h1 h2 h3 cT cA cF cI
    repeat' first|simp(disch:=omega) only[go_sem, *,ai hk,eh,←List.map_take,hRo,Option.getD_none,Option.getD_some]|((with_reducible apply ab)<;>intro h<;>try omega)|(refine an (hn _ _ rfl rfl) ?_)|(refine aY cD rfl rfl ?_)
    refine⟨[], [], ?_⟩
    simp(disch:=omega) only[go_sem,aP]
    simp[bS,dM]
   ·rw[if_neg h3]at cD
    by_cases h4:cK p.sizes p.sizes (p.defs[k].dims++p.defs[k].red)=0
    ·rw[h4]at cA
     by_cases h5:oF p.defs[k]=0
     ·have hT:(du (fe p k) (bX p.defs[k]) p.defs[k].body)=(du {p with wher:= [],defs:=p.defs.take k,outs:= []} (bX p.defs[k]) p.defs[k].body):=rfl
      by_cases h6:(du (fe p k) (bX p.defs[k]) p.defs[k].body).2=0
      ·by_cases h7:(du (fe p k) (bX p.defs[k]) p.defs[k].body).1=p.defs[k].ty
       ·rw[show dE p k taken p.defs[k]=0 by unfold dE;rw[if_neg (not_not_intro h1),if_neg (not_not_intro h2),if_neg h3,if_neg (not_not_intro h4),if_neg (not_not_intro h5),←hT,if_neg (not_not_intro h6),if_neg (not_not_intro h7)]]
        clear hT
        generalize du (fe p k) (bX p.defs[k]) p.defs[k].body=r at*
        obtain⟨r1,r2⟩:=r
        simp only at h6 h7
        subst h7
        clear h1 h2 h3 h4
        repeat' first|simp(disch:=omega) only[go_sem, *,ai hk,eh,←List.map_take,hRo,Option.getD_none,Option.getD_some,h5,h6]|((with_reducible apply ab)<;>intro h<;>try omega)|(refine an (hn _ _ rfl rfl) ?_)|(refine aY cD rfl rfl ?_)|(refine ac cA (pz (c:=2) (m:=1) rfl rfl rfl) (.inl rfl) ?_)|(refine aY cF rfl rfl ?_)|(refine el cI rfl rfl ?_)|(refine aY cT rfl rfl ?_)
        refine⟨[], [], ?_⟩
        simp(disch:=omega) only[go_sem,aP]
        simp[bS,dM]
       ·rw[show dE p k taken p.defs[k]=10 by unfold dE;rw[if_neg (not_not_intro h1),if_neg (not_not_intro h2),if_neg h3,if_neg (not_not_intro h4),if_neg (not_not_intro h5),←hT,if_neg (not_not_intro h6),if_pos h7]]
        clear hT
        generalize du (fe p k) (bX p.defs[k]) p.defs[k].body=r at*
        clear h1 h2 h3 h4
        have H7:=Lib.hid h7
        clear h7
        repeat' first|simp(disch:=omega) only[go_sem, *,ai hk,eh,←List.map_take,hRo,Option.getD_none,Option.getD_some,h5,h6]|((with_reducible apply ab)<;>intro h<;>try omega)|(refine an (hn _ _ rfl rfl) ?_)|(refine aY cD rfl rfl ?_)|(refine ac cA (pz (c:=2) (m:=1) rfl rfl rfl) (.inl rfl) ?_)|(refine aY cF rfl rfl ?_)|(refine el cI rfl rfl ?_)|(refine aY cT rfl rfl ?_)
        all_goals first
         |exact absurd (S7 h) H7.out
         |skip
        refine⟨[], [], ?_⟩
        simp(disch:=omega) only[go_sem,aP]
        simp[bS,dM]
      ·rw[show dE p k taken p.defs[k]=(du (fe p k) (bX p.defs[k]) p.defs[k].body).2 by unfold dE;rw[if_neg (not_not_intro h1),if_neg (not_not_intro h2),if_neg h3,if_neg (not_not_intro h4),if_neg (not_not_intro h5),←hT,if_pos h6]]
       clear hT
       generalize du (fe p k) (bX p.defs[k]) p.defs[k].body=r at*
       clear h1 h2 h3 h4
       repeat' first|simp(disch:=omega) only[go_sem, *,ai hk,eh,←List.map_take,hRo,Option.getD_none,Option.getD_some,h5,h6]|((with_reducible apply ab)<;>intro h<;>try omega)|(refine an (hn _ _ rfl rfl) ?_)|(refine aY cD rfl rfl ?_)|(refine ac cA (pz (c:=2) (m:=1) rfl rfl rfl) (.inl rfl) ?_)|(refine aY cF rfl rfl ?_)|(refine el cI rfl rfl ?_)|(refine aY cT rfl rfl ?_)
       refine⟨[], [], ?_⟩
       simp(disch:=omega) only[go_sem,aP]
       simp[bS,dM]
     ·rw[show dE p k taken p.defs[k]=oF p.defs[k] by unfold dE;rw[if_neg (not_not_intro h1),if_neg (not_not_intro h2),if_neg h3,if_neg (not_not_intro h4),if_pos h5]]
      clear h1 h2 h3 h4 cT
      repeat' first|simp(disch:=omega) only[go_sem, *,ai hk,eh,←List.map_take,hRo,Option.getD_none,Option.getD_some,h5]|((with_reducible apply ab)<;>intro h<;>try omega)|(refine an (hn _ _ rfl rfl) ?_)|(refine aY cD rfl rfl ?_)|(refine ac cA (pz (c:=2) (m:=1) rfl rfl rfl) (.inl rfl) ?_)|(refine aY cF rfl rfl ?_)
      refine⟨[], [], ?_⟩
      simp(disch:=omega) only[go_sem,aP]
      simp[bS,dM]
    ·rw[show dE p k taken p.defs[k]=cK p.sizes p.sizes (p.defs[k].dims++p.defs[k].red) by unfold dE;rw[if_neg (not_not_intro h1),if_neg (not_not_intro h2),if_neg h3,if_pos h4]]
     clear h1 h2 h3 cT cF
     repeat' first|simp(disch:=omega) only[go_sem, *,ai hk,eh,←List.map_take,hRo,Option.getD_none,Option.getD_some,h4]|((with_reducible apply ab)<;>intro h<;>try omega)|(refine an (hn _ _ rfl rfl) ?_)|(refine aY cD rfl rfl ?_)|(refine ac cA (pz (c:=2) (m:=1) rfl rfl rfl) (.inl rfl) ?_)
     refine⟨[], [], ?_⟩
     simp(disch:=omega) only[go_sem,aP]
     simp[bS,dM]
  ·rw[if_pos h2]at cD
   rw[show dE p k taken p.defs[k]=10 by unfold dE;rw[if_neg (not_not_intro h1),if_pos h2]]
   clear h1 h2 cT cA cF cI
   repeat' first|simp(disch:=omega) only[go_sem, *,ai hk,eh,←List.map_take,hRo,Option.getD_none,Option.getD_some]|((with_reducible apply ab)<;>intro h<;>try omega)|(refine an (hn _ _ rfl rfl) ?_)|(refine aY cD rfl rfl ?_)
   refine⟨[], [], ?_⟩
   simp(disch:=omega) only[go_sem,aP]
   simp[bS,dM]
 ·rw[show Mq K taken p.defs[k].name=K from if_neg h1]
  have hn:= λmem nx h2 h3=>eV (mem:=mem) (nx:=nx) (c:=2) (m:=1) (p:=p) h2 h3 hT h1 2
  rw[show dE p k taken p.defs[k]=be taken p.defs[k].name by unfold dE;rw[if_pos h1]]
  clear hT hK hS hf hf' h64 cT cF cI cD
  repeat' first|simp(disch:=omega) only[go_sem, *,ai hk,eh,←List.map_take,hRo,Option.getD_none,Option.getD_some,h1]|((with_reducible apply ab)<;>intro h<;>try omega)|(refine an (hn _ _ rfl rfl) ?_)
  refine⟨[], [], ?_⟩
  simp(disch:=omega) only[go_sem,aP]
  simp[bS,dM]
end Go.Proofs.YthbcbaembicdbaaGreatDoor
