import Derived.Test.YtjhkikmonejkjaaGreatDoorV17j
set_option linter.unusedVariables false
set_option linter.unusedSimpArgs false
set_option maxRecDepth 20000
namespace Go.Proofs.YtjhkikmonejkjaaGreatDoor
open Go.Abs Go.RowKit
def Kt (K:KL) (taken:List ByteArray):Prop:= ∀s,qV K s≠0↔s∈taken
theorem o6 {taken:List ByteArray} {s:ByteArray} (h:aE taken s=0):eI s∧ ¬s∈taken:=by
 unfold aE at h
 split at h
 ·cases h
 ·split at h
  ·cases h
  ·exact⟨Classical.not_not.1 ‹_›,‹_›⟩
theorem E8 {taken:List ByteArray} {s:ByteArray} (h: ¬aE taken s=0):(¬eI s∧aE taken s=7)∨(eI s∧s∈taken∧aE taken s=8):=by
 unfold aE at h ⊢
 split
 ·exact .inl ⟨‹_›,rfl⟩
 ·rename_i h1
  rw[if_neg h1]at h
  split
  ·exact .inr ⟨Classical.not_not.1 h1,‹_›,rfl⟩
  ·rename_i h2
   exact absurd (if_neg h2) h
theorem ew {mem:List (Nat×bm)} {nx c m:Nat} {p:be} {K:KL} (h2:am mem c=some (P6 p m)) (h1:am mem m=some (mK K)) {s:ByteArray} {taken:List ByteArray} (hT:Kt K taken) (h:aE taken s=0) (k:Int):
  bb Tryz.prog eK [.c (.ptr c 0),S s,I k] mem nx (I 0) (dG mem m (mK (t8 K s k))) nx:=by
 refine bb.of ii (by simp) λhb=>aa ?_
 obtain⟨hi,hn⟩:=o6 h
 have hz:qV K s=0:=Classical.not_not.1 λhh=>hn ((hT s).1 hh)
 have hm:=pW s K
 have hs:=Hu s k K
 clear h hn
 simp only[eQ]
 cases hL:ix K s with
 |none=>
  rw[hL]at hm
  clear hL hz hT
  repeat' first|simp(disch:=omega)only[go_sem, *,hm,Option.map_none,hs,hi,decide_true,h1,h2]|apply ab<;>intro h<;>try omega|refine av (bf _) rfl rfl ?_
 |some j=>
  rw[gX hL]at hz
  rw[hL,hz]at hm
  clear hL hz hT
  repeat' first|simp(disch:=omega)only[go_sem, *,hm,Option.map_some,hs,hi,decide_true,h1,h2]|apply ab<;>intro h<;>try omega|refine av (bf _) rfl rfl ?_
theorem eg {mem:List (Nat×bm)} {nx c m:Nat} {p:be} {K:KL} (h2:am mem c=some (P6 p m)) (h1:am mem m=some (mK K)) {s:ByteArray} {taken:List ByteArray} (hT:Kt K taken) (h: ¬aE taken s=0) (k:Int):
  bb Tryz.prog eK [.c (.ptr c 0),S s,I k] mem nx (I (aE taken s)) mem nx:=by
 refine bb.of ii (by simp) λhb=>aa ?_
 have hm:=pW s K
 simp only[eQ]
 rcases E8 h with⟨hi,hE⟩|⟨hi,hn,hE⟩
 ·rw[hE]
  clear h hE hm hT
  repeat' first|simp(disch:=omega)only[go_sem, *,hi,decide_false,h1,h2]|apply ab<;>intro h<;>try omega|refine av (bf _) rfl rfl ?_
 ·rw[hE]
  have hz:=(hT s).2 hn
  clear h hE hn hT
  cases hL:ix K s with
  |none=>exact absurd (mu hL) hz
  |some j=>
   rw[gX hL]at hz
   rw[hL]at hm
   clear hL
   repeat' first|simp(disch:=omega)only[go_sem, *,hm,Option.map_some,hi,decide_true,h1,h2,hz]|apply ab<;>intro h<;>try omega|refine av (bf _) rfl rfl ?_
noncomputable def Jq (K:KL) (taken:List ByteArray) (s:ByteArray):KL:=if aE taken s=0 then t8 K s 2 else K
theorem Kc.add {p:be} {K:KL} {taken:List ByteArray} {s:ByteArray} (hK:Kc p K) (hS: ∀x∈p.sizes,x∈taken) (h:aE taken s=0):Kc p (t8 K s 2):= λx=>by
 rw[Jf]
 by_cases e:s=x
 ·subst e
  rw[if_pos rfl]
  exact⟨λh=>absurd h (by decide),λhx=>absurd (hS _ hx) (o6 h).2⟩
 ·rw[if_neg e]
  exact hK x
theorem G5 {sizes taken:List ByteArray} {x:kO} (h1:aE taken x.1=0) (h2:ju x.2.1) (h3: ¬6<x.2.2.length):cg sizes taken x=bY (x.2.2.map (bi sizes)):=by unfold cg;rw[if_neg (not_not_intro h1),if_neg (not_not_intro h2),if_neg h3]
set_option maxHeartbeats 1000000 in
theorem mG {p:be} {K:KL} {taken:List ByteArray} (hT:Kt K taken) (hK:Kc p K) (hS: ∀x∈p.sizes,x∈taken) (x:kO):
  bb Tryz.prog ic [.c (.ptr 2 0),VD x] [(3,Ov x),(2,P6 p 1),(1,mK K),(0,dL p)] 4 (I (cg p.sizes taken x)) [(3,Ov x),(2,P6 p 1),(1,mK (Jq K taken x.1)),(0,dL p)] 4:=by
 refine bb.ofZ (ress:= [I (cg p.sizes taken x)]) nj (by simp) λhb=>aa ?_
 have hl:x.2.2.length≤9223372036854775807:=by
  have:=hb.2.1
  simp[eW,jP,ft]at this
  omega
 have cD:=re (t:=x.2.1) x.2.2.length
 simp only[ig]
 by_cases h1:aE taken x.1=0
 ·rw[show Jq K taken x.1=t8 K x.1 2 from if_pos h1]
  have i:=hK.add hS h1
  have hn:= λmem nx h2 h3=>ew (mem:=mem) (nx:=nx) (c:=2) (m:=1) (p:=p) h2 h3 hT h1 2
  by_cases h2:ju x.2.1
  ·rw[if_neg (not_not_intro h2)]at cD
   by_cases h3:6<x.2.2.length
   ·rw[if_pos h3]at cD
    rw[show cg p.sizes taken x=11 by unfold cg;rw[if_neg (not_not_intro h1),if_neg (not_not_intro h2),if_pos h3]]
    repeat' first|simp(disch:=omega)only[go_sem, *]|apply ab<;>intro h<;>try omega|refine aU (hn _ _ rfl rfl) ?_|refine av cD rfl rfl ?_
    refine⟨[], [], ?_⟩
    simp(disch:=omega)only[go_sem,bU]
    simp[dH,gO]
   ·rw[if_neg h3]at cD
    rw[G5 h1 h2 h3]
    repeat' first|simp(disch:=omega)only[go_sem, *]|apply ab<;>intro h<;>try omega|refine aU (hn _ _ rfl rfl) ?_|refine av cD rfl rfl ?_
    clear cD hn h1 h2
    generalize t8 K x.1 2=K' at*
    refine ai (λk:Nat=>⟨[(30,I k),(29,I x.2.2.length),(28,my x.2.2),(0,.c (.ptr 2 0))], [(4,Ov x),(3,Ov x),(2,P6 p 1),(1,mK K'),(0,dL p)],5,4⟩) (λk=>k≤x.2.2.length∧Hid (bY ((x.2.2.map (bi p.sizes)).take k)=0)) (λk=>x.2.2.length-k) ⟨0, [],⟨by omega,by show _=_;simp[bY]⟩,by simp[dH,gO]⟩ ?_
    rintro k ⟨hk,f⟩
    refine aa ?_
    by_cases n:k<x.2.2.length
    ·have v:k<(x.2.2.map (bi p.sizes)).length:=by simpa using n
     have h4:=gV v f.out
     have h5:=l9 v f.out
     rw[List.getElem_map]at h4 h5
     have cS:=dR i x.2.2[k]
     clear f
     by_cases hz:bi p.sizes x.2.2[k]=0
     ·have HN:=Lib.hid (h4.trans hz)
      clear h4 h5
      repeat' first|simp(disch:=omega)only[go_sem, *,ac n,bP,wrap_i64,hz]|apply ab<;>intro h<;>try omega|refine ae cS (ny (c:=2) (m:=1) rfl rfl rfl) (.inl rfl) ?_
      exact⟨k+1, [],⟨by omega,HN⟩,by omega,by simp[dH,gO]⟩
     ·rw[h5 hz]
      clear h4 h5
      repeat' first|simp(disch:=omega)only[go_sem, *,ac n,bP,wrap_i64,hz]|apply ab<;>intro h<;>try omega|refine ae cS (ny (c:=2) (m:=1) rfl rfl rfl) (.inl rfl) ?_
      refine⟨[], [], ?_⟩
      simp(disch:=omega)only[go_sem,bU]
      simp[dH,gO]
    ·have hz:=f.out
     rw[List.take_of_length_le (by simp;omega)]at hz
     rw[hz]
     clear hz f
     repeat' first|simp(disch:=omega)only[go_sem, *]|apply ab<;>intro h<;>try omega
     refine⟨[], [], ?_⟩
     simp(disch:=omega)only[go_sem,bU]
     simp[dH,gO]
  ·rw[if_pos h2]at cD
   rw[show cg p.sizes taken x=10 by unfold cg;rw[if_neg (not_not_intro h1),if_pos h2]]
   repeat' first|simp(disch:=omega)only[go_sem, *]|apply ab<;>intro h<;>try omega|refine aU (hn _ _ rfl rfl) ?_|refine av cD rfl rfl ?_
   refine⟨[], [], ?_⟩
   simp(disch:=omega)only[go_sem,bU]
   simp[dH,gO]
 ·rw[show Jq K taken x.1=K from if_neg h1]
  have hn:= λmem nx h2 h3=>eg (mem:=mem) (nx:=nx) (c:=2) (m:=1) (p:=p) h2 h3 hT h1 2
  rw[show cg p.sizes taken x=aE taken x.1 by unfold cg;rw[if_pos h1]]
  repeat' first|simp(disch:=omega)only[go_sem, *,h1]|apply ab<;>intro h<;>try omega|refine aU (hn _ _ rfl rfl) ?_
  refine⟨[], [], ?_⟩
  simp(disch:=omega)only[go_sem,bU]
  simp[dH,gO]
section
variable {p q : be} (hs : p.sizes = q.sizes) (hp : p.params = q.params) (hd : p.defs = q.defs)
include hs hp hd
theorem It (vars:List ByteArray) (e:Ex) (l:List Ty):aM p vars e l=aM q vars e l:=by
 obtain⟨s1,w1,p1,d1,o1⟩:=p
 obtain⟨s2,w2,p2,d2,o2⟩:=q
 simp only at hs hp hd
 subst hs hp hd
 rfl
theorem KC (vars:List ByteArray) (e:Ex):dE p vars e=dE q vars e:=by
 refine Ex.ind (p:= λe=>dE p vars e=dE q vars e) (λe ih=> ?_) e
 have key: ∀l:List Ex,(∀a∈l,dE p vars a=dE q vars a)→cp p vars l=cp q vars l:=by
  intro l
  induction l with
  |nil=>intro _;rfl
  |cons a r w=>
   intro h
   simp only[cp]
   rw[h a List.mem_cons_self,w λb hb=>h b (List.mem_cons_of_mem _ hb)]
 rw[kY,kY,key _ ih]
 cases cp q vars e.args with
 |inl x=>rfl
 |inr l=>exact It hs hp hd vars e l
theorem GX (vars:List ByteArray) (e:Ex):aT p vars e=aT q vars e:=by
 unfold aT
 rw[KC hs hp hd vars e]
end
set_option maxRecDepth 20000
open Go.Abs Go.RowKit
set_option maxHeartbeats 4000000 in
theorem oG {p:be} (hf:eR p) (o:ij p) {K:KL} {taken:List ByteArray} (hT:Kt K taken) (hK:Kc p K) (hS: ∀x∈p.sizes,x∈taken) {k:Nat} (hk:k<p.defs.length):
  bb Tryz.prog jh [.c (.ptr 2 0),I k] [(2,P6 p 1),(1,mK K),(0,dL p)] 3 (I (aR p k taken p.defs[k])) [(2,P6 p 1),(1,mK (Jq K taken p.defs[k].name)),(0,dL p)] 3:=by
 refine bb.ofZ (ress:= [I (aR p k taken p.defs[k])]) pV (by simp) λhb=>aa ?_
 have cD:=ra (t:=p.defs[k].ty) p.defs[k].dims.length p.defs[k].red.length
 have u:eR {p with defs:=p.defs.take k}:=AS hf k
 have y:=(hf.2 _ (List.getElem_mem hk)).1
 have z:=(hf.2 _ (List.getElem_mem hk)).2.1
 have cT:=wq u (ar p.defs[k]) (o _ (List.getElem_mem hk))
 rw[GX (p:={p with defs:=p.defs.take k}) (q:=bu p k) rfl rfl rfl]at cT
 have g:bV 22 (p.defs.map br):=aG λx=>rfl
 have cF:=zm p.defs[k]
 have cI:=ph (d:=p.defs[k]) (by omega) (by omega)
 simp only[i5]
 by_cases h1:aE taken p.defs[k].name=0
 ·rw[show Jq K taken p.defs[k].name=t8 K p.defs[k].name 2 from if_pos h1]
  have i:=hK.add hS h1
  have hn:= λmem nx h2 h3=>ew (mem:=mem) (nx:=nx) (c:=2) (m:=1) (p:=p) h2 h3 hT h1 2
  have cA:=nw i p.defs[k] (by omega) (by omega)
  clear hT hK hS i hf u o
  by_cases h2:ju p.defs[k].ty
  ·rw[if_neg (not_not_intro h2)]at cD
   by_cases h3:6<p.defs[k].dims.length∨6<p.defs[k].red.length
   ·rw[if_pos h3]at cD
    rw[show aR p k taken p.defs[k]=11 by unfold aR;rw[if_neg (not_not_intro h1),if_neg (not_not_intro h2),if_pos h3]]
    clear h1 h2 h3 cT cA cF cI
    repeat' first|simp(disch:=omega)only[go_sem, *,ac hk,br,←List.map_take,g,Option.getD_none,Option.getD_some]|apply ab<;>intro h<;>try omega|refine aU (hn _ _ rfl rfl) ?_|refine av cD rfl rfl ?_
    refine⟨[], [], ?_⟩
    simp(disch:=omega)only[go_sem,bU]
    simp[dH,gO]
   ·rw[if_neg h3]at cD
    by_cases h4:aY p.sizes p.sizes (p.defs[k].dims++p.defs[k].red)=0
    ·rw[h4]at cA
     by_cases h5:fj p.defs[k]=0
     ·have hT:(aT (bu p k) (ar p.defs[k]) p.defs[k].body)=(aT {p with wher:= [],defs:=p.defs.take k,outs:= []} (ar p.defs[k]) p.defs[k].body):=rfl
      by_cases h6:(aT (bu p k) (ar p.defs[k]) p.defs[k].body).2=0
      ·by_cases h7:(aT (bu p k) (ar p.defs[k]) p.defs[k].body).1=p.defs[k].ty
       ·rw[show aR p k taken p.defs[k]=0 by unfold aR;rw[if_neg (not_not_intro h1),if_neg (not_not_intro h2),if_neg h3,if_neg (not_not_intro h4),if_neg (not_not_intro h5),←hT,if_neg (not_not_intro h6),if_neg (not_not_intro h7)]]
        clear hT
        generalize aT (bu p k) (ar p.defs[k]) p.defs[k].body=r at*
        obtain⟨r1,r2⟩:=r
        simp only at h6 h7
        subst h7
        clear h1 h2 h3 h4
        repeat' first|simp(disch:=omega)only[go_sem, *,ac hk,br,←List.map_take,g,Option.getD_none,Option.getD_some,h5,h6]|apply ab<;>intro h<;>try omega|refine aU (hn _ _ rfl rfl) ?_|refine av cD rfl rfl ?_|refine ae cA (ny (c:=2) (m:=1) rfl rfl rfl) (.inl rfl) ?_|refine av cF rfl rfl ?_|refine o5 cI rfl rfl ?_|refine av cT rfl rfl ?_
        refine⟨[], [], ?_⟩
        simp(disch:=omega)only[go_sem,bU]
        simp[dH,gO]
       ·rw[show aR p k taken p.defs[k]=10 by unfold aR;rw[if_neg (not_not_intro h1),if_neg (not_not_intro h2),if_neg h3,if_neg (not_not_intro h4),if_neg (not_not_intro h5),←hT,if_neg (not_not_intro h6),if_pos h7]]
        clear hT
        generalize aT (bu p k) (ar p.defs[k]) p.defs[k].body=r at*
        clear h1 h2 h3 h4
        have H7:=Lib.hid h7
        clear h7
        repeat' first|simp(disch:=omega)only[go_sem, *,ac hk,br,←List.map_take,g,Option.getD_none,Option.getD_some,h5,h6]|apply ab<;>intro h<;>try omega|refine aU (hn _ _ rfl rfl) ?_|refine av cD rfl rfl ?_|refine ae cA (ny (c:=2) (m:=1) rfl rfl rfl) (.inl rfl) ?_|refine av cF rfl rfl ?_|refine o5 cI rfl rfl ?_|refine av cT rfl rfl ?_
        all_goals first
         |exact absurd (vP h) H7.out
         |skip
        refine⟨[], [], ?_⟩
        simp(disch:=omega)only[go_sem,bU]
        simp[dH,gO]
      ·rw[show aR p k taken p.defs[k]=(aT (bu p k) (ar p.defs[k]) p.defs[k].body).2 by unfold aR;rw[if_neg (not_not_intro h1),if_neg (not_not_intro h2),if_neg h3,if_neg (not_not_intro h4),if_neg (not_not_intro h5),←hT,if_pos h6]]
       clear hT
       generalize aT (bu p k) (ar p.defs[k]) p.defs[k].body=r at*
       clear h1 h2 h3 h4
       repeat' first|simp(disch:=omega)only[go_sem, *,ac hk,br,←List.map_take,g,Option.getD_none,Option.getD_some,h5,h6]|apply ab<;>intro h<;>try omega|refine aU (hn _ _ rfl rfl) ?_|refine av cD rfl rfl ?_|refine ae cA (ny (c:=2) (m:=1) rfl rfl rfl) (.inl rfl) ?_|refine av cF rfl rfl ?_|refine o5 cI rfl rfl ?_|refine av cT rfl rfl ?_
       refine⟨[], [], ?_⟩
       simp(disch:=omega)only[go_sem,bU]
       simp[dH,gO]
     ·rw[show aR p k taken p.defs[k]=fj p.defs[k] by unfold aR;rw[if_neg (not_not_intro h1),if_neg (not_not_intro h2),if_neg h3,if_neg (not_not_intro h4),if_pos h5]]
      clear h1 h2 h3 h4 cT
      repeat' first|simp(disch:=omega)only[go_sem, *,ac hk,br,←List.map_take,g,Option.getD_none,Option.getD_some,h5]|apply ab<;>intro h<;>try omega|refine aU (hn _ _ rfl rfl) ?_|refine av cD rfl rfl ?_|refine ae cA (ny (c:=2) (m:=1) rfl rfl rfl) (.inl rfl) ?_|refine av cF rfl rfl ?_
      refine⟨[], [], ?_⟩
      simp(disch:=omega)only[go_sem,bU]
      simp[dH,gO]
    ·rw[show aR p k taken p.defs[k]=aY p.sizes p.sizes (p.defs[k].dims++p.defs[k].red) by unfold aR;rw[if_neg (not_not_intro h1),if_neg (not_not_intro h2),if_neg h3,if_pos h4]]
     clear h1 h2 h3 cT cF
     repeat' first|simp(disch:=omega)only[go_sem, *,ac hk,br,←List.map_take,g,Option.getD_none,Option.getD_some,h4]|apply ab<;>intro h<;>try omega|refine aU (hn _ _ rfl rfl) ?_|refine av cD rfl rfl ?_|refine ae cA (ny (c:=2) (m:=1) rfl rfl rfl) (.inl rfl) ?_
     refine⟨[], [], ?_⟩
     simp(disch:=omega)only[go_sem,bU]
     simp[dH,gO]
  ·rw[if_pos h2]at cD
   rw[show aR p k taken p.defs[k]=10 by unfold aR;rw[if_neg (not_not_intro h1),if_pos h2]]
   clear h1 h2 cT cA cF cI
   repeat' first|simp(disch:=omega)only[go_sem, *,ac hk,br,←List.map_take,g,Option.getD_none,Option.getD_some]|apply ab<;>intro h<;>try omega|refine aU (hn _ _ rfl rfl) ?_|refine av cD rfl rfl ?_
   refine⟨[], [], ?_⟩
   simp(disch:=omega)only[go_sem,bU]
   simp[dH,gO]
 ·rw[show Jq K taken p.defs[k].name=K from if_neg h1]
  have hn:= λmem nx h2 h3=>eg (mem:=mem) (nx:=nx) (c:=2) (m:=1) (p:=p) h2 h3 hT h1 2
  rw[show aR p k taken p.defs[k]=aE taken p.defs[k].name by unfold aR;rw[if_pos h1]]
  clear hT hK hS hf u o cT cF cI cD
  repeat' first|simp(disch:=omega)only[go_sem, *,ac hk,br,←List.map_take,g,Option.getD_none,Option.getD_some,h1]|apply ab<;>intro h<;>try omega|refine aU (hn _ _ rfl rfl) ?_
  refine⟨[], [], ?_⟩
  simp(disch:=omega)only[go_sem,bU]
  simp[dH,gO]
end Go.Proofs.YtjhkikmonejkjaaGreatDoor
