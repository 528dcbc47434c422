import Derived.Test.YthbcbaembicdbaaGreatDoorV17j
set_option linter.unusedVariables false
set_option linter.unusedSimpArgs false
set_option maxHeartbeats 4000000
set_option maxRecDepth 1000000
namespace Go.Proofs.YthbcbaembicdbaaGreatDoor
open Go.Abs Go.RowKit
def Kt (K:KL) (taken:List ByteArray):Prop:= ∀s,tG K s≠0↔s∈taken
theorem sm {taken:List ByteArray} {s:ByteArray} (h:aS taken s=0):gc s∧ ¬s∈taken:=by
 unfold aS at h
 split at h
 ·cases h
 ·split at h
  ·cases h
  ·exact⟨Classical.not_not.1 ‹_›,‹_›⟩
theorem IX {taken:List ByteArray} {s:ByteArray} (h: ¬aS taken s=0):(¬gc s∧aS taken s=7)∨(gc s∧s∈taken∧aS taken s=8):=by
 unfold aS at h ⊢
 split
 ·exact .inl ⟨‹_›,rfl⟩
 ·rename_i h1
  rw[if_neg h1]at h
  split
  ·exact .inr ⟨Classical.not_not.1 h1,‹_›,rfl⟩
  ·rename_i h2
   exact absurd (if_neg h2) h
theorem fE {mem:List (Nat×bc)} {nx c m:Nat} {p:bI} {K:KL} (h2:am mem c=some (WW p m)) (h1:am mem m=some (mK K)) {s:ByteArray} {taken:List ByteArray} (hT:Kt K taken) (h:aS taken s=0) (k:Int):
  au Tryz.prog fM [.c (.ptr c 0),S s,I k] mem nx (I 0) (dJ mem m (mK (um K s k))) nx:=by
 refine au.of jp (by simp) λhb=>aa ?_
 obtain⟨hi,hn⟩:=sm h
 have hz:tG K s=0:=Classical.not_not.1 λhh=>hn ((hT s).1 hh)
 have hm:=sN s K
 have hs:=K6 s k K
 clear h hn
 conv in fP=>cbv
 cases hL:jK K s with
 |none=>
  rw[hL]at hm
  clear hL hz hT
  repeat' first|simp(disch:=omega)only[go_sem, *,hm,Option.map_none,hs,hi,decide_true,h1,h2]|(with_reducible apply ab)<;>intro h<;>try omega|refine aF (bH _) rfl rfl ?_
 |some j=>
  rw[ja hL]at hz
  rw[hL,hz]at hm
  clear hL hz hT
  repeat' first|simp(disch:=omega)only[go_sem, *,hm,Option.map_some,hs,hi,decide_true,h1,h2]|(with_reducible apply ab)<;>intro h<;>try omega|refine aF (bH _) rfl rfl ?_
theorem fm {mem:List (Nat×bc)} {nx c m:Nat} {p:bI} {K:KL} (h2:am mem c=some (WW p m)) (h1:am mem m=some (mK K)) {s:ByteArray} {taken:List ByteArray} (hT:Kt K taken) (h: ¬aS taken s=0) (k:Int):
  au Tryz.prog fM [.c (.ptr c 0),S s,I k] mem nx (I (aS taken s)) mem nx:=by
 refine au.of jp (by simp) λhb=>aa ?_
 have hm:=sN s K
 conv in fP=>cbv
 rcases IX h with⟨hi,hE⟩|⟨hi,hn,hE⟩
 ·rw[hE]
  clear h hE hm hT
  repeat' first|simp(disch:=omega)only[go_sem, *,hi,decide_false,h1,h2]|(with_reducible apply ab)<;>intro h<;>try omega|refine aF (bH _) rfl rfl ?_
 ·rw[hE]
  have hz:=(hT s).2 hn
  clear h hE hn hT
  cases hL:jK K s with
  |none=>exact absurd (oF hL) hz
  |some j=>
   rw[ja hL]at hz
   rw[hL]at hm
   clear hL
   repeat' first|simp(disch:=omega)only[go_sem, *,hm,Option.map_some,hi,decide_true,h1,h2,hz]|(with_reducible apply ab)<;>intro h<;>try omega|refine aF (bH _) rfl rfl ?_
noncomputable def OP (K:KL) (taken:List ByteArray) (s:ByteArray):KL:=if aS taken s=0 then um K s 2 else K
theorem Kc.add {p:bI} {K:KL} {taken:List ByteArray} {s:ByteArray} (hK:Kc p K) (hS: ∀x∈p.sizes,x∈taken) (h:aS taken s=0):Kc p (um K s 2):=λx=>by
 rw[GB]
 by_cases e:s=x
 ·subst e
  rw[if_pos rfl]
  exact⟨λh=>absurd h (by decide),λhx=>absurd (hS _ hx) (sm h).2⟩
 ·rw[if_neg e]
  exact hK x
theorem Ma {sizes taken:List ByteArray} {x:qZ} (h1:aS taken x.1=0) (h2:nb x.2.1) (h3: ¬6<x.2.2.length):dN sizes taken x=de (x.2.2.map (bE sizes)):=by unfold dN;rw[if_neg (not_not_intro h1),if_neg (not_not_intro h2),if_neg h3]
theorem oL {p:bI} {K:KL} {taken:List ByteArray} (hT:Kt K taken) (hK:Kc p K) (hS: ∀x∈p.sizes,x∈taken) (x:qZ):
  au Tryz.prog jq [.c (.ptr 2 0),abO x] [(3,Xh x),(2,WW p 1),(1,mK K),(0,eV p)] 4 (I (dN p.sizes taken x)) [(3,Xh x),(2,WW p 1),(1,mK (OP K taken x.1)),(0,eV p)] 4:=by
 refine au.ofZ (ress:= [I (dN p.sizes taken x)]) qd (by simp) λhb=>aa ?_
 have hl:x.2.2.length≤9223372036854775807:=by
  have:=hb.2.1
  simp[i5,rF,jS]at this
  omega
 have cD:=we (t:=x.2.1) x.2.2.length
 conv in jm=>cbv
 by_cases h1:aS taken x.1=0
 ·rw[show OP K taken x.1=um K x.1 2 from if_pos h1]
  have i:=hK.add hS h1
  have hn:=λmem nx h2 h3=>fE (mem:=mem) (nx:=nx) (c:=2) (m:=1) (p:=p) h2 h3 hT h1 2
  by_cases h2:nb x.2.1
  ·rw[if_neg (not_not_intro h2)]at cD
   by_cases h3:6<x.2.2.length
   ·rw[if_pos h3]at cD
    rw[show dN p.sizes taken x=11 by unfold dN;rw[if_neg (not_not_intro h1),if_neg (not_not_intro h2),if_pos h3]]
    repeat' first|simp(disch:=omega)only[go_sem, *]|(with_reducible apply ab)<;>intro h<;>try omega|refine ap (hn _ _ rfl rfl) ?_|refine aF cD rfl rfl ?_
    refine⟨[], [], ?_⟩
    simp(disch:=omega)only[go_sem,aR]
    simp[cm,d7]
   ·rw[if_neg h3]at cD
    rw[Ma h1 h2 h3]
    repeat' first|simp(disch:=omega)only[go_sem, *]|(with_reducible apply ab)<;>intro h<;>try omega|refine ap (hn _ _ rfl rfl) ?_|refine aF cD rfl rfl ?_
    clear cD hn h1 h2
    generalize um K x.1 2=K' at*
    refine an (λk:Nat=>⟨[(30,I k),(29,I x.2.2.length),(28,md x.2.2),(0,.c (.ptr 2 0))], [(4,Xh x),(3,Xh x),(2,WW p 1),(1,mK K'),(0,eV p)],5,4⟩) (λk=>k≤x.2.2.length∧Hid (de ((x.2.2.map (bE p.sizes)).take k)=0)) (λk=>x.2.2.length-k) ⟨0, [],⟨by omega,by show _=_;simp[de]⟩,by simp[cm,d7]⟩ ?_
    rintro k ⟨hk,f⟩
    refine aa ?_
    by_cases n:k<x.2.2.length
    ·have v:k<(x.2.2.map (bE p.sizes)).length:=by simpa using n
     have h4:=iR v f.out
     have h5:=oH v f.out
     rw[List.getElem_map]at h4 h5
     have cS:=e7 i x.2.2[k]
     clear f
     by_cases hz:bE p.sizes x.2.2[k]=0
     ·have HN:=Lib.hid (h4.trans hz)
      clear h4 h5
      repeat' first|simp(disch:=omega)only[go_sem, *,ah n,cd,wrap_i64,hz]|(with_reducible apply ab)<;>intro h<;>try omega|refine af cS (pW (c:=2) (m:=1) rfl rfl rfl) (.inl rfl) ?_
      exact⟨k+1, [],⟨by omega,HN⟩,by omega,by simp[cm,d7]⟩
     ·rw[h5 hz]
      clear h4 h5
      repeat' first|simp(disch:=omega)only[go_sem, *,ah n,cd,wrap_i64,hz]|(with_reducible apply ab)<;>intro h<;>try omega|refine af cS (pW (c:=2) (m:=1) rfl rfl rfl) (.inl rfl) ?_
      refine⟨[], [], ?_⟩
      simp(disch:=omega)only[go_sem,aR]
      simp[cm,d7]
    ·have hz:=f.out
     rw[List.take_of_length_le (by simp;omega)]at hz
     rw[hz]
     clear hz f
     repeat' first|simp(disch:=omega)only[go_sem, *]|(with_reducible apply ab)<;>intro h<;>try omega
     refine⟨[], [], ?_⟩
     simp(disch:=omega)only[go_sem,aR]
     simp[cm,d7]
  ·rw[if_pos h2]at cD
   rw[show dN p.sizes taken x=10 by unfold dN;rw[if_neg (not_not_intro h1),if_pos h2]]
   repeat' first|simp(disch:=omega)only[go_sem, *]|(with_reducible apply ab)<;>intro h<;>try omega|refine ap (hn _ _ rfl rfl) ?_|refine aF cD rfl rfl ?_
   refine⟨[], [], ?_⟩
   simp(disch:=omega)only[go_sem,aR]
   simp[cm,d7]
 ·rw[show OP K taken x.1=K from if_neg h1]
  have hn:=λmem nx h2 h3=>fm (mem:=mem) (nx:=nx) (c:=2) (m:=1) (p:=p) h2 h3 hT h1 2
  rw[show dN p.sizes taken x=aS taken x.1 by unfold dN;rw[if_pos h1]]
  repeat' first|simp(disch:=omega)only[go_sem, *,h1]|(with_reducible apply ab)<;>intro h<;>try omega|refine ap (hn _ _ rfl rfl) ?_
  refine⟨[], [], ?_⟩
  simp(disch:=omega)only[go_sem,aR]
  simp[cm,d7]
section
variable {p q : bI} (hs : p.sizes = q.sizes) (hp : p.params = q.params) (hd : p.defs = q.defs)
include hs hp hd
theorem LE (vars:List ByteArray) (e:Ex) (l:List Ty):aZ p vars e l=aZ q vars e l:=by
 obtain⟨s1,w1,p1,d1,o1⟩:=p
 obtain⟨s2,w2,p2,d2,o2⟩:=q
 simp only at hs hp hd
 subst hs hp hd
 rfl
theorem Q4 (vars:List ByteArray) (e:Ex):eA p vars e=eA q vars e:=by
 refine Ex.ind (p:=λe=>eA p vars e=eA q vars e) (λe ih=> ?_) e
 have key: ∀l:List Ex,(∀a∈l,eA p vars a=eA q vars a)→dO p vars l=dO q vars l:=by
  intro l
  induction l with
  |nil=>intro _;rfl
  |cons a r w=>
   intro h
   simp only[dO]
   rw[h a List.mem_cons_self,w λb hb=>h b (List.mem_cons_of_mem _ hb)]
 rw[oT,oT,key _ ih]
 cases dO q vars e.args with
 |inl x=>rfl
 |inr l=>exact LE hs hp hd vars e l
theorem Mz (vars:List ByteArray) (e:Ex):bu p vars e=bu q vars e:=by
 unfold bu
 rw[Q4 hs hp hd vars e]
end
set_option maxHeartbeats 4000000
set_option maxRecDepth 1000000
open Go.Abs Go.RowKit
theorem rg {p:bI} (hf:j0 p) (o:pR p) {K:KL} {taken:List ByteArray} (hT:Kt K taken) (hK:Kc p K) (hS: ∀x∈p.sizes,x∈taken) {k:Nat} (hk:k<p.defs.length):
  au Tryz.prog kd [.c (.ptr 2 0),I k] [(2,WW p 1),(1,mK K),(0,eV p)] 3 (I (br p k taken p.defs[k])) [(2,WW p 1),(1,mK (OP K taken p.defs[k].name)),(0,eV p)] 3:=by
 refine au.ofZ (ress:= [I (br p k taken p.defs[k])]) sq (by simp) λhb=>aa ?_
 have cD:=uD (t:=p.defs[k].ty) p.defs[k].dims.length p.defs[k].red.length
 have u:j0 {p with defs:=p.defs.take k}:=DO hf k
 have y:=(hf.2 _ (List.getElem_mem hk)).1
 have z:=(hf.2 _ (List.getElem_mem hk)).2.1
 have cT:=za u (aW p.defs[k]) (o _ (List.getElem_mem hk))
 rw[Mz (p:={p with defs:=p.defs.take k}) (q:=cM p k) rfl rfl rfl]at cT
 have g:bl 22 (p.defs.map da):=av λx=>rfl
 have cF:=BX p.defs[k]
 have cI:=sR (d:=p.defs[k]) (by omega) (by omega)
 conv in j9=>cbv
 by_cases h1:aS taken p.defs[k].name=0
 ·rw[show OP K taken p.defs[k].name=um K p.defs[k].name 2 from if_pos h1]
  have i:=hK.add hS h1
  have hn:=λmem nx h2 h3=>fE (mem:=mem) (nx:=nx) (c:=2) (m:=1) (p:=p) h2 h3 hT h1 2
  have cA:=qc i p.defs[k] (by omega) (by omega)
  clear hT hK hS i hf u o
  by_cases h2:nb p.defs[k].ty
  ·rw[if_neg (not_not_intro h2)]at cD
   by_cases h3:6<p.defs[k].dims.length∨6<p.defs[k].red.length
   ·rw[if_pos h3]at cD
    rw[show br p k taken p.defs[k]=11 by unfold br;rw[if_neg (not_not_intro h1),if_neg (not_not_intro h2),if_pos h3]]
    clear h1 h2 h3 cT cA cF cI
    repeat' first|simp(disch:=omega)only[go_sem, *,ah hk,da,←List.map_take,g,Option.getD_none,Option.getD_some]|(with_reducible apply ab)<;>intro h<;>try omega|refine ap (hn _ _ rfl rfl) ?_|refine aF cD rfl rfl ?_
    refine⟨[], [], ?_⟩
    simp(disch:=omega)only[go_sem,aR]
    simp[cm,d7]
   ·rw[if_neg h3]at cD
    by_cases h4:bB p.sizes p.sizes (p.defs[k].dims++p.defs[k].red)=0
    ·rw[h4]at cA
     by_cases h5:gy p.defs[k]=0
     ·have hT:(bu (cM p k) (aW p.defs[k]) p.defs[k].body)=(bu {p with wher:= [],defs:=p.defs.take k,outs:= []} (aW p.defs[k]) p.defs[k].body):=rfl
      by_cases h6:(bu (cM p k) (aW p.defs[k]) p.defs[k].body).2=0
      ·by_cases h7:(bu (cM p k) (aW p.defs[k]) p.defs[k].body).1=p.defs[k].ty
       ·rw[show br p k taken p.defs[k]=0 by unfold br;rw[if_neg (not_not_intro h1),if_neg (not_not_intro h2),if_neg h3,if_neg (not_not_intro h4),if_neg (not_not_intro h5),←hT,if_neg (not_not_intro h6),if_neg (not_not_intro h7)]]
        clear hT
        generalize bu (cM p k) (aW p.defs[k]) p.defs[k].body=r at*
        obtain⟨r1,r2⟩:=r
        simp only at h6 h7
        subst h7
        clear h1 h2 h3 h4
        repeat' first|simp(disch:=omega)only[go_sem, *,ah hk,da,←List.map_take,g,Option.getD_none,Option.getD_some,h5,h6]|(with_reducible apply ab)<;>intro h<;>try omega|refine ap (hn _ _ rfl rfl) ?_|refine aF cD rfl rfl ?_|refine af cA (pW (c:=2) (m:=1) rfl rfl rfl) (.inl rfl) ?_|refine aF cF rfl rfl ?_|refine cg cI rfl rfl ?_|refine aF cT rfl rfl ?_
        refine⟨[], [], ?_⟩
        simp(disch:=omega)only[go_sem,aR]
        simp[cm,d7]
       ·rw[show br p k taken p.defs[k]=10 by unfold br;rw[if_neg (not_not_intro h1),if_neg (not_not_intro h2),if_neg h3,if_neg (not_not_intro h4),if_neg (not_not_intro h5),←hT,if_neg (not_not_intro h6),if_pos h7]]
        clear hT
        generalize bu (cM p k) (aW p.defs[k]) p.defs[k].body=r at*
        clear h1 h2 h3 h4
        have H7:=Lib.hid h7
        clear h7
        repeat' first|simp(disch:=omega)only[go_sem, *,ah hk,da,←List.map_take,g,Option.getD_none,Option.getD_some,h5,h6]|(with_reducible apply ab)<;>intro h<;>try omega|refine ap (hn _ _ rfl rfl) ?_|refine aF cD rfl rfl ?_|refine af cA (pW (c:=2) (m:=1) rfl rfl rfl) (.inl rfl) ?_|refine aF cF rfl rfl ?_|refine cg cI rfl rfl ?_|refine aF cT rfl rfl ?_
        all_goals first
         |exact absurd (yX h) H7.out
         |skip
        refine⟨[], [], ?_⟩
        simp(disch:=omega)only[go_sem,aR]
        simp[cm,d7]
      ·rw[show br p k taken p.defs[k]=(bu (cM p k) (aW p.defs[k]) p.defs[k].body).2 by unfold br;rw[if_neg (not_not_intro h1),if_neg (not_not_intro h2),if_neg h3,if_neg (not_not_intro h4),if_neg (not_not_intro h5),←hT,if_pos h6]]
       clear hT
       generalize bu (cM p k) (aW p.defs[k]) p.defs[k].body=r at*
       clear h1 h2 h3 h4
       repeat' first|simp(disch:=omega)only[go_sem, *,ah hk,da,←List.map_take,g,Option.getD_none,Option.getD_some,h5,h6]|(with_reducible apply ab)<;>intro h<;>try omega|refine ap (hn _ _ rfl rfl) ?_|refine aF cD rfl rfl ?_|refine af cA (pW (c:=2) (m:=1) rfl rfl rfl) (.inl rfl) ?_|refine aF cF rfl rfl ?_|refine cg cI rfl rfl ?_|refine aF cT rfl rfl ?_
       refine⟨[], [], ?_⟩
       simp(disch:=omega)only[go_sem,aR]
       simp[cm,d7]
     ·rw[show br p k taken p.defs[k]=gy p.defs[k] by unfold br;rw[if_neg (not_not_intro h1),if_neg (not_not_intro h2),if_neg h3,if_neg (not_not_intro h4),if_pos h5]]
      clear h1 h2 h3 h4 cT
      repeat' first|simp(disch:=omega)only[go_sem, *,ah hk,da,←List.map_take,g,Option.getD_none,Option.getD_some,h5]|(with_reducible apply ab)<;>intro h<;>try omega|refine ap (hn _ _ rfl rfl) ?_|refine aF cD rfl rfl ?_|refine af cA (pW (c:=2) (m:=1) rfl rfl rfl) (.inl rfl) ?_|refine aF cF rfl rfl ?_
      refine⟨[], [], ?_⟩
      simp(disch:=omega)only[go_sem,aR]
      simp[cm,d7]
    ·rw[show br p k taken p.defs[k]=bB p.sizes p.sizes (p.defs[k].dims++p.defs[k].red) by unfold br;rw[if_neg (not_not_intro h1),if_neg (not_not_intro h2),if_neg h3,if_pos h4]]
     clear h1 h2 h3 cT cF
     repeat' first|simp(disch:=omega)only[go_sem, *,ah hk,da,←List.map_take,g,Option.getD_none,Option.getD_some,h4]|(with_reducible apply ab)<;>intro h<;>try omega|refine ap (hn _ _ rfl rfl) ?_|refine aF cD rfl rfl ?_|refine af cA (pW (c:=2) (m:=1) rfl rfl rfl) (.inl rfl) ?_
     refine⟨[], [], ?_⟩
     simp(disch:=omega)only[go_sem,aR]
     simp[cm,d7]
  ·rw[if_pos h2]at cD
   rw[show br p k taken p.defs[k]=10 by unfold br;rw[if_neg (not_not_intro h1),if_pos h2]]
   clear h1 h2 cT cA cF cI
   repeat' first|simp(disch:=omega)only[go_sem, *,ah hk,da,←List.map_take,g,Option.getD_none,Option.getD_some]|(with_reducible apply ab)<;>intro h<;>try omega|refine ap (hn _ _ rfl rfl) ?_|refine aF cD rfl rfl ?_
   refine⟨[], [], ?_⟩
   simp(disch:=omega)only[go_sem,aR]
   simp[cm,d7]
 ·rw[show OP K taken p.defs[k].name=K from if_neg h1]
  have hn:=λmem nx h2 h3=>fm (mem:=mem) (nx:=nx) (c:=2) (m:=1) (p:=p) h2 h3 hT h1 2
  rw[show br p k taken p.defs[k]=aS taken p.defs[k].name by unfold br;rw[if_pos h1]]
  clear hT hK hS hf u o cT cF cI cD
  repeat' first|simp(disch:=omega)only[go_sem, *,ah hk,da,←List.map_take,g,Option.getD_none,Option.getD_some,h1]|(with_reducible apply ab)<;>intro h<;>try omega|refine ap (hn _ _ rfl rfl) ?_
  refine⟨[], [], ?_⟩
  simp(disch:=omega)only[go_sem,aR]
  simp[cm,d7]
end Go.Proofs.YthbcbaembicdbaaGreatDoor
