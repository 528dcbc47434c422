import Derived.Test.YthkaaahphlneiaaGreatDoorV17j
import Derived.Test.YthkaaahphlneiaaGreatDoorV17i
set_option linter.unusedVariables false
set_option linter.unusedSimpArgs false
set_option maxRecDepth 20000
namespace Go.Proofs.YthkaaahphlneiaaGreatDoor
open Go.Abs Go.RowKit
def Kt (K:KL) (taken:List ByteArray):Prop:= ∀s,sO K s≠0↔s∈taken
theorem qZ {taken:List ByteArray} {s:ByteArray} (h:aO taken s=0):fp s∧ ¬s∈taken:=by
 unfold aO at h
 split at h
 ·cases h
 ·split at h
  ·cases h
  ·exact⟨Classical.not_not.1 ‹_›,‹_›⟩
theorem F9 {taken:List ByteArray} {s:ByteArray} (h: ¬aO taken s=0):(¬fp s∧aO taken s=7)∨(fp s∧s∈taken∧aO taken s=8):=by
 unfold aO at h ⊢
 split
 ·exact .inl ⟨‹_›,rfl⟩
 ·rename_i h1
  rw[if_neg h1]at h
  split
  ·exact .inr ⟨Classical.not_not.1 h1,‹_›,rfl⟩
  ·rename_i h2
   exact absurd (if_neg h2) h
theorem fg {mem:List (Nat×aS)} {nx c m:Nat} {p:bK} {K:KL} (h2:ak mem c=some (RM p m)) (h1:ak mem m=some (mK K)) {s:ByteArray} {taken:List ByteArray} (hT:Kt K taken) (h:aO taken s=0) (k:Int):
  am Tryz.prog fu [.c (.ptr c 0),S s,I k] mem nx (I 0) (cE mem m (mK (uD K s k))) nx:=by
 refine am.of iW (by simp) fun hb=>aa ?_
 obtain⟨hi,hn⟩:=qZ h
 have hz:sO K s=0:=Classical.not_not.1 fun hh=>hn ((hT s).1 hh)
 have hm:=qX s K
 have hs:=I8 s k K
 clear h hn
 simp only[fE]
 cases hL:jl K s with
 |none=>
  rw[hL]at hm
  clear hL hz hT
  repeat' first|simp(disch:=omega) only[go_sem, *,hm,Option.map_none,hs,hi,decide_true,h1,h2]|((with_reducible refine ab ?_ ?_)<;>intro h<;>try omega)|(refine av (br _) rfl rfl ?_)
 |some j=>
  rw[i9 hL]at hz
  rw[hL,hz]at hm
  clear hL hz hT
  repeat' first|simp(disch:=omega) only[go_sem, *,hm,Option.map_some,hs,hi,decide_true,h1,h2]|((with_reducible refine ab ?_ ?_)<;>intro h<;>try omega)|(refine av (br _) rfl rfl ?_)
theorem eT {mem:List (Nat×aS)} {nx c m:Nat} {p:bK} {K:KL} (h2:ak mem c=some (RM p m)) (h1:ak mem m=some (mK K)) {s:ByteArray} {taken:List ByteArray} (hT:Kt K taken) (h: ¬aO taken s=0) (k:Int):
  am Tryz.prog fu [.c (.ptr c 0),S s,I k] mem nx (I (aO taken s)) mem nx:=by
 refine am.of iW (by simp) fun hb=>aa ?_
 have hm:=qX s K
 simp only[fE]
 rcases F9 h with⟨hi,hE⟩|⟨hi,hn,hE⟩
 ·rw[hE]
  clear h hE hm hT
  repeat' first|simp(disch:=omega) only[go_sem, *,hi,decide_false,h1,h2]|((with_reducible refine ab ?_ ?_)<;>intro h<;>try omega)|(refine av (br _) rfl rfl ?_)
 ·rw[hE]
  have hz:=(hT s).2 hn
  clear h hE hn hT
  cases hL:jl K s with
  |none=>exact absurd (no hL) hz
  |some j=>
   rw[i9 hL]at hz
   rw[hL]at hm
   clear hL
   repeat' first|simp(disch:=omega) only[go_sem, *,hm,Option.map_some,hi,decide_true,h1,h2,hz]|((with_reducible refine ab ?_ ?_)<;>intro h<;>try omega)|(refine av (br _) rfl rfl ?_)
noncomputable def Lw (K:KL) (taken:List ByteArray) (s:ByteArray):KL:=if aO taken s=0 then uD K s 2 else K
theorem Kc.add {p:bK} {K:KL} {taken:List ByteArray} {s:ByteArray} (hK:Kc p K) (hS: ∀x∈p.sizes,x∈taken) (h:aO taken s=0):Kc p (uD K s 2):=fun x=>by
 rw[C4]
 by_cases e:s=x
 ·subst e
  rw[if_pos rfl]
  exact⟨fun h=>absurd h (by decide),fun hx=>absurd (hS _ hx) (qZ h).2⟩
 ·rw[if_neg e]
  exact hK x
theorem Kt.add {K:KL} {taken:List ByteArray} {s:ByteArray} (hT:Kt K taken) {k:Int} (hk:k≠0):Kt (uD K s k) (taken++ [s]):=fun x=>by
 rw[C4]
 by_cases e:s=x
 ·subst e
  rw[if_pos rfl]
  exact⟨fun _=>by simp,fun _=>hk⟩
 ·rw[if_neg e,hT x,List.mem_append,List.mem_singleton]
  exact⟨.inl,fun h=>h.resolve_right fun h=>e h.symm⟩
theorem Jj {sizes taken:List ByteArray} {x:pH} (h1:aO taken x.1=0) (h2:l8 x.2.1) (h3: ¬6<x.2.2.length):dC sizes taken x=cQ (x.2.2.map (bq sizes)):=by unfold dC;rw[if_neg (not_not_intro h1),if_neg (not_not_intro h2),if_neg h3]
set_option maxHeartbeats 1000000 in
theorem nE {p:bK} {K:KL} {taken:List ByteArray} (hT:Kt K taken) (hK:Kc p K) (hS: ∀x∈p.sizes,x∈taken) (x:pH):
  am Tryz.prog i0 [.c (.ptr 2 0),Xo x] [(3,RQ x),(2,RM p 1),(1,mK K),(0,d6 p)] 4 (I (dC p.sizes taken x)) [(3,RQ x),(2,RM p 1),(1,mK (Lw K taken x.1)),(0,d6 p)] 4:=by
 refine am.ofZ (ress:= [I (dC p.sizes taken x)]) oH (by simp) fun hb=>aa ?_
 have hl:x.2.2.length≤9223372036854775807:=by
  have:=hb.2.1
  simp[ie,lO,iz]at this
  omega
 have cD:=ue (t:=x.2.1) x.2.2.length
 simp only[iP]
 by_cases h1:aO taken x.1=0
 ·rw[show Lw K taken x.1=uD K x.1 2 from if_pos h1]
  have hK':=hK.add hS h1
  have hn:=fun mem nx h2 h3=>fg (mem:=mem) (nx:=nx) (c:=2) (m:=1) (p:=p) h2 h3 hT h1 2
  by_cases h2:l8 x.2.1
  ·rw[if_neg (not_not_intro h2)]at cD
   by_cases h3:6<x.2.2.length
   ·rw[if_pos h3]at cD
    rw[show dC p.sizes taken x=11 by unfold dC;rw[if_neg (not_not_intro h1),if_neg (not_not_intro h2),if_pos h3]]
    repeat' first|simp(disch:=omega) only[go_sem, *]|((with_reducible refine ab ?_ ?_)<;>intro h<;>try omega)|(refine aq (hn _ _ rfl rfl) ?_)|(refine av cD rfl rfl ?_)
    refine⟨[], [], ?_⟩
    simp(disch:=omega) only[go_sem,bo]
    simp[bT,dS]
   ·rw[if_neg h3]at cD
    rw[Jj h1 h2 h3]
    repeat' first|simp(disch:=omega) only[go_sem, *]|((with_reducible refine ab ?_ ?_)<;>intro h<;>try omega)|(refine aq (hn _ _ rfl rfl) ?_)|(refine av cD rfl rfl ?_)
    clear cD hn h1 h2
    generalize uD K x.1 2=K' at*
    refine aj (fun k:Nat=>⟨[(30,I k),(29,I x.2.2.length),(28,kL x.2.2),(0,.c (.ptr 2 0))], [(4,RQ x),(3,RQ x),(2,RM p 1),(1,mK K'),(0,d6 p)],5,4⟩) (fun k=>k≤x.2.2.length∧Hid (cQ ((x.2.2.map (bq p.sizes)).take k)=0)) (fun k=>x.2.2.length-k) ⟨0, [],⟨by omega,by show _=_;simp[cQ]⟩,by simp[bT,dS]⟩ ?_
    rintro k ⟨hk,hall⟩
    refine aa ?_
    by_cases hlt:k<x.2.2.length
    ·have hlm:k<(x.2.2.map (bq p.sizes)).length:=by simpa using hlt
     have h4:=iD hlm hall.out
     have h5:=m9 hlm hall.out
     rw[List.getElem_map]at h4 h5
     have cS:=eH hK' x.2.2[k]
     clear hall
     by_cases hz:bq p.sizes x.2.2[k]=0
     ·have HN:=Lib.hid (h4.trans hz)
      clear h4 h5
      repeat' first|simp(disch:=omega) only[go_sem, *,ae hlt,bQ,wrap_i64,hz]|((with_reducible refine ab ?_ ?_)<;>intro h<;>try omega)|(refine ah cS (oV (c:=2) (m:=1) rfl rfl rfl) (.inl rfl) ?_)
      exact⟨k+1, [],⟨by omega,HN⟩,by omega,by simp[bT,dS]⟩
     ·rw[h5 hz]
      clear h4 h5
      repeat' first|simp(disch:=omega) only[go_sem, *,ae hlt,bQ,wrap_i64,hz]|((with_reducible refine ab ?_ ?_)<;>intro h<;>try omega)|(refine ah cS (oV (c:=2) (m:=1) rfl rfl rfl) (.inl rfl) ?_)
      refine⟨[], [], ?_⟩
      simp(disch:=omega) only[go_sem,bo]
      simp[bT,dS]
    ·have hz:=hall.out
     rw[List.take_of_length_le (by simp;omega)]at hz
     rw[hz]
     clear hz hall
     repeat' first|simp(disch:=omega) only[go_sem, *]|((with_reducible refine ab ?_ ?_)<;>intro h<;>try omega)
     refine⟨[], [], ?_⟩
     simp(disch:=omega) only[go_sem,bo]
     simp[bT,dS]
  ·rw[if_pos h2]at cD
   rw[show dC p.sizes taken x=10 by unfold dC;rw[if_neg (not_not_intro h1),if_pos h2]]
   repeat' first|simp(disch:=omega) only[go_sem, *]|((with_reducible refine ab ?_ ?_)<;>intro h<;>try omega)|(refine aq (hn _ _ rfl rfl) ?_)|(refine av cD rfl rfl ?_)
   refine⟨[], [], ?_⟩
   simp(disch:=omega) only[go_sem,bo]
   simp[bT,dS]
 ·rw[show Lw K taken x.1=K from if_neg h1]
  have hn:=fun mem nx h2 h3=>eT (mem:=mem) (nx:=nx) (c:=2) (m:=1) (p:=p) h2 h3 hT h1 2
  rw[show dC p.sizes taken x=aO taken x.1 by unfold dC;rw[if_pos h1]]
  repeat' first|simp(disch:=omega) only[go_sem, *,h1]|((with_reducible refine ab ?_ ?_)<;>intro h<;>try omega)|(refine aq (hn _ _ rfl rfl) ?_)
  refine⟨[], [], ?_⟩
  simp(disch:=omega) only[go_sem,bo]
  simp[bT,dS]
section
variable {p q : bK} (hs : p.sizes = q.sizes) (hp : p.params = q.params) (hd : p.defs = q.defs)
include hs hp hd
theorem JA (vars:List ByteArray) (e:Ex) (l:List Ty):aR p vars e l=aR q vars e l:=by
 obtain⟨s1,w1,p1,d1,o1⟩:=p
 obtain⟨s2,w2,p2,d2,o2⟩:=q
 simp only at hs hp hd
 subst hs hp hd
 rfl
theorem No (vars:List ByteArray) (e:Ex):d9 p vars e=d9 q vars e:=by
 refine Ex.ind (p:=fun e=>d9 p vars e=d9 q vars e) (fun e ih=> ?_) e
 have key: ∀l:List Ex,(∀a∈l,d9 p vars a=d9 q vars a)→dF p vars l=dF q vars l:=by
  intro l
  induction l with
  |nil=>intro _;rfl
  |cons a r ihr=>
   intro h
   simp only[dF]
   rw[h a List.mem_cons_self,ihr fun b hb=>h b (List.mem_cons_of_mem _ hb)]
 rw[nM,nM,key _ ih]
 cases dF q vars e.args with
 |inl x=>rfl
 |inr l=>exact JA hs hp hd vars e l
theorem Jr (vars:List ByteArray) (e:Ex):bi p vars e=bi q vars e:=by
 unfold bi
 rw[No hs hp hd vars e]
end
set_option maxRecDepth 20000
open Go.Abs Go.RowKit
set_option maxHeartbeats 4000000 in
theorem pE {p:bK} (hf:j8 p) (h64:sd p) {K:KL} {taken:List ByteArray} (hT:Kt K taken) (hK:Kc p K) (hS: ∀x∈p.sizes,x∈taken) {k:Nat} (hk:k<p.defs.length):
  am Tryz.prog jM [.c (.ptr 2 0),I k] [(2,RM p 1),(1,mK K),(0,d6 p)] 3 (I (bh p k taken p.defs[k])) [(2,RM p 1),(1,mK (Lw K taken p.defs[k].name)),(0,d6 p)] 3:=by
 refine am.ofZ (ress:= [I (bh p k taken p.defs[k])]) rq (by simp) fun hb=>aa ?_
 have cD:=td (t:=p.defs[k].ty) p.defs[k].dims.length p.defs[k].red.length
 have hf':j8 {p with defs:=p.defs.take k}:=Bt hf k
 have hc1:=(hf.2 _ (List.getElem_mem hk)).1
 have hc2:=(hf.2 _ (List.getElem_mem hk)).2.1
 have cT:=xM hf' (aT p.defs[k]) (h64 _ (List.getElem_mem hk))
 rw[Jr (p:={p with defs:=p.defs.take k}) (q:=ce p k) rfl rfl rfl]at cT
 have hRo:bl 22 (p.defs.map cr):=ar fun x=>rfl
 have cF:=AH p.defs[k]
 have cI:=qE (d:=p.defs[k]) (by omega) (by omega)
 simp only[jU]
 by_cases h1:aO taken p.defs[k].name=0
 ·rw[show Lw K taken p.defs[k].name=uD K p.defs[k].name 2 from if_pos h1]
  have hK':=hK.add hS h1
  have hn:=fun mem nx h2 h3=>fg (mem:=mem) (nx:=nx) (c:=2) (m:=1) (p:=p) h2 h3 hT h1 2
  have cA:=oP hK' p.defs[k] (by omega) (by omega)
  clear hT hK hS hK' hf hf' h64
  by_cases h2:l8 p.defs[k].ty
  ·rw[if_neg (not_not_intro h2)]at cD
   by_cases h3:6<p.defs[k].dims.length∨6<p.defs[k].red.length
   ·rw[if_pos h3]at cD
    rw[show bh p k taken p.defs[k]=11 by unfold bh;rw[if_neg (not_not_intro h1),if_neg (not_not_intro h2),if_pos h3]]
    clear h1 h2 h3 cT cA cF cI
    repeat' first|simp(disch:=omega) only[go_sem, *,ae hk,cr,←List.map_take,hRo,Option.getD_none,Option.getD_some]|((with_reducible refine ab ?_ ?_)<;>intro h<;>try omega)|(refine aq (hn _ _ rfl rfl) ?_)|(refine av cD rfl rfl ?_)
    refine⟨[], [], ?_⟩
    simp(disch:=omega) only[go_sem,bo]
    simp[bT,dS]
   ·rw[if_neg h3]at cD
    by_cases h4:bk p.sizes p.sizes (p.defs[k].dims++p.defs[k].red)=0
    ·rw[h4]at cA
     by_cases h5:f8 p.defs[k]=0
     ·have hT:(bi (ce p k) (aT p.defs[k]) p.defs[k].body)=(bi {p with wher:= [],defs:=p.defs.take k,outs:= []} (aT p.defs[k]) p.defs[k].body):=rfl
      by_cases h6:(bi (ce p k) (aT p.defs[k]) p.defs[k].body).2=0
      ·by_cases h7:(bi (ce p k) (aT p.defs[k]) p.defs[k].body).1=p.defs[k].ty
       ·rw[show bh p k taken p.defs[k]=0 by unfold bh;rw[if_neg (not_not_intro h1),if_neg (not_not_intro h2),if_neg h3,if_neg (not_not_intro h4),if_neg (not_not_intro h5),←hT,if_neg (not_not_intro h6),if_neg (not_not_intro h7)]]
        clear hT
        generalize bi (ce p k) (aT p.defs[k]) p.defs[k].body=r at*
        obtain⟨r1,r2⟩:=r
        simp only at h6 h7
        subst h7
        clear h1 h2 h3 h4
        repeat' first|simp(disch:=omega) only[go_sem, *,ae hk,cr,←List.map_take,hRo,Option.getD_none,Option.getD_some,h5,h6]|((with_reducible refine ab ?_ ?_)<;>intro h<;>try omega)|(refine aq (hn _ _ rfl rfl) ?_)|(refine av cD rfl rfl ?_)|(refine ah cA (oV (c:=2) (m:=1) rfl rfl rfl) (.inl rfl) ?_)|(refine av cF rfl rfl ?_)|(refine bS cI rfl rfl ?_)|(refine av cT rfl rfl ?_)
        refine⟨[], [], ?_⟩
        simp(disch:=omega) only[go_sem,bo]
        simp[bT,dS]
       ·rw[show bh p k taken p.defs[k]=10 by unfold bh;rw[if_neg (not_not_intro h1),if_neg (not_not_intro h2),if_neg h3,if_neg (not_not_intro h4),if_neg (not_not_intro h5),←hT,if_neg (not_not_intro h6),if_pos h7]]
        clear hT
        generalize bi (ce p k) (aT p.defs[k]) p.defs[k].body=r at*
        clear h1 h2 h3 h4
        have H7:=Lib.hid h7
        clear h7
        repeat' first|simp(disch:=omega) only[go_sem, *,ae hk,cr,←List.map_take,hRo,Option.getD_none,Option.getD_some,h5,h6]|((with_reducible refine ab ?_ ?_)<;>intro h<;>try omega)|(refine aq (hn _ _ rfl rfl) ?_)|(refine av cD rfl rfl ?_)|(refine ah cA (oV (c:=2) (m:=1) rfl rfl rfl) (.inl rfl) ?_)|(refine av cF rfl rfl ?_)|(refine bS cI rfl rfl ?_)|(refine av cT rfl rfl ?_)
        all_goals first
         |exact absurd (xD h) H7.out
         |skip
        refine⟨[], [], ?_⟩
        simp(disch:=omega) only[go_sem,bo]
        simp[bT,dS]
      ·rw[show bh p k taken p.defs[k]=(bi (ce p k) (aT p.defs[k]) p.defs[k].body).2 by unfold bh;rw[if_neg (not_not_intro h1),if_neg (not_not_intro h2),if_neg h3,if_neg (not_not_intro h4),if_neg (not_not_intro h5),←hT,if_pos h6]]
       clear hT
       generalize bi (ce p k) (aT p.defs[k]) p.defs[k].body=r at*
       clear h1 h2 h3 h4
       repeat' first|simp(disch:=omega) only[go_sem, *,ae hk,cr,←List.map_take,hRo,Option.getD_none,Option.getD_some,h5,h6]|((with_reducible refine ab ?_ ?_)<;>intro h<;>try omega)|(refine aq (hn _ _ rfl rfl) ?_)|(refine av cD rfl rfl ?_)|(refine ah cA (oV (c:=2) (m:=1) rfl rfl rfl) (.inl rfl) ?_)|(refine av cF rfl rfl ?_)|(refine bS cI rfl rfl ?_)|(refine av cT rfl rfl ?_)
       refine⟨[], [], ?_⟩
       simp(disch:=omega) only[go_sem,bo]
       simp[bT,dS]
     ·rw[show bh p k taken p.defs[k]=f8 p.defs[k] by unfold bh;rw[if_neg (not_not_intro h1),if_neg (not_not_intro h2),if_neg h3,if_neg (not_not_intro h4),if_pos h5]]
      clear h1 h2 h3 h4 cT
      repeat' first|simp(disch:=omega) only[go_sem, *,ae hk,cr,←List.map_take,hRo,Option.getD_none,Option.getD_some,h5]|((with_reducible refine ab ?_ ?_)<;>intro h<;>try omega)|(refine aq (hn _ _ rfl rfl) ?_)|(refine av cD rfl rfl ?_)|(refine ah cA (oV (c:=2) (m:=1) rfl rfl rfl) (.inl rfl) ?_)|(refine av cF rfl rfl ?_)
      refine⟨[], [], ?_⟩
      simp(disch:=omega) only[go_sem,bo]
      simp[bT,dS]
    ·rw[show bh p k taken p.defs[k]=bk p.sizes p.sizes (p.defs[k].dims++p.defs[k].red) by unfold bh;rw[if_neg (not_not_intro h1),if_neg (not_not_intro h2),if_neg h3,if_pos h4]]
     clear h1 h2 h3 cT cF
     repeat' first|simp(disch:=omega) only[go_sem, *,ae hk,cr,←List.map_take,hRo,Option.getD_none,Option.getD_some,h4]|((with_reducible refine ab ?_ ?_)<;>intro h<;>try omega)|(refine aq (hn _ _ rfl rfl) ?_)|(refine av cD rfl rfl ?_)|(refine ah cA (oV (c:=2) (m:=1) rfl rfl rfl) (.inl rfl) ?_)
     refine⟨[], [], ?_⟩
     simp(disch:=omega) only[go_sem,bo]
     simp[bT,dS]
  ·rw[if_pos h2]at cD
   rw[show bh p k taken p.defs[k]=10 by unfold bh;rw[if_neg (not_not_intro h1),if_pos h2]]
   clear h1 h2 cT cA cF cI
   repeat' first|simp(disch:=omega) only[go_sem, *,ae hk,cr,←List.map_take,hRo,Option.getD_none,Option.getD_some]|((with_reducible refine ab ?_ ?_)<;>intro h<;>try omega)|(refine aq (hn _ _ rfl rfl) ?_)|(refine av cD rfl rfl ?_)
   refine⟨[], [], ?_⟩
   simp(disch:=omega) only[go_sem,bo]
   simp[bT,dS]
 ·rw[show Lw K taken p.defs[k].name=K from if_neg h1]
  have hn:=fun mem nx h2 h3=>eT (mem:=mem) (nx:=nx) (c:=2) (m:=1) (p:=p) h2 h3 hT h1 2
  rw[show bh p k taken p.defs[k]=aO taken p.defs[k].name by unfold bh;rw[if_pos h1]]
  clear hT hK hS hf hf' h64 cT cF cI cD
  repeat' first|simp(disch:=omega) only[go_sem, *,ae hk,cr,←List.map_take,hRo,Option.getD_none,Option.getD_some,h1]|((with_reducible refine ab ?_ ?_)<;>intro h<;>try omega)|(refine aq (hn _ _ rfl rfl) ?_)
  refine⟨[], [], ?_⟩
  simp(disch:=omega) only[go_sem,bo]
  simp[bT,dS]
end Go.Proofs.YthkaaahphlneiaaGreatDoor
