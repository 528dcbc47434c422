import Derived.Test.YtiapgekjmcjjgaaGreatDoorV17e
set_option maxHeartbeats 4000000
set_option linter.unusedVariables false
set_option linter.unusedSimpArgs false
set_option maxRecDepth 1000000
open Go.Proofs.Tryz renaming prog→Ya
namespace Go.Proofs.YtiapgekjmcjjgaaGreatDoor
open Go.Abs Go.RowKit
theorem kz (d:uu):ac Ya 92 [Ia d] (I (f8 d)):=by
 refine ac.of ue (by simp) λhb=>aa ?_
 conv in bh _ _=>cbv
 repeat' first|simp(disch:=omega)only[go_sem, *,KS]|apply ab<;>intro h<;>try omega
 all_goals(refine IE ?_;unfold f8;grind)
theorem j9 {d:uu} (h1:d.dims.length≤1000) (h2:d.red.length≤1000):ac Ya 94 [Ia d] (.c (.pure (c7 (aS d)))):=by
 refine ac.of sH (by simp) λhb=>aa ?_
 conv in bh _ _=>cbv
 repeat' first|simp(disch:=omega)only[go_sem, *]|apply ab<;>intro h<;>try omega
 refine dv 3 9 1 rfl (by decide) ?_
 refine ai (λk:Nat=>⟨[(4,I k),(3,.c (.ref 1)),(1,.c (.ptr 0 0))], [(1,.arr 9 1 ((d.dims.take k).map λa=> [pS a.1])),(0,L0 d)],2,0⟩) (λk=>k≤d.dims.length) (λk=>d.dims.length-k) ⟨0, [],by omega,by simp⟩ ?_
 intro k hk
 refine aa ?_
 by_cases f:k<d.dims.length
 ·have ht:(d.dims.take k).map (λa:gU=> [pS a.1])++ [[pS d.dims[k].1]]=(d.dims.take (k+1)).map λa=> [pS a.1]:=by rw[List.take_succ_eq_append_getElem f,List.map_append];rfl
  have HT:=Lib.hid ht
  clear ht
  repeat' first|simp(disch:=omega)only[go_sem, *,ah f,fg,wrap_i64]|apply ab<;>intro h<;>try omega|refine aA rfl (by intro h;cases h) (an rfl) (by simp;omega) (by simp;omega) ?_
  rw[HT.out]
  exact⟨k+1, [(1,2)],by omega,by omega,by simp⟩
 ·repeat' first|simp(disch:=omega)only[go_sem, *]|apply ab<;>intro h<;>try omega
  refine ai (λk:Nat=>⟨[(5,I k),(3,.c (.ref 1)),(1,.c (.ptr 0 0))], [(1,.arr 9 1 (d.dims.map (λa=> [pS a.1])++(d.red.take k).map λa=> [pS a.1])),(0,L0 d)],2,0⟩) (λk=>k≤d.red.length) (λk=>d.red.length-k) ⟨0, [],by omega,by rw[List.take_of_length_le (by omega)];simp⟩ ?_
  clear f hk
  intro k hk
  refine aa ?_
  by_cases f:k<d.red.length
  ·have ht:d.dims.map (λa:gU=> [pS a.1])++(d.red.take k).map (λa:gU=> [pS a.1])++ [[pS d.red[k].1]]=d.dims.map (λa:gU=> [pS a.1])++(d.red.take (k+1)).map λa=> [pS a.1]:=by rw[List.take_succ_eq_append_getElem f,List.map_append,List.append_assoc];rfl
   have HT:=Lib.hid ht
   clear ht
   repeat' first|simp(disch:=omega)only[go_sem, *,ah f,fg,wrap_i64]|apply ab<;>intro h<;>try omega|refine aA rfl (by intro h;cases h) (an rfl) (by simp;omega) (by simp;omega) ?_
   rw[HT.out]
   exact⟨k+1, [(1,2)],by omega,by omega,by simp⟩
  ·repeat' first|simp(disch:=omega)only[go_sem, *]|apply ab<;>intro h<;>try omega
   rw[List.take_of_length_le (by omega)]
   simp[aS,List.map_map,Function.comp_def]
theorem jM {p:bG} (hf:iR p) (o:kI p) (hc:jf p) {k:Nat} (hk:k<p.defs.length) (taken:List ByteArray):ac Ya 47 [gy p,I k,.c (.pure (c7 taken))] (I (bt p k taken p.defs[k])):=by
 refine ac.of FS (by simp) λhb=>aa ?_
 have cT:=wC (xp hf k) (aS p.defs[k]) (o _ (List.getElem_mem hk))
 have A:=hc.1
 have q:aK 22 (p.defs.map di):=ar λx=>rfl
 simp only[xH]
 by_cases h1:aP taken p.defs[k].name=0
 ·by_cases h2:kU p.defs[k].ty
  ·by_cases h3:6<p.defs[k].dims.length∨6<p.defs[k].red.length
   ·rw[show bt p k taken p.defs[k]=11 by unfold bt;rw[if_neg (not_not_intro h1),if_neg (not_not_intro h2),if_pos h3]]
    repeat' first|simp(disch:=omega)only[go_sem, *,ah hk,di,h1,h2,decide_true]|apply ab<;>intro h<;>try omega|refine aq (aC _ _) rfl rfl ?_|refine aq (bX p.defs[k].ty) rfl rfl ?_
   ·by_cases hd:p.defs[k].dims= []
    ·have cA:=qy p.defs[k].red p.sizes (by omega) (by omega)
     have cR:=kz p.defs[k]
     have cI:=j9 (d:=p.defs[k]) (by omega) (by omega)
     simp only[Ia,hd]at cR cI
     by_cases h4:bF p.sizes p.sizes (p.defs[k].dims++p.defs[k].red)=0
     ·by_cases h5:f8 p.defs[k]=0
      ·have hT:(bv (cU p k) (aS p.defs[k]) p.defs[k].body)=(bv {p with wher:= [],defs:=p.defs.take k,outs:= []} (aS p.defs[k]) p.defs[k].body):=rfl
       by_cases h6:(bv (cU p k) (aS p.defs[k]) p.defs[k].body).2=0
       ·by_cases h7:(bv (cU p k) (aS p.defs[k]) p.defs[k].body).1=p.defs[k].ty
        ·rw[show bt p k taken p.defs[k]=0 by unfold bt;rw[if_neg (not_not_intro h1),if_neg (not_not_intro h2),if_neg h3,if_neg (not_not_intro h4),if_neg (not_not_intro h5),←hT,if_neg (not_not_intro h6),if_neg (not_not_intro h7)]]
         clear hT
         generalize bv (cU p k) (aS p.defs[k]) p.defs[k].body=r at*
         obtain⟨r1,r2⟩:=r
         simp only at h6 h7
         subst h7
         have i:bF p.sizes p.sizes p.defs[k].red=0:=by rw[hd,List.nil_append]at h4;exact h4
         repeat' first|simp(disch:=omega)only[go_sem, *,ah hk,di,h1,h2,i,h5,h6,decide_true,←List.map_take,q,Option.getD_none,Option.getD_some,hd]|apply ab<;>intro h<;>try omega|apply af|(with_reducible refine ag (λh=> ?_) ?_)|refine aq (aC _ _) rfl rfl ?_|refine aq (bX p.defs[k].ty) rfl rfl ?_|refine aq cA rfl rfl ?_|refine dy aZ ?_|refine cN aZ (ar λx=>rfl) (by simp;omega) (by simp;omega) ?_|refine aq cR rfl rfl ?_|refine aW cI rfl rfl ?_|refine aq cT rfl rfl ?_
        ·rw[show bt p k taken p.defs[k]=10 by unfold bt;rw[if_neg (not_not_intro h1),if_neg (not_not_intro h2),if_neg h3,if_neg (not_not_intro h4),if_neg (not_not_intro h5),←hT,if_neg (not_not_intro h6),if_pos h7]]
         clear hT
         generalize bv (cU p k) (aS p.defs[k]) p.defs[k].body=r at*
         have i:bF p.sizes p.sizes p.defs[k].red=0:=by rw[hd,List.nil_append]at h4;exact h4
         repeat' first|simp(disch:=omega)only[go_sem, *,ah hk,di,h1,h2,i,h5,h6,decide_true,←List.map_take,q,Option.getD_none,Option.getD_some,hd]|apply ab<;>intro h<;>try omega|apply af|(with_reducible refine ag (λh=> ?_) ?_)|refine aq (aC _ _) rfl rfl ?_|refine aq (bX p.defs[k].ty) rfl rfl ?_|refine aq cA rfl rfl ?_|refine dy aZ ?_|refine cN aZ (ar λx=>rfl) (by simp;omega) (by simp;omega) ?_|refine aq cR rfl rfl ?_|refine aW cI rfl rfl ?_|refine aq cT rfl rfl ?_
         all_goals first
          |exact absurd (tG h) h7
          |rfl
       ·rw[show bt p k taken p.defs[k]=(bv (cU p k) (aS p.defs[k]) p.defs[k].body).2 by unfold bt;rw[if_neg (not_not_intro h1),if_neg (not_not_intro h2),if_neg h3,if_neg (not_not_intro h4),if_neg (not_not_intro h5),←hT,if_pos h6]]
        clear hT
        generalize bv (cU p k) (aS p.defs[k]) p.defs[k].body=r at*
        have i:bF p.sizes p.sizes p.defs[k].red=0:=by rw[hd,List.nil_append]at h4;exact h4
        repeat' first|simp(disch:=omega)only[go_sem, *,ah hk,di,h1,h2,i,h5,h6,decide_true,←List.map_take,q,Option.getD_none,Option.getD_some,hd]|apply ab<;>intro h<;>try omega|apply af|(with_reducible refine ag (λh=> ?_) ?_)|refine aq (aC _ _) rfl rfl ?_|refine aq (bX p.defs[k].ty) rfl rfl ?_|refine aq cA rfl rfl ?_|refine dy aZ ?_|refine cN aZ (ar λx=>rfl) (by simp;omega) (by simp;omega) ?_|refine aq cR rfl rfl ?_|refine aW cI rfl rfl ?_|refine aq cT rfl rfl ?_
      ·rw[show bt p k taken p.defs[k]=f8 p.defs[k] by unfold bt;rw[if_neg (not_not_intro h1),if_neg (not_not_intro h2),if_neg h3,if_neg (not_not_intro h4),if_pos h5]]
       have i:bF p.sizes p.sizes p.defs[k].red=0:=by rw[hd,List.nil_append]at h4;exact h4
       repeat' first|simp(disch:=omega)only[go_sem, *,ah hk,di,h1,h2,i,h5,decide_true,hd]|apply ab<;>intro h<;>try omega|apply af|(with_reducible refine ag (λh=> ?_) ?_)|refine aq (aC _ _) rfl rfl ?_|refine aq (bX p.defs[k].ty) rfl rfl ?_|refine aq cA rfl rfl ?_|refine dy aZ ?_|refine cN aZ (ar λx=>rfl) (by simp;omega) (by simp;omega) ?_|refine aq cR rfl rfl ?_
     ·rw[show bt p k taken p.defs[k]=bF p.sizes p.sizes (p.defs[k].dims++p.defs[k].red) by unfold bt;rw[if_neg (not_not_intro h1),if_neg (not_not_intro h2),if_neg h3,if_pos h4]]
      have i: ¬bF p.sizes p.sizes p.defs[k].red=0:=by rw[hd,List.nil_append]at h4;exact h4
      repeat' first|simp(disch:=omega)only[go_sem, *,ah hk,di,h1,h2,i,decide_true,hd]|apply ab<;>intro h<;>try omega|apply af|(with_reducible refine ag (λh=> ?_) ?_)|refine aq (aC _ _) rfl rfl ?_|refine aq (bX p.defs[k].ty) rfl rfl ?_|refine aq cA rfl rfl ?_|refine dy aZ ?_|refine cN aZ (ar λx=>rfl) (by simp;omega) (by simp;omega) ?_
    ·have cA:=qy (p.defs[k].dims++p.defs[k].red) p.sizes (by simp;omega) (by omega)
     rw[show i6 fg (p.defs[k].dims++p.defs[k].red)= .c (.pure (.slice (p.defs[k].dims.map fg++p.defs[k].red.map fg))) by show AV.c (.pure (.slice (List.map fg (_++_))))=_;rw[List.map_append]]at cA
     have cR:=kz p.defs[k]
     have cI:=j9 (d:=p.defs[k]) (by omega) (by omega)
     by_cases h4:bF p.sizes p.sizes (p.defs[k].dims++p.defs[k].red)=0
     ·by_cases h5:f8 p.defs[k]=0
      ·have hT:(bv (cU p k) (aS p.defs[k]) p.defs[k].body)=(bv {p with wher:= [],defs:=p.defs.take k,outs:= []} (aS p.defs[k]) p.defs[k].body):=rfl
       by_cases h6:(bv (cU p k) (aS p.defs[k]) p.defs[k].body).2=0
       ·by_cases h7:(bv (cU p k) (aS p.defs[k]) p.defs[k].body).1=p.defs[k].ty
        ·rw[show bt p k taken p.defs[k]=0 by unfold bt;rw[if_neg (not_not_intro h1),if_neg (not_not_intro h2),if_neg h3,if_neg (not_not_intro h4),if_neg (not_not_intro h5),←hT,if_neg (not_not_intro h6),if_neg (not_not_intro h7)]]
         clear hT
         generalize bv (cU p k) (aS p.defs[k]) p.defs[k].body=r at*
         obtain⟨r1,r2⟩:=r
         simp only at h6 h7
         subst h7
         have i:bF p.sizes p.sizes (p.defs[k].dims++p.defs[k].red)=0:=h4
         repeat' first|simp(disch:=omega)only[go_sem, *,ah hk,di,h1,h2,i,h5,h6,decide_true,←List.map_take,q,Option.getD_none,Option.getD_some]|apply ab<;>intro h<;>try omega|apply af|(with_reducible refine ag (λh=> ?_) ?_)|refine aq (aC _ _) rfl rfl ?_|refine aq (bX p.defs[k].ty) rfl rfl ?_|refine aq cA rfl rfl ?_|refine c8 aZ (ar λx=>rfl) (by simpa using hd) (by simp;omega) (by simp;omega) ?_|refine aA rfl (by intro h;cases h) (ar λx=>rfl) (by simp;omega) (by simp;omega) ?_|refine aq cR rfl rfl ?_|refine aW cI rfl rfl ?_|refine aq cT rfl rfl ?_
        ·rw[show bt p k taken p.defs[k]=10 by unfold bt;rw[if_neg (not_not_intro h1),if_neg (not_not_intro h2),if_neg h3,if_neg (not_not_intro h4),if_neg (not_not_intro h5),←hT,if_neg (not_not_intro h6),if_pos h7]]
         clear hT
         generalize bv (cU p k) (aS p.defs[k]) p.defs[k].body=r at*
         have i:bF p.sizes p.sizes (p.defs[k].dims++p.defs[k].red)=0:=h4
         repeat' first|simp(disch:=omega)only[go_sem, *,ah hk,di,h1,h2,i,h5,h6,decide_true,←List.map_take,q,Option.getD_none,Option.getD_some]|apply ab<;>intro h<;>try omega|apply af|(with_reducible refine ag (λh=> ?_) ?_)|refine aq (aC _ _) rfl rfl ?_|refine aq (bX p.defs[k].ty) rfl rfl ?_|refine aq cA rfl rfl ?_|refine c8 aZ (ar λx=>rfl) (by simpa using hd) (by simp;omega) (by simp;omega) ?_|refine aA rfl (by intro h;cases h) (ar λx=>rfl) (by simp;omega) (by simp;omega) ?_|refine aq cR rfl rfl ?_|refine aW cI rfl rfl ?_|refine aq cT rfl rfl ?_
         all_goals first
          |exact absurd (tG h) h7
          |rfl
       ·rw[show bt p k taken p.defs[k]=(bv (cU p k) (aS p.defs[k]) p.defs[k].body).2 by unfold bt;rw[if_neg (not_not_intro h1),if_neg (not_not_intro h2),if_neg h3,if_neg (not_not_intro h4),if_neg (not_not_intro h5),←hT,if_pos h6]]
        clear hT
        generalize bv (cU p k) (aS p.defs[k]) p.defs[k].body=r at*
        have i:bF p.sizes p.sizes (p.defs[k].dims++p.defs[k].red)=0:=h4
        repeat' first|simp(disch:=omega)only[go_sem, *,ah hk,di,h1,h2,i,h5,h6,decide_true,←List.map_take,q,Option.getD_none,Option.getD_some]|apply ab<;>intro h<;>try omega|apply af|(with_reducible refine ag (λh=> ?_) ?_)|refine aq (aC _ _) rfl rfl ?_|refine aq (bX p.defs[k].ty) rfl rfl ?_|refine aq cA rfl rfl ?_|refine c8 aZ (ar λx=>rfl) (by simpa using hd) (by simp;omega) (by simp;omega) ?_|refine aA rfl (by intro h;cases h) (ar λx=>rfl) (by simp;omega) (by simp;omega) ?_|refine aq cR rfl rfl ?_|refine aW cI rfl rfl ?_|refine aq cT rfl rfl ?_
      ·rw[show bt p k taken p.defs[k]=f8 p.defs[k] by unfold bt;rw[if_neg (not_not_intro h1),if_neg (not_not_intro h2),if_neg h3,if_neg (not_not_intro h4),if_pos h5]]
       have i:bF p.sizes p.sizes (p.defs[k].dims++p.defs[k].red)=0:=h4
       repeat' first|simp(disch:=omega)only[go_sem, *,ah hk,di,h1,h2,i,h5,decide_true]|apply ab<;>intro h<;>try omega|apply af|(with_reducible refine ag (λh=> ?_) ?_)|refine aq (aC _ _) rfl rfl ?_|refine aq (bX p.defs[k].ty) rfl rfl ?_|refine aq cA rfl rfl ?_|refine c8 aZ (ar λx=>rfl) (by simpa using hd) (by simp;omega) (by simp;omega) ?_|refine aA rfl (by intro h;cases h) (ar λx=>rfl) (by simp;omega) (by simp;omega) ?_|refine aq cR rfl rfl ?_
     ·rw[show bt p k taken p.defs[k]=bF p.sizes p.sizes (p.defs[k].dims++p.defs[k].red) by unfold bt;rw[if_neg (not_not_intro h1),if_neg (not_not_intro h2),if_neg h3,if_pos h4]]
      have i: ¬bF p.sizes p.sizes (p.defs[k].dims++p.defs[k].red)=0:=h4
      repeat' first|simp(disch:=omega)only[go_sem, *,ah hk,di,h1,h2,i,decide_true]|apply ab<;>intro h<;>try omega|apply af|(with_reducible refine ag (λh=> ?_) ?_)|refine aq (aC _ _) rfl rfl ?_|refine aq (bX p.defs[k].ty) rfl rfl ?_|refine aq cA rfl rfl ?_|refine c8 aZ (ar λx=>rfl) (by simpa using hd) (by simp;omega) (by simp;omega) ?_|refine aA rfl (by intro h;cases h) (ar λx=>rfl) (by simp;omega) (by simp;omega) ?_
  ·rw[show bt p k taken p.defs[k]=10 by unfold bt;rw[if_neg (not_not_intro h1),if_pos h2]]
   repeat' first|simp(disch:=omega)only[go_sem, *,ah hk,di,h1,h2,decide_false]|apply ab<;>intro h<;>try omega|refine aq (aC _ _) rfl rfl ?_|refine aq (bX p.defs[k].ty) rfl rfl ?_
 ·rw[show bt p k taken p.defs[k]=aP taken p.defs[k].name by unfold bt;rw[if_pos h1]]
  repeat' first|simp(disch:=omega)only[go_sem, *,ah hk,di,h1]|apply ab<;>intro h<;>try omega|refine aq (aC _ _) rfl rfl ?_|refine aq (bX p.defs[k].ty) rfl rfl ?_
set_option maxRecDepth 20000
set_option maxRecDepth 1000000
theorem rP (l:List ByteArray):aK 1 (l.map λs=> [pS s]):=ar λx=>rfl
theorem x6 (p:bG):ac Ya 44 [gy p] (I (if jf p then lW p else 2)):=by
 refine ac.of BQ (by simp) λhb=>aa ?_
 conv in bh _ _=>cbv
 by_cases hc:jf p
 ·rw[if_pos hc]
  have h1: ¬(p.sizes.length:Int)>64:=by have:=hc.1;omega
  have h2: ¬(p.params.length:Int)>64:=by have:=hc.2.1;omega
  have h3: ¬(p.defs.length:Int)>64:=by have:=hc.2.2.1;omega
  have h4: ¬(p.outs.length:Int)>64:=by have:=hc.2.2.2.1;omega
  have h5: ¬(p.wher.length:Int)>256:=by have:=hc.2.2.2.2;omega
  clear hc
  repeat' first|simp(disch:=omega)only[go_sem, *]|apply ab<;>intro h<;>try omega
  refine ai (λk:Nat=>⟨[(3,I k),(1,.c (.ptr 0 0))], [(0,eJ p)],1,0⟩) (λk=>k≤p.sizes.length∧dZ (λj=>PQ p j=0) k) (λk=>p.sizes.length-k) ⟨0, [],⟨by omega,.zero⟩,by simp⟩ ?_
  clear h2 h3 h4 h5
  rintro k ⟨hk,e⟩
  refine aa ?_
  by_cases f:k<p.sizes.length
  ·have hs:=Jk f
   by_cases hz:aP (p.sizes.take k) p.sizes[k]=0
   ·have HA:=Lib.hid (e.succ (hs.trans hz))
    clear e hs
    repeat' first|simp(disch:=omega)only[go_sem, *,ah f,wrap_i64,←List.map_take,rP,Option.getD_none,Option.getD_some,hz]|apply ab<;>intro h<;>try omega|refine aq (aC p.sizes[k] (p.sizes.take k)) rfl rfl ?_
    exact⟨k+1, [],⟨by omega,HA.out⟩,by omega,by simp⟩
   ·rw[GI f e hs hz]
    clear e hs
    repeat' first|simp(disch:=omega)only[go_sem, *,ah f,wrap_i64,←List.map_take,rP,Option.getD_none,Option.getD_some,hz]|apply ab<;>intro h<;>try omega|refine aq (aC p.sizes[k] (p.sizes.take k)) rfl rfl ?_
  ·rw[BS λj hj=>e j (by omega)]
   clear e
   repeat' first|simp(disch:=omega)only[go_sem, *]|apply ab<;>intro h<;>try omega
 ·rw[if_neg hc]
  have w: ¬((p.sizes.length:Int)≤64∧(p.params.length:Int)≤64∧(p.defs.length:Int)≤64∧(p.outs.length:Int)≤64∧(p.wher.length:Int)≤256):= λh=>hc (by unfold jf;omega)
  clear hc
  have HC:=Lib.hid w
  clear w
  repeat' first|simp(disch:=omega)only[go_sem, *]|apply ab<;>intro h<;>try omega
  all_goals(exfalso;have:=HC.out;omega)
def SX (nx:Nat) (l:List ByteArray):AV:=if l= []then .c (.tsl [])else .c (.ref nx)
def Rt (nx:Nat) (l:List ByteArray) (m:List (Nat×bk)):List (Nat×bk):=if l= []then m else(nx,.arr 9 1 (l.map λs=> [pS s]))::m
def S8 (nx:Nat) (l:List ByteArray):Nat:=if l= []then nx else nx+1
theorem yZ {fr:List (Nat×AV)} {t:Nat} {mem:List (Nat×bk)} {nx:Nat} {l:List ByteArray}:GD fr t mem nx l=⟨(t,SX nx l)::fr,Rt nx l mem,S8 nx l,0⟩:=by
 unfold GD SX Rt S8
 split<;>rfl
theorem GN {b:bk} {l:List ByteArray}:al (Rt 1 l [(0,b)]) 0=some b:=by
 unfold Rt
 split
 ·rfl
 ·rfl
theorem Tn {bytes:Nat} {y:AV} {ys:List ByteArray} {fr:List (Nat×AV)} {mem:List (Nat×bk)} {nx:Nat} {K:mZ (AV→St→Prop)} (h1:ys.length*bytes≤140737488355328) (h2:ys.length≤140737488355328)
  (hk:K.out (SX nx ys) ⟨fr,Rt nx ys mem,S8 nx ys,0⟩): @zS 9 1 bytes (.c (.tsl [])) y (ys.map λs=> [pS s]) ⟨fr,mem,nx,0⟩ K:=by
 by_cases h:ys= []
 ·subst h
  exact dy aZ hk
 ·unfold SX Rt S8 at hk
  rw[if_neg h,if_neg h,if_neg h]at hk
  exact c8 aZ (ar λx=>rfl) (by simpa using h) (by simpa using h1) (by simpa using h2) hk
theorem GF {p:bG}:dT p 0=p.sizes:=by simp[dT]
theorem GC {p:bG}:dY p 0=dT p p.params.length:=by rw[GZ,FV]
theorem io {p:bG} (hf:iR p) (o:kI p):ac Ya 19 [gy p] (.tup [I (bn p).1,I (bn p).2]):=by
 refine ac.of vQ (by simp) λhb=>aa ?_
 conv in bh _ _=>cbv
 have cS:=x6 p
 by_cases hc:jf p
 ·rw[if_pos hc]at cS
  by_cases hs:lW p=0
  ·rw[hs]at cS
   have C:=hc.1
   have D:=hc.2.1
   have E:=hc.2.2.1
   have F:=hc.2.2.2.1
   have G:=hc.2.2.2.2
   have HC:=Lib.hid hc
   have HS:=Lib.hid hs
   clear hc hs
   repeat' first|simp(disch:=omega)only[go_sem, *]|apply ab<;>intro h<;>try omega|refine aq cS rfl rfl ?_
   refine ai (λk:Nat=>⟨[(5,I k),(1,.c (.ptr 0 0))], [(0,eJ p)],1,0⟩) (λk=>k≤p.wher.length∧Hid (de ((p.wher.map λc=>bH p.sizes c.1).take k)=0)) (λk=>p.wher.length-k) ⟨0, [],⟨by omega,by show _=_;simp[de]⟩,by simp⟩ ?_
   clear cS
   rintro k ⟨hk,e⟩
   refine aa ?_
   by_cases f:k<p.wher.length
   ·have z:k<(p.wher.map λc=>bH p.sizes c.1).length:=by simpa using f
    have h4:=ix z e.out
    have h5:=lY z e.out
    rw[List.getElem_map]at h4 h5
    clear e
    by_cases hz:bH p.sizes p.wher[k].1=0
    ·have HN:=Lib.hid (h4.trans hz)
     clear h4 h5
     repeat' first|simp(disch:=omega)only[go_sem, *,ah f,cP,wrap_i64,hz]|apply ab<;>intro h<;>try omega|refine aq (cp p.wher[k].1 _) rfl rfl ?_
     exact⟨k+1, [],⟨by omega,HN⟩,by omega,by simp⟩
    ·rw[wV HC.out HS.out (h5 hz) hz]
     clear h4 h5
     repeat' first|simp(disch:=omega)only[go_sem, *,ah f,cP,wrap_i64,hz]|apply ab<;>intro h<;>try omega|refine aq (cp p.wher[k].1 _) rfl rfl ?_
   have hw:qU p=0:=by
    have hz:=e.out
    rw[List.take_of_length_le (by simp;omega)]at hz
    exact hz
   have HW:=Lib.hid hw
   clear e hw
   repeat' first|simp(disch:=omega)only[go_sem, *]|apply ab<;>intro h<;>try omega|refine Tn (by omega) (by omega) ?_
   repeat clear f
   repeat clear hk
   refine ai (λk:Nat=>GD [(8,I ((2:Int)+k)),(9,I k),(1,.c (.ptr 0 0))] 7 [(0,eJ p)] 1 (dT p k)) (λk=>k≤p.params.length∧dZ (λj=>uK p j=0) k) (λk=>p.params.length-k) ⟨0, [],⟨by omega,.zero⟩,by rw[GF,yZ];unfold SX Rt S8;split<;>simp⟩ ?_
   rintro k ⟨hk,e⟩
   refine aa ?_
   have u:=(Dc k HC.out).1
   by_cases f:k<p.params.length
   ·have hs:=Fc f
    by_cases hz:dL p.sizes (dT p k) p.params[k]=0
    ·have HA:=Lib.hid (e.succ (hs.trans hz))
     have n:=IJ f
     have HN:Hid (dT p (k+1)≠ []):=by show _≠_;rw[n];simp
     clear e hs
     by_cases g:dT p k= []
     ·have hw:([[pS p.params[k].1]]:List (List PC))=(dT p (k+1)).map λs=> [pS s]:=by rw[n,g];rfl
      have HW:=Lib.hid hw
      rw[g]at hz ⊢
      clear hw n g
      rw[fA]
      repeat' first|simp(disch:=omega)only[go_sem, *,ah f,gR,wrap_i64,hz]|apply ab<;>intro h<;>try omega|refine aq (ib p.params[k] _ []) rfl rfl ?_|refine c8 aZ (an rfl) (by simp) (by simp) (by simp) ?_
      refine⟨k+1, [],⟨by omega,HA.out⟩,by omega, ?_⟩
      rw[cz HN.out,HW.out]
      simp
      try omega
     ·have hw:(dT p k).map (λs=> [pS s])++ [[pS p.params[k].1]]=(dT p (k+1)).map λs=> [pS s]:=by rw[n,List.map_append];rfl
      have HW:=Lib.hid hw
      rw[cz g]
      clear hw n g
      repeat' first|simp(disch:=omega)only[go_sem, *,ah f,gR,wrap_i64,hz]|apply ab<;>intro h<;>try omega|refine aq (ib p.params[k] _ _) rfl rfl ?_|refine aA rfl (by intro h;cases h) (an rfl) (by simp;omega) (by simp;omega) ?_
      refine⟨k+1, [(1,2)],⟨by omega,HA.out⟩,by omega, ?_⟩
      rw[cz HN.out,HW.out]
      simp
      try omega
    ·rw[tu HC.out HS.out HW.out f e hs hz]
     clear e hs
     by_cases g:dT p k= []
     ·rw[g]at hz ⊢
      clear g
      rw[fA]
      repeat' first|simp(disch:=omega)only[go_sem, *,ah f,gR,wrap_i64,hz]|apply ab<;>intro h<;>try omega|refine aq (ib p.params[k] _ []) rfl rfl ?_
     ·rw[cz g]
      clear g
      repeat' first|simp(disch:=omega)only[go_sem, *,ah f,gR,wrap_i64,hz]|apply ab<;>intro h<;>try omega|refine aq (ib p.params[k] _ _) rfl rfl ?_
   have HP:Hid (∀j,j<p.params.length→uK p j=0):= λj hj=>e j (by omega)
   have v:k=p.params.length:=by omega
   clear e u
   subst v
   repeat clear f
   repeat clear hk
   rw[yZ]
   repeat' first|simp(disch:=omega)only[go_sem, *,GN]|apply ab<;>intro h<;>try omega
   refine ai (λk:Nat=>GD [(8,I ((2:Int)+p.params.length+k)),(11,I k),(1,.c (.ptr 0 0))] 7 [(0,eJ p)] 1 (dY p k)) (λk=>k≤p.defs.length∧dZ (λj=>vI p j=0) k) (λk=>p.defs.length-k) ⟨0, [],⟨by omega,.zero⟩,by rw[GC,yZ];unfold SX Rt S8;split<;>simp⟩ ?_
   rintro k ⟨hk,e⟩
   refine aa ?_
   have u:=(Dc k HC.out).2
   by_cases f:k<p.defs.length
   ·have hs:=yW f
    by_cases hz:bt p k (dY p k) p.defs[k]=0
    ·have HA:=Lib.hid (e.succ (hs.trans hz))
     have n:=Ig f
     have HN:Hid (dY p (k+1)≠ []):=by show _≠_;rw[n];simp
     clear e hs
     by_cases g:dY p k= []
     ·have hw:([[pS p.defs[k].name]]:List (List PC))=(dY p (k+1)).map λs=> [pS s]:=by rw[n,g];rfl
      have HW:=Lib.hid hw
      rw[g]at hz ⊢
      clear hw n g
      rw[fA]
      repeat' first|simp(disch:=omega)only[go_sem, *,ah f,di,wrap_i64,hz]|apply ab<;>intro h<;>try omega|refine aq (jM hf o HC.out f []) rfl rfl ?_|refine c8 aZ (an rfl) (by simp) (by simp) (by simp) ?_
      refine⟨k+1, [],⟨by omega,HA.out⟩,by omega, ?_⟩
      rw[cz HN.out,HW.out]
      simp
      try omega
     ·have hw:(dY p k).map (λs=> [pS s])++ [[pS p.defs[k].name]]=(dY p (k+1)).map λs=> [pS s]:=by rw[n,List.map_append];rfl
      have HW:=Lib.hid hw
      rw[cz g]
      clear hw n g
      repeat' first|simp(disch:=omega)only[go_sem, *,ah f,di,wrap_i64,hz]|apply ab<;>intro h<;>try omega|refine aq (jM hf o HC.out f _) rfl rfl ?_|refine aA rfl (by intro h;cases h) (an rfl) (by simp;omega) (by simp;omega) ?_
      refine⟨k+1, [(1,2)],⟨by omega,HA.out⟩,by omega, ?_⟩
      rw[cz HN.out,HW.out]
      simp
      try omega
    ·rw[tU HC.out HS.out HW.out HP.out f e hs hz]
     clear e hs
     by_cases g:dY p k= []
     ·rw[g]at hz ⊢
      clear g
      rw[fA]
      repeat' first|simp(disch:=omega)only[go_sem, *,ah f,di,wrap_i64,hz]|apply ab<;>intro h<;>try omega|refine aq (jM hf o HC.out f []) rfl rfl ?_
     ·rw[cz g]
      clear g
      repeat' first|simp(disch:=omega)only[go_sem, *,ah f,di,wrap_i64,hz]|apply ab<;>intro h<;>try omega|refine aq (jM hf o HC.out f _) rfl rfl ?_
   have HD:Hid (∀j,j<p.defs.length→vI p j=0):= λj hj=>e j (by omega)
   have v:k=p.defs.length:=by omega
   clear e u
   subst v
   repeat clear f
   repeat clear hk
   rw[yZ]
   repeat' first|simp(disch:=omega)only[go_sem, *,GN]|apply ab<;>intro h<;>try omega
   refine ai (λk:Nat=>⟨[(8,I ((2:Int)+p.params.length+p.defs.length+k)),(13,I k),(1,.c (.ptr 0 0))], [(0,eJ p)],1,0⟩) (λk=>k≤p.outs.length∧dZ (λj=>GO p j=0) k) (λk=>p.outs.length-k) ⟨0, [],⟨by omega,.zero⟩,by unfold SX Rt S8;split<;>simp⟩ ?_
   rintro k ⟨hk,e⟩
   refine aa ?_
   by_cases f:k<p.outs.length
   ·have hs:=FB f
    have cF:=gr hf p.outs[k]
    have cB:=gM (p.outs.take k) p.outs[k]
    by_cases hn:dm p p.outs[k]=none
    ·rw[if_pos hn]at hs
     rw[oF HC.out HS.out HW.out HP.out HD.out f e hs (by decide)]
     rw[hn]at cF
     clear e hs hn
     repeat' first|simp(disch:=omega)only[go_sem, *,ah f,wrap_i64]|apply ab<;>intro h<;>try omega|refine aW cF rfl rfl ?_
    ·obtain⟨r,hr⟩: ∃r,dm p p.outs[k]=some r:=by
      cases h:dm p p.outs[k]with
      |none=>exact absurd h hn
      |some r=>exact⟨r,rfl⟩
     rw[if_neg hn]at hs
     rw[hr]at cF
     clear hn hr
     obtain⟨t,dims⟩:=r
     by_cases hm:p.outs[k]∈p.outs.take k
     ·rw[if_pos hm]at hs
      rw[oF HC.out HS.out HW.out HP.out HD.out f e hs (by decide)]
      clear e hs
      repeat' first|simp(disch:=omega)only[go_sem, *,ah f,wrap_i64,←List.map_take,rP,Option.getD_none,Option.getD_some,hm,decide_true]|apply ab<;>intro h<;>try omega|refine aW cF rfl rfl ?_|refine aq cB rfl rfl ?_
     ·rw[if_neg hm]at hs
      have HA:=Lib.hid (e.succ hs)
      clear e hs
      repeat' first|simp(disch:=omega)only[go_sem, *,ah f,wrap_i64,←List.map_take,rP,Option.getD_none,Option.getD_some,hm,decide_false]|apply ab<;>intro h<;>try omega|refine aW cF rfl rfl ?_|refine aq cB rfl rfl ?_
      exact⟨k+1, [],⟨by omega,HA.out⟩,by omega,by simp;omega⟩
   ·rw[v7 HC.out HS.out HW.out HP.out HD.out λj hj=>e j (by omega)]
    clear e
    repeat' first|simp(disch:=omega)only[go_sem, *]|apply ab<;>intro h<;>try omega
  ·rw[wO hc rfl hs]
   repeat' first|simp(disch:=omega)only[go_sem, *,hs]|apply ab<;>intro h<;>try omega|refine aq cS rfl rfl ?_
 ·rw[if_neg hc]at cS
  rw[tP hc]
  repeat' first|simp(disch:=omega)only[go_sem, *]|apply ab<;>intro h<;>try omega|refine aq cS rfl rfl ?_
end Go.Proofs.YtiapgekjmcjjgaaGreatDoor
