import Derived.Test.YtjhkikmonejkjaaGreatDoorV17e
set_option linter.unusedVariables false
set_option linter.unusedSimpArgs false
set_option maxRecDepth 20000
open Go.Proofs.Tryz renaming prog→Ya
namespace Go.Proofs.YtjhkikmonejkjaaGreatDoor
open Go.Abs Go.RowKit
theorem kw (d:jA):af Ya m3 [sK d] (I (fj d)):=by
 refine af.of wv (by simp) λhb=>aa ?_
 simp only[mO]
 repeat' first|simp(disch:=omega)only[go_sem, *,Mp]|apply ab<;>intro h<;>try omega
 all_goals(refine IE ?_;unfold fj;grind)
theorem fw {d:jA} (h1:d.dims.length≤1000) (h2:d.red.length≤1000):af Ya lQ [sK d] (.c (.pure (b6 (ar d)))):=by
 refine af.of tV (by simp) λhb=>aa ?_
 simp only[lw]
 repeat' first|simp(disch:=omega)only[go_sem, *]|apply ab<;>intro h<;>try omega
 refine co 3 9 1 rfl (by decide) ?_
 refine ai (λk:Nat=>⟨[(4,I k),(3,.c (.ref 1)),(1,.c (.ptr 0 0))], [(1,.arr 9 1 ((d.dims.take k).map λa=> [pS a.1])),(0,qJ d)],2,0⟩) (λk=>k≤d.dims.length) (λk=>d.dims.length-k) ⟨0, [],by omega,by simp⟩ ?_
 intro k hk
 refine aa ?_
 by_cases f:k<d.dims.length
 ·have ht:(d.dims.take k).map (λa:eU=> [pS a.1])++ [[pS d.dims[k].1]]=(d.dims.take (k+1)).map λa=> [pS a.1]:=by rw[List.take_succ_eq_append_getElem f,List.map_append];rfl
  have HT:=Lib.hid ht
  clear ht
  repeat' first|simp(disch:=omega)only[go_sem, *,ac f,ee,wrap_i64]|apply ab<;>intro h<;>try omega|refine aF rfl (by intro h;cases h) (ak rfl) (by simp;omega) (by simp;omega) ?_
  rw[HT.out]
  exact⟨k+1, [(1,2)],by omega,by omega,by simp⟩
 ·repeat' first|simp(disch:=omega)only[go_sem, *]|apply ab<;>intro h<;>try omega
  refine ai (λk:Nat=>⟨[(5,I k),(3,.c (.ref 1)),(1,.c (.ptr 0 0))], [(1,.arr 9 1 (d.dims.map (λa=> [pS a.1])++(d.red.take k).map λa=> [pS a.1])),(0,qJ d)],2,0⟩) (λk=>k≤d.red.length) (λk=>d.red.length-k) ⟨0, [],by omega,by rw[List.take_of_length_le (by omega)];simp⟩ ?_
  clear f hk
  intro k hk
  refine aa ?_
  by_cases f:k<d.red.length
  ·have ht:d.dims.map (λa:eU=> [pS a.1])++(d.red.take k).map (λa:eU=> [pS a.1])++ [[pS d.red[k].1]]=d.dims.map (λa:eU=> [pS a.1])++(d.red.take (k+1)).map λa=> [pS a.1]:=by rw[List.take_succ_eq_append_getElem f,List.map_append,List.append_assoc];rfl
   have HT:=Lib.hid ht
   clear ht
   repeat' first|simp(disch:=omega)only[go_sem, *,ac f,ee,wrap_i64]|apply ab<;>intro h<;>try omega|refine aF rfl (by intro h;cases h) (ak rfl) (by simp;omega) (by simp;omega) ?_
   rw[HT.out]
   exact⟨k+1, [(1,2)],by omega,by omega,by simp⟩
  ·repeat' first|simp(disch:=omega)only[go_sem, *]|apply ab<;>intro h<;>try omega
   rw[List.take_of_length_le (by omega)]
   simp[ar,List.map_map,Function.comp_def]
set_option maxHeartbeats 4000000 in
theorem jD {p:be} (hf:eR p) (o:ij p) (hc:iC p) {k:Nat} (hk:k<p.defs.length) (taken:List ByteArray):af Ya Ax [eX p,I k,.c (.pure (b6 taken))] (I (aR p k taken p.defs[k])):=by
 refine af.of HU (by simp) λhb=>aa ?_
 have cT:=zh (AS hf k) (ar p.defs[k]) (o _ (List.getElem_mem hk))
 have A:=hc.1
 have q:bV 22 (p.defs.map br):=aG λx=>rfl
 simp only[Af]
 by_cases h1:aE taken p.defs[k].name=0
 ·by_cases h2:ju p.defs[k].ty
  ·by_cases h3:6<p.defs[k].dims.length∨6<p.defs[k].red.length
   ·rw[show aR p k taken p.defs[k]=11 by unfold aR;rw[if_neg (not_not_intro h1),if_neg (not_not_intro h2),if_pos h3]]
    repeat' first|simp(disch:=omega)only[go_sem, *,ac hk,br,h1,h2,decide_true]|apply ab<;>intro h<;>try omega|refine av (ay _ _) rfl rfl ?_|refine av (bj p.defs[k].ty) rfl rfl ?_
   ·by_cases hd:p.defs[k].dims= []
    ·have cA:=rN p.defs[k].red p.sizes (by omega) (by omega)
     have cR:=kw p.defs[k]
     have cI:=fw (d:=p.defs[k]) (by omega) (by omega)
     simp only[sK,hd]at cR cI
     by_cases h4:aY p.sizes p.sizes (p.defs[k].dims++p.defs[k].red)=0
     ·by_cases h5:fj p.defs[k]=0
      ·have hT:(aT (bu p k) (ar p.defs[k]) p.defs[k].body)=(aT {p with wher:= [],defs:=p.defs.take k,outs:= []} (ar p.defs[k]) p.defs[k].body):=rfl
       by_cases h6:(aT (bu p k) (ar p.defs[k]) p.defs[k].body).2=0
       ·by_cases h7:(aT (bu p k) (ar p.defs[k]) p.defs[k].body).1=p.defs[k].ty
        ·rw[show aR p k taken p.defs[k]=0 by unfold aR;rw[if_neg (not_not_intro h1),if_neg (not_not_intro h2),if_neg h3,if_neg (not_not_intro h4),if_neg (not_not_intro h5),←hT,if_neg (not_not_intro h6),if_neg (not_not_intro h7)]]
         clear hT
         generalize aT (bu p k) (ar p.defs[k]) p.defs[k].body=r at*
         obtain⟨r1,r2⟩:=r
         simp only at h6 h7
         subst h7
         have i:aY p.sizes p.sizes p.defs[k].red=0:=by rw[hd,List.nil_append]at h4;exact h4
         repeat' first|simp(disch:=omega)only[go_sem, *,ac hk,br,h1,h2,i,h5,h6,decide_true,←List.map_take,q,Option.getD_none,Option.getD_some,hd]|apply ab<;>intro h<;>try omega|apply au|(with_reducible refine az (λh=> ?_) ?_)|refine av (ay _ _) rfl rfl ?_|refine av (bj p.defs[k].ty) rfl rfl ?_|refine av cA rfl rfl ?_|refine fu aN ?_|refine gl aN (aG λx=>rfl) (by simp;omega) (by simp;omega) ?_|refine av cR rfl rfl ?_|refine o5 cI rfl rfl ?_|refine av cT rfl rfl ?_
        ·rw[show aR p k taken p.defs[k]=10 by unfold aR;rw[if_neg (not_not_intro h1),if_neg (not_not_intro h2),if_neg h3,if_neg (not_not_intro h4),if_neg (not_not_intro h5),←hT,if_neg (not_not_intro h6),if_pos h7]]
         clear hT
         generalize aT (bu p k) (ar p.defs[k]) p.defs[k].body=r at*
         have i:aY p.sizes p.sizes p.defs[k].red=0:=by rw[hd,List.nil_append]at h4;exact h4
         repeat' first|simp(disch:=omega)only[go_sem, *,ac hk,br,h1,h2,i,h5,h6,decide_true,←List.map_take,q,Option.getD_none,Option.getD_some,hd]|apply ab<;>intro h<;>try omega|apply au|(with_reducible refine az (λh=> ?_) ?_)|refine av (ay _ _) rfl rfl ?_|refine av (bj p.defs[k].ty) rfl rfl ?_|refine av cA rfl rfl ?_|refine fu aN ?_|refine gl aN (aG λx=>rfl) (by simp;omega) (by simp;omega) ?_|refine av cR rfl rfl ?_|refine o5 cI rfl rfl ?_|refine av cT rfl rfl ?_
         all_goals first
          |exact absurd (vP h) h7
          |rfl
       ·rw[show aR p k taken p.defs[k]=(aT (bu p k) (ar p.defs[k]) p.defs[k].body).2 by unfold aR;rw[if_neg (not_not_intro h1),if_neg (not_not_intro h2),if_neg h3,if_neg (not_not_intro h4),if_neg (not_not_intro h5),←hT,if_pos h6]]
        clear hT
        generalize aT (bu p k) (ar p.defs[k]) p.defs[k].body=r at*
        have i:aY p.sizes p.sizes p.defs[k].red=0:=by rw[hd,List.nil_append]at h4;exact h4
        repeat' first|simp(disch:=omega)only[go_sem, *,ac hk,br,h1,h2,i,h5,h6,decide_true,←List.map_take,q,Option.getD_none,Option.getD_some,hd]|apply ab<;>intro h<;>try omega|apply au|(with_reducible refine az (λh=> ?_) ?_)|refine av (ay _ _) rfl rfl ?_|refine av (bj p.defs[k].ty) rfl rfl ?_|refine av cA rfl rfl ?_|refine fu aN ?_|refine gl aN (aG λx=>rfl) (by simp;omega) (by simp;omega) ?_|refine av cR rfl rfl ?_|refine o5 cI rfl rfl ?_|refine av cT rfl rfl ?_
      ·rw[show aR p k taken p.defs[k]=fj p.defs[k] by unfold aR;rw[if_neg (not_not_intro h1),if_neg (not_not_intro h2),if_neg h3,if_neg (not_not_intro h4),if_pos h5]]
       have i:aY p.sizes p.sizes p.defs[k].red=0:=by rw[hd,List.nil_append]at h4;exact h4
       repeat' first|simp(disch:=omega)only[go_sem, *,ac hk,br,h1,h2,i,h5,decide_true,hd]|apply ab<;>intro h<;>try omega|apply au|(with_reducible refine az (λh=> ?_) ?_)|refine av (ay _ _) rfl rfl ?_|refine av (bj p.defs[k].ty) rfl rfl ?_|refine av cA rfl rfl ?_|refine fu aN ?_|refine gl aN (aG λx=>rfl) (by simp;omega) (by simp;omega) ?_|refine av cR rfl rfl ?_
     ·rw[show aR p k taken p.defs[k]=aY p.sizes p.sizes (p.defs[k].dims++p.defs[k].red) by unfold aR;rw[if_neg (not_not_intro h1),if_neg (not_not_intro h2),if_neg h3,if_pos h4]]
      have i: ¬aY p.sizes p.sizes p.defs[k].red=0:=by rw[hd,List.nil_append]at h4;exact h4
      repeat' first|simp(disch:=omega)only[go_sem, *,ac hk,br,h1,h2,i,decide_true,hd]|apply ab<;>intro h<;>try omega|apply au|(with_reducible refine az (λh=> ?_) ?_)|refine av (ay _ _) rfl rfl ?_|refine av (bj p.defs[k].ty) rfl rfl ?_|refine av cA rfl rfl ?_|refine fu aN ?_|refine gl aN (aG λx=>rfl) (by simp;omega) (by simp;omega) ?_
    ·have cA:=rN (p.defs[k].dims++p.defs[k].red) p.sizes (by simp;omega) (by omega)
     rw[show bZ ee (p.defs[k].dims++p.defs[k].red)= .c (.pure (.slice (p.defs[k].dims.map ee++p.defs[k].red.map ee))) by show AV.c (.pure (.slice (List.map ee (_++_))))=_;rw[List.map_append]]at cA
     have cR:=kw p.defs[k]
     have cI:=fw (d:=p.defs[k]) (by omega) (by omega)
     by_cases h4:aY p.sizes p.sizes (p.defs[k].dims++p.defs[k].red)=0
     ·by_cases h5:fj p.defs[k]=0
      ·have hT:(aT (bu p k) (ar p.defs[k]) p.defs[k].body)=(aT {p with wher:= [],defs:=p.defs.take k,outs:= []} (ar p.defs[k]) p.defs[k].body):=rfl
       by_cases h6:(aT (bu p k) (ar p.defs[k]) p.defs[k].body).2=0
       ·by_cases h7:(aT (bu p k) (ar p.defs[k]) p.defs[k].body).1=p.defs[k].ty
        ·rw[show aR p k taken p.defs[k]=0 by unfold aR;rw[if_neg (not_not_intro h1),if_neg (not_not_intro h2),if_neg h3,if_neg (not_not_intro h4),if_neg (not_not_intro h5),←hT,if_neg (not_not_intro h6),if_neg (not_not_intro h7)]]
         clear hT
         generalize aT (bu p k) (ar p.defs[k]) p.defs[k].body=r at*
         obtain⟨r1,r2⟩:=r
         simp only at h6 h7
         subst h7
         have i:aY p.sizes p.sizes (p.defs[k].dims++p.defs[k].red)=0:=h4
         repeat' first|simp(disch:=omega)only[go_sem, *,ac hk,br,h1,h2,i,h5,h6,decide_true,←List.map_take,q,Option.getD_none,Option.getD_some]|apply ab<;>intro h<;>try omega|apply au|(with_reducible refine az (λh=> ?_) ?_)|refine av (ay _ _) rfl rfl ?_|refine av (bj p.defs[k].ty) rfl rfl ?_|refine av cA rfl rfl ?_|refine cQ aN (aG λx=>rfl) (by simpa using hd) (by simp;omega) (by simp;omega) ?_|refine aF rfl (by intro h;cases h) (aG λx=>rfl) (by simp;omega) (by simp;omega) ?_|refine av cR rfl rfl ?_|refine o5 cI rfl rfl ?_|refine av cT rfl rfl ?_
        ·rw[show aR p k taken p.defs[k]=10 by unfold aR;rw[if_neg (not_not_intro h1),if_neg (not_not_intro h2),if_neg h3,if_neg (not_not_intro h4),if_neg (not_not_intro h5),←hT,if_neg (not_not_intro h6),if_pos h7]]
         clear hT
         generalize aT (bu p k) (ar p.defs[k]) p.defs[k].body=r at*
         have i:aY p.sizes p.sizes (p.defs[k].dims++p.defs[k].red)=0:=h4
         repeat' first|simp(disch:=omega)only[go_sem, *,ac hk,br,h1,h2,i,h5,h6,decide_true,←List.map_take,q,Option.getD_none,Option.getD_some]|apply ab<;>intro h<;>try omega|apply au|(with_reducible refine az (λh=> ?_) ?_)|refine av (ay _ _) rfl rfl ?_|refine av (bj p.defs[k].ty) rfl rfl ?_|refine av cA rfl rfl ?_|refine cQ aN (aG λx=>rfl) (by simpa using hd) (by simp;omega) (by simp;omega) ?_|refine aF rfl (by intro h;cases h) (aG λx=>rfl) (by simp;omega) (by simp;omega) ?_|refine av cR rfl rfl ?_|refine o5 cI rfl rfl ?_|refine av cT rfl rfl ?_
         all_goals first
          |exact absurd (vP h) h7
          |rfl
       ·rw[show aR p k taken p.defs[k]=(aT (bu p k) (ar p.defs[k]) p.defs[k].body).2 by unfold aR;rw[if_neg (not_not_intro h1),if_neg (not_not_intro h2),if_neg h3,if_neg (not_not_intro h4),if_neg (not_not_intro h5),←hT,if_pos h6]]
        clear hT
        generalize aT (bu p k) (ar p.defs[k]) p.defs[k].body=r at*
        have i:aY p.sizes p.sizes (p.defs[k].dims++p.defs[k].red)=0:=h4
        repeat' first|simp(disch:=omega)only[go_sem, *,ac hk,br,h1,h2,i,h5,h6,decide_true,←List.map_take,q,Option.getD_none,Option.getD_some]|apply ab<;>intro h<;>try omega|apply au|(with_reducible refine az (λh=> ?_) ?_)|refine av (ay _ _) rfl rfl ?_|refine av (bj p.defs[k].ty) rfl rfl ?_|refine av cA rfl rfl ?_|refine cQ aN (aG λx=>rfl) (by simpa using hd) (by simp;omega) (by simp;omega) ?_|refine aF rfl (by intro h;cases h) (aG λx=>rfl) (by simp;omega) (by simp;omega) ?_|refine av cR rfl rfl ?_|refine o5 cI rfl rfl ?_|refine av cT rfl rfl ?_
      ·rw[show aR p k taken p.defs[k]=fj p.defs[k] by unfold aR;rw[if_neg (not_not_intro h1),if_neg (not_not_intro h2),if_neg h3,if_neg (not_not_intro h4),if_pos h5]]
       have i:aY p.sizes p.sizes (p.defs[k].dims++p.defs[k].red)=0:=h4
       repeat' first|simp(disch:=omega)only[go_sem, *,ac hk,br,h1,h2,i,h5,decide_true]|apply ab<;>intro h<;>try omega|apply au|(with_reducible refine az (λh=> ?_) ?_)|refine av (ay _ _) rfl rfl ?_|refine av (bj p.defs[k].ty) rfl rfl ?_|refine av cA rfl rfl ?_|refine cQ aN (aG λx=>rfl) (by simpa using hd) (by simp;omega) (by simp;omega) ?_|refine aF rfl (by intro h;cases h) (aG λx=>rfl) (by simp;omega) (by simp;omega) ?_|refine av cR rfl rfl ?_
     ·rw[show aR p k taken p.defs[k]=aY p.sizes p.sizes (p.defs[k].dims++p.defs[k].red) by unfold aR;rw[if_neg (not_not_intro h1),if_neg (not_not_intro h2),if_neg h3,if_pos h4]]
      have i: ¬aY p.sizes p.sizes (p.defs[k].dims++p.defs[k].red)=0:=h4
      repeat' first|simp(disch:=omega)only[go_sem, *,ac hk,br,h1,h2,i,decide_true]|apply ab<;>intro h<;>try omega|apply au|(with_reducible refine az (λh=> ?_) ?_)|refine av (ay _ _) rfl rfl ?_|refine av (bj p.defs[k].ty) rfl rfl ?_|refine av cA rfl rfl ?_|refine cQ aN (aG λx=>rfl) (by simpa using hd) (by simp;omega) (by simp;omega) ?_|refine aF rfl (by intro h;cases h) (aG λx=>rfl) (by simp;omega) (by simp;omega) ?_
  ·rw[show aR p k taken p.defs[k]=10 by unfold aR;rw[if_neg (not_not_intro h1),if_pos h2]]
   repeat' first|simp(disch:=omega)only[go_sem, *,ac hk,br,h1,h2,decide_false]|apply ab<;>intro h<;>try omega|refine av (ay _ _) rfl rfl ?_|refine av (bj p.defs[k].ty) rfl rfl ?_
 ·rw[show aR p k taken p.defs[k]=aE taken p.defs[k].name by unfold aR;rw[if_pos h1]]
  repeat' first|simp(disch:=omega)only[go_sem, *,ac hk,br,h1]|apply ab<;>intro h<;>try omega|refine av (ay _ _) rfl rfl ?_|refine av (bj p.defs[k].ty) rfl rfl ?_
theorem tH (l:List ByteArray):bV 1 (l.map λs=> [pS s]):=aG λx=>rfl
theorem Bb (p:be):af Ya uA [eX p] (I (if iC p then lF p else 2)):=by
 refine af.of CN (by simp) λhb=>aa ?_
 simp only[uF]
 by_cases hc:iC p
 ·rw[if_pos hc]
  have h1: ¬(p.sizes.length:Int)>64:=by have:=hc.1;omega
  have h2: ¬(p.params.length:Int)>64:=by have:=hc.2.1;omega
  have h3: ¬(p.defs.length:Int)>64:=by have:=hc.2.2.1;omega
  have h4: ¬(p.outs.length:Int)>64:=by have:=hc.2.2.2.1;omega
  have h5: ¬(p.wher.length:Int)>256:=by have:=hc.2.2.2.2;omega
  clear hc
  repeat' first|simp(disch:=omega)only[go_sem, *]|apply ab<;>intro h<;>try omega
  refine ai (λk:Nat=>⟨[(3,I k),(1,.c (.ptr 0 0))], [(0,dL p)],1,0⟩) (λk=>k≤p.sizes.length∧bI (λj=>Pf p j=0) k) (λk=>p.sizes.length-k) ⟨0, [],⟨by omega,.zero⟩,by simp⟩ ?_
  clear h2 h3 h4 h5
  rintro k ⟨hk,e⟩
  refine aa ?_
  by_cases f:k<p.sizes.length
  ·have hs:=KZ f
   by_cases hz:aE (p.sizes.take k) p.sizes[k]=0
   ·have HA:=Lib.hid (e.succ (hs.trans hz))
    clear e hs
    repeat' first|simp(disch:=omega)only[go_sem, *,ac f,wrap_i64,←List.map_take,tH,Option.getD_none,Option.getD_some,hz]|apply ab<;>intro h<;>try omega|refine av (ay p.sizes[k] (p.sizes.take k)) rfl rfl ?_
    exact⟨k+1, [],⟨by omega,HA.out⟩,by omega,by simp⟩
   ·rw[JP f e hs hz]
    clear e hs
    repeat' first|simp(disch:=omega)only[go_sem, *,ac f,wrap_i64,←List.map_take,tH,Option.getD_none,Option.getD_some,hz]|apply ab<;>intro h<;>try omega|refine av (ay p.sizes[k] (p.sizes.take k)) rfl rfl ?_
  ·rw[D4 λj hj=>e j (by omega)]
   clear e
   repeat' first|simp(disch:=omega)only[go_sem, *]|apply ab<;>intro h<;>try omega
 ·rw[if_neg hc]
  have w: ¬((p.sizes.length:Int)≤64∧(p.params.length:Int)≤64∧(p.defs.length:Int)≤64∧(p.outs.length:Int)≤64∧(p.wher.length:Int)≤256):= λh=>hc (by unfold iC;omega)
  clear hc
  have HC:=Lib.hid w
  clear w
  repeat' first|simp(disch:=omega)only[go_sem, *]|apply ab<;>intro h<;>try omega
  all_goals(exfalso;have:=HC.out;omega)
def S7 (nx:Nat) (l:List ByteArray):AV:=if l= []then .c (.tsl [])else .c (.ref nx)
def Q7 (nx:Nat) (l:List ByteArray) (m:List (Nat×bm)):List (Nat×bm):=if l= []then m else(nx,.arr 9 1 (l.map λs=> [pS s]))::m
def Ts (nx:Nat) (l:List ByteArray):Nat:=if l= []then nx else nx+1
theorem BW {fr:List (Nat×AV)} {t:Nat} {mem:List (Nat×bm)} {nx:Nat} {l:List ByteArray}:Ki fr t mem nx l=⟨(t,S7 nx l)::fr,Q7 nx l mem,Ts nx l,0⟩:=by
 unfold Ki S7 Q7 Ts
 split<;>rfl
theorem JY {b:bm} {l:List ByteArray}:am (Q7 1 l [(0,b)]) 0=some b:=by
 unfold Q7
 split
 ·rfl
 ·rfl
theorem TW {bytes:Nat} {y:AV} {ys:List ByteArray} {fr:List (Nat×AV)} {mem:List (Nat×bm)} {nx:Nat} {K:qD (AV→St→Prop)} (h1:ys.length*bytes≤140737488355328) (h2:ys.length≤140737488355328)
  (hk:K.out (S7 nx ys) ⟨fr,Q7 nx ys mem,Ts nx ys,0⟩): @Fu 9 1 bytes (.c (.tsl [])) y (ys.map λs=> [pS s]) ⟨fr,mem,nx,0⟩ K:=by
 by_cases h:ys= []
 ·subst h
  exact fu aN hk
 ·unfold S7 Q7 Ts at hk
  rw[if_neg h,if_neg h,if_neg h]at hk
  exact cQ aN (aG λx=>rfl) (by simpa using h) (by simpa using h1) (by simpa using h2) hk
theorem I0 {p:be}:ci p 0=p.sizes:=by simp[ci]
theorem Ks {p:be}:cM p 0=ci p p.params.length:=by rw[Kj,IL]
set_option maxHeartbeats 4000000 in
theorem lX {p:be} (hf:eR p) (o:ij p):af Ya ol [eX p] (.tup [I (aV p).1,I (aV p).2]):=by
 refine af.of yp (by simp) λhb=>aa ?_
 simp only[oB]
 have cS:=Bb p
 by_cases hc:iC p
 ·rw[if_pos hc]at cS
  by_cases hs:lF p=0
  ·rw[hs]at cS
   have C:=hc.1
   have D:=hc.2.1
   have E:=hc.2.2.1
   have F:=hc.2.2.2.1
   have G:=hc.2.2.2.2
   have HC:=Lib.hid hc
   have HS:=Lib.hid hs
   clear hc hs
   repeat' first|simp(disch:=omega)only[go_sem, *]|apply ab<;>intro h<;>try omega|refine av cS rfl rfl ?_
   refine ai (λk:Nat=>⟨[(5,I k),(1,.c (.ptr 0 0))], [(0,dL p)],1,0⟩) (λk=>k≤p.wher.length∧Hid (bY ((p.wher.map λc=>bi p.sizes c.1).take k)=0)) (λk=>p.wher.length-k) ⟨0, [],⟨by omega,by show _=_;simp[bY]⟩,by simp⟩ ?_
   clear cS
   rintro k ⟨hk,e⟩
   refine aa ?_
   by_cases f:k<p.wher.length
   ·have z:k<(p.wher.map λc=>bi p.sizes c.1).length:=by simpa using f
    have h4:=gV z e.out
    have h5:=l9 z e.out
    rw[List.getElem_map]at h4 h5
    clear e
    by_cases hz:bi p.sizes p.wher[k].1=0
    ·have HN:=Lib.hid (h4.trans hz)
     clear h4 h5
     repeat' first|simp(disch:=omega)only[go_sem, *,ac f,cP,wrap_i64,hz]|apply ab<;>intro h<;>try omega|refine av (bG p.wher[k].1 _) rfl rfl ?_
     exact⟨k+1, [],⟨by omega,HN⟩,by omega,by simp⟩
    ·rw[zf HC.out HS.out (h5 hz) hz]
     clear h4 h5
     repeat' first|simp(disch:=omega)only[go_sem, *,ac f,cP,wrap_i64,hz]|apply ab<;>intro h<;>try omega|refine av (bG p.wher[k].1 _) rfl rfl ?_
   have hw:rE p=0:=by
    have hz:=e.out
    rw[List.take_of_length_le (by simp;omega)]at hz
    exact hz
   have HW:=Lib.hid hw
   clear e hw
   repeat' first|simp(disch:=omega)only[go_sem, *]|apply ab<;>intro h<;>try omega|refine TW (by omega) (by omega) ?_
   repeat clear f
   repeat clear hk
   refine ai (λk:Nat=>Ki [(8,I ((2:Int)+k)),(9,I k),(1,.c (.ptr 0 0))] 7 [(0,dL p)] 1 (ci p k)) (λk=>k≤p.params.length∧bI (λj=>xS p j=0) k) (λk=>p.params.length-k) ⟨0, [],⟨by omega,.zero⟩,by rw[I0,BW];unfold S7 Q7 Ts;split<;>simp⟩ ?_
   rintro k ⟨hk,e⟩
   refine aa ?_
   have u:=(Gx k HC.out).1
   by_cases f:k<p.params.length
   ·have hs:=BV f
    by_cases hz:cg p.sizes (ci p k) p.params[k]=0
    ·have HA:=Lib.hid (e.succ (hs.trans hz))
     have n:=JQ f
     have HN:Hid (ci p (k+1)≠ []):=by show _≠_;rw[n];simp
     clear e hs
     by_cases g:ci p k= []
     ·have hw:([[pS p.params[k].1]]:List (List PC))=(ci p (k+1)).map λs=> [pS s]:=by rw[n,g];rfl
      have HW:=Lib.hid hw
      rw[g]at hz ⊢
      clear hw n g
      rw[eE]
      repeat' first|simp(disch:=omega)only[go_sem, *,ac f,d7,wrap_i64,hz]|apply ab<;>intro h<;>try omega|refine av (gC p.params[k] _ []) rfl rfl ?_|refine cQ aN (ak rfl) (by simp) (by simp) (by simp) ?_
      refine⟨k+1, [],⟨by omega,HA.out⟩,by omega, ?_⟩
      rw[bK HN.out,HW.out]
      simp
      try omega
     ·have hw:(ci p k).map (λs=> [pS s])++ [[pS p.params[k].1]]=(ci p (k+1)).map λs=> [pS s]:=by rw[n,List.map_append];rfl
      have HW:=Lib.hid hw
      rw[bK g]
      clear hw n g
      repeat' first|simp(disch:=omega)only[go_sem, *,ac f,d7,wrap_i64,hz]|apply ab<;>intro h<;>try omega|refine av (gC p.params[k] _ _) rfl rfl ?_|refine aF rfl (by intro h;cases h) (ak rfl) (by simp;omega) (by simp;omega) ?_
      refine⟨k+1, [(1,2)],⟨by omega,HA.out⟩,by omega, ?_⟩
      rw[bK HN.out,HW.out]
      simp
      try omega
    ·rw[wd HC.out HS.out HW.out f e hs hz]
     clear e hs
     by_cases g:ci p k= []
     ·rw[g]at hz ⊢
      clear g
      rw[eE]
      repeat' first|simp(disch:=omega)only[go_sem, *,ac f,d7,wrap_i64,hz]|apply ab<;>intro h<;>try omega|refine av (gC p.params[k] _ []) rfl rfl ?_
     ·rw[bK g]
      clear g
      repeat' first|simp(disch:=omega)only[go_sem, *,ac f,d7,wrap_i64,hz]|apply ab<;>intro h<;>try omega|refine av (gC p.params[k] _ _) rfl rfl ?_
   have HP:Hid (∀j,j<p.params.length→xS p j=0):= λj hj=>e j (by omega)
   have v:k=p.params.length:=by omega
   clear e u
   subst v
   repeat clear f
   repeat clear hk
   rw[BW]
   repeat' first|simp(disch:=omega)only[go_sem, *,JY]|apply ab<;>intro h<;>try omega
   refine ai (λk:Nat=>Ki [(8,I ((2:Int)+p.params.length+k)),(11,I k),(1,.c (.ptr 0 0))] 7 [(0,dL p)] 1 (cM p k)) (λk=>k≤p.defs.length∧bI (λj=>xD p j=0) k) (λk=>p.defs.length-k) ⟨0, [],⟨by omega,.zero⟩,by rw[Ks,BW];unfold S7 Q7 Ts;split<;>simp⟩ ?_
   rintro k ⟨hk,e⟩
   refine aa ?_
   have u:=(Gx k HC.out).2
   by_cases f:k<p.defs.length
   ·have hs:=w8 f
    by_cases hz:aR p k (cM p k) p.defs[k]=0
    ·have HA:=Lib.hid (e.succ (hs.trans hz))
     have n:=IG f
     have HN:Hid (cM p (k+1)≠ []):=by show _≠_;rw[n];simp
     clear e hs
     by_cases g:cM p k= []
     ·have hw:([[pS p.defs[k].name]]:List (List PC))=(cM p (k+1)).map λs=> [pS s]:=by rw[n,g];rfl
      have HW:=Lib.hid hw
      rw[g]at hz ⊢
      clear hw n g
      rw[eE]
      repeat' first|simp(disch:=omega)only[go_sem, *,ac f,br,wrap_i64,hz]|apply ab<;>intro h<;>try omega|refine av (jD hf o HC.out f []) rfl rfl ?_|refine cQ aN (ak rfl) (by simp) (by simp) (by simp) ?_
      refine⟨k+1, [],⟨by omega,HA.out⟩,by omega, ?_⟩
      rw[bK HN.out,HW.out]
      simp
      try omega
     ·have hw:(cM p k).map (λs=> [pS s])++ [[pS p.defs[k].name]]=(cM p (k+1)).map λs=> [pS s]:=by rw[n,List.map_append];rfl
      have HW:=Lib.hid hw
      rw[bK g]
      clear hw n g
      repeat' first|simp(disch:=omega)only[go_sem, *,ac f,br,wrap_i64,hz]|apply ab<;>intro h<;>try omega|refine av (jD hf o HC.out f _) rfl rfl ?_|refine aF rfl (by intro h;cases h) (ak rfl) (by simp;omega) (by simp;omega) ?_
      refine⟨k+1, [(1,2)],⟨by omega,HA.out⟩,by omega, ?_⟩
      rw[bK HN.out,HW.out]
      simp
      try omega
    ·rw[ww HC.out HS.out HW.out HP.out f e hs hz]
     clear e hs
     by_cases g:cM p k= []
     ·rw[g]at hz ⊢
      clear g
      rw[eE]
      repeat' first|simp(disch:=omega)only[go_sem, *,ac f,br,wrap_i64,hz]|apply ab<;>intro h<;>try omega|refine av (jD hf o HC.out f []) rfl rfl ?_
     ·rw[bK g]
      clear g
      repeat' first|simp(disch:=omega)only[go_sem, *,ac f,br,wrap_i64,hz]|apply ab<;>intro h<;>try omega|refine av (jD hf o HC.out f _) rfl rfl ?_
   have HD:Hid (∀j,j<p.defs.length→xD p j=0):= λj hj=>e j (by omega)
   have v:k=p.defs.length:=by omega
   clear e u
   subst v
   repeat clear f
   repeat clear hk
   rw[BW]
   repeat' first|simp(disch:=omega)only[go_sem, *,JY]|apply ab<;>intro h<;>try omega
   refine ai (λk:Nat=>⟨[(8,I ((2:Int)+p.params.length+p.defs.length+k)),(13,I k),(1,.c (.ptr 0 0))], [(0,dL p)],1,0⟩) (λk=>k≤p.outs.length∧bI (λj=>I3 p j=0) k) (λk=>p.outs.length-k) ⟨0, [],⟨by omega,.zero⟩,by unfold S7 Q7 Ts;split<;>simp⟩ ?_
   rintro k ⟨hk,e⟩
   refine aa ?_
   by_cases f:k<p.outs.length
   ·have hs:=Iw f
    have cF:=lM hf p.outs[k]
    have cB:=k9 (p.outs.take k) p.outs[k]
    by_cases hn:aZ p p.outs[k]=none
    ·rw[if_pos hn]at hs
     rw[pH HC.out HS.out HW.out HP.out HD.out f e hs (by decide)]
     rw[hn]at cF
     clear e hs hn
     repeat' first|simp(disch:=omega)only[go_sem, *,ac f,wrap_i64]|apply ab<;>intro h<;>try omega|refine o5 cF rfl rfl ?_
    ·obtain⟨r,hr⟩: ∃r,aZ p p.outs[k]=some r:=by
      cases h:aZ p p.outs[k]with
      |none=>exact absurd h hn
      |some r=>exact⟨r,rfl⟩
     rw[if_neg hn]at hs
     rw[hr]at cF
     clear hn hr
     obtain⟨t,dims⟩:=r
     by_cases hm:p.outs[k]∈p.outs.take k
     ·rw[if_pos hm]at hs
      rw[pH HC.out HS.out HW.out HP.out HD.out f e hs (by decide)]
      clear e hs
      repeat' first|simp(disch:=omega)only[go_sem, *,ac f,wrap_i64,←List.map_take,tH,Option.getD_none,Option.getD_some,hm,decide_true]|apply ab<;>intro h<;>try omega|refine o5 cF rfl rfl ?_|refine av cB rfl rfl ?_
     ·rw[if_neg hm]at hs
      have HA:=Lib.hid (e.succ hs)
      clear e hs
      repeat' first|simp(disch:=omega)only[go_sem, *,ac f,wrap_i64,←List.map_take,tH,Option.getD_none,Option.getD_some,hm,decide_false]|apply ab<;>intro h<;>try omega|refine o5 cF rfl rfl ?_|refine av cB rfl rfl ?_
      exact⟨k+1, [],⟨by omega,HA.out⟩,by omega,by simp;omega⟩
   ·rw[zc HC.out HS.out HW.out HP.out HD.out λj hj=>e j (by omega)]
    clear e
    repeat' first|simp(disch:=omega)only[go_sem, *]|apply ab<;>intro h<;>try omega
  ·rw[zy hc rfl hs]
   repeat' first|simp(disch:=omega)only[go_sem, *,hs]|apply ab<;>intro h<;>try omega|refine av cS rfl rfl ?_
 ·rw[if_neg hc]at cS
  rw[wi hc]
  repeat' first|simp(disch:=omega)only[go_sem, *]|apply ab<;>intro h<;>try omega|refine av cS rfl rfl ?_
end Go.Proofs.YtjhkikmonejkjaaGreatDoor
