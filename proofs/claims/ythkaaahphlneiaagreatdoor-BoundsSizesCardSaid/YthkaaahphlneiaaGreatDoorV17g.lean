import Derived.Test.YthkaaahphlneiaaGreatDoorV17e
set_option linter.unusedVariables false
set_option linter.unusedSimpArgs false
set_option maxRecDepth 20000
set_option maxHeartbeats 4000000
set_option maxRecDepth 1000000
namespace Go.Proofs.YthkaaahphlneiaaGreatDoor
open Go.Abs Go.RowKit
theorem lU (d:zH):ac Tryz.prog jj [JI d] (I (f8 d)):=by
 refine ac.of xu (by simp) fun hb=>aa ?_
 conv in nL=>cbv
 repeat' first|simp(disch:=omega) only[go_sem, *,NV]|((with_reducible refine ab ?_ ?_)<;>intro h<;>try omega)
 all_goals(refine IE ?_;unfold f8;grind)
theorem lh {d:zH} (h1:d.dims.length≤1000) (h2:d.red.length≤1000):ac Tryz.prog iH [JI d] (.c (.pure (cH (aT d)))):=by
 refine ac.of vD (by simp) fun hb=>aa ?_
 conv in mC=>cbv
 repeat' first|simp(disch:=omega) only[go_sem, *]|((with_reducible refine ab ?_ ?_)<;>intro h<;>try omega)
 refine dv 3 9 1 rfl (by decide) ?_
 refine aj (fun k:Nat=>⟨[(4,I k),(3,.c (.ref 1)),(1,.c (.ptr 0 0))], [(1,.arr 9 1 ((d.dims.take k).map fun a=> [pS a.1])),(0,J4 d)],2,0⟩) (fun k=>k≤d.dims.length) (fun k=>d.dims.length-k) ⟨0, [],by omega,by simp⟩ ?_
 intro k hk
 refine aa ?_
 by_cases hlt:k<d.dims.length
 ·have ht:(d.dims.take k).map (fun a:eY=> [pS a.1])++ [[pS d.dims[k].1]]=(d.dims.take (k+1)).map fun a=> [pS a.1]:=by rw[List.take_succ_eq_append_getElem hlt,List.map_append];rfl
  have HT:=Lib.hid ht
  clear ht
  repeat' first|simp(disch:=omega) only[go_sem, *,ae hlt,ed,wrap_i64]|((with_reducible refine ab ?_ ?_)<;>intro h<;>try omega)|(refine aN rfl (by intro h;cases h) (aI rfl) (by simp;omega) (by simp;omega) ?_)
  rw[HT.out]
  exact⟨k+1, [(1,2)],by omega,by omega,by simp⟩
 ·repeat' first|simp(disch:=omega) only[go_sem, *]|((with_reducible refine ab ?_ ?_)<;>intro h<;>try omega)
  refine aj (fun k:Nat=>⟨[(5,I k),(3,.c (.ref 1)),(1,.c (.ptr 0 0))], [(1,.arr 9 1 (d.dims.map (fun a=> [pS a.1])++(d.red.take k).map fun a=> [pS a.1])),(0,J4 d)],2,0⟩) (fun k=>k≤d.red.length) (fun k=>d.red.length-k) ⟨0, [],by omega,by rw[List.take_of_length_le (by omega)];simp⟩ ?_
  clear hlt hk
  intro k hk
  refine aa ?_
  by_cases hlt:k<d.red.length
  ·have ht:d.dims.map (fun a:eY=> [pS a.1])++(d.red.take k).map (fun a:eY=> [pS a.1])++ [[pS d.red[k].1]]=d.dims.map (fun a:eY=> [pS a.1])++(d.red.take (k+1)).map fun a=> [pS a.1]:=by rw[List.take_succ_eq_append_getElem hlt,List.map_append,List.append_assoc];rfl
   have HT:=Lib.hid ht
   clear ht
   repeat' first|simp(disch:=omega) only[go_sem, *,ae hlt,ed,wrap_i64]|((with_reducible refine ab ?_ ?_)<;>intro h<;>try omega)|(refine aN rfl (by intro h;cases h) (aI rfl) (by simp;omega) (by simp;omega) ?_)
   rw[HT.out]
   exact⟨k+1, [(1,2)],by omega,by omega,by simp⟩
  ·repeat' first|simp(disch:=omega) only[go_sem, *]|((with_reducible refine ab ?_ ?_)<;>intro h<;>try omega)
   rw[List.take_of_length_le (by omega)]
   simp[aT,List.map_map,Function.comp_def]
set_option maxHeartbeats 4000000 in
theorem ku {p:bK} (hf:j8 p) (h64:sd p) (hc:jE p) {k:Nat} (hk:k<p.defs.length) (taken:List ByteArray):ac Tryz.prog uV [fK p,I k,.c (.pure (cH taken))] (I (bh p k taken p.defs[k])):=by
 refine ac.of I4 (by simp) fun hb=>aa ?_
 have cT:=zY (Bt hf k) (aT p.defs[k]) (h64 _ (List.getElem_mem hk))
 have hsz:=hc.1
 have hRo:bl 22 (p.defs.map cr):=ar fun x=>rfl
 conv in Br=>cbv
 by_cases h1:aO taken p.defs[k].name=0
 ·by_cases h2:l8 p.defs[k].ty
  ·by_cases h3:6<p.defs[k].dims.length∨6<p.defs[k].red.length
   ·rw[show bh p k taken p.defs[k]=11 by unfold bh;rw[if_neg (not_not_intro h1),if_neg (not_not_intro h2),if_pos h3]]
    repeat' first|simp(disch:=omega) only[go_sem, *,ae hk,cr,h1,h2,decide_true]|((with_reducible refine ab ?_ ?_)<;>intro h<;>try omega)|(refine av (aC _ _) rfl rfl ?_)|(refine av (bH p.defs[k].ty) rfl rfl ?_)
   ·by_cases hd:p.defs[k].dims= []
    ·have cA:=tE p.defs[k].red p.sizes (by omega) (by omega)
     have cR:=lU p.defs[k]
     have cI:=lh (d:=p.defs[k]) (by omega) (by omega)
     simp only[JI,hd]at cR cI
     by_cases h4:bk p.sizes p.sizes (p.defs[k].dims++p.defs[k].red)=0
     ·by_cases h5:f8 p.defs[k]=0
      ·have hT:(bi (ce p k) (aT p.defs[k]) p.defs[k].body)=(bi {p with wher:= [],defs:=p.defs.take k,outs:= []} (aT p.defs[k]) p.defs[k].body):=rfl
       by_cases h6:(bi (ce p k) (aT p.defs[k]) p.defs[k].body).2=0
       ·by_cases h7:(bi (ce p k) (aT p.defs[k]) p.defs[k].body).1=p.defs[k].ty
        ·rw[show bh p k taken p.defs[k]=0 by unfold bh;rw[if_neg (not_not_intro h1),if_neg (not_not_intro h2),if_neg h3,if_neg (not_not_intro h4),if_neg (not_not_intro h5),←hT,if_neg (not_not_intro h6),if_neg (not_not_intro h7)]]
         clear hT
         generalize bi (ce p k) (aT p.defs[k]) p.defs[k].body=r at*
         obtain⟨r1,r2⟩:=r
         simp only at h6 h7
         subst h7
         have h4':bk p.sizes p.sizes p.defs[k].red=0:=by rw[hd,List.nil_append]at h4;exact h4
         repeat' first|simp(disch:=omega) only[go_sem, *,ae hk,cr,h1,h2,h4',h5,h6,decide_true,←List.map_take,hRo,Option.getD_none,Option.getD_some,hd]|((with_reducible refine ab ?_ ?_)<;>intro h<;>try omega)|(with_reducible refine af ?_ ?_)|(with_reducible refine ag (fun h=> ?_) ?_)|(refine av (aC _ _) rfl rfl ?_)|(refine av (bH p.defs[k].ty) rfl rfl ?_)|(refine av cA rfl rfl ?_)|(refine dN aU ?_)|(refine im aU (ar fun x=>rfl) (by simp;omega) (by simp;omega) ?_)|(refine av cR rfl rfl ?_)|(refine bS cI rfl rfl ?_)|(refine av cT rfl rfl ?_)
        ·rw[show bh p k taken p.defs[k]=10 by unfold bh;rw[if_neg (not_not_intro h1),if_neg (not_not_intro h2),if_neg h3,if_neg (not_not_intro h4),if_neg (not_not_intro h5),←hT,if_neg (not_not_intro h6),if_pos h7]]
         clear hT
         generalize bi (ce p k) (aT p.defs[k]) p.defs[k].body=r at*
         have h4':bk p.sizes p.sizes p.defs[k].red=0:=by rw[hd,List.nil_append]at h4;exact h4
         repeat' first|simp(disch:=omega) only[go_sem, *,ae hk,cr,h1,h2,h4',h5,h6,decide_true,←List.map_take,hRo,Option.getD_none,Option.getD_some,hd]|((with_reducible refine ab ?_ ?_)<;>intro h<;>try omega)|(with_reducible refine af ?_ ?_)|(with_reducible refine ag (fun h=> ?_) ?_)|(refine av (aC _ _) rfl rfl ?_)|(refine av (bH p.defs[k].ty) rfl rfl ?_)|(refine av cA rfl rfl ?_)|(refine dN aU ?_)|(refine im aU (ar fun x=>rfl) (by simp;omega) (by simp;omega) ?_)|(refine av cR rfl rfl ?_)|(refine bS cI rfl rfl ?_)|(refine av cT rfl rfl ?_)
         all_goals first
          |exact absurd (xD h) h7
          |rfl
       ·rw[show bh p k taken p.defs[k]=(bi (ce p k) (aT p.defs[k]) p.defs[k].body).2 by unfold bh;rw[if_neg (not_not_intro h1),if_neg (not_not_intro h2),if_neg h3,if_neg (not_not_intro h4),if_neg (not_not_intro h5),←hT,if_pos h6]]
        clear hT
        generalize bi (ce p k) (aT p.defs[k]) p.defs[k].body=r at*
        have h4':bk p.sizes p.sizes p.defs[k].red=0:=by rw[hd,List.nil_append]at h4;exact h4
        repeat' first|simp(disch:=omega) only[go_sem, *,ae hk,cr,h1,h2,h4',h5,h6,decide_true,←List.map_take,hRo,Option.getD_none,Option.getD_some,hd]|((with_reducible refine ab ?_ ?_)<;>intro h<;>try omega)|(with_reducible refine af ?_ ?_)|(with_reducible refine ag (fun h=> ?_) ?_)|(refine av (aC _ _) rfl rfl ?_)|(refine av (bH p.defs[k].ty) rfl rfl ?_)|(refine av cA rfl rfl ?_)|(refine dN aU ?_)|(refine im aU (ar fun x=>rfl) (by simp;omega) (by simp;omega) ?_)|(refine av cR rfl rfl ?_)|(refine bS cI rfl rfl ?_)|(refine av cT rfl rfl ?_)
      ·rw[show bh p k taken p.defs[k]=f8 p.defs[k] by unfold bh;rw[if_neg (not_not_intro h1),if_neg (not_not_intro h2),if_neg h3,if_neg (not_not_intro h4),if_pos h5]]
       have h4':bk p.sizes p.sizes p.defs[k].red=0:=by rw[hd,List.nil_append]at h4;exact h4
       repeat' first|simp(disch:=omega) only[go_sem, *,ae hk,cr,h1,h2,h4',h5,decide_true,hd]|((with_reducible refine ab ?_ ?_)<;>intro h<;>try omega)|(with_reducible refine af ?_ ?_)|(with_reducible refine ag (fun h=> ?_) ?_)|(refine av (aC _ _) rfl rfl ?_)|(refine av (bH p.defs[k].ty) rfl rfl ?_)|(refine av cA rfl rfl ?_)|(refine dN aU ?_)|(refine im aU (ar fun x=>rfl) (by simp;omega) (by simp;omega) ?_)|(refine av cR rfl rfl ?_)
     ·rw[show bh p k taken p.defs[k]=bk p.sizes p.sizes (p.defs[k].dims++p.defs[k].red) by unfold bh;rw[if_neg (not_not_intro h1),if_neg (not_not_intro h2),if_neg h3,if_pos h4]]
      have h4': ¬bk p.sizes p.sizes p.defs[k].red=0:=by rw[hd,List.nil_append]at h4;exact h4
      repeat' first|simp(disch:=omega) only[go_sem, *,ae hk,cr,h1,h2,h4',decide_true,hd]|((with_reducible refine ab ?_ ?_)<;>intro h<;>try omega)|(with_reducible refine af ?_ ?_)|(with_reducible refine ag (fun h=> ?_) ?_)|(refine av (aC _ _) rfl rfl ?_)|(refine av (bH p.defs[k].ty) rfl rfl ?_)|(refine av cA rfl rfl ?_)|(refine dN aU ?_)|(refine im aU (ar fun x=>rfl) (by simp;omega) (by simp;omega) ?_)
    ·have cA:=tE (p.defs[k].dims++p.defs[k].red) p.sizes (by simp;omega) (by omega)
     rw[show d8 ed (p.defs[k].dims++p.defs[k].red)= .c (.pure (.slice (p.defs[k].dims.map ed++p.defs[k].red.map ed))) by show AV.c (.pure (.slice (List.map ed (_++_))))=_;rw[List.map_append]]at cA
     have cR:=lU p.defs[k]
     have cI:=lh (d:=p.defs[k]) (by omega) (by omega)
     by_cases h4:bk p.sizes p.sizes (p.defs[k].dims++p.defs[k].red)=0
     ·by_cases h5:f8 p.defs[k]=0
      ·have hT:(bi (ce p k) (aT p.defs[k]) p.defs[k].body)=(bi {p with wher:= [],defs:=p.defs.take k,outs:= []} (aT p.defs[k]) p.defs[k].body):=rfl
       by_cases h6:(bi (ce p k) (aT p.defs[k]) p.defs[k].body).2=0
       ·by_cases h7:(bi (ce p k) (aT p.defs[k]) p.defs[k].body).1=p.defs[k].ty
        ·rw[show bh p k taken p.defs[k]=0 by unfold bh;rw[if_neg (not_not_intro h1),if_neg (not_not_intro h2),if_neg h3,if_neg (not_not_intro h4),if_neg (not_not_intro h5),←hT,if_neg (not_not_intro h6),if_neg (not_not_intro h7)]]
         clear hT
         generalize bi (ce p k) (aT p.defs[k]) p.defs[k].body=r at*
         obtain⟨r1,r2⟩:=r
         simp only at h6 h7
         subst h7
         have h4':bk p.sizes p.sizes (p.defs[k].dims++p.defs[k].red)=0:=h4
         repeat' first|simp(disch:=omega) only[go_sem, *,ae hk,cr,h1,h2,h4',h5,h6,decide_true,←List.map_take,hRo,Option.getD_none,Option.getD_some]|((with_reducible refine ab ?_ ?_)<;>intro h<;>try omega)|(with_reducible refine af ?_ ?_)|(with_reducible refine ag (fun h=> ?_) ?_)|(refine av (aC _ _) rfl rfl ?_)|(refine av (bH p.defs[k].ty) rfl rfl ?_)|(refine av cA rfl rfl ?_)|(refine dI aU (ar fun x=>rfl) (by simpa using hd) (by simp;omega) (by simp;omega) ?_)|(refine aN rfl (by intro h;cases h) (ar fun x=>rfl) (by simp;omega) (by simp;omega) ?_)|(refine av cR rfl rfl ?_)|(refine bS cI rfl rfl ?_)|(refine av cT rfl rfl ?_)
        ·rw[show bh p k taken p.defs[k]=10 by unfold bh;rw[if_neg (not_not_intro h1),if_neg (not_not_intro h2),if_neg h3,if_neg (not_not_intro h4),if_neg (not_not_intro h5),←hT,if_neg (not_not_intro h6),if_pos h7]]
         clear hT
         generalize bi (ce p k) (aT p.defs[k]) p.defs[k].body=r at*
         have h4':bk p.sizes p.sizes (p.defs[k].dims++p.defs[k].red)=0:=h4
         repeat' first|simp(disch:=omega) only[go_sem, *,ae hk,cr,h1,h2,h4',h5,h6,decide_true,←List.map_take,hRo,Option.getD_none,Option.getD_some]|((with_reducible refine ab ?_ ?_)<;>intro h<;>try omega)|(with_reducible refine af ?_ ?_)|(with_reducible refine ag (fun h=> ?_) ?_)|(refine av (aC _ _) rfl rfl ?_)|(refine av (bH p.defs[k].ty) rfl rfl ?_)|(refine av cA rfl rfl ?_)|(refine dI aU (ar fun x=>rfl) (by simpa using hd) (by simp;omega) (by simp;omega) ?_)|(refine aN rfl (by intro h;cases h) (ar fun x=>rfl) (by simp;omega) (by simp;omega) ?_)|(refine av cR rfl rfl ?_)|(refine bS cI rfl rfl ?_)|(refine av cT rfl rfl ?_)
         all_goals first
          |exact absurd (xD h) h7
          |rfl
       ·rw[show bh p k taken p.defs[k]=(bi (ce p k) (aT p.defs[k]) p.defs[k].body).2 by unfold bh;rw[if_neg (not_not_intro h1),if_neg (not_not_intro h2),if_neg h3,if_neg (not_not_intro h4),if_neg (not_not_intro h5),←hT,if_pos h6]]
        clear hT
        generalize bi (ce p k) (aT p.defs[k]) p.defs[k].body=r at*
        have h4':bk p.sizes p.sizes (p.defs[k].dims++p.defs[k].red)=0:=h4
        repeat' first|simp(disch:=omega) only[go_sem, *,ae hk,cr,h1,h2,h4',h5,h6,decide_true,←List.map_take,hRo,Option.getD_none,Option.getD_some]|((with_reducible refine ab ?_ ?_)<;>intro h<;>try omega)|(with_reducible refine af ?_ ?_)|(with_reducible refine ag (fun h=> ?_) ?_)|(refine av (aC _ _) rfl rfl ?_)|(refine av (bH p.defs[k].ty) rfl rfl ?_)|(refine av cA rfl rfl ?_)|(refine dI aU (ar fun x=>rfl) (by simpa using hd) (by simp;omega) (by simp;omega) ?_)|(refine aN rfl (by intro h;cases h) (ar fun x=>rfl) (by simp;omega) (by simp;omega) ?_)|(refine av cR rfl rfl ?_)|(refine bS cI rfl rfl ?_)|(refine av cT rfl rfl ?_)
      ·rw[show bh p k taken p.defs[k]=f8 p.defs[k] by unfold bh;rw[if_neg (not_not_intro h1),if_neg (not_not_intro h2),if_neg h3,if_neg (not_not_intro h4),if_pos h5]]
       have h4':bk p.sizes p.sizes (p.defs[k].dims++p.defs[k].red)=0:=h4
       repeat' first|simp(disch:=omega) only[go_sem, *,ae hk,cr,h1,h2,h4',h5,decide_true]|((with_reducible refine ab ?_ ?_)<;>intro h<;>try omega)|(with_reducible refine af ?_ ?_)|(with_reducible refine ag (fun h=> ?_) ?_)|(refine av (aC _ _) rfl rfl ?_)|(refine av (bH p.defs[k].ty) rfl rfl ?_)|(refine av cA rfl rfl ?_)|(refine dI aU (ar fun x=>rfl) (by simpa using hd) (by simp;omega) (by simp;omega) ?_)|(refine aN rfl (by intro h;cases h) (ar fun x=>rfl) (by simp;omega) (by simp;omega) ?_)|(refine av cR rfl rfl ?_)
     ·rw[show bh p k taken p.defs[k]=bk p.sizes p.sizes (p.defs[k].dims++p.defs[k].red) by unfold bh;rw[if_neg (not_not_intro h1),if_neg (not_not_intro h2),if_neg h3,if_pos h4]]
      have h4': ¬bk p.sizes p.sizes (p.defs[k].dims++p.defs[k].red)=0:=h4
      repeat' first|simp(disch:=omega) only[go_sem, *,ae hk,cr,h1,h2,h4',decide_true]|((with_reducible refine ab ?_ ?_)<;>intro h<;>try omega)|(with_reducible refine af ?_ ?_)|(with_reducible refine ag (fun h=> ?_) ?_)|(refine av (aC _ _) rfl rfl ?_)|(refine av (bH p.defs[k].ty) rfl rfl ?_)|(refine av cA rfl rfl ?_)|(refine dI aU (ar fun x=>rfl) (by simpa using hd) (by simp;omega) (by simp;omega) ?_)|(refine aN rfl (by intro h;cases h) (ar fun x=>rfl) (by simp;omega) (by simp;omega) ?_)
  ·rw[show bh p k taken p.defs[k]=10 by unfold bh;rw[if_neg (not_not_intro h1),if_pos h2]]
   repeat' first|simp(disch:=omega) only[go_sem, *,ae hk,cr,h1,h2,decide_false]|((with_reducible refine ab ?_ ?_)<;>intro h<;>try omega)|(refine av (aC _ _) rfl rfl ?_)|(refine av (bH p.defs[k].ty) rfl rfl ?_)
 ·rw[show bh p k taken p.defs[k]=aO taken p.defs[k].name by unfold bh;rw[if_pos h1]]
  repeat' first|simp(disch:=omega) only[go_sem, *,ae hk,cr,h1]|((with_reducible refine ab ?_ ?_)<;>intro h<;>try omega)|(refine av (aC _ _) rfl rfl ?_)|(refine av (bH p.defs[k].ty) rfl rfl ?_)
set_option maxRecDepth 20000
set_option maxRecDepth 1000000
theorem vi (l:List ByteArray):bl 1 (l.map fun s=> [pS s]):=ar fun x=>rfl
theorem Cl (p:bK):ac Tryz.prog oU [fK p] (I (if jE p then mN p else 2)):=by
 refine ac.of Fp (by simp) fun hb=>aa ?_
 conv in vO=>cbv
 by_cases hc:jE p
 ·rw[if_pos hc]
  have h1: ¬(p.sizes.length:Int)>64:=by have:=hc.1;omega
  have h2: ¬(p.params.length:Int)>64:=by have:=hc.2.1;omega
  have h3: ¬(p.defs.length:Int)>64:=by have:=hc.2.2.1;omega
  have h4: ¬(p.outs.length:Int)>64:=by have:=hc.2.2.2.1;omega
  have h5: ¬(p.wher.length:Int)>256:=by have:=hc.2.2.2.2;omega
  clear hc
  repeat' first|simp(disch:=omega) only[go_sem, *]|((with_reducible refine ab ?_ ?_)<;>intro h<;>try omega)
  refine aj (fun k:Nat=>⟨[(3,I k),(1,.c (.ptr 0 0))], [(0,d6 p)],1,0⟩) (fun k=>k≤p.sizes.length∧dW (fun j=>S5 p j=0) k) (fun k=>p.sizes.length-k) ⟨0, [],⟨by omega,.zero⟩,by simp⟩ ?_
  clear h2 h3 h4 h5
  rintro k ⟨hk,hall⟩
  refine aa ?_
  by_cases hlt:k<p.sizes.length
  ·have hs:=Nd hlt
   by_cases hz:aO (p.sizes.take k) p.sizes[k]=0
   ·have HA:=Lib.hid (hall.succ (hs.trans hz))
    clear hall hs
    repeat' first|simp(disch:=omega) only[go_sem, *,ae hlt,wrap_i64,←List.map_take,vi,Option.getD_none,Option.getD_some,hz]|((with_reducible refine ab ?_ ?_)<;>intro h<;>try omega)|(refine av (aC p.sizes[k] (p.sizes.take k)) rfl rfl ?_)
    exact⟨k+1, [],⟨by omega,HA.out⟩,by omega,by simp⟩
   ·rw[Lt hlt hall hs hz]
    clear hall hs
    repeat' first|simp(disch:=omega) only[go_sem, *,ae hlt,wrap_i64,←List.map_take,vi,Option.getD_none,Option.getD_some,hz]|((with_reducible refine ab ?_ ?_)<;>intro h<;>try omega)|(refine av (aC p.sizes[k] (p.sizes.take k)) rfl rfl ?_)
  ·rw[DY fun j hj=>hall j (by omega)]
   clear hall
   repeat' first|simp(disch:=omega) only[go_sem, *]|((with_reducible refine ab ?_ ?_)<;>intro h<;>try omega)
 ·rw[if_neg hc]
  have hc': ¬((p.sizes.length:Int)≤64∧(p.params.length:Int)≤64∧(p.defs.length:Int)≤64∧(p.outs.length:Int)≤64∧(p.wher.length:Int)≤256):=fun h=>hc (by unfold jE;omega)
  clear hc
  have HC:=Lib.hid hc'
  clear hc'
  repeat' first|simp(disch:=omega) only[go_sem, *]|((with_reducible refine ab ?_ ?_)<;>intro h<;>try omega)
  all_goals(exfalso;have:=HC.out;omega)
def Wb (nx:Nat) (l:List ByteArray):AV:=if l= []then .c (.tsl [])else .c (.ref nx)
def U7 (nx:Nat) (l:List ByteArray) (m:List (Nat×aS)):List (Nat×aS):=if l= []then m else(nx,.arr 9 1 (l.map fun s=> [pS s]))::m
def Wd (nx:Nat) (l:List ByteArray):Nat:=if l= []then nx else nx+1
theorem CJ {fr:List (Nat×AV)} {t:Nat} {mem:List (Nat×aS)} {nx:Nat} {l:List ByteArray}:LV fr t mem nx l=⟨(t,Wb nx l)::fr,U7 nx l mem,Wd nx l,0⟩:=by
 unfold LV Wb U7 Wd
 split<;>rfl
theorem Mo {b:aS} {l:List ByteArray}:ak (U7 1 l [(0,b)]) 0=some b:=by
 unfold U7
 split
 ·rfl
 ·rfl
theorem VX {bytes:Nat} {y:AV} {ys:List ByteArray} {fr:List (Nat×AV)} {mem:List (Nat×aS)} {nx:Nat} {K:nF (AV→St→Prop)} (h1:ys.length*bytes≤140737488355328) (h2:ys.length≤140737488355328)
  (hk:K.out (Wb nx ys) ⟨fr,U7 nx ys mem,Wd nx ys,0⟩): @Cp 9 1 bytes (.c (.tsl [])) y (ys.map fun s=> [pS s]) ⟨fr,mem,nx,0⟩ K:=by
 by_cases h:ys= []
 ·subst h
  exact dN aU hk
 ·unfold Wb U7 Wd at hk
  rw[if_neg h,if_neg h,if_neg h]at hk
  exact dI aU (ar fun x=>rfl) (by simpa using h) (by simpa using h1) (by simpa using h2) hk
theorem Mq {p:bK}:dM p 0=p.sizes:=by simp[dM]
theorem Lk {p:bK}:dV p 0=dM p p.params.length:=by rw[LW,Ke]
set_option maxHeartbeats 4000000 in
theorem mL {p:bK} (hf:j8 p) (h64:sd p):ac Tryz.prog kc [fK p] (.tup [I (c7 p).1,I (c7 p).2]):=by
 refine ac.of yb (by simp) fun hb=>aa ?_
 conv in pR=>cbv
 have cS:=Cl p
 by_cases hc:jE p
 ·rw[if_pos hc]at cS
  by_cases hs:mN p=0
  ·rw[hs]at cS
   have hl1:=hc.1
   have hl2:=hc.2.1
   have hl3:=hc.2.2.1
   have hl4:=hc.2.2.2.1
   have hl5:=hc.2.2.2.2
   have HC:=Lib.hid hc
   have HS:=Lib.hid hs
   clear hc hs
   repeat' first|simp(disch:=omega) only[go_sem, *]|((with_reducible refine ab ?_ ?_)<;>intro h<;>try omega)|(refine av cS rfl rfl ?_)
   refine aj (fun k:Nat=>⟨[(5,I k),(1,.c (.ptr 0 0))], [(0,d6 p)],1,0⟩) (fun k=>k≤p.wher.length∧Hid (cQ ((p.wher.map fun c=>bq p.sizes c.1).take k)=0)) (fun k=>p.wher.length-k) ⟨0, [],⟨by omega,by show _=_;simp[cQ]⟩,by simp⟩ ?_
   clear cS
   rintro k ⟨hk,hall⟩
   refine aa ?_
   by_cases hlt:k<p.wher.length
   ·have hlm:k<(p.wher.map fun c=>bq p.sizes c.1).length:=by simpa using hlt
    have h4:=iD hlm hall.out
    have h5:=m9 hlm hall.out
    rw[List.getElem_map]at h4 h5
    clear hall
    by_cases hz:bq p.sizes p.wher[k].1=0
    ·have HN:=Lib.hid (h4.trans hz)
     clear h4 h5
     repeat' first|simp(disch:=omega) only[go_sem, *,ae hlt,cP,wrap_i64,hz]|((with_reducible refine ab ?_ ?_)<;>intro h<;>try omega)|(refine av (bX p.wher[k].1 _) rfl rfl ?_)
     exact⟨k+1, [],⟨by omega,HN⟩,by omega,by simp⟩
    ·rw[Aj HC.out HS.out (h5 hz) hz]
     clear h4 h5
     repeat' first|simp(disch:=omega) only[go_sem, *,ae hlt,cP,wrap_i64,hz]|((with_reducible refine ab ?_ ?_)<;>intro h<;>try omega)|(refine av (bX p.wher[k].1 _) rfl rfl ?_)
   have hw:ua p=0:=by
    have hz:=hall.out
    rw[List.take_of_length_le (by simp;omega)]at hz
    exact hz
   have HW:=Lib.hid hw
   clear hall hw
   repeat' first|simp(disch:=omega) only[go_sem, *]|((with_reducible refine ab ?_ ?_)<;>intro h<;>try omega)|(refine VX (by omega) (by omega) ?_)
   repeat clear hlt
   repeat clear hk
   refine aj (fun k:Nat=>LV [(8,I ((2:Int)+k)),(9,I k),(1,.c (.ptr 0 0))] 7 [(0,d6 p)] 1 (dM p k)) (fun k=>k≤p.params.length∧dW (fun j=>x5 p j=0) k) (fun k=>p.params.length-k) ⟨0, [],⟨by omega,.zero⟩,by rw[Mq,CJ];unfold Wb U7 Wd;split<;>simp⟩ ?_
   rintro k ⟨hk,hall⟩
   refine aa ?_
   have hlen:=(Ij k HC.out).1
   by_cases hlt:k<p.params.length
   ·have hs:=JZ hlt
    by_cases hz:dC p.sizes (dM p k) p.params[k]=0
    ·have HA:=Lib.hid (hall.succ (hs.trans hz))
     have hsu:=Ln hlt
     have HN:Hid (dM p (k+1)≠ []):=by show _≠_;rw[hsu];simp
     clear hall hs
     by_cases htn:dM p k= []
     ·have hw:([[pS p.params[k].1]]:List (List PC))=(dM p (k+1)).map fun s=> [pS s]:=by rw[hsu,htn];rfl
      have HW:=Lib.hid hw
      rw[htn]at hz ⊢
      clear hw hsu htn
      rw[fi]
      repeat' first|simp(disch:=omega) only[go_sem, *,ae hlt,gV,wrap_i64,hz]|((with_reducible refine ab ?_ ?_)<;>intro h<;>try omega)|(refine av (iu p.params[k] _ []) rfl rfl ?_)|(refine dI aU (aI rfl) (by simp) (by simp) (by simp) ?_)
      refine⟨k+1, [],⟨by omega,HA.out⟩,by omega, ?_⟩
      rw[b6 HN.out,HW.out]
      simp
      try omega
     ·have hw:(dM p k).map (fun s=> [pS s])++ [[pS p.params[k].1]]=(dM p (k+1)).map fun s=> [pS s]:=by rw[hsu,List.map_append];rfl
      have HW:=Lib.hid hw
      rw[b6 htn]
      clear hw hsu htn
      repeat' first|simp(disch:=omega) only[go_sem, *,ae hlt,gV,wrap_i64,hz]|((with_reducible refine ab ?_ ?_)<;>intro h<;>try omega)|(refine av (iu p.params[k] _ _) rfl rfl ?_)|(refine aN rfl (by intro h;cases h) (aI rfl) (by simp;omega) (by simp;omega) ?_)
      refine⟨k+1, [(1,2)],⟨by omega,HA.out⟩,by omega, ?_⟩
      rw[b6 HN.out,HW.out]
      simp
      try omega
    ·rw[xC HC.out HS.out HW.out hlt hall hs hz]
     clear hall hs
     by_cases htn:dM p k= []
     ·rw[htn]at hz ⊢
      clear htn
      rw[fi]
      repeat' first|simp(disch:=omega) only[go_sem, *,ae hlt,gV,wrap_i64,hz]|((with_reducible refine ab ?_ ?_)<;>intro h<;>try omega)|(refine av (iu p.params[k] _ []) rfl rfl ?_)
     ·rw[b6 htn]
      clear htn
      repeat' first|simp(disch:=omega) only[go_sem, *,ae hlt,gV,wrap_i64,hz]|((with_reducible refine ab ?_ ?_)<;>intro h<;>try omega)|(refine av (iu p.params[k] _ _) rfl rfl ?_)
   have HP:Hid (∀j,j<p.params.length→x5 p j=0):=fun j hj=>hall j (by omega)
   have hkp:k=p.params.length:=by omega
   clear hall hlen
   subst hkp
   repeat clear hlt
   repeat clear hk
   rw[CJ]
   repeat' first|simp(disch:=omega) only[go_sem, *,Mo]|((with_reducible refine ab ?_ ?_)<;>intro h<;>try omega)
   refine aj (fun k:Nat=>LV [(8,I ((2:Int)+p.params.length+k)),(11,I k),(1,.c (.ptr 0 0))] 7 [(0,d6 p)] 1 (dV p k)) (fun k=>k≤p.defs.length∧dW (fun j=>yR p j=0) k) (fun k=>p.defs.length-k) ⟨0, [],⟨by omega,.zero⟩,by rw[Lk,CJ];unfold Wb U7 Wd;split<;>simp⟩ ?_
   rintro k ⟨hk,hall⟩
   refine aa ?_
   have hlen:=(Ij k HC.out).2
   by_cases hlt:k<p.defs.length
   ·have hs:=CL hlt
    by_cases hz:bh p k (dV p k) p.defs[k]=0
    ·have HA:=Lib.hid (hall.succ (hs.trans hz))
     have hsu:=Kz hlt
     have HN:Hid (dV p (k+1)≠ []):=by show _≠_;rw[hsu];simp
     clear hall hs
     by_cases htn:dV p k= []
     ·have hw:([[pS p.defs[k].name]]:List (List PC))=(dV p (k+1)).map fun s=> [pS s]:=by rw[hsu,htn];rfl
      have HW:=Lib.hid hw
      rw[htn]at hz ⊢
      clear hw hsu htn
      rw[fi]
      repeat' first|simp(disch:=omega) only[go_sem, *,ae hlt,cr,wrap_i64,hz]|((with_reducible refine ab ?_ ?_)<;>intro h<;>try omega)|(refine av (ku hf h64 HC.out hlt []) rfl rfl ?_)|(refine dI aU (aI rfl) (by simp) (by simp) (by simp) ?_)
      refine⟨k+1, [],⟨by omega,HA.out⟩,by omega, ?_⟩
      rw[b6 HN.out,HW.out]
      simp
      try omega
     ·have hw:(dV p k).map (fun s=> [pS s])++ [[pS p.defs[k].name]]=(dV p (k+1)).map fun s=> [pS s]:=by rw[hsu,List.map_append];rfl
      have HW:=Lib.hid hw
      rw[b6 htn]
      clear hw hsu htn
      repeat' first|simp(disch:=omega) only[go_sem, *,ae hlt,cr,wrap_i64,hz]|((with_reducible refine ab ?_ ?_)<;>intro h<;>try omega)|(refine av (ku hf h64 HC.out hlt _) rfl rfl ?_)|(refine aN rfl (by intro h;cases h) (aI rfl) (by simp;omega) (by simp;omega) ?_)
      refine⟨k+1, [(1,2)],⟨by omega,HA.out⟩,by omega, ?_⟩
      rw[b6 HN.out,HW.out]
      simp
      try omega
    ·rw[xR HC.out HS.out HW.out HP.out hlt hall hs hz]
     clear hall hs
     by_cases htn:dV p k= []
     ·rw[htn]at hz ⊢
      clear htn
      rw[fi]
      repeat' first|simp(disch:=omega) only[go_sem, *,ae hlt,cr,wrap_i64,hz]|((with_reducible refine ab ?_ ?_)<;>intro h<;>try omega)|(refine av (ku hf h64 HC.out hlt []) rfl rfl ?_)
     ·rw[b6 htn]
      clear htn
      repeat' first|simp(disch:=omega) only[go_sem, *,ae hlt,cr,wrap_i64,hz]|((with_reducible refine ab ?_ ?_)<;>intro h<;>try omega)|(refine av (ku hf h64 HC.out hlt _) rfl rfl ?_)
   have HD:Hid (∀j,j<p.defs.length→yR p j=0):=fun j hj=>hall j (by omega)
   have hkp:k=p.defs.length:=by omega
   clear hall hlen
   subst hkp
   repeat clear hlt
   repeat clear hk
   rw[CJ]
   repeat' first|simp(disch:=omega) only[go_sem, *,Mo]|((with_reducible refine ab ?_ ?_)<;>intro h<;>try omega)
   refine aj (fun k:Nat=>⟨[(8,I ((2:Int)+p.params.length+p.defs.length+k)),(13,I k),(1,.c (.ptr 0 0))], [(0,d6 p)],1,0⟩) (fun k=>k≤p.outs.length∧dW (fun j=>KE p j=0) k) (fun k=>p.outs.length-k) ⟨0, [],⟨by omega,.zero⟩,by unfold Wb U7 Wd;split<;>simp⟩ ?_
   rintro k ⟨hk,hall⟩
   refine aa ?_
   by_cases hlt:k<p.outs.length
   ·have hs:=Jx hlt
    have cF:=gx hf p.outs[k]
    have cB:=gQ (p.outs.take k) p.outs[k]
    by_cases hn:c8 p p.outs[k]=none
    ·rw[if_pos hn]at hs
     rw[qI HC.out HS.out HW.out HP.out HD.out hlt hall hs (by decide)]
     rw[hn]at cF
     clear hall hs hn
     repeat' first|simp(disch:=omega) only[go_sem, *,ae hlt,wrap_i64]|((with_reducible refine ab ?_ ?_)<;>intro h<;>try omega)|(refine bS cF rfl rfl ?_)
    ·obtain⟨r,hr⟩: ∃r,c8 p p.outs[k]=some r:=by
      cases h:c8 p p.outs[k]with
      |none=>exact absurd h hn
      |some r=>exact⟨r,rfl⟩
     rw[if_neg hn]at hs
     rw[hr]at cF
     clear hn hr
     obtain⟨t,dims⟩:=r
     by_cases hm:p.outs[k]∈p.outs.take k
     ·rw[if_pos hm]at hs
      rw[qI HC.out HS.out HW.out HP.out HD.out hlt hall hs (by decide)]
      clear hall hs
      repeat' first|simp(disch:=omega) only[go_sem, *,ae hlt,wrap_i64,←List.map_take,vi,Option.getD_none,Option.getD_some,hm,decide_true]|((with_reducible refine ab ?_ ?_)<;>intro h<;>try omega)|(refine bS cF rfl rfl ?_)|(refine av cB rfl rfl ?_)
     ·rw[if_neg hm]at hs
      have HA:=Lib.hid (hall.succ hs)
      clear hall hs
      repeat' first|simp(disch:=omega) only[go_sem, *,ae hlt,wrap_i64,←List.map_take,vi,Option.getD_none,Option.getD_some,hm,decide_false]|((with_reducible refine ab ?_ ?_)<;>intro h<;>try omega)|(refine bS cF rfl rfl ?_)|(refine av cB rfl rfl ?_)
      exact⟨k+1, [],⟨by omega,HA.out⟩,by omega,by simp;omega⟩
   ·rw[zZ HC.out HS.out HW.out HP.out HD.out fun j hj=>hall j (by omega)]
    clear hall
    repeat' first|simp(disch:=omega) only[go_sem, *]|((with_reducible refine ab ?_ ?_)<;>intro h<;>try omega)
  ·rw[zK hc rfl hs]
   repeat' first|simp(disch:=omega) only[go_sem, *,hs]|((with_reducible refine ab ?_ ?_)<;>intro h<;>try omega)|(refine av cS rfl rfl ?_)
 ·rw[if_neg hc]at cS
  rw[xp hc]
  repeat' first|simp(disch:=omega) only[go_sem, *]|((with_reducible refine ab ?_ ?_)<;>intro h<;>try omega)|(refine av cS rfl rfl ?_)
end Go.Proofs.YthkaaahphlneiaaGreatDoor
