import Derived.Test.YthbcbaembicdbaaGreatDoorV17e
set_option linter.unusedVariables false
set_option linter.unusedSimpArgs false
set_option maxHeartbeats 4000000
set_option maxRecDepth 1000000
namespace Go.Proofs.YthbcbaembicdbaaGreatDoor
open Go.Abs Go.RowKit
theorem mB (d:zB):ac Tryz.prog o4 [Oq d] (I (gy d)):=by
 refine ac.of y2 (by simp) λhb=>aa ?_
 conv in pE=>cbv
 repeat' first|simp(disch:=omega)only[go_sem, *,RX]|(with_reducible apply ab)<;>intro h<;>try omega
 all_goals(refine IE ?_;unfold gy;grind)
theorem lX {d:zB} (h1:d.dims.length≤1000) (h2:d.red.length≤1000):ac Tryz.prog nG [Oq d] (.c (.pure (c8 (aW d)))):=by
 refine ac.of wT (by simp) λhb=>aa ?_
 conv in oc=>cbv
 repeat' first|simp(disch:=omega)only[go_sem, *]|(with_reducible apply ab)<;>intro h<;>try omega
 refine dR 3 9 1 rfl (by decide) ?_
 refine an (λk:Nat=>⟨[(4,I k),(3,.c (.ref 1)),(1,.c (.ptr 0 0))], [(1,.arr 9 1 ((d.dims.take k).map λa=> [pS a.1])),(0,Uc d)],2,0⟩) (λk=>k≤d.dims.length) (λk=>d.dims.length-k) ⟨0, [],by omega,by simp⟩ ?_
 intro k hk
 refine aa ?_
 by_cases f:k<d.dims.length
 ·have ht:(d.dims.take k).map (λa:iu=> [pS a.1])++ [[pS d.dims[k].1]]=(d.dims.take (k+1)).map λa=> [pS a.1]:=by rw[List.take_succ_eq_append_getElem f,List.map_append];rfl
  have HT:=Lib.hid ht
  clear ht
  repeat' first|simp(disch:=omega)only[go_sem, *,ah f,fl,wrap_i64]|(with_reducible apply ab)<;>intro h<;>try omega|refine aJ rfl (by intro h;cases h) (aB rfl) (by simp;omega) (by simp;omega) ?_
  rw[HT.out]
  exact⟨k+1, [(1,2)],by omega,by omega,by simp⟩
 ·repeat' first|simp(disch:=omega)only[go_sem, *]|(with_reducible apply ab)<;>intro h<;>try omega
  refine an (λk:Nat=>⟨[(5,I k),(3,.c (.ref 1)),(1,.c (.ptr 0 0))], [(1,.arr 9 1 (d.dims.map (λa=> [pS a.1])++(d.red.take k).map λa=> [pS a.1])),(0,Uc d)],2,0⟩) (λk=>k≤d.red.length) (λk=>d.red.length-k) ⟨0, [],by omega,by rw[List.take_of_length_le (by omega)];simp⟩ ?_
  clear f hk
  intro k hk
  refine aa ?_
  by_cases f:k<d.red.length
  ·have ht:d.dims.map (λa:iu=> [pS a.1])++(d.red.take k).map (λa:iu=> [pS a.1])++ [[pS d.red[k].1]]=d.dims.map (λa:iu=> [pS a.1])++(d.red.take (k+1)).map λa=> [pS a.1]:=by rw[List.take_succ_eq_append_getElem f,List.map_append,List.append_assoc];rfl
   have HT:=Lib.hid ht
   clear ht
   repeat' first|simp(disch:=omega)only[go_sem, *,ah f,fl,wrap_i64]|(with_reducible apply ab)<;>intro h<;>try omega|refine aJ rfl (by intro h;cases h) (aB rfl) (by simp;omega) (by simp;omega) ?_
   rw[HT.out]
   exact⟨k+1, [(1,2)],by omega,by omega,by simp⟩
  ·repeat' first|simp(disch:=omega)only[go_sem, *]|(with_reducible apply ab)<;>intro h<;>try omega
   rw[List.take_of_length_le (by omega)]
   simp[aW,List.map_map,Function.comp_def]
theorem kT {p:bI} (hf:j0 p) (o:pR p) (hc:jU p) {k:Nat} (hk:k<p.defs.length) (taken:List ByteArray):ac Tryz.prog DJ [fO p,I k,.c (.pure (c8 taken))] (I (br p k taken p.defs[k])):=by
 refine ac.of Mn (by simp) λhb=>aa ?_
 have cT:=Cc (DO hf k) (aW p.defs[k]) (o _ (List.getElem_mem hk))
 have A:=hc.1
 have q:bl 22 (p.defs.map da):=av λx=>rfl
 rw[show CX= (s_ [o_ 3 (.box (.t 0)),o_ 6 (w_ 0)] (s_ [o_ 13 (a_ 3 3),o_ 14 (l_ 13),m_ 15 1,o_ 16 (x_ 22 14 15),o_ 17 (L_ 22 16),o_ 7 (.box (.k (.agg [(.pure (.val (.string ⟨⟨[]⟩⟩))),i_ 0,i_ 0,i_ 0,i_ 0,i_ 0,.nils,.nils,i_ 0,i_ 0,(.pure (.val (.string ⟨⟨[]⟩⟩))),i_ 0,i_ 0,i_ 0,i_ 0,i_ 0,i_ 0,i_ 0,i_ 0,.nils,.nils,.nils]))),u_ (S_ 22 7 17)] (.seq (s_ [o_ 18 (a_ 0 7),o_ 19 (l_ 18),m_ 20 2,o_ 21 (C_ 59 [.t 19,.t 20]),m_ 8 21] (s_ [m_ 22 8,o_ 23 (Q_ .neq 22 0)] (y_ 23 (s_ [m_ 24 8,m_ 6 24] .ret) .skip))) (.seq (s_ [o_ 25 (a_ 1 7),o_ 26 (L_ 5 25),o_ 27 (C_ 62 [.t 26]),o_ 28 (.un .not (.t 27))] (y_ 28 (s_ [o_ 6 (w_ 10)] .ret) .skip)) (.seq (s_ [o_ 29 (a_ 6 7),o_ 30 (l_ 29),o_ 31 (z_ 30),o_ 32 (Q_ .gtr 31 6),m_ 33 32,(g_ 34 33 false (a_ 7 7)),(g_ 35 33 false (l_ 34)),(g_ 36 33 false (z_ 35)),(g_ 37 33 false (Q_ .gtr 36 6)),o_ 38 (.pick (.t 33) (b_ true) (.t 37))] (y_ 38 (s_ [o_ 6 (w_ 11)] .ret) .skip)) (.seq (.seq (.draw [[P_ 39 (.bslice 3 []),P_ 40 (a_ 6 7),P_ 41 (l_ 40),P_ 43 (a_ 7 7),P_ 44 (l_ 43),P_ 46 (a_ 0 3),P_ 47 (l_ 46),(true,o_ 42 (.app 111 3 48 (.t 39) (.t 41))),P_ 45 (.app 111 3 48 (.t 42) (.t 44)),P_ 48 (.call false false (f_ 63) [.t 45,.t 47]),M_ 9 48],[P_ 39 (.bslice 3 []),P_ 40 (a_ 6 7),P_ 41 (l_ 40),P_ 43 (a_ 7 7),P_ 44 (l_ 43),P_ 46 (a_ 0 3),(true,o_ 42 (.app 111 3 48 (.t 39) (.t 41))),P_ 45 (.app 111 3 48 (.t 42) (.t 44)),P_ 47 (l_ 46),P_ 48 (.call false false (f_ 63) [.t 45,.t 47]),M_ 9 48]]) (s_ [m_ 49 9,o_ 50 (Q_ .neq 49 0)] (y_ 50 (s_ [m_ 51 9,m_ 6 51] .ret) .skip))) (.seq (s_ [o_ 52 (L_ 22 7),o_ 53 (C_ 64 [.t 52]),m_ 10 53] (s_ [m_ 54 10,o_ 55 (Q_ .neq 54 0)] (y_ 55 (s_ [m_ 56 10,m_ 6 56] .ret) .skip))) (.seq (.draw [[P_ 58 (a_ 0 3),P_ 59 (l_ 58),P_ 60 (a_ 2 3),P_ 61 (l_ 60),P_ 62 (a_ 3 3),P_ 63 (l_ 62),M_ 64 1,P_ 65 (.slc 22 (.t 63) .none (.some (.t 64)) .none),P_ 66 (.build [.nils,.nils,.nils,.nils,.nils] [(0,(1,(.t 59))),(2,(1,(.t 61))),(3,(1,(.t 65)))]),P_ 67 (L_ 22 7),P_ 68 (.call false false (f_ 66) [.t 67]),P_ 69 (a_ 9 7),P_ 70 (L_ 13 69),P_ 71 (.call false false (f_ 65) [.t 66,.t 68,.t 70]),M_ 57 71,P_ 72 (e_ 57 0),P_ 73 (e_ 57 1),(true,o_ 11 (.box (.k (.agg [i_ 0,i_ 0,i_ 0,i_ 0,i_ 0])))),U_ (S_ 5 11 72),M_ 12 73]]) (.seq (s_ [m_ 74 12,o_ 75 (Q_ .neq 74 0)] (y_ 75 (s_ [m_ 76 12,m_ 6 76] .ret) .skip)) (.seq (s_ [o_ 77 (L_ 5 11),o_ 78 (a_ 1 7),o_ 79 (L_ 5 78),o_ 80 (.eqs true [(.int .i64),(.int .i64),(.int .i64),(.int .i64),(.int .i64)] (.t 77) (.t 79))] (y_ 80 (s_ [o_ 6 (w_ 10)] .ret) .skip)) (s_ [o_ 6 (w_ 0)] .ret))))))))))) from by kernel_rfl]
 by_cases h1:aS taken p.defs[k].name=0
 ·by_cases h2:nb p.defs[k].ty
  ·by_cases h3:6<p.defs[k].dims.length∨6<p.defs[k].red.length
   ·rw[show br p k taken p.defs[k]=11 by unfold br;rw[if_neg (not_not_intro h1),if_neg (not_not_intro h2),if_pos h3]]
    repeat' first|simp(disch:=omega)only[go_sem, *,ah hk,da,h1,h2,decide_true]|(with_reducible apply ab)<;>intro h<;>try omega|refine aF (aG _ _) rfl rfl ?_|refine aF (bW p.defs[k].ty) rfl rfl ?_
   ·by_cases hd:p.defs[k].dims= []
    ·have cA:=uX p.defs[k].red p.sizes (by omega) (by omega)
     have cR:=mB p.defs[k]
     have cI:=lX (d:=p.defs[k]) (by omega) (by omega)
     simp only[Oq,hd]at cR cI
     by_cases h4:bB p.sizes p.sizes (p.defs[k].dims++p.defs[k].red)=0
     ·by_cases h5:gy p.defs[k]=0
      ·have hT:(bu (cM p k) (aW p.defs[k]) p.defs[k].body)=(bu {p with wher:= [],defs:=p.defs.take k,outs:= []} (aW p.defs[k]) p.defs[k].body):=rfl
       by_cases h6:(bu (cM p k) (aW p.defs[k]) p.defs[k].body).2=0
       ·by_cases h7:(bu (cM p k) (aW p.defs[k]) p.defs[k].body).1=p.defs[k].ty
        ·rw[show br p k taken p.defs[k]=0 by unfold br;rw[if_neg (not_not_intro h1),if_neg (not_not_intro h2),if_neg h3,if_neg (not_not_intro h4),if_neg (not_not_intro h5),←hT,if_neg (not_not_intro h6),if_neg (not_not_intro h7)]]
         clear hT
         generalize bu (cM p k) (aW p.defs[k]) p.defs[k].body=r at*
         obtain⟨r1,r2⟩:=r
         simp only at h6 h7
         subst h7
         have i:bB p.sizes p.sizes p.defs[k].red=0:=by rw[hd,List.nil_append]at h4;exact h4
         repeat' first|simp(disch:=omega)only[go_sem, *,ah hk,da,h1,h2,i,h5,h6,decide_true,←List.map_take,q,Option.getD_none,Option.getD_some,hd]|(with_reducible apply ab)<;>intro h<;>try omega|(with_reducible apply ag)|(with_reducible refine aj (λh=> ?_) ?_)|refine aF (aG _ _) rfl rfl ?_|refine aF (bW p.defs[k].ty) rfl rfl ?_|refine aF cA rfl rfl ?_|refine dI be ?_|refine fZ be (av λx=>rfl) (by simp;omega) (by simp;omega) ?_|refine aF cR rfl rfl ?_|refine cg cI rfl rfl ?_|refine aF cT rfl rfl ?_
        ·rw[show br p k taken p.defs[k]=10 by unfold br;rw[if_neg (not_not_intro h1),if_neg (not_not_intro h2),if_neg h3,if_neg (not_not_intro h4),if_neg (not_not_intro h5),←hT,if_neg (not_not_intro h6),if_pos h7]]
         clear hT
         generalize bu (cM p k) (aW p.defs[k]) p.defs[k].body=r at*
         have i:bB p.sizes p.sizes p.defs[k].red=0:=by rw[hd,List.nil_append]at h4;exact h4
         repeat' first|simp(disch:=omega)only[go_sem, *,ah hk,da,h1,h2,i,h5,h6,decide_true,←List.map_take,q,Option.getD_none,Option.getD_some,hd]|(with_reducible apply ab)<;>intro h<;>try omega|(with_reducible apply ag)|(with_reducible refine aj (λh=> ?_) ?_)|refine aF (aG _ _) rfl rfl ?_|refine aF (bW p.defs[k].ty) rfl rfl ?_|refine aF cA rfl rfl ?_|refine dI be ?_|refine fZ be (av λx=>rfl) (by simp;omega) (by simp;omega) ?_|refine aF cR rfl rfl ?_|refine cg cI rfl rfl ?_|refine aF cT rfl rfl ?_
         all_goals first
          |exact absurd (yX h) h7
          |rfl
       ·rw[show br p k taken p.defs[k]=(bu (cM p k) (aW p.defs[k]) p.defs[k].body).2 by unfold br;rw[if_neg (not_not_intro h1),if_neg (not_not_intro h2),if_neg h3,if_neg (not_not_intro h4),if_neg (not_not_intro h5),←hT,if_pos h6]]
        clear hT
        generalize bu (cM p k) (aW p.defs[k]) p.defs[k].body=r at*
        have i:bB p.sizes p.sizes p.defs[k].red=0:=by rw[hd,List.nil_append]at h4;exact h4
        repeat' first|simp(disch:=omega)only[go_sem, *,ah hk,da,h1,h2,i,h5,h6,decide_true,←List.map_take,q,Option.getD_none,Option.getD_some,hd]|(with_reducible apply ab)<;>intro h<;>try omega|(with_reducible apply ag)|(with_reducible refine aj (λh=> ?_) ?_)|refine aF (aG _ _) rfl rfl ?_|refine aF (bW p.defs[k].ty) rfl rfl ?_|refine aF cA rfl rfl ?_|refine dI be ?_|refine fZ be (av λx=>rfl) (by simp;omega) (by simp;omega) ?_|refine aF cR rfl rfl ?_|refine cg cI rfl rfl ?_|refine aF cT rfl rfl ?_
      ·rw[show br p k taken p.defs[k]=gy p.defs[k] by unfold br;rw[if_neg (not_not_intro h1),if_neg (not_not_intro h2),if_neg h3,if_neg (not_not_intro h4),if_pos h5]]
       have i:bB p.sizes p.sizes p.defs[k].red=0:=by rw[hd,List.nil_append]at h4;exact h4
       repeat' first|simp(disch:=omega)only[go_sem, *,ah hk,da,h1,h2,i,h5,decide_true,hd]|(with_reducible apply ab)<;>intro h<;>try omega|(with_reducible apply ag)|(with_reducible refine aj (λh=> ?_) ?_)|refine aF (aG _ _) rfl rfl ?_|refine aF (bW p.defs[k].ty) rfl rfl ?_|refine aF cA rfl rfl ?_|refine dI be ?_|refine fZ be (av λx=>rfl) (by simp;omega) (by simp;omega) ?_|refine aF cR rfl rfl ?_
     ·rw[show br p k taken p.defs[k]=bB p.sizes p.sizes (p.defs[k].dims++p.defs[k].red) by unfold br;rw[if_neg (not_not_intro h1),if_neg (not_not_intro h2),if_neg h3,if_pos h4]]
      have i: ¬bB p.sizes p.sizes p.defs[k].red=0:=by rw[hd,List.nil_append]at h4;exact h4
      repeat' first|simp(disch:=omega)only[go_sem, *,ah hk,da,h1,h2,i,decide_true,hd]|(with_reducible apply ab)<;>intro h<;>try omega|(with_reducible apply ag)|(with_reducible refine aj (λh=> ?_) ?_)|refine aF (aG _ _) rfl rfl ?_|refine aF (bW p.defs[k].ty) rfl rfl ?_|refine aF cA rfl rfl ?_|refine dI be ?_|refine fZ be (av λx=>rfl) (by simp;omega) (by simp;omega) ?_
    ·have cA:=uX (p.defs[k].dims++p.defs[k].red) p.sizes (by simp;omega) (by omega)
     rw[show j5 fl (p.defs[k].dims++p.defs[k].red)= .c (.pure (.slice (p.defs[k].dims.map fl++p.defs[k].red.map fl))) by show AV.c (.pure (.slice (List.map fl (_++_))))=_;rw[List.map_append]]at cA
     have cR:=mB p.defs[k]
     have cI:=lX (d:=p.defs[k]) (by omega) (by omega)
     by_cases h4:bB p.sizes p.sizes (p.defs[k].dims++p.defs[k].red)=0
     ·by_cases h5:gy p.defs[k]=0
      ·have hT:(bu (cM p k) (aW p.defs[k]) p.defs[k].body)=(bu {p with wher:= [],defs:=p.defs.take k,outs:= []} (aW p.defs[k]) p.defs[k].body):=rfl
       by_cases h6:(bu (cM p k) (aW p.defs[k]) p.defs[k].body).2=0
       ·by_cases h7:(bu (cM p k) (aW p.defs[k]) p.defs[k].body).1=p.defs[k].ty
        ·rw[show br p k taken p.defs[k]=0 by unfold br;rw[if_neg (not_not_intro h1),if_neg (not_not_intro h2),if_neg h3,if_neg (not_not_intro h4),if_neg (not_not_intro h5),←hT,if_neg (not_not_intro h6),if_neg (not_not_intro h7)]]
         clear hT
         generalize bu (cM p k) (aW p.defs[k]) p.defs[k].body=r at*
         obtain⟨r1,r2⟩:=r
         simp only at h6 h7
         subst h7
         have i:bB p.sizes p.sizes (p.defs[k].dims++p.defs[k].red)=0:=h4
         repeat' first|simp(disch:=omega)only[go_sem, *,ah hk,da,h1,h2,i,h5,h6,decide_true,←List.map_take,q,Option.getD_none,Option.getD_some]|(with_reducible apply ab)<;>intro h<;>try omega|(with_reducible apply ag)|(with_reducible refine aj (λh=> ?_) ?_)|refine aF (aG _ _) rfl rfl ?_|refine aF (bW p.defs[k].ty) rfl rfl ?_|refine aF cA rfl rfl ?_|refine dv be (av λx=>rfl) (by simpa using hd) (by simp;omega) (by simp;omega) ?_|refine aJ rfl (by intro h;cases h) (av λx=>rfl) (by simp;omega) (by simp;omega) ?_|refine aF cR rfl rfl ?_|refine cg cI rfl rfl ?_|refine aF cT rfl rfl ?_
        ·rw[show br p k taken p.defs[k]=10 by unfold br;rw[if_neg (not_not_intro h1),if_neg (not_not_intro h2),if_neg h3,if_neg (not_not_intro h4),if_neg (not_not_intro h5),←hT,if_neg (not_not_intro h6),if_pos h7]]
         clear hT
         generalize bu (cM p k) (aW p.defs[k]) p.defs[k].body=r at*
         have i:bB p.sizes p.sizes (p.defs[k].dims++p.defs[k].red)=0:=h4
         repeat' first|simp(disch:=omega)only[go_sem, *,ah hk,da,h1,h2,i,h5,h6,decide_true,←List.map_take,q,Option.getD_none,Option.getD_some]|(with_reducible apply ab)<;>intro h<;>try omega|(with_reducible apply ag)|(with_reducible refine aj (λh=> ?_) ?_)|refine aF (aG _ _) rfl rfl ?_|refine aF (bW p.defs[k].ty) rfl rfl ?_|refine aF cA rfl rfl ?_|refine dv be (av λx=>rfl) (by simpa using hd) (by simp;omega) (by simp;omega) ?_|refine aJ rfl (by intro h;cases h) (av λx=>rfl) (by simp;omega) (by simp;omega) ?_|refine aF cR rfl rfl ?_|refine cg cI rfl rfl ?_|refine aF cT rfl rfl ?_
         all_goals first
          |exact absurd (yX h) h7
          |rfl
       ·rw[show br p k taken p.defs[k]=(bu (cM p k) (aW p.defs[k]) p.defs[k].body).2 by unfold br;rw[if_neg (not_not_intro h1),if_neg (not_not_intro h2),if_neg h3,if_neg (not_not_intro h4),if_neg (not_not_intro h5),←hT,if_pos h6]]
        clear hT
        generalize bu (cM p k) (aW p.defs[k]) p.defs[k].body=r at*
        have i:bB p.sizes p.sizes (p.defs[k].dims++p.defs[k].red)=0:=h4
        repeat' first|simp(disch:=omega)only[go_sem, *,ah hk,da,h1,h2,i,h5,h6,decide_true,←List.map_take,q,Option.getD_none,Option.getD_some]|(with_reducible apply ab)<;>intro h<;>try omega|(with_reducible apply ag)|(with_reducible refine aj (λh=> ?_) ?_)|refine aF (aG _ _) rfl rfl ?_|refine aF (bW p.defs[k].ty) rfl rfl ?_|refine aF cA rfl rfl ?_|refine dv be (av λx=>rfl) (by simpa using hd) (by simp;omega) (by simp;omega) ?_|refine aJ rfl (by intro h;cases h) (av λx=>rfl) (by simp;omega) (by simp;omega) ?_|refine aF cR rfl rfl ?_|refine cg cI rfl rfl ?_|refine aF cT rfl rfl ?_
      ·rw[show br p k taken p.defs[k]=gy p.defs[k] by unfold br;rw[if_neg (not_not_intro h1),if_neg (not_not_intro h2),if_neg h3,if_neg (not_not_intro h4),if_pos h5]]
       have i:bB p.sizes p.sizes (p.defs[k].dims++p.defs[k].red)=0:=h4
       repeat' first|simp(disch:=omega)only[go_sem, *,ah hk,da,h1,h2,i,h5,decide_true]|(with_reducible apply ab)<;>intro h<;>try omega|(with_reducible apply ag)|(with_reducible refine aj (λh=> ?_) ?_)|refine aF (aG _ _) rfl rfl ?_|refine aF (bW p.defs[k].ty) rfl rfl ?_|refine aF cA rfl rfl ?_|refine dv be (av λx=>rfl) (by simpa using hd) (by simp;omega) (by simp;omega) ?_|refine aJ rfl (by intro h;cases h) (av λx=>rfl) (by simp;omega) (by simp;omega) ?_|refine aF cR rfl rfl ?_
     ·rw[show br p k taken p.defs[k]=bB p.sizes p.sizes (p.defs[k].dims++p.defs[k].red) by unfold br;rw[if_neg (not_not_intro h1),if_neg (not_not_intro h2),if_neg h3,if_pos h4]]
      have i: ¬bB p.sizes p.sizes (p.defs[k].dims++p.defs[k].red)=0:=h4
      repeat' first|simp(disch:=omega)only[go_sem, *,ah hk,da,h1,h2,i,decide_true]|(with_reducible apply ab)<;>intro h<;>try omega|(with_reducible apply ag)|(with_reducible refine aj (λh=> ?_) ?_)|refine aF (aG _ _) rfl rfl ?_|refine aF (bW p.defs[k].ty) rfl rfl ?_|refine aF cA rfl rfl ?_|refine dv be (av λx=>rfl) (by simpa using hd) (by simp;omega) (by simp;omega) ?_|refine aJ rfl (by intro h;cases h) (av λx=>rfl) (by simp;omega) (by simp;omega) ?_
  ·rw[show br p k taken p.defs[k]=10 by unfold br;rw[if_neg (not_not_intro h1),if_pos h2]]
   repeat' first|simp(disch:=omega)only[go_sem, *,ah hk,da,h1,h2,decide_false]|(with_reducible apply ab)<;>intro h<;>try omega|refine aF (aG _ _) rfl rfl ?_|refine aF (bW p.defs[k].ty) rfl rfl ?_
 ·rw[show br p k taken p.defs[k]=aS taken p.defs[k].name by unfold br;rw[if_pos h1]]
  repeat' first|simp(disch:=omega)only[go_sem, *,ah hk,da,h1]|(with_reducible apply ab)<;>intro h<;>try omega|refine aF (aG _ _) rfl rfl ?_|refine aF (bW p.defs[k].ty) rfl rfl ?_
set_option maxRecDepth 1000000
theorem wJ (l:List ByteArray):bl 1 (l.map λs=> [pS s]):=av λx=>rfl
theorem Ej (p:bI):ac Tryz.prog xH [fO p] (I (if jU p then ou p else 2)):=by
 refine ac.of GP (by simp) λhb=>aa ?_
 conv in ya=>cbv
 by_cases hc:jU p
 ·rw[if_pos hc]
  have h1: ¬(p.sizes.length:Int)>64:=by have:=hc.1;omega
  have h2: ¬(p.params.length:Int)>64:=by have:=hc.2.1;omega
  have h3: ¬(p.defs.length:Int)>64:=by have:=hc.2.2.1;omega
  have h4: ¬(p.outs.length:Int)>64:=by have:=hc.2.2.2.1;omega
  have h5: ¬(p.wher.length:Int)>256:=by have:=hc.2.2.2.2;omega
  clear hc
  repeat' first|simp(disch:=omega)only[go_sem, *]|(with_reducible apply ab)<;>intro h<;>try omega
  refine an (λk:Nat=>⟨[(3,I k),(1,.c (.ptr 0 0))], [(0,eV p)],1,0⟩) (λk=>k≤p.sizes.length∧el (λj=>VB p j=0) k) (λk=>p.sizes.length-k) ⟨0, [],⟨by omega,.zero⟩,by simp⟩ ?_
  clear h2 h3 h4 h5
  rintro k ⟨hk,e⟩
  refine aa ?_
  by_cases f:k<p.sizes.length
  ·have hs:=Qv f
   by_cases hz:aS (p.sizes.take k) p.sizes[k]=0
   ·have HA:=Lib.hid (e.succ (hs.trans hz))
    clear e hs
    repeat' first|simp(disch:=omega)only[go_sem, *,ah f,wrap_i64,←List.map_take,wJ,Option.getD_none,Option.getD_some,hz]|(with_reducible apply ab)<;>intro h<;>try omega|refine aF (aG p.sizes[k] (p.sizes.take k)) rfl rfl ?_
    exact⟨k+1, [],⟨by omega,HA.out⟩,by omega,by simp⟩
   ·rw[Oh f e hs hz]
    clear e hs
    repeat' first|simp(disch:=omega)only[go_sem, *,ah f,wrap_i64,←List.map_take,wJ,Option.getD_none,Option.getD_some,hz]|(with_reducible apply ab)<;>intro h<;>try omega|refine aF (aG p.sizes[k] (p.sizes.take k)) rfl rfl ?_
  ·rw[F5 λj hj=>e j (by omega)]
   clear e
   repeat' first|simp(disch:=omega)only[go_sem, *]|(with_reducible apply ab)<;>intro h<;>try omega
 ·rw[if_neg hc]
  have w: ¬((p.sizes.length:Int)≤64∧(p.params.length:Int)≤64∧(p.defs.length:Int)≤64∧(p.outs.length:Int)≤64∧(p.wher.length:Int)≤256):=λh=>hc (by unfold jU;omega)
  clear hc
  have HC:=Lib.hid w
  clear w
  repeat' first|simp(disch:=omega)only[go_sem, *]|(with_reducible apply ab)<;>intro h<;>try omega
  all_goals(exfalso;have:=HC.out;omega)
def JI (nx:Nat) (l:List ByteArray):AV:=if l= []then .c (.tsl [])else .c (.ref nx)
def YM (nx:Nat) (l:List ByteArray) (m:List (Nat×bc)):List (Nat×bc):=if l= []then m else(nx,.arr 9 1 (l.map λs=> [pS s]))::m
def Ox (nx:Nat) (l:List ByteArray):Nat:=if l= []then nx else nx+1
theorem EW {fr:List (Nat×AV)} {t:Nat} {mem:List (Nat×bc)} {nx:Nat} {l:List ByteArray}:NL fr t mem nx l=⟨(t,JI nx l)::fr,YM nx l mem,Ox nx l,0⟩:=by
 unfold NL JI YM Ox
 split<;>rfl
theorem O9 {b:bc} {l:List ByteArray}:am (YM 1 l [(0,b)]) 0=some b:=by
 unfold YM
 split
 ·rfl
 ·rfl
theorem aai {bytes:Nat} {y:AV} {ys:List ByteArray} {fr:List (Nat×AV)} {mem:List (Nat×bc)} {nx:Nat} {K:nR (AV→St→Prop)} (h1:ys.length*bytes≤140737488355328) (h2:ys.length≤140737488355328)
  (hk:K.out (JI nx ys) ⟨fr,YM nx ys mem,Ox nx ys,0⟩): @Eb 9 1 bytes (.c (.tsl [])) y (ys.map λs=> [pS s]) ⟨fr,mem,nx,0⟩ K:=by
 by_cases h:ys= []
 ·subst h
  exact dI be hk
 ·unfold JI YM Ox at hk
  rw[if_neg h,if_neg h,if_neg h]at hk
  exact dv be (av λx=>rfl) (by simpa using h) (by simpa using h1) (by simpa using h2) hk
theorem Np {p:bI}:dZ p 0=p.sizes:=by simp[dZ]
theorem PF {p:bI}:ee p 0=dZ p p.params.length:=by rw[Ok,Pw]
theorem iN {p:bI} (hf:j0 p) (o:pR p):ac Tryz.prog qI [fO p] (.tup [I (bQ p).1,I (bQ p).2]):=by
 refine ac.of zO (by simp) λhb=>aa ?_
 conv in ra=>cbv
 have cS:=Ej p
 by_cases hc:jU p
 ·rw[if_pos hc]at cS
  by_cases hs:ou p=0
  ·rw[hs]at cS
   have C:=hc.1
   have D:=hc.2.1
   have E:=hc.2.2.1
   have F:=hc.2.2.2.1
   have G:=hc.2.2.2.2
   have HC:=Lib.hid hc
   have HS:=Lib.hid hs
   clear hc hs
   repeat' first|simp(disch:=omega)only[go_sem, *]|(with_reducible apply ab)<;>intro h<;>try omega|refine aF cS rfl rfl ?_
   refine an (λk:Nat=>⟨[(5,I k),(1,.c (.ptr 0 0))], [(0,eV p)],1,0⟩) (λk=>k≤p.wher.length∧Hid (de ((p.wher.map λc=>bE p.sizes c.1).take k)=0)) (λk=>p.wher.length-k) ⟨0, [],⟨by omega,by show _=_;simp[de]⟩,by simp⟩ ?_
   clear cS
   rintro k ⟨hk,e⟩
   refine aa ?_
   by_cases f:k<p.wher.length
   ·have z:k<(p.wher.map λc=>bE p.sizes c.1).length:=by simpa using f
    have h4:=iR z e.out
    have h5:=oH z e.out
    rw[List.getElem_map]at h4 h5
    clear e
    by_cases hz:bE p.sizes p.wher[k].1=0
    ·have HN:=Lib.hid (h4.trans hz)
     clear h4 h5
     repeat' first|simp(disch:=omega)only[go_sem, *,ah f,cP,wrap_i64,hz]|(with_reducible apply ab)<;>intro h<;>try omega|refine aF (cr p.wher[k].1 _) rfl rfl ?_
     exact⟨k+1, [],⟨by omega,HN⟩,by omega,by simp⟩
    ·rw[Co HC.out HS.out (h5 hz) hz]
     clear h4 h5
     repeat' first|simp(disch:=omega)only[go_sem, *,ah f,cP,wrap_i64,hz]|(with_reducible apply ab)<;>intro h<;>try omega|refine aF (cr p.wher[k].1 _) rfl rfl ?_
   have hw:uj p=0:=by
    have hz:=e.out
    rw[List.take_of_length_le (by simp;omega)]at hz
    exact hz
   have HW:=Lib.hid hw
   clear e hw
   repeat' first|simp(disch:=omega)only[go_sem, *]|(with_reducible apply ab)<;>intro h<;>try omega|refine aai (by omega) (by omega) ?_
   repeat clear f
   repeat clear hk
   refine an (λk:Nat=>NL [(8,I ((2:Int)+k)),(9,I k),(1,.c (.ptr 0 0))] 7 [(0,eV p)] 1 (dZ p k)) (λk=>k≤p.params.length∧el (λj=>Aq p j=0) k) (λk=>p.params.length-k) ⟨0, [],⟨by omega,.zero⟩,by rw[Np,EW];unfold JI YM Ox;split<;>simp⟩ ?_
   rintro k ⟨hk,e⟩
   refine aa ?_
   have u:=(KY k HC.out).1
   by_cases f:k<p.params.length
   ·have hs:=LG f
    by_cases hz:dN p.sizes (dZ p k) p.params[k]=0
    ·have HA:=Lib.hid (e.succ (hs.trans hz))
     have n:=OC f
     have HN:Hid (dZ p (k+1)≠ []):=by show _≠_;rw[n];simp
     clear e hs
     by_cases g:dZ p k= []
     ·have hw:([[pS p.params[k].1]]:List (List PC))=(dZ p (k+1)).map λs=> [pS s]:=by rw[n,g];rfl
      have HW:=Lib.hid hw
      rw[g]at hz ⊢
      clear hw n g
      rw[fI]
      repeat' first|simp(disch:=omega)only[go_sem, *,ah f,ip,wrap_i64,hz]|(with_reducible apply ab)<;>intro h<;>try omega|refine aF (iL p.params[k] _ []) rfl rfl ?_|refine dv be (aB rfl) (by simp) (by simp) (by simp) ?_
      refine⟨k+1, [],⟨by omega,HA.out⟩,by omega, ?_⟩
      rw[cz HN.out,HW.out]
      simp
      try omega
     ·have hw:(dZ p k).map (λs=> [pS s])++ [[pS p.params[k].1]]=(dZ p (k+1)).map λs=> [pS s]:=by rw[n,List.map_append];rfl
      have HW:=Lib.hid hw
      rw[cz g]
      clear hw n g
      repeat' first|simp(disch:=omega)only[go_sem, *,ah f,ip,wrap_i64,hz]|(with_reducible apply ab)<;>intro h<;>try omega|refine aF (iL p.params[k] _ _) rfl rfl ?_|refine aJ rfl (by intro h;cases h) (aB rfl) (by simp;omega) (by simp;omega) ?_
      refine⟨k+1, [(1,2)],⟨by omega,HA.out⟩,by omega, ?_⟩
      rw[cz HN.out,HW.out]
      simp
      try omega
    ·rw[zb HC.out HS.out HW.out f e hs hz]
     clear e hs
     by_cases g:dZ p k= []
     ·rw[g]at hz ⊢
      clear g
      rw[fI]
      repeat' first|simp(disch:=omega)only[go_sem, *,ah f,ip,wrap_i64,hz]|(with_reducible apply ab)<;>intro h<;>try omega|refine aF (iL p.params[k] _ []) rfl rfl ?_
     ·rw[cz g]
      clear g
      repeat' first|simp(disch:=omega)only[go_sem, *,ah f,ip,wrap_i64,hz]|(with_reducible apply ab)<;>intro h<;>try omega|refine aF (iL p.params[k] _ _) rfl rfl ?_
   have HP:Hid (∀j,j<p.params.length→Aq p j=0):=λj hj=>e j (by omega)
   have v:k=p.params.length:=by omega
   clear e u
   subst v
   repeat clear f
   repeat clear hk
   rw[EW]
   repeat' first|simp(disch:=omega)only[go_sem, *,O9]|(with_reducible apply ab)<;>intro h<;>try omega
   refine an (λk:Nat=>NL [(8,I ((2:Int)+p.params.length+k)),(11,I k),(1,.c (.ptr 0 0))] 7 [(0,eV p)] 1 (ee p k)) (λk=>k≤p.defs.length∧el (λj=>Bi p j=0) k) (λk=>p.defs.length-k) ⟨0, [],⟨by omega,.zero⟩,by rw[PF,EW];unfold JI YM Ox;split<;>simp⟩ ?_
   rintro k ⟨hk,e⟩
   refine aa ?_
   have u:=(KY k HC.out).2
   by_cases f:k<p.defs.length
   ·have hs:=EV f
    by_cases hz:br p k (ee p k) p.defs[k]=0
    ·have HA:=Lib.hid (e.succ (hs.trans hz))
     have n:=Pv f
     have HN:Hid (ee p (k+1)≠ []):=by show _≠_;rw[n];simp
     clear e hs
     by_cases g:ee p k= []
     ·have hw:([[pS p.defs[k].name]]:List (List PC))=(ee p (k+1)).map λs=> [pS s]:=by rw[n,g];rfl
      have HW:=Lib.hid hw
      rw[g]at hz ⊢
      clear hw n g
      rw[fI]
      repeat' first|simp(disch:=omega)only[go_sem, *,ah f,da,wrap_i64,hz]|(with_reducible apply ab)<;>intro h<;>try omega|refine aF (kT hf o HC.out f []) rfl rfl ?_|refine dv be (aB rfl) (by simp) (by simp) (by simp) ?_
      refine⟨k+1, [],⟨by omega,HA.out⟩,by omega, ?_⟩
      rw[cz HN.out,HW.out]
      simp
      try omega
     ·have hw:(ee p k).map (λs=> [pS s])++ [[pS p.defs[k].name]]=(ee p (k+1)).map λs=> [pS s]:=by rw[n,List.map_append];rfl
      have HW:=Lib.hid hw
      rw[cz g]
      clear hw n g
      repeat' first|simp(disch:=omega)only[go_sem, *,ah f,da,wrap_i64,hz]|(with_reducible apply ab)<;>intro h<;>try omega|refine aF (kT hf o HC.out f _) rfl rfl ?_|refine aJ rfl (by intro h;cases h) (aB rfl) (by simp;omega) (by simp;omega) ?_
      refine⟨k+1, [(1,2)],⟨by omega,HA.out⟩,by omega, ?_⟩
      rw[cz HN.out,HW.out]
      simp
      try omega
    ·rw[yK HC.out HS.out HW.out HP.out f e hs hz]
     clear e hs
     by_cases g:ee p k= []
     ·rw[g]at hz ⊢
      clear g
      rw[fI]
      repeat' first|simp(disch:=omega)only[go_sem, *,ah f,da,wrap_i64,hz]|(with_reducible apply ab)<;>intro h<;>try omega|refine aF (kT hf o HC.out f []) rfl rfl ?_
     ·rw[cz g]
      clear g
      repeat' first|simp(disch:=omega)only[go_sem, *,ah f,da,wrap_i64,hz]|(with_reducible apply ab)<;>intro h<;>try omega|refine aF (kT hf o HC.out f _) rfl rfl ?_
   have HD:Hid (∀j,j<p.defs.length→Bi p j=0):=λj hj=>e j (by omega)
   have v:k=p.defs.length:=by omega
   clear e u
   subst v
   repeat clear f
   repeat clear hk
   rw[EW]
   repeat' first|simp(disch:=omega)only[go_sem, *,O9]|(with_reducible apply ab)<;>intro h<;>try omega
   refine an (λk:Nat=>⟨[(8,I ((2:Int)+p.params.length+p.defs.length+k)),(13,I k),(1,.c (.ptr 0 0))], [(0,eV p)],1,0⟩) (λk=>k≤p.outs.length∧el (λj=>Py p j=0) k) (λk=>p.outs.length-k) ⟨0, [],⟨by omega,.zero⟩,by unfold JI YM Ox;split<;>simp⟩ ?_
   rintro k ⟨hk,e⟩
   refine aa ?_
   by_cases f:k<p.outs.length
   ·have hs:=Ly f
    have cF:=gY hf p.outs[k]
    have cB:=ij (p.outs.take k) p.outs[k]
    by_cases hn:di p p.outs[k]=none
    ·rw[if_pos hn]at hs
     rw[sL HC.out HS.out HW.out HP.out HD.out f e hs (by decide)]
     rw[hn]at cF
     clear e hs hn
     repeat' first|simp(disch:=omega)only[go_sem, *,ah f,wrap_i64]|(with_reducible apply ab)<;>intro h<;>try omega|refine cg cF rfl rfl ?_
    ·obtain⟨r,hr⟩: ∃r,di p p.outs[k]=some r:=by
      cases h:di p p.outs[k]with
      |none=>exact absurd h hn
      |some r=>exact⟨r,rfl⟩
     rw[if_neg hn]at hs
     rw[hr]at cF
     clear hn hr
     obtain⟨t,dims⟩:=r
     by_cases hm:p.outs[k]∈p.outs.take k
     ·rw[if_pos hm]at hs
      rw[sL HC.out HS.out HW.out HP.out HD.out f e hs (by decide)]
      clear e hs
      repeat' first|simp(disch:=omega)only[go_sem, *,ah f,wrap_i64,←List.map_take,wJ,Option.getD_none,Option.getD_some,hm,decide_true]|(with_reducible apply ab)<;>intro h<;>try omega|refine cg cF rfl rfl ?_|refine aF cB rfl rfl ?_
     ·rw[if_neg hm]at hs
      have HA:=Lib.hid (e.succ hs)
      clear e hs
      repeat' first|simp(disch:=omega)only[go_sem, *,ah f,wrap_i64,←List.map_take,wJ,Option.getD_none,Option.getD_some,hm,decide_false]|(with_reducible apply ab)<;>intro h<;>try omega|refine cg cF rfl rfl ?_|refine aF cB rfl rfl ?_
      exact⟨k+1, [],⟨by omega,HA.out⟩,by omega,by simp;omega⟩
   ·rw[Cg HC.out HS.out HW.out HP.out HD.out λj hj=>e j (by omega)]
    clear e
    repeat' first|simp(disch:=omega)only[go_sem, *]|(with_reducible apply ab)<;>intro h<;>try omega
  ·rw[CT hc rfl hs]
   repeat' first|simp(disch:=omega)only[go_sem, *,hs]|(with_reducible apply ab)<;>intro h<;>try omega|refine aF cS rfl rfl ?_
 ·rw[if_neg hc]at cS
  rw[yZ hc]
  repeat' first|simp(disch:=omega)only[go_sem, *]|(with_reducible apply ab)<;>intro h<;>try omega|refine aF cS rfl rfl ?_
end Go.Proofs.YthbcbaembicdbaaGreatDoor
