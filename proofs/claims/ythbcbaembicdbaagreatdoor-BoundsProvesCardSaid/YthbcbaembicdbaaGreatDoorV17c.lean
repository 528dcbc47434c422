import Derived.Test.YthbcbaembicdbaaGreatDoorV17a
import Derived.Test.YthbcbaembicdbaaGreatDoorV14c
set_option linter.unusedVariables false
set_option linter.unusedSimpArgs false
set_option maxHeartbeats 4000000
set_option maxRecDepth 1000000
namespace Go.Proofs.YthbcbaembicdbaaGreatDoor
open Go.Abs Go.RowKit
theorem iI (l:bY) (vars sizes:List ByteArray):ac Tryz.prog x7 [dm l.1 l.2,.c (.pure (c8 vars)),.c (.pure (c8 sizes))] (Go.Abs.B (decide (fq vars sizes l))):=by
 refine ac.of H5 (by simp) λhb=>aa ?_
 have hl:=wN hb.1
 conv in ym=>cbv
 repeat' first|simp(disch:=omega) only[go_sem, *]|((with_reducible apply ab)<;>intro h<;>try omega)
 refine an (λk:Nat=>⟨[(7,I k),(3,.c (.ptr 0 0)),(2,.c (.pure (c8 sizes))),(1,.c (.pure (c8 vars)))], [(0,.var [.pure (pI l.1),.pure (aw l.2)])],1,0⟩) (λk=>k≤l.2.length∧el (λi=> ∀h:i<l.2.length,l.2[i].1∈vars∨l.2[i].1∈sizes) k) (λk=>l.2.length-k) ⟨0, [],⟨by omega,.zero⟩,by simp⟩ ?_
 rintro k ⟨hk,hall⟩
 refine aa ?_
 by_cases hlt:k<l.2.length
 ·repeat' first|simp(disch:=omega) only[go_sem, *,ah hlt,mP,wrap_i64]|((with_reducible apply ab)<;>intro h<;>try omega)|(refine aF (ij _ _) rfl rfl ?_)
  ·exact⟨k+1, [],⟨by omega,hall.succ λ_=> .inl h⟩,by omega,by simp⟩
  ·exact⟨k+1, [],⟨by omega,hall.succ λ_=> .inr h⟩,by omega,by simp⟩
  ·refine BD ⟨λh=>(by cases h),λh'=> ?_⟩
   have:=h' _ (List.getElem_mem hlt)
   simp_all
 ·repeat' first|simp(disch:=omega) only[go_sem, *]|((with_reducible apply ab)<;>intro h<;>try omega)
  refine BD ⟨λ_ m hm=> ?_,λ_=>rfl⟩
  obtain⟨i,hi,rfl⟩:=List.mem_iff_getElem.1 hm
  exact hall i (by omega) hi
theorem sZ (p:bI) (vars:List ByteArray) (ls:List bY):ac Tryz.prog xf [fO p,.c (.pure (c8 vars)),md ls] (I (dX p vars ls)):=by
 refine ac.of GF (by simp) λhb=>aa ?_
 have hl:ls.length≤9223372036854775807:=by
  have:=hb.2.2.1
  simpa[i5,jS]using this
 conv in xJ=>cbv
 repeat' first|simp(disch:=omega) only[go_sem, *]|((with_reducible apply ab)<;>intro h<;>try omega)
 refine an (λk:Nat=>⟨[(7,I k),(3,.c (.ptr 0 0)),(2,md ls),(1,.c (.pure (c8 vars)))], [(0,eV p)],1,0⟩) (λk=>k≤ls.length∧el (λi=> ∀h:i<ls.length,fq vars p.sizes ls[i]) k) (λk=>ls.length-k) ⟨0, [],⟨by omega,.zero⟩,by simp⟩ ?_
 rintro k ⟨hk,hall⟩
 refine aa ?_
 by_cases hlt:k<ls.length
 ·repeat' first|simp(disch:=omega) only[go_sem, *,ah hlt,cd,wrap_i64]|((with_reducible apply ab)<;>intro h<;>try omega)|(refine aF (iI _ _ _) rfl rfl ?_)
  ·exact⟨k+1, [],⟨by omega,hall.succ λ_=>h⟩,by omega,by simp⟩
  ·exact IE (if_neg λh'=>h (h' _ (List.getElem_mem hlt))).symm
 ·repeat' first|simp(disch:=omega) only[go_sem, *]|((with_reducible apply ab)<;>intro h<;>try omega)
  refine IE (if_pos λx hx=> ?_).symm
  obtain⟨i,hi,rfl⟩:=List.mem_iff_getElem.1 hx
  exact hall i (by omega) hi
theorem gY {p:bI} (hf:j0 p) (s:ByteArray):ac Tryz.prog BA [fO p,S s] (WE (di p s)):=by
 refine ac.of IL (by simp) λhb=>aa ?_
 have hl:p.params.length≤9223372036854775807∧p.defs.length≤9223372036854775807:=by
  have:=hb.1
  simp[i5,rF,jS]at this
  omega
 rw[show Ba= (s_ [o_ 2 (.box (.t 0)),o_ 4 (.box (.k (.agg [i_ 0,i_ 0,i_ 0,i_ 0,i_ 0]))),o_ 5 (.mv (.k (.c .nils))),o_ 6 (.mv (b_ false))] (.seq (s_ [o_ 7 (w_ 0)] (.block 0 (.loop (.seq (s_ [m_ 11 7,o_ 12 (a_ 2 2),o_ 13 (l_ 12),o_ 14 (z_ 13),o_ 15 (q_ 11 14)] (X_ 15 0)) (.seq (.block 1 (s_ [o_ 18 (a_ 2 2),o_ 19 (l_ 18),m_ 20 7,o_ 21 (x_ 7 19 20),o_ 22 (a_ 0 21),o_ 23 (l_ 22),m_ 24 1,o_ 25 (.bin .eql (.t 23) (.t 24))] (y_ 25 (.seq (.draw [[P_ 26 (a_ 2 2),P_ 27 (l_ 26),M_ 28 7,P_ 29 (x_ 7 27 28),P_ 30 (a_ 1 29),P_ 31 (L_ 5 30),P_ 32 (a_ 2 2),P_ 33 (l_ 32),M_ 34 7,P_ 35 (x_ 7 33 34),P_ 36 (a_ 6 35),P_ 37 (l_ 36),U_ (S_ 5 4 31),M_ 5 37,P_ 6 (.mv (b_ true))],[P_ 26 (a_ 2 2),P_ 27 (l_ 26),M_ 28 7,P_ 29 (x_ 7 27 28),P_ 30 (a_ 1 29),P_ 31 (L_ 5 30),P_ 32 (a_ 2 2),P_ 33 (l_ 32),M_ 34 7,P_ 35 (x_ 7 33 34),P_ 36 (a_ 6 35),U_ (S_ 5 4 31),P_ 37 (l_ 36),M_ 5 37,P_ 6 (.mv (b_ true))],[P_ 26 (a_ 2 2),P_ 27 (l_ 26),M_ 28 7,P_ 29 (x_ 7 27 28),P_ 30 (a_ 1 29),P_ 31 (L_ 5 30),P_ 32 (a_ 2 2),P_ 33 (l_ 32),M_ 34 7,U_ (S_ 5 4 31),P_ 35 (x_ 7 33 34),P_ 36 (a_ 6 35),P_ 37 (l_ 36),M_ 5 37,P_ 6 (.mv (b_ true))],[P_ 26 (a_ 2 2),P_ 27 (l_ 26),M_ 28 7,P_ 29 (x_ 7 27 28),P_ 30 (a_ 1 29),P_ 31 (L_ 5 30),P_ 32 (a_ 2 2),M_ 34 7,U_ (S_ 5 4 31),P_ 33 (l_ 32),P_ 35 (x_ 7 33 34),P_ 36 (a_ 6 35),P_ 37 (l_ 36),M_ 5 37,P_ 6 (.mv (b_ true))]]) .ret) .skip))) (r_ [m_ 16 7,o_ 17 (j_ 16),m_ 7 17])))))) (.seq (s_ [o_ 8 (w_ 0)] (.block 2 (.loop (.seq (s_ [m_ 38 8,o_ 39 (a_ 3 2),o_ 40 (l_ 39),o_ 41 (z_ 40),o_ 42 (q_ 38 41)] (X_ 42 2)) (.seq (.block 3 (s_ [o_ 45 (a_ 3 2),o_ 46 (l_ 45),m_ 47 8,o_ 48 (x_ 22 46 47),o_ 49 (a_ 0 48),o_ 50 (l_ 49),m_ 51 1,o_ 52 (.bin .eql (.t 50) (.t 51))] (y_ 52 (s_ [o_ 9 (.mv (.k (.c .nils)))] (.seq (s_ [o_ 10 (w_ 0)] (.block 4 (.loop (.seq (s_ [m_ 53 10,o_ 54 (a_ 3 2),o_ 55 (l_ 54),m_ 56 8,o_ 57 (x_ 22 55 56),o_ 58 (a_ 6 57),o_ 59 (l_ 58),o_ 60 (z_ 59),o_ 61 (q_ 53 60)] (X_ 61 4)) (.seq (.block 5 (r_ [m_ 64 9,o_ 65 (a_ 3 2),o_ 66 (l_ 65),m_ 67 8,o_ 68 (x_ 22 66 67),o_ 69 (a_ 6 68),o_ 70 (l_ 69),m_ 71 10,o_ 72 (x_ 3 70 71),o_ 73 (a_ 1 72),o_ 74 (L_ 2 73),o_ 75 (.bsliceF 2 [.t 74]),o_ 76 (.app 44 2 32 (.t 64) (.t 75)),m_ 9 76])) (r_ [m_ 62 10,o_ 63 (j_ 62),m_ 10 63])))))) (s_ [o_ 77 (a_ 3 2),o_ 78 (l_ 77),m_ 79 8,o_ 80 (x_ 22 78 79),o_ 81 (a_ 1 80),o_ 82 (L_ 5 81),m_ 83 9,u_ (S_ 5 4 82),m_ 5 83,o_ 6 (.mv (b_ true))] .ret))) .skip))) (r_ [m_ 43 8,o_ 44 (j_ 43),m_ 8 44])))))) (s_ [o_ 84 (.build [i_ 0,i_ 0,i_ 0,i_ 0,i_ 0] []),u_ (S_ 5 4 84),o_ 5 (.mv (.k (.c .nils))),o_ 6 (.mv (b_ false))] .ret)))) from by kernel_rfl]
 repeat' first|simp(disch:=omega) only[go_sem, *]|((with_reducible apply ab)<;>intro h<;>try omega)
 refine an (λk:Nat=>⟨[(7,I k),(4,.c (.ptr 1 0)),(2,.c (.ptr 0 0)),(1,S s)], [(1,.var [.pure (pI 0),.pure (pI 0),.pure (pI 0),.pure (pI 0),.pure (pI 0)]),(0,eV p)],2,0⟩) (λk=>k≤p.params.length∧el (λj=> ∀h:j<p.params.length,¬p.params[j].1=s) k) (λk=>p.params.length-k) ⟨0, [],⟨by omega,.zero⟩,by simp⟩ ?_
 rintro k ⟨hk,hall⟩
 refine aa ?_
 by_cases hlt:k<p.params.length
 ·by_cases he:p.params[k].1=s
  ·have HN:=Lib.hid (Kg hlt he λj hj=>hall j hj (by omega))
   clear hall hf
   repeat' first|simp(disch:=omega) only[go_sem, *,ah hlt,ip,nq,he,decide_true,wrap_i64,]|((with_reducible apply ab)<;>intro h<;>try omega)|(with_reducible apply ag)|(with_reducible refine aj (λh=> ?_) ?_)
   all_goals(rw[HN.out];try rfl)
  ·have HA:=Lib.hid hall
   clear hall hf
   repeat' first|simp(disch:=omega) only[go_sem, *,ah hlt,ip,nq,he,decide_false,wrap_i64]|((with_reducible apply ab)<;>intro h<;>try omega)
   exact⟨k+1, [],⟨by omega,HA.out.succ λ_=>he⟩,by omega,by simp⟩
 ·have h0: ∀j (hj:j<p.params.length),¬p.params[j].1=s:=λj hj=>hall j (by omega) hj
  have H0:=Lib.hid h0
  clear hall h0
  repeat' first|simp(disch:=omega) only[go_sem, *]|((with_reducible apply ab)<;>intro h<;>try omega)
  refine an (λk:Nat=>⟨[(8,I k),(4,.c (.ptr 1 0)),(2,.c (.ptr 0 0)),(1,S s)], [(1,.var [.pure (pI 0),.pure (pI 0),.pure (pI 0),.pure (pI 0),.pure (pI 0)]),(0,eV p)],2,0⟩) (λk=>k≤p.defs.length∧el (λj=> ∀h:j<p.defs.length,¬p.defs[j].name=s) k) (λk=>p.defs.length-k) ⟨0, [],⟨by omega,.zero⟩,by simp⟩ ?_
  rintro i ⟨hk,hall⟩
  refine aa ?_
  by_cases hi:i<p.defs.length
  ·by_cases he:p.defs[i].name=s
   ·have HN:=Lib.hid (J4 H0.out hi he λj hj=>hall j hj (by omega))
    have HF:=Lib.hid (hf.2 _ (List.getElem_mem hi))
    clear hall hf
    repeat' first|simp(disch:=omega) only[go_sem, *,ah hi,da,nq,he,decide_true,wrap_i64]|((with_reducible apply ab)<;>intro h<;>try omega)
    refine dR 9 44 2 rfl (by decide) ?_
    refine an (λk:Nat=>⟨[(10,I k),(9,.c (.ref 2)),(8,I i),(4,.c (.ptr 1 0)),(2,.c (.ptr 0 0))], [(2,.arr 44 2 ((p.defs[i].dims.take k).map λa=>cd a.2)),(1,.var [.pure (pI 0),.pure (pI 0),.pure (pI 0),.pure (pI 0),.pure (pI 0)]),(0,eV p)],3,0⟩) (λk=>k≤p.defs[i].dims.length) (λk=>p.defs[i].dims.length-k) ⟨0, [],by omega,by simp⟩ ?_
    intro k hk
    refine aa ?_
    by_cases hlt:k<p.defs[i].dims.length
    ·have hd:=HF.out.1
     have ht:(p.defs[i].dims.take k).map (λa:iu=>cd a.2)++ [cd p.defs[i].dims[k].2]=(p.defs[i].dims.take (k+1)).map λa=>cd a.2:=by rw[List.take_succ_eq_append_getElem hlt,List.map_append];rfl
     simp only[cd]at ht
     have HT:=Lib.hid ht
     clear ht HF
     repeat' first|simp(disch:=omega) only[go_sem, *,ah hi,da,ah hlt,fl,cd,wrap_i64]|((with_reducible apply ab)<;>intro h<;>try omega)|(refine aJ rfl (by intro h;cases h) (aB rfl) (by simp;omega) (by simp;omega) ?_)
     rw[HT.out]
     exact⟨k+1, [(2,3)],by omega,by omega,by simp[cd]⟩
    ·repeat' first|simp(disch:=omega) only[go_sem, *,ah hi,da]|((with_reducible apply ab)<;>intro h<;>try omega)
     rw[HN.out,List.take_of_length_le (by omega)]
     simp[List.map_map,Function.comp_def]
   ·have HA:=Lib.hid hall
    clear hall hf
    repeat' first|simp(disch:=omega) only[go_sem, *,ah hi,da,nq,he,decide_false,wrap_i64]|((with_reducible apply ab)<;>intro h<;>try omega)
    exact⟨i+1, [],⟨by omega,HA.out.succ λ_=>he⟩,by omega,by simp⟩
  ·have HN:=Lib.hid (IC H0.out λd hd=>by
    obtain⟨j,hj,rfl⟩:=List.mem_iff_getElem.1 hd
    exact hall j (by omega) hj)
   clear hall hf
   repeat' first|simp(disch:=omega) only[go_sem, *]|((with_reducible apply ab)<;>intro h<;>try omega)
   rw[HN.out]
   try rfl
set_option maxRecDepth 1000000
abbrev Zl (t:Ty):bc:= .var [.pure (pI t.1),.pure (pI t.2.1),.pure (pI t.2.2.1),.pure (pI t.2.2.2.1),.pure (pI t.2.2.2.2)]
abbrev MU (x:Ty×Int):AV:= .tup [Mg x.1,I x.2]
theorem nh {p:bI} {vars:List ByteArray} {l:bY}:dX p vars [l]=if fq vars p.sizes l then 0 else 9:=by
 unfold dX
 simp only[List.mem_singleton,forall_eq]
theorem Kh {l:List Ix} {f:Ix→Int} {k:Nat} (h:k<l.length) (hf:de ((l.map f).take k)=0) (hz:f l[k]=0):de ((l.map f).take (k+1))=0:=by
 rw[iR (by simpa using h) hf,List.getElem_map,hz]
theorem KP {l:List Ix} {f:Ix→Int} {k:Nat} (h:k<l.length) (hf:de ((l.map f).take k)=0) (hz:f l[k]≠0):de (l.map f)=f l[k]:=by
 have:=oH (l:=l.map f) (k:=k) (by simpa using h) hf (by simpa using hz)
 rw[this,List.getElem_map]
section
variable {p : bI} {vars : List ByteArray} {e : Ex} {t : Ty} {dims : List bY}
theorem Hj (h:di p e.name=none):gx p vars e=(js,9):=by unfold gx;rw[h]
theorem JR (h:di p e.name=some (t,dims)) (hl: ¬e.idx.length=dims.length):gx p vars e=(js,11):=by
 unfold gx
 rw[h]
 exact if_pos hl
theorem KB (h:di p e.name=some (t,dims)) (hl:e.idx.length=dims.length) {x:Int} (he:de (e.idx.map (gU p vars))=x) (hx:x≠0):gx p vars e=(js,x):=by
 unfold gx
 rw[h]
 simp only[he]
 rw[if_neg (not_not_intro hl),if_pos hx]
theorem Nt (h:di p e.name=some (t,dims)) (hl:e.idx.length=dims.length) (he:de (e.idx.map (gU p vars))=0):gx p vars e=(t,0):=by
 unfold gx
 rw[h]
 simp only[he]
 rw[if_neg (not_not_intro hl),if_neg (by simp)]
theorem Kb {x:Ix} (h:x.2.1=⟨⟨[]⟩⟩):gU p vars x=if fq vars p.sizes x.1 then 0 else 9:=by
 unfold gU
 rw[if_pos h,nh]
theorem IG {x:Ix} (h: ¬x.2.1=⟨⟨[]⟩⟩) (hf:di p x.2.1=none):gU p vars x=9:=by
 unfold gU
 rw[if_neg h,hf]
theorem Ho {x:Ix} (h: ¬x.2.1=⟨⟨[]⟩⟩) (hf:di p x.2.1=some (t,dims)):gU p vars x=if t.1≠3 then 10 else if x.2.2.length≠dims.length then 11 else dX p vars x.2.2:=by
 unfold gU
 rw[if_neg h,hf]
end
theorem F3 {p:bI} (hf:j0 p) (vars:List ByteArray) (e:Ex):ac Tryz.prog Ax [fO p,.c (.pure (c8 vars)),fJ e] (MU (gx p vars e)):=by
 refine ac.of Jl (by simp) λhb=>aa ?_
 have hl:=(eh hb.2.2).2
 conv in zD=>cbv
 have hF:=gY hf e.name
 cases hfind:di p e.name with
 |none=>
  rw[hfind]at hF
  rw[Hj hfind]
  clear hfind
  repeat' first|simp(disch:=omega) only[go_sem, *]|((with_reducible apply ab)<;>intro h<;>try omega)|(refine cg hF rfl rfl ?_)
  rfl
 |some r=>
  obtain⟨t,dims⟩:=r
  rw[hfind]at hF
  by_cases hlen:e.idx.length=dims.length
  ·have hlen':(dims.length:Int)=e.idx.length:=by omega
   have HF:=Lib.hid hfind
   have HL:=Lib.hid hlen
   clear hlen hfind
   repeat' first|simp(disch:=omega) only[go_sem, *,hlen']|((with_reducible apply ab)<;>intro h<;>try omega)|(refine cg hF rfl rfl ?_)
   refine an (λk:Nat=>⟨[(11,I k),(8,.c (.ptr 3 0)),(6,.c (.ptr 2 0)),(5,.c (.ptr 1 0)),(3,.c (.ptr 0 0)),(1,.c (.pure (c8 vars)))], [(3,Zl t),(2,Zl js),(1,Gy e),(0,eV p)],4,0⟩) (λk=>k≤e.idx.length∧Hid (de ((e.idx.map (gU p vars)).take k)=0)) (λk=>e.idx.length-k) ⟨0, [],⟨by omega,by show _=_;simp[de]⟩,by simp[js]⟩ ?_
   clear hF hlen'
   rintro k ⟨hk,hall⟩
   refine aa ?_
   by_cases hlt:k<e.idx.length
   ·have hstop: ∀x,gU p vars e.idx[k]=x→x≠0→gx p vars e=(js,x):=λx h1 h2=>KB HF.out HL.out ((KP hlt hall.out (by rw[h1];exact h2)).trans h1) h2
    have hnext:gU p vars e.idx[k]=0→Hid (de ((e.idx.map (gU p vars)).take (k+1))=0):=λh=>Kh hlt hall.out h
    clear HF HL hall
    by_cases hfrom:e.idx[k].2.1=⟨⟨[]⟩⟩
    ·have hE:=Kb (p:=p) (vars:=vars) hfrom
     by_cases hkn:fq vars p.sizes e.idx[k].1
     ·rw[if_pos hkn]at hE
      have HN:=hnext hE
      clear hstop hnext hE
      repeat' first|simp(disch:=omega) only[go_sem, *,ah hlt,eQ,wrap_i64,hfrom,hkn,decide_true]|((with_reducible apply ab)<;>intro h<;>try omega)|(refine aF (iI _ _ _) rfl rfl ?_)
      exact⟨k+1, [],⟨by omega,HN⟩,by omega,by simp[js]⟩
     ·rw[if_neg hkn]at hE
      have hS:=hstop _ hE (by omega)
      rw[hS]
      clear hstop hnext hE hS
      repeat' first|simp(disch:=omega) only[go_sem, *,ah hlt,eQ,wrap_i64,hfrom,hkn,decide_false]|((with_reducible apply ab)<;>intro h<;>try omega)|(refine aF (iI _ _ _) rfl rfl ?_)
      try rfl
    ·have hF:=gY hf e.idx[k].2.1
     cases hfx:di p e.idx[k].2.1 with
     |none=>
      have hS:=hstop _ (IG hfrom hfx) (by omega)
      rw[hS]
      rw[hfx]at hF
      clear hstop hnext hS hfx
      repeat' first|simp(disch:=omega) only[go_sem, *,ah hlt,eQ,wrap_i64,hfrom]|((with_reducible apply ab)<;>intro h<;>try omega)|(refine cg hF rfl rfl ?_)
      try rfl
     |some r=>
      obtain⟨t',d'⟩:=r
      have hE:=Ho (vars:=vars) hfrom hfx
      rw[hfx]at hF
      clear hfx
      by_cases ht:t'.1=3
      ·rw[if_neg (not_not_intro ht)]at hE
       by_cases hd:e.idx[k].2.2.length=d'.length
       ·rw[if_neg (not_not_intro hd)]at hE
        have hd':(d'.length:Int)=e.idx[k].2.2.length:=by omega
        have hfm:=sZ p vars e.idx[k].2.2
        clear hd
        by_cases hz:dX p vars e.idx[k].2.2=0
        ·have HN:=hnext (hE.trans hz)
         clear hstop hnext hE
         repeat' first|simp(disch:=omega) only[go_sem, *,ah hlt,eQ,wrap_i64,hfrom,ht,hd',hz]|((with_reducible apply ab)<;>intro h<;>try omega)|(refine cg hF rfl rfl ?_)|(refine aF hfm rfl rfl ?_)
         exact⟨k+1, [],⟨by omega,HN⟩,by omega,by simp[js]⟩
        ·have hS:=hstop _ hE hz
         rw[hS]
         clear hstop hnext hE hS
         repeat' first|simp(disch:=omega) only[go_sem, *,ah hlt,eQ,wrap_i64,hfrom,ht,hd',hz]|((with_reducible apply ab)<;>intro h<;>try omega)|(refine cg hF rfl rfl ?_)|(refine aF hfm rfl rfl ?_)
         try rfl
       ·rw[if_pos hd]at hE
        have hS:=hstop _ hE (by omega)
        have hd': ¬(d'.length:Int)=e.idx[k].2.2.length:=by omega
        rw[hS]
        clear hstop hnext hE hS hd
        repeat' first|simp(disch:=omega) only[go_sem, *,ah hlt,eQ,wrap_i64,hfrom,ht,hd']|((with_reducible apply ab)<;>intro h<;>try omega)|(refine cg hF rfl rfl ?_)
        try rfl
      ·rw[if_pos ht]at hE
       have hS:=hstop _ hE (by omega)
       rw[hS]
       clear hstop hnext hE hS
       repeat' first|simp(disch:=omega) only[go_sem, *,ah hlt,eQ,wrap_i64,hfrom,ht]|((with_reducible apply ab)<;>intro h<;>try omega)|(refine cg hF rfl rfl ?_)
       try rfl
   ·have hz:=hall.out
    rw[List.take_of_length_le (by simp;omega)]at hz
    rw[Nt HF.out HL.out hz]
    clear HF HL hall hz
    repeat' first|simp(disch:=omega) only[go_sem, *]|((with_reducible apply ab)<;>intro h<;>try omega)
  ·have hlen': ¬(dims.length:Int)=e.idx.length:=by omega
   rw[JR hfind hlen]
   clear hlen hfind
   repeat' first|simp(disch:=omega) only[go_sem, *,hlen']|((with_reducible apply ab)<;>intro h<;>try omega)|(refine cg hF rfl rfl ?_)
   try rfl
end Go.Proofs.YthbcbaembicdbaaGreatDoor
