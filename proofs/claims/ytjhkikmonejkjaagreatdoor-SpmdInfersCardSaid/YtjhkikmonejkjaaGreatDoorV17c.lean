import Derived.Test.YtjhkikmonejkjaaGreatDoorV17a
import Derived.Test.YtjhkikmonejkjaaGreatDoorV14c
set_option linter.unusedVariables false
set_option linter.unusedSimpArgs false
set_option maxRecDepth 20000
namespace Go.Proofs.YtjhkikmonejkjaaGreatDoor
open Go.Abs Go.RowKit
theorem gB (l:fc) (vars sizes:List ByteArray):af Tryz.prog ve [f9 l.1 l.2,.c (.pure (b6 vars)),.c (.pure (b6 sizes))] (Go.Abs.B (decide (fe vars sizes l))):=by
 refine af.of C1 (by simp) λhb=>aa ?_
 have hl:=m7 hb.1
 simp only[ux]
 repeat' first|simp(disch:=omega)only[go_sem, *]|apply ab<;>intro h<;>try omega
 refine ai (λk:Nat=>⟨[(7,I k),(3,.c (.ptr 0 0)),(2,.c (.pure (b6 sizes))),(1,.c (.pure (b6 vars)))], [(0,.var [.pure (pI l.1),.pure (bp l.2)])],1,0⟩) (λk=>k≤l.2.length∧bI (λi=> ∀h:i<l.2.length,l.2[i].1∈vars∨l.2[i].1∈sizes) k) (λk=>l.2.length-k) ⟨0, [],⟨by omega,.zero⟩,by simp⟩ ?_
 rintro k ⟨hk,b⟩
 refine aa ?_
 by_cases n:k<l.2.length
 ·repeat' first|simp(disch:=omega)only[go_sem, *,ac n,mP,wrap_i64]|apply ab<;>intro h<;>try omega|refine av (k9 _ _) rfl rfl ?_
  ·exact⟨k+1, [],⟨by omega,b.succ λ_=> .inl h⟩,by omega,by simp⟩
  ·exact⟨k+1, [],⟨by omega,b.succ λ_=> .inr h⟩,by omega,by simp⟩
  ·refine BD ⟨λh=>(by cases h),λh'=> ?_⟩
   have:=h' _ (List.getElem_mem n)
   simp_all
 ·repeat' first|simp(disch:=omega)only[go_sem, *]|apply ab<;>intro h<;>try omega
  refine BD ⟨λ_ m hm=> ?_,λ_=>rfl⟩
  obtain⟨i,hi,rfl⟩:=List.mem_iff_getElem.1 hm
  exact b i (by omega) hi
theorem qC (p:be) (vars:List ByteArray) (ls:List fc):af Tryz.prog uO [eX p,.c (.pure (b6 vars)),my ls] (I (d9 p vars ls)):=by
 refine af.of Ep (by simp) λhb=>aa ?_
 have hl:ls.length≤9223372036854775807:=by
  have:=hb.2.2.1
  simpa[eW,ft]using this
 simp only[vo]
 repeat' first|simp(disch:=omega)only[go_sem, *]|apply ab<;>intro h<;>try omega
 refine ai (λk:Nat=>⟨[(7,I k),(3,.c (.ptr 0 0)),(2,my ls),(1,.c (.pure (b6 vars)))], [(0,dL p)],1,0⟩) (λk=>k≤ls.length∧bI (λi=> ∀h:i<ls.length,fe vars p.sizes ls[i]) k) (λk=>ls.length-k) ⟨0, [],⟨by omega,.zero⟩,by simp⟩ ?_
 rintro k ⟨hk,b⟩
 refine aa ?_
 by_cases n:k<ls.length
 ·repeat' first|simp(disch:=omega)only[go_sem, *,ac n,bP,wrap_i64]|apply ab<;>intro h<;>try omega|refine av (gB _ _ _) rfl rfl ?_
  ·exact⟨k+1, [],⟨by omega,b.succ λ_=>h⟩,by omega,by simp⟩
  ·exact IE (if_neg λh'=>h (h' _ (List.getElem_mem n))).symm
 ·repeat' first|simp(disch:=omega)only[go_sem, *]|apply ab<;>intro h<;>try omega
  refine IE (if_pos λx hx=> ?_).symm
  obtain⟨i,hi,rfl⟩:=List.mem_iff_getElem.1 hx
  exact b i (by omega) hi
set_option maxHeartbeats 1000000 in
theorem lM {p:be} (hf:eR p) (s:ByteArray):af Tryz.prog xL [eX p,S s] (Qd (aZ p s)):=by
 refine af.of EI (by simp) λhb=>aa ?_
 have hl:p.params.length≤9223372036854775807∧p.defs.length≤9223372036854775807:=by
  have:=hb.1
  simp[eW,jP,ft]at this
  omega
 simp only[xm]
 repeat' first|simp(disch:=omega)only[go_sem, *]|apply ab<;>intro h<;>try omega
 refine ai (λk:Nat=>⟨[(7,I k),(4,.c (.ptr 1 0)),(2,.c (.ptr 0 0)),(1,S s)], [(1,.var [.pure (pI 0),.pure (pI 0),.pure (pI 0),.pure (pI 0),.pure (pI 0)]),(0,dL p)],2,0⟩) (λk=>k≤p.params.length∧bI (λj=> ∀h:j<p.params.length,¬p.params[j].1=s) k) (λk=>p.params.length-k) ⟨0, [],⟨by omega,.zero⟩,by simp⟩ ?_
 rintro k ⟨hk,b⟩
 refine aa ?_
 by_cases n:k<p.params.length
 ·by_cases he:p.params[k].1=s
  ·have HN:=Lib.hid (tF n he λj hj=>b j hj (by omega))
   clear b hf
   repeat' first|simp(disch:=omega)only[go_sem, *,ac n,d7,aj,he,decide_true,wrap_i64,]|apply ab<;>intro h<;>try omega|apply au|(with_reducible refine az (λh=> ?_) ?_)
   all_goals(rw[HN.out];try rfl)
  ·have HA:=Lib.hid b
   clear b hf
   repeat' first|simp(disch:=omega)only[go_sem, *,ac n,d7,aj,he,decide_false,wrap_i64]|apply ab<;>intro h<;>try omega
   exact⟨k+1, [],⟨by omega,HA.out.succ λ_=>he⟩,by omega,by simp⟩
 ·have h0: ∀j (hj:j<p.params.length),¬p.params[j].1=s:= λj hj=>b j (by omega) hj
  have H0:=Lib.hid h0
  clear b h0
  repeat' first|simp(disch:=omega)only[go_sem, *]|apply ab<;>intro h<;>try omega
  refine ai (λk:Nat=>⟨[(8,I k),(4,.c (.ptr 1 0)),(2,.c (.ptr 0 0)),(1,S s)], [(1,.var [.pure (pI 0),.pure (pI 0),.pure (pI 0),.pure (pI 0),.pure (pI 0)]),(0,dL p)],2,0⟩) (λk=>k≤p.defs.length∧bI (λj=> ∀h:j<p.defs.length,¬p.defs[j].name=s) k) (λk=>p.defs.length-k) ⟨0, [],⟨by omega,.zero⟩,by simp⟩ ?_
  rintro i ⟨hk,b⟩
  refine aa ?_
  by_cases hi:i<p.defs.length
  ·by_cases he:p.defs[i].name=s
   ·have HN:=Lib.hid (tK H0.out hi he λj hj=>b j hj (by omega))
    have HF:=Lib.hid (hf.2 _ (List.getElem_mem hi))
    clear b hf
    repeat' first|simp(disch:=omega)only[go_sem, *,ac hi,br,aj,he,decide_true,wrap_i64]|apply ab<;>intro h<;>try omega
    refine co 9 62 2 rfl (by decide) ?_
    refine ai (λk:Nat=>⟨[(10,I k),(9,.c (.ref 2)),(8,I i),(4,.c (.ptr 1 0)),(2,.c (.ptr 0 0))], [(2,.arr 62 2 ((p.defs[i].dims.take k).map λa=>bP a.2)),(1,.var [.pure (pI 0),.pure (pI 0),.pure (pI 0),.pure (pI 0),.pure (pI 0)]),(0,dL p)],3,0⟩) (λk=>k≤p.defs[i].dims.length) (λk=>p.defs[i].dims.length-k) ⟨0, [],by omega,by simp⟩ ?_
    intro k hk
    refine aa ?_
    by_cases n:k<p.defs[i].dims.length
    ·have hd:=HF.out.1
     have ht:(p.defs[i].dims.take k).map (λa:eU=>bP a.2)++ [bP p.defs[i].dims[k].2]=(p.defs[i].dims.take (k+1)).map λa=>bP a.2:=by rw[List.take_succ_eq_append_getElem n,List.map_append];rfl
     simp only[bP]at ht
     have HT:=Lib.hid ht
     clear ht HF
     repeat' first|simp(disch:=omega)only[go_sem, *,ac hi,br,ac n,ee,bP,wrap_i64]|apply ab<;>intro h<;>try omega|refine aF rfl (by intro h;cases h) (ak rfl) (by simp;omega) (by simp;omega) ?_
     rw[HT.out]
     exact⟨k+1, [(2,3)],by omega,by omega,by simp[bP]⟩
    ·repeat' first|simp(disch:=omega)only[go_sem, *,ac hi,br]|apply ab<;>intro h<;>try omega
     rw[HN.out,List.take_of_length_le (by omega)]
     simp[List.map_map,Function.comp_def]
   ·have HA:=Lib.hid b
    clear b hf
    repeat' first|simp(disch:=omega)only[go_sem, *,ac hi,br,aj,he,decide_false,wrap_i64]|apply ab<;>intro h<;>try omega
    exact⟨i+1, [],⟨by omega,HA.out.succ λ_=>he⟩,by omega,by simp⟩
  ·have HN:=Lib.hid (vG H0.out λd hd=>by
    obtain⟨j,hj,rfl⟩:=List.mem_iff_getElem.1 hd
    exact b j (by omega) hj)
   clear b hf
   repeat' first|simp(disch:=omega)only[go_sem, *]|apply ab<;>intro h<;>try omega
   rw[HN.out]
   try rfl
abbrev Sf (t:Ty):bm:= .var [.pure (pI t.1),.pure (pI t.2.1),.pure (pI t.2.2.1),.pure (pI t.2.2.2.1),.pure (pI t.2.2.2.2)]
abbrev Ka (x:Ty×Int):AV:= .tup [yG x.1,I x.2]
theorem lg {p:be} {vars:List ByteArray} {l:fc}:d9 p vars [l]=if fe vars p.sizes l then 0 else 9:=by
 unfold d9
 simp only[List.mem_singleton,forall_eq]
theorem GW {l:List Ix} {f:Ix→Int} {k:Nat} (h:k<l.length) (hf:bY ((l.map f).take k)=0) (hz:f l[k]=0):bY ((l.map f).take (k+1))=0:=by
 rw[gV (by simpa using h) hf,List.getElem_map,hz]
theorem Gd {l:List Ix} {f:Ix→Int} {k:Nat} (h:k<l.length) (hf:bY ((l.map f).take k)=0) (hz:f l[k]≠0):bY (l.map f)=f l[k]:=by
 have:=l9 (l:=l.map f) (k:=k) (by simpa using h) hf (by simpa using hz)
 rw[this,List.getElem_map]
section
variable {p : be} {vars : List ByteArray} {e : Ex} {t : Ty} {dims : List fc}
theorem CV (h:aZ p e.name=none):fm p vars e=(gL,9):=by unfold fm;rw[h]
theorem Gv (h:aZ p e.name=some (t,dims)) (hl: ¬e.idx.length=dims.length):fm p vars e=(gL,11):=by
 unfold fm
 rw[h]
 exact if_pos hl
theorem GE (h:aZ p e.name=some (t,dims)) (hl:e.idx.length=dims.length) {x:Int} (he:bY (e.idx.map (f6 p vars))=x) (hx:x≠0):fm p vars e=(gL,x):=by
 unfold fm
 rw[h]
 simp only[he]
 rw[if_neg (not_not_intro hl),if_pos hx]
theorem IR (h:aZ p e.name=some (t,dims)) (hl:e.idx.length=dims.length) (he:bY (e.idx.map (f6 p vars))=0):fm p vars e=(t,0):=by
 unfold fm
 rw[h]
 simp only[he]
 rw[if_neg (not_not_intro hl),if_neg (by simp)]
theorem FM {x:Ix} (h:x.2.1=⟨⟨[]⟩⟩):f6 p vars x=if fe vars p.sizes x.1 then 0 else 9:=by
 unfold f6
 rw[if_pos h,lg]
theorem Dt {x:Ix} (h: ¬x.2.1=⟨⟨[]⟩⟩) (hf:aZ p x.2.1=none):f6 p vars x=9:=by
 unfold f6
 rw[if_neg h,hf]
theorem Et {x:Ix} (h: ¬x.2.1=⟨⟨[]⟩⟩) (hf:aZ p x.2.1=some (t,dims)):f6 p vars x=if t.1≠3 then 10 else if x.2.2.length≠dims.length then 11 else d9 p vars x.2.2:=by
 unfold f6
 rw[if_neg h,hf]
end
set_option maxHeartbeats 2000000 in
theorem CL {p:be} (hf:eR p) (vars:List ByteArray) (e:Ex):af Tryz.prog w9 [eX p,.c (.pure (b6 vars)),gc e] (Ka (fm p vars e)):=by
 refine af.of E9 (by simp) λhb=>aa ?_
 have hl:=(dt hb.2.2).2
 simp only[xI]
 have hF:=lM hf e.name
 cases u:aZ p e.name with
 |none=>
  rw[u]at hF
  rw[CV u]
  clear u
  repeat' first|simp(disch:=omega)only[go_sem, *]|apply ab<;>intro h<;>try omega|refine o5 hF rfl rfl ?_
  rfl
 |some r=>
  obtain⟨t,dims⟩:=r
  rw[u]at hF
  by_cases w:e.idx.length=dims.length
  ·have v:(dims.length:Int)=e.idx.length:=by omega
   have HF:=Lib.hid u
   have HL:=Lib.hid w
   clear w u
   repeat' first|simp(disch:=omega)only[go_sem, *,v]|apply ab<;>intro h<;>try omega|refine o5 hF rfl rfl ?_
   refine ai (λk:Nat=>⟨[(11,I k),(8,.c (.ptr 3 0)),(6,.c (.ptr 2 0)),(5,.c (.ptr 1 0)),(3,.c (.ptr 0 0)),(1,.c (.pure (b6 vars)))], [(3,Sf t),(2,Sf gL),(1,tL e),(0,dL p)],4,0⟩) (λk=>k≤e.idx.length∧Hid (bY ((e.idx.map (f6 p vars)).take k)=0)) (λk=>e.idx.length-k) ⟨0, [],⟨by omega,by show _=_;simp[bY]⟩,by simp[gL]⟩ ?_
   clear hF v
   rintro k ⟨hk,b⟩
   refine aa ?_
   by_cases n:k<e.idx.length
   ·have g: ∀x,f6 p vars e.idx[k]=x→x≠0→fm p vars e=(gL,x):= λx h1 h2=>GE HF.out HL.out ((Gd n b.out (by rw[h1];exact h2)).trans h1) h2
    have q:f6 p vars e.idx[k]=0→Hid (bY ((e.idx.map (f6 p vars)).take (k+1))=0):= λh=>GW n b.out h
    clear HF HL b
    by_cases o:e.idx[k].2.1=⟨⟨[]⟩⟩
    ·have hE:=FM (p:=p) (vars:=vars) o
     by_cases z:fe vars p.sizes e.idx[k].1
     ·rw[if_pos z]at hE
      have HN:=q hE
      clear g q hE
      repeat' first|simp(disch:=omega)only[go_sem, *,ac n,dN,wrap_i64,o,z,decide_true]|apply ab<;>intro h<;>try omega|refine av (gB _ _ _) rfl rfl ?_
      exact⟨k+1, [],⟨by omega,HN⟩,by omega,by simp[gL]⟩
     ·rw[if_neg z]at hE
      have hS:=g _ hE (by omega)
      rw[hS]
      clear g q hE hS
      repeat' first|simp(disch:=omega)only[go_sem, *,ac n,dN,wrap_i64,o,z,decide_false]|apply ab<;>intro h<;>try omega|refine av (gB _ _ _) rfl rfl ?_
      try rfl
    ·have hF:=lM hf e.idx[k].2.1
     cases y:aZ p e.idx[k].2.1 with
     |none=>
      have hS:=g _ (Dt o y) (by omega)
      rw[hS]
      rw[y]at hF
      clear g q hS y
      repeat' first|simp(disch:=omega)only[go_sem, *,ac n,dN,wrap_i64,o]|apply ab<;>intro h<;>try omega|refine o5 hF rfl rfl ?_
      try rfl
     |some r=>
      obtain⟨t',d'⟩:=r
      have hE:=Et (vars:=vars) o y
      rw[y]at hF
      clear y
      by_cases ht:t'.1=3
      ·rw[if_neg (not_not_intro ht)]at hE
       by_cases hd:e.idx[k].2.2.length=d'.length
       ·rw[if_neg (not_not_intro hd)]at hE
        have A:(d'.length:Int)=e.idx[k].2.2.length:=by omega
        have C:=qC p vars e.idx[k].2.2
        clear hd
        by_cases hz:d9 p vars e.idx[k].2.2=0
        ·have HN:=q (hE.trans hz)
         clear g q hE
         repeat' first|simp(disch:=omega)only[go_sem, *,ac n,dN,wrap_i64,o,ht,A,hz]|apply ab<;>intro h<;>try omega|refine o5 hF rfl rfl ?_|refine av C rfl rfl ?_
         exact⟨k+1, [],⟨by omega,HN⟩,by omega,by simp[gL]⟩
        ·have hS:=g _ hE hz
         rw[hS]
         clear g q hE hS
         repeat' first|simp(disch:=omega)only[go_sem, *,ac n,dN,wrap_i64,o,ht,A,hz]|apply ab<;>intro h<;>try omega|refine o5 hF rfl rfl ?_|refine av C rfl rfl ?_
         try rfl
       ·rw[if_pos hd]at hE
        have hS:=g _ hE (by omega)
        have A: ¬(d'.length:Int)=e.idx[k].2.2.length:=by omega
        rw[hS]
        clear g q hE hS hd
        repeat' first|simp(disch:=omega)only[go_sem, *,ac n,dN,wrap_i64,o,ht,A]|apply ab<;>intro h<;>try omega|refine o5 hF rfl rfl ?_
        try rfl
      ·rw[if_pos ht]at hE
       have hS:=g _ hE (by omega)
       rw[hS]
       clear g q hE hS
       repeat' first|simp(disch:=omega)only[go_sem, *,ac n,dN,wrap_i64,o,ht]|apply ab<;>intro h<;>try omega|refine o5 hF rfl rfl ?_
       try rfl
   ·have hz:=b.out
    rw[List.take_of_length_le (by simp;omega)]at hz
    rw[IR HF.out HL.out hz]
    clear HF HL b hz
    repeat' first|simp(disch:=omega)only[go_sem, *]|apply ab<;>intro h<;>try omega
  ·have v: ¬(dims.length:Int)=e.idx.length:=by omega
   rw[Gv u w]
   clear w u
   repeat' first|simp(disch:=omega)only[go_sem, *,v]|apply ab<;>intro h<;>try omega|refine o5 hF rfl rfl ?_
   try rfl
end Go.Proofs.YtjhkikmonejkjaaGreatDoor
