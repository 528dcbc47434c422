import Derived.Test.YtiapgekjmcjjgaaGreatDoorV17a
import Derived.Test.YtiapgekjmcjjgaaGreatDoorV14c
set_option maxHeartbeats 4000000
set_option linter.unusedVariables false
set_option linter.unusedSimpArgs false
set_option maxRecDepth 1000000
namespace Go.Proofs.YtiapgekjmcjjgaaGreatDoor
open Go.Abs Go.RowKit
theorem ic (l:bW) (vars sizes:List ByteArray):ac Tryz.prog 89 [da l.1 l.2,.c (.pure (c7 vars)),.c (.pure (c7 sizes))] (Go.Abs.B (decide (fl vars sizes l))):=by
 refine ac.of Ao (by simp) λhb=>aa ?_
 have hl:=rJ hb.1
 conv in bh _ _=>cbv
 repeat' first|simp(disch:=omega)only[go_sem, *]|apply ab<;>intro h<;>try omega
 refine ai (λk:Nat=>⟨[(7,I k),(3,.c (.ptr 0 0)),(2,.c (.pure (c7 sizes))),(1,.c (.pure (c7 vars)))], [(0,.var [.pure (pI l.1),.pure (ay l.2)])],1,0⟩) (λk=>k≤l.2.length∧dZ (λi=> ∀h:i<l.2.length,l.2[i].1∈vars∨l.2[i].1∈sizes) k) (λk=>l.2.length-k) ⟨0, [],⟨by omega,.zero⟩,by simp⟩ ?_
 rintro k ⟨hk,b⟩
 refine aa ?_
 by_cases n:k<l.2.length
 ·repeat' first|simp(disch:=omega)only[go_sem, *,ah n,mP,wrap_i64]|apply ab<;>intro h<;>try omega|refine aq (gM _ _) rfl rfl ?_
  ·exact⟨k+1, [],⟨by omega,b.succ λ_=> .inl h⟩,by omega,by simp⟩
  ·exact⟨k+1, [],⟨by omega,b.succ λ_=> .inr h⟩,by omega,by simp⟩
  ·refine BD ⟨λh=>(by cases h),λh'=> ?_⟩
   have:=h' _ (List.getElem_mem n)
   simp_all
 ·repeat' first|simp(disch:=omega)only[go_sem, *]|apply ab<;>intro h<;>try omega
  refine BD ⟨λ_ m hm=> ?_,λ_=>rfl⟩
  obtain⟨i,hi,rfl⟩:=List.mem_iff_getElem.1 hm
  exact b i (by omega) hi
theorem o7 (p:bG) (vars:List ByteArray) (ls:List bW):ac Tryz.prog 183 [gy p,.c (.pure (c7 vars)),j6 ls] (I (dR p vars ls)):=by
 refine ac.of A3 (by simp) λhb=>aa ?_
 have hl:ls.length≤9223372036854775807:=by
  have:=hb.2.2.1
  simpa[gw,gT]using this
 conv in bh _ _=>cbv
 repeat' first|simp(disch:=omega)only[go_sem, *]|apply ab<;>intro h<;>try omega
 refine ai (λk:Nat=>⟨[(7,I k),(3,.c (.ptr 0 0)),(2,j6 ls),(1,.c (.pure (c7 vars)))], [(0,eJ p)],1,0⟩) (λk=>k≤ls.length∧dZ (λi=> ∀h:i<ls.length,fl vars p.sizes ls[i]) k) (λk=>ls.length-k) ⟨0, [],⟨by omega,.zero⟩,by simp⟩ ?_
 rintro k ⟨hk,b⟩
 refine aa ?_
 by_cases n:k<ls.length
 ·repeat' first|simp(disch:=omega)only[go_sem, *,ah n,b9,wrap_i64]|apply ab<;>intro h<;>try omega|refine aq (ic _ _ _) rfl rfl ?_
  ·exact⟨k+1, [],⟨by omega,b.succ λ_=>h⟩,by omega,by simp⟩
  ·exact IE (if_neg λh'=>h (h' _ (List.getElem_mem n))).symm
 ·repeat' first|simp(disch:=omega)only[go_sem, *]|apply ab<;>intro h<;>try omega
  refine IE (if_pos λx hx=> ?_).symm
  obtain⟨i,hi,rfl⟩:=List.mem_iff_getElem.1 hx
  exact b i (by omega) hi
theorem gr {p:bG} (hf:iR p) (s:ByteArray):ac Tryz.prog 48 [gy p,S s] (Qc (dm p s)):=by
 refine ac.of Cr (by simp) λhb=>aa ?_
 have hl:p.params.length≤9223372036854775807∧p.defs.length≤9223372036854775807:=by
  have:=hb.1
  simp[gw,nc,gT]at this
  omega
 simp only[uz]
 repeat' first|simp(disch:=omega)only[go_sem, *]|apply ab<;>intro h<;>try omega
 refine ai (λk:Nat=>⟨[(7,I k),(4,.c (.ptr 1 0)),(2,.c (.ptr 0 0)),(1,S s)], [(1,.var [.pure (pI 0),.pure (pI 0),.pure (pI 0),.pure (pI 0),.pure (pI 0)]),(0,eJ p)],2,0⟩) (λk=>k≤p.params.length∧dZ (λj=> ∀h:j<p.params.length,¬p.params[j].1=s) k) (λk=>p.params.length-k) ⟨0, [],⟨by omega,.zero⟩,by simp⟩ ?_
 rintro k ⟨hk,b⟩
 refine aa ?_
 by_cases n:k<p.params.length
 ·by_cases he:p.params[k].1=s
  ·have HN:=Lib.hid (CP n he λj hj=>b j hj (by omega))
   clear b hf
   repeat' first|simp(disch:=omega)only[go_sem, *,ah n,gR,lL,he,decide_true,wrap_i64,]|apply ab<;>intro h<;>try omega|apply af|(with_reducible refine ag (λh=> ?_) ?_)
   all_goals(rw[HN.out];try rfl)
  ·have HA:=Lib.hid b
   clear b hf
   repeat' first|simp(disch:=omega)only[go_sem, *,ah n,gR,lL,he,decide_false,wrap_i64]|apply ab<;>intro h<;>try omega
   exact⟨k+1, [],⟨by omega,HA.out.succ λ_=>he⟩,by omega,by simp⟩
 ·have h0: ∀j (hj:j<p.params.length),¬p.params[j].1=s:= λj hj=>b j (by omega) hj
  have H0:=Lib.hid h0
  clear b h0
  repeat' first|simp(disch:=omega)only[go_sem, *]|apply ab<;>intro h<;>try omega
  refine ai (λk:Nat=>⟨[(8,I k),(4,.c (.ptr 1 0)),(2,.c (.ptr 0 0)),(1,S s)], [(1,.var [.pure (pI 0),.pure (pI 0),.pure (pI 0),.pure (pI 0),.pure (pI 0)]),(0,eJ p)],2,0⟩) (λk=>k≤p.defs.length∧dZ (λj=> ∀h:j<p.defs.length,¬p.defs[j].name=s) k) (λk=>p.defs.length-k) ⟨0, [],⟨by omega,.zero⟩,by simp⟩ ?_
  rintro i ⟨hk,b⟩
  refine aa ?_
  by_cases hi:i<p.defs.length
  ·by_cases he:p.defs[i].name=s
   ·have HN:=Lib.hid (CT H0.out hi he λj hj=>b j hj (by omega))
    have HF:=Lib.hid (hf.2 _ (List.getElem_mem hi))
    clear b hf
    repeat' first|simp(disch:=omega)only[go_sem, *,ah hi,di,lL,he,decide_true,wrap_i64]|apply ab<;>intro h<;>try omega
    refine dv 9 51 2 rfl (by decide) ?_
    refine ai (λk:Nat=>⟨[(10,I k),(9,.c (.ref 2)),(8,I i),(4,.c (.ptr 1 0)),(2,.c (.ptr 0 0))], [(2,.arr 51 2 ((p.defs[i].dims.take k).map λa=>b9 a.2)),(1,.var [.pure (pI 0),.pure (pI 0),.pure (pI 0),.pure (pI 0),.pure (pI 0)]),(0,eJ p)],3,0⟩) (λk=>k≤p.defs[i].dims.length) (λk=>p.defs[i].dims.length-k) ⟨0, [],by omega,by simp⟩ ?_
    intro k hk
    refine aa ?_
    by_cases n:k<p.defs[i].dims.length
    ·have hd:=HF.out.1
     have ht:(p.defs[i].dims.take k).map (λa:gU=>b9 a.2)++ [b9 p.defs[i].dims[k].2]=(p.defs[i].dims.take (k+1)).map λa=>b9 a.2:=by rw[List.take_succ_eq_append_getElem n,List.map_append];rfl
     simp only[b9]at ht
     have HT:=Lib.hid ht
     clear ht HF
     repeat' first|simp(disch:=omega)only[go_sem, *,ah hi,di,ah n,fg,b9,wrap_i64]|apply ab<;>intro h<;>try omega|refine aA rfl (by intro h;cases h) (an rfl) (by simp;omega) (by simp;omega) ?_
     rw[HT.out]
     exact⟨k+1, [(2,3)],by omega,by omega,by simp[b9]⟩
    ·repeat' first|simp(disch:=omega)only[go_sem, *,ah hi,di]|apply ab<;>intro h<;>try omega
     rw[HN.out,List.take_of_length_le (by omega)]
     simp[List.map_map,Function.comp_def]
   ·have HA:=Lib.hid b
    clear b hf
    repeat' first|simp(disch:=omega)only[go_sem, *,ah hi,di,lL,he,decide_false,wrap_i64]|apply ab<;>intro h<;>try omega
    exact⟨i+1, [],⟨by omega,HA.out.succ λ_=>he⟩,by omega,by simp⟩
  ·have HN:=Lib.hid (AO H0.out λd hd=>by
    obtain⟨j,hj,rfl⟩:=List.mem_iff_getElem.1 hd
    exact b j (by omega) hj)
   clear b hf
   repeat' first|simp(disch:=omega)only[go_sem, *]|apply ab<;>intro h<;>try omega
   rw[HN.out]
   try rfl
set_option maxRecDepth 20000
set_option maxRecDepth 1000000
abbrev RR (t:Ty):bk:= .var [.pure (pI t.1),.pure (pI t.2.1),.pure (pI t.2.2.1),.pure (pI t.2.2.2.1),.pure (pI t.2.2.2.2)]
abbrev Ie (x:Ty×Int):AV:= .tup [Fz x.1,I x.2]
theorem kN {p:bG} {vars:List ByteArray} {l:bW}:dR p vars [l]=if fl vars p.sizes l then 0 else 9:=by
 unfold dR
 simp only[List.mem_singleton,forall_eq]
theorem C4 {l:List Ix} {f:Ix→Int} {k:Nat} (h:k<l.length) (hf:de ((l.map f).take k)=0) (hz:f l[k]=0):de ((l.map f).take (k+1))=0:=by
 rw[ix (by simpa using h) hf,List.getElem_map,hz]
theorem D9 {l:List Ix} {f:Ix→Int} {k:Nat} (h:k<l.length) (hf:de ((l.map f).take k)=0) (hz:f l[k]≠0):de (l.map f)=f l[k]:=by
 have:=lY (l:=l.map f) (k:=k) (by simpa using h) hf (by simpa using hz)
 rw[this,List.getElem_map]
section
variable {p : bG} {vars : List ByteArray} {e : Ex} {t : Ty} {dims : List bW}
theorem Bk (h:dm p e.name=none):gc p vars e=(iH,9):=by unfold gc;rw[h]
theorem CR (h:dm p e.name=some (t,dims)) (hl: ¬e.idx.length=dims.length):gc p vars e=(iH,11):=by
 unfold gc
 rw[h]
 exact if_pos hl
theorem Dt (h:dm p e.name=some (t,dims)) (hl:e.idx.length=dims.length) {x:Int} (he:de (e.idx.map (gB p vars))=x) (hx:x≠0):gc p vars e=(iH,x):=by
 unfold gc
 rw[h]
 simp only[he]
 rw[if_neg (not_not_intro hl),if_pos hx]
theorem Hl (h:dm p e.name=some (t,dims)) (hl:e.idx.length=dims.length) (he:de (e.idx.map (gB p vars))=0):gc p vars e=(t,0):=by
 unfold gc
 rw[h]
 simp only[he]
 rw[if_neg (not_not_intro hl),if_neg (by simp)]
theorem Dd {x:Ix} (h:x.2.1=⟨⟨[]⟩⟩):gB p vars x=if fl vars p.sizes x.1 then 0 else 9:=by
 unfold gB
 rw[if_pos h,kN]
theorem zr {x:Ix} (h: ¬x.2.1=⟨⟨[]⟩⟩) (hf:dm p x.2.1=none):gB p vars x=9:=by
 unfold gB
 rw[if_neg h,hf]
theorem Ak {x:Ix} (h: ¬x.2.1=⟨⟨[]⟩⟩) (hf:dm p x.2.1=some (t,dims)):gB p vars x=if t.1≠3 then 10 else if x.2.2.length≠dims.length then 11 else dR p vars x.2.2:=by
 unfold gB
 rw[if_neg h,hf]
end
theorem Bf {p:bG} (hf:iR p) (vars:List ByteArray) (e:Ex):ac Tryz.prog 184 [gy p,.c (.pure (c7 vars)),fE e] (Ie (gc p vars e)):=by
 refine ac.of B5 (by simp) λhb=>aa ?_
 have hl:=(ed hb.2.2).2
 conv in bh _ _=>cbv
 have hF:=gr hf e.name
 cases u:dm p e.name with
 |none=>
  rw[u]at hF
  rw[Bk u]
  clear u
  repeat' first|simp(disch:=omega)only[go_sem, *]|apply ab<;>intro h<;>try omega|refine aW hF rfl rfl ?_
  rfl
 |some r=>
  obtain⟨t,dims⟩:=r
  rw[u]at hF
  by_cases w:e.idx.length=dims.length
  ·have v:(dims.length:Int)=e.idx.length:=by omega
   have HF:=Lib.hid u
   have HL:=Lib.hid w
   clear w u
   repeat' first|simp(disch:=omega)only[go_sem, *,v]|apply ab<;>intro h<;>try omega|refine aW hF rfl rfl ?_
   refine ai (λk:Nat=>⟨[(11,I k),(8,.c (.ptr 3 0)),(6,.c (.ptr 2 0)),(5,.c (.ptr 1 0)),(3,.c (.ptr 0 0)),(1,.c (.pure (c7 vars)))], [(3,RR t),(2,RR iH),(1,zB e),(0,eJ p)],4,0⟩) (λk=>k≤e.idx.length∧Hid (de ((e.idx.map (gB p vars)).take k)=0)) (λk=>e.idx.length-k) ⟨0, [],⟨by omega,by show _=_;simp[de]⟩,by simp[iH]⟩ ?_
   clear hF v
   rintro k ⟨hk,b⟩
   refine aa ?_
   by_cases n:k<e.idx.length
   ·have g: ∀x,gB p vars e.idx[k]=x→x≠0→gc p vars e=(iH,x):= λx h1 h2=>Dt HF.out HL.out ((D9 n b.out (by rw[h1];exact h2)).trans h1) h2
    have q:gB p vars e.idx[k]=0→Hid (de ((e.idx.map (gB p vars)).take (k+1))=0):= λh=>C4 n b.out h
    clear HF HL b
    by_cases o:e.idx[k].2.1=⟨⟨[]⟩⟩
    ·have hE:=Dd (p:=p) (vars:=vars) o
     by_cases z:fl vars p.sizes e.idx[k].1
     ·rw[if_pos z]at hE
      have HN:=q hE
      clear g q hE
      repeat' first|simp(disch:=omega)only[go_sem, *,ah n,eR,wrap_i64,o,z,decide_true]|apply ab<;>intro h<;>try omega|refine aq (ic _ _ _) rfl rfl ?_
      exact⟨k+1, [],⟨by omega,HN⟩,by omega,by simp[iH]⟩
     ·rw[if_neg z]at hE
      have hS:=g _ hE (by omega)
      rw[hS]
      clear g q hE hS
      repeat' first|simp(disch:=omega)only[go_sem, *,ah n,eR,wrap_i64,o,z,decide_false]|apply ab<;>intro h<;>try omega|refine aq (ic _ _ _) rfl rfl ?_
      try rfl
    ·have hF:=gr hf e.idx[k].2.1
     cases y:dm p e.idx[k].2.1 with
     |none=>
      have hS:=g _ (zr o y) (by omega)
      rw[hS]
      rw[y]at hF
      clear g q hS y
      repeat' first|simp(disch:=omega)only[go_sem, *,ah n,eR,wrap_i64,o]|apply ab<;>intro h<;>try omega|refine aW hF rfl rfl ?_
      try rfl
     |some r=>
      obtain⟨t',d'⟩:=r
      have hE:=Ak (vars:=vars) o y
      rw[y]at hF
      clear y
      by_cases ht:t'.1=3
      ·rw[if_neg (not_not_intro ht)]at hE
       by_cases hd:e.idx[k].2.2.length=d'.length
       ·rw[if_neg (not_not_intro hd)]at hE
        have A:(d'.length:Int)=e.idx[k].2.2.length:=by omega
        have C:=o7 p vars e.idx[k].2.2
        clear hd
        by_cases hz:dR p vars e.idx[k].2.2=0
        ·have HN:=q (hE.trans hz)
         clear g q hE
         repeat' first|simp(disch:=omega)only[go_sem, *,ah n,eR,wrap_i64,o,ht,A,hz]|apply ab<;>intro h<;>try omega|refine aW hF rfl rfl ?_|refine aq C rfl rfl ?_
         exact⟨k+1, [],⟨by omega,HN⟩,by omega,by simp[iH]⟩
        ·have hS:=g _ hE hz
         rw[hS]
         clear g q hE hS
         repeat' first|simp(disch:=omega)only[go_sem, *,ah n,eR,wrap_i64,o,ht,A,hz]|apply ab<;>intro h<;>try omega|refine aW hF rfl rfl ?_|refine aq C rfl rfl ?_
         try rfl
       ·rw[if_pos hd]at hE
        have hS:=g _ hE (by omega)
        have A: ¬(d'.length:Int)=e.idx[k].2.2.length:=by omega
        rw[hS]
        clear g q hE hS hd
        repeat' first|simp(disch:=omega)only[go_sem, *,ah n,eR,wrap_i64,o,ht,A]|apply ab<;>intro h<;>try omega|refine aW hF rfl rfl ?_
        try rfl
      ·rw[if_pos ht]at hE
       have hS:=g _ hE (by omega)
       rw[hS]
       clear g q hE hS
       repeat' first|simp(disch:=omega)only[go_sem, *,ah n,eR,wrap_i64,o,ht]|apply ab<;>intro h<;>try omega|refine aW hF rfl rfl ?_
       try rfl
   ·have hz:=b.out
    rw[List.take_of_length_le (by simp;omega)]at hz
    rw[Hl HF.out HL.out hz]
    clear HF HL b hz
    repeat' first|simp(disch:=omega)only[go_sem, *]|apply ab<;>intro h<;>try omega
  ·have v: ¬(dims.length:Int)=e.idx.length:=by omega
   rw[CR u w]
   clear w u
   repeat' first|simp(disch:=omega)only[go_sem, *,v]|apply ab<;>intro h<;>try omega|refine aW hF rfl rfl ?_
   try rfl
end Go.Proofs.YtiapgekjmcjjgaaGreatDoor
