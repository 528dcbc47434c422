import Derived.Test.YthkaaahphlneiaaGreatDoorV17a
import Derived.Test.YthkaaahphlneiaaGreatDoorV14c
set_option linter.unusedVariables false
set_option linter.unusedSimpArgs false
set_option maxRecDepth 20000
set_option maxHeartbeats 4000000
set_option maxRecDepth 1000000
namespace Go.Proofs.YthkaaahphlneiaaGreatDoor
open Go.Abs Go.RowKit
theorem iv (l:ca) (vars sizes:List ByteArray):ac Tryz.prog oR [dj l.1 l.2,.c (.pure (cH vars)),.c (.pure (cH sizes))] (Go.Abs.B (decide (eU vars sizes l))):=by
 refine ac.of EX (by simp) fun hb=>aa ?_
 have hl:=nY hb.1
 conv in wU=>cbv
 repeat' first|simp(disch:=omega) only[go_sem, *]|((with_reducible refine ab ?_ ?_)<;>intro h<;>try omega)
 refine aj (fun k:Nat=>⟨[(7,I k),(3,.c (.ptr 0 0)),(2,.c (.pure (cH sizes))),(1,.c (.pure (cH vars)))], [(0,.var [.pure (pI l.1),.pure (aE l.2)])],1,0⟩) (fun k=>k≤l.2.length∧dW (fun i=> ∀h:i<l.2.length,l.2[i].1∈vars∨l.2[i].1∈sizes) k) (fun k=>l.2.length-k) ⟨0, [],⟨by omega,.zero⟩,by simp⟩ ?_
 rintro k ⟨hk,hall⟩
 refine aa ?_
 by_cases hlt:k<l.2.length
 ·repeat' first|simp(disch:=omega) only[go_sem, *,ae hlt,mP,wrap_i64]|((with_reducible refine ab ?_ ?_)<;>intro h<;>try omega)|(refine av (gQ _ _) rfl rfl ?_)
  ·exact⟨k+1, [],⟨by omega,hall.succ fun _=> .inl h⟩,by omega,by simp⟩
  ·exact⟨k+1, [],⟨by omega,hall.succ fun _=> .inr h⟩,by omega,by simp⟩
  ·refine BD ⟨fun h=>(by cases h),fun h'=> ?_⟩
   have:=h' _ (List.getElem_mem hlt)
   simp_all
 ·repeat' first|simp(disch:=omega) only[go_sem, *]|((with_reducible refine ab ?_ ?_)<;>intro h<;>try omega)
  refine BD ⟨fun _ m hm=> ?_,fun _=>rfl⟩
  obtain⟨i,hi,rfl⟩:=List.mem_iff_getElem.1 hm
  exact hall i (by omega) hi
theorem rM (p:bK) (vars:List ByteArray) (ls:List ca):ac Tryz.prog oC [fK p,.c (.pure (cH vars)),kL ls] (I (dQ p vars ls)):=by
 refine ac.of EU (by simp) fun hb=>aa ?_
 have hl:ls.length≤9223372036854775807:=by
  have:=hb.2.2.1
  simpa[ie,iz]using this
 conv in wO=>cbv
 repeat' first|simp(disch:=omega) only[go_sem, *]|((with_reducible refine ab ?_ ?_)<;>intro h<;>try omega)
 refine aj (fun k:Nat=>⟨[(7,I k),(3,.c (.ptr 0 0)),(2,kL ls),(1,.c (.pure (cH vars)))], [(0,d6 p)],1,0⟩) (fun k=>k≤ls.length∧dW (fun i=> ∀h:i<ls.length,eU vars p.sizes ls[i]) k) (fun k=>ls.length-k) ⟨0, [],⟨by omega,.zero⟩,by simp⟩ ?_
 rintro k ⟨hk,hall⟩
 refine aa ?_
 by_cases hlt:k<ls.length
 ·repeat' first|simp(disch:=omega) only[go_sem, *,ae hlt,bQ,wrap_i64]|((with_reducible refine ab ?_ ?_)<;>intro h<;>try omega)|(refine av (iv _ _ _) rfl rfl ?_)
  ·exact⟨k+1, [],⟨by omega,hall.succ fun _=>h⟩,by omega,by simp⟩
  ·exact IE (if_neg fun h'=>h (h' _ (List.getElem_mem hlt))).symm
 ·repeat' first|simp(disch:=omega) only[go_sem, *]|((with_reducible refine ab ?_ ?_)<;>intro h<;>try omega)
  refine IE (if_pos fun x hx=> ?_).symm
  obtain⟨i,hi,rfl⟩:=List.mem_iff_getElem.1 hx
  exact hall i (by omega) hi
set_option maxHeartbeats 1000000 in
theorem gx {p:bK} (hf:j8 p) (s:ByteArray):ac Tryz.prog qT [fK p,S s] (QZ (c8 p s)):=by
 refine ac.of FO (by simp) fun hb=>aa ?_
 have hl:p.params.length≤9223372036854775807∧p.defs.length≤9223372036854775807:=by
  have:=hb.1
  simp[ie,lO,iz]at this
  omega
 conv in x9=>cbv
 repeat' first|simp(disch:=omega) only[go_sem, *]|((with_reducible refine ab ?_ ?_)<;>intro h<;>try omega)
 refine aj (fun k:Nat=>⟨[(7,I k),(4,.c (.ptr 1 0)),(2,.c (.ptr 0 0)),(1,S s)], [(1,.var [.pure (pI 0),.pure (pI 0),.pure (pI 0),.pure (pI 0),.pure (pI 0)]),(0,d6 p)],2,0⟩) (fun k=>k≤p.params.length∧dW (fun j=> ∀h:j<p.params.length,¬p.params[j].1=s) k) (fun k=>p.params.length-k) ⟨0, [],⟨by omega,.zero⟩,by simp⟩ ?_
 rintro k ⟨hk,hall⟩
 refine aa ?_
 by_cases hlt:k<p.params.length
 ·by_cases he:p.params[k].1=s
  ·have HN:=Lib.hid (Ir hlt he fun j hj=>hall j hj (by omega))
   clear hall hf
   repeat' first|simp(disch:=omega) only[go_sem, *,ae hlt,gV,jA,he,decide_true,wrap_i64,]|((with_reducible refine ab ?_ ?_)<;>intro h<;>try omega)|(with_reducible refine af ?_ ?_)|(with_reducible refine ag (fun h=> ?_) ?_)
   all_goals(rw[HN.out];try rfl)
  ·have HA:=Lib.hid hall
   clear hall hf
   repeat' first|simp(disch:=omega) only[go_sem, *,ae hlt,gV,jA,he,decide_false,wrap_i64]|((with_reducible refine ab ?_ ?_)<;>intro h<;>try omega)
   exact⟨k+1, [],⟨by omega,HA.out.succ fun _=>he⟩,by omega,by simp⟩
 ·have h0: ∀j (hj:j<p.params.length),¬p.params[j].1=s:=fun j hj=>hall j (by omega) hj
  have H0:=Lib.hid h0
  clear hall h0
  repeat' first|simp(disch:=omega) only[go_sem, *]|((with_reducible refine ab ?_ ?_)<;>intro h<;>try omega)
  refine aj (fun k:Nat=>⟨[(8,I k),(4,.c (.ptr 1 0)),(2,.c (.ptr 0 0)),(1,S s)], [(1,.var [.pure (pI 0),.pure (pI 0),.pure (pI 0),.pure (pI 0),.pure (pI 0)]),(0,d6 p)],2,0⟩) (fun k=>k≤p.defs.length∧dW (fun j=> ∀h:j<p.defs.length,¬p.defs[j].name=s) k) (fun k=>p.defs.length-k) ⟨0, [],⟨by omega,.zero⟩,by simp⟩ ?_
  rintro i ⟨hk,hall⟩
  refine aa ?_
  by_cases hi:i<p.defs.length
  ·by_cases he:p.defs[i].name=s
   ·have HN:=Lib.hid (Ie H0.out hi he fun j hj=>hall j hj (by omega))
    have HF:=Lib.hid (hf.2 _ (List.getElem_mem hi))
    clear hall hf
    repeat' first|simp(disch:=omega) only[go_sem, *,ae hi,cr,jA,he,decide_true,wrap_i64]|((with_reducible refine ab ?_ ?_)<;>intro h<;>try omega)
    refine dv 9 44 2 rfl (by decide) ?_
    refine aj (fun k:Nat=>⟨[(10,I k),(9,.c (.ref 2)),(8,I i),(4,.c (.ptr 1 0)),(2,.c (.ptr 0 0))], [(2,.arr 44 2 ((p.defs[i].dims.take k).map fun a=>bQ a.2)),(1,.var [.pure (pI 0),.pure (pI 0),.pure (pI 0),.pure (pI 0),.pure (pI 0)]),(0,d6 p)],3,0⟩) (fun k=>k≤p.defs[i].dims.length) (fun k=>p.defs[i].dims.length-k) ⟨0, [],by omega,by simp⟩ ?_
    intro k hk
    refine aa ?_
    by_cases hlt:k<p.defs[i].dims.length
    ·have hd:=HF.out.1
     have ht:(p.defs[i].dims.take k).map (fun a:eY=>bQ a.2)++ [bQ p.defs[i].dims[k].2]=(p.defs[i].dims.take (k+1)).map fun a=>bQ a.2:=by rw[List.take_succ_eq_append_getElem hlt,List.map_append];rfl
     simp only[bQ]at ht
     have HT:=Lib.hid ht
     clear ht HF
     repeat' first|simp(disch:=omega) only[go_sem, *,ae hi,cr,ae hlt,ed,bQ,wrap_i64]|((with_reducible refine ab ?_ ?_)<;>intro h<;>try omega)|(refine aN rfl (by intro h;cases h) (aI rfl) (by simp;omega) (by simp;omega) ?_)
     rw[HT.out]
     exact⟨k+1, [(2,3)],by omega,by omega,by simp[bQ]⟩
    ·repeat' first|simp(disch:=omega) only[go_sem, *,ae hi,cr]|((with_reducible refine ab ?_ ?_)<;>intro h<;>try omega)
     rw[HN.out,List.take_of_length_le (by omega)]
     simp[List.map_map,Function.comp_def]
   ·have HA:=Lib.hid hall
    clear hall hf
    repeat' first|simp(disch:=omega) only[go_sem, *,ae hi,cr,jA,he,decide_false,wrap_i64]|((with_reducible refine ab ?_ ?_)<;>intro h<;>try omega)
    exact⟨i+1, [],⟨by omega,HA.out.succ fun _=>he⟩,by omega,by simp⟩
  ·have HN:=Lib.hid (Eo H0.out fun d hd=>by
    obtain⟨j,hj,rfl⟩:=List.mem_iff_getElem.1 hd
    exact hall j (by omega) hj)
   clear hall hf
   repeat' first|simp(disch:=omega) only[go_sem, *]|((with_reducible refine ab ?_ ?_)<;>intro h<;>try omega)
   rw[HN.out]
   try rfl
set_option maxRecDepth 20000
set_option maxRecDepth 1000000
abbrev VJ (t:Ty):aS:= .var [.pure (pI t.1),.pure (pI t.2.1),.pure (pI t.2.2.1),.pure (pI t.2.2.2.1),.pure (pI t.2.2.2.2)]
abbrev LF (x:Ty×Int):AV:= .tup [I7 x.1,I x.2]
theorem mn {p:bK} {vars:List ByteArray} {l:ca}:dQ p vars [l]=if eU vars p.sizes l then 0 else 9:=by
 unfold dQ
 simp only[List.mem_singleton,forall_eq]
theorem HV {l:List Ix} {f:Ix→Int} {k:Nat} (h:k<l.length) (hf:cQ ((l.map f).take k)=0) (hz:f l[k]=0):cQ ((l.map f).take (k+1))=0:=by
 rw[iD (by simpa using h) hf,List.getElem_map,hz]
theorem HO {l:List Ix} {f:Ix→Int} {k:Nat} (h:k<l.length) (hf:cQ ((l.map f).take k)=0) (hz:f l[k]≠0):cQ (l.map f)=f l[k]:=by
 have:=m9 (l:=l.map f) (k:=k) (by simpa using h) hf (by simpa using hz)
 rw[this,List.getElem_map]
section
variable {p : bK} {vars : List ByteArray} {e : Ex} {t : Ty} {dims : List ca}
theorem ES (h:c8 p e.name=none):f7 p vars e=(iU,9):=by unfold f7;rw[h]
theorem Hk (h:c8 p e.name=some (t,dims)) (hl: ¬e.idx.length=dims.length):f7 p vars e=(iU,11):=by
 unfold f7
 rw[h]
 exact if_pos hl
theorem Hc (h:c8 p e.name=some (t,dims)) (hl:e.idx.length=dims.length) {x:Int} (he:cQ (e.idx.map (gD p vars))=x) (hx:x≠0):f7 p vars e=(iU,x):=by
 unfold f7
 rw[h]
 simp only[he]
 rw[if_neg (not_not_intro hl),if_pos hx]
theorem LD (h:c8 p e.name=some (t,dims)) (hl:e.idx.length=dims.length) (he:cQ (e.idx.map (gD p vars))=0):f7 p vars e=(t,0):=by
 unfold f7
 rw[h]
 simp only[he]
 rw[if_neg (not_not_intro hl),if_neg (by simp)]
theorem GT {x:Ix} (h:x.2.1=⟨⟨[]⟩⟩):gD p vars x=if eU vars p.sizes x.1 then 0 else 9:=by
 unfold gD
 rw[if_pos h,mn]
theorem Fa {x:Ix} (h: ¬x.2.1=⟨⟨[]⟩⟩) (hf:c8 p x.2.1=none):gD p vars x=9:=by
 unfold gD
 rw[if_neg h,hf]
theorem Da {x:Ix} (h: ¬x.2.1=⟨⟨[]⟩⟩) (hf:c8 p x.2.1=some (t,dims)):gD p vars x=if t.1≠3 then 10 else if x.2.2.length≠dims.length then 11 else dQ p vars x.2.2:=by
 unfold gD
 rw[if_neg h,hf]
end
set_option maxHeartbeats 2000000 in
theorem EE {p:bK} (hf:j8 p) (vars:List ByteArray) (e:Ex):ac Tryz.prog rC [fK p,.c (.pure (cH vars)),fm e] (LF (f7 p vars e)):=by
 refine ac.of Gj (by simp) fun hb=>aa ?_
 have hl:=(dX hb.2.2).2
 conv in yt=>cbv
 have hF:=gx hf e.name
 cases hfind:c8 p e.name with
 |none=>
  rw[hfind]at hF
  rw[ES hfind]
  clear hfind
  repeat' first|simp(disch:=omega) only[go_sem, *]|((with_reducible refine ab ?_ ?_)<;>intro h<;>try omega)|(refine bS hF rfl rfl ?_)
  rfl
 |some r=>
  obtain⟨t,dims⟩:=r
  rw[hfind]at hF
  by_cases hlen:e.idx.length=dims.length
  ·have hlen':(dims.length:Int)=e.idx.length:=by omega
   have HF:=Lib.hid hfind
   have HL:=Lib.hid hlen
   clear hlen hfind
   repeat' first|simp(disch:=omega) only[go_sem, *,hlen']|((with_reducible refine ab ?_ ?_)<;>intro h<;>try omega)|(refine bS hF rfl rfl ?_)
   refine aj (fun k:Nat=>⟨[(11,I k),(8,.c (.ptr 3 0)),(6,.c (.ptr 2 0)),(5,.c (.ptr 1 0)),(3,.c (.ptr 0 0)),(1,.c (.pure (cH vars)))], [(3,VJ t),(2,VJ iU),(1,Ey e),(0,d6 p)],4,0⟩) (fun k=>k≤e.idx.length∧Hid (cQ ((e.idx.map (gD p vars)).take k)=0)) (fun k=>e.idx.length-k) ⟨0, [],⟨by omega,by show _=_;simp[cQ]⟩,by simp[iU]⟩ ?_
   clear hF hlen'
   rintro k ⟨hk,hall⟩
   refine aa ?_
   by_cases hlt:k<e.idx.length
   ·have hstop: ∀x,gD p vars e.idx[k]=x→x≠0→f7 p vars e=(iU,x):=fun x h1 h2=>Hc HF.out HL.out ((HO hlt hall.out (by rw[h1];exact h2)).trans h1) h2
    have hnext:gD p vars e.idx[k]=0→Hid (cQ ((e.idx.map (gD p vars)).take (k+1))=0):=fun h=>HV hlt hall.out h
    clear HF HL hall
    by_cases hfrom:e.idx[k].2.1=⟨⟨[]⟩⟩
    ·have hE:=GT (p:=p) (vars:=vars) hfrom
     by_cases hkn:eU vars p.sizes e.idx[k].1
     ·rw[if_pos hkn]at hE
      have HN:=hnext hE
      clear hstop hnext hE
      repeat' first|simp(disch:=omega) only[go_sem, *,ae hlt,eB,wrap_i64,hfrom,hkn,decide_true]|((with_reducible refine ab ?_ ?_)<;>intro h<;>try omega)|(refine av (iv _ _ _) rfl rfl ?_)
      exact⟨k+1, [],⟨by omega,HN⟩,by omega,by simp[iU]⟩
     ·rw[if_neg hkn]at hE
      have hS:=hstop _ hE (by omega)
      rw[hS]
      clear hstop hnext hE hS
      repeat' first|simp(disch:=omega) only[go_sem, *,ae hlt,eB,wrap_i64,hfrom,hkn,decide_false]|((with_reducible refine ab ?_ ?_)<;>intro h<;>try omega)|(refine av (iv _ _ _) rfl rfl ?_)
      try rfl
    ·have hF:=gx hf e.idx[k].2.1
     cases hfx:c8 p e.idx[k].2.1 with
     |none=>
      have hS:=hstop _ (Fa hfrom hfx) (by omega)
      rw[hS]
      rw[hfx]at hF
      clear hstop hnext hS hfx
      repeat' first|simp(disch:=omega) only[go_sem, *,ae hlt,eB,wrap_i64,hfrom]|((with_reducible refine ab ?_ ?_)<;>intro h<;>try omega)|(refine bS hF rfl rfl ?_)
      try rfl
     |some r=>
      obtain⟨t',d'⟩:=r
      have hE:=Da (vars:=vars) hfrom hfx
      rw[hfx]at hF
      clear hfx
      by_cases ht:t'.1=3
      ·rw[if_neg (not_not_intro ht)]at hE
       by_cases hd:e.idx[k].2.2.length=d'.length
       ·rw[if_neg (not_not_intro hd)]at hE
        have hd':(d'.length:Int)=e.idx[k].2.2.length:=by omega
        have hfm:=rM p vars e.idx[k].2.2
        clear hd
        by_cases hz:dQ p vars e.idx[k].2.2=0
        ·have HN:=hnext (hE.trans hz)
         clear hstop hnext hE
         repeat' first|simp(disch:=omega) only[go_sem, *,ae hlt,eB,wrap_i64,hfrom,ht,hd',hz]|((with_reducible refine ab ?_ ?_)<;>intro h<;>try omega)|(refine bS hF rfl rfl ?_)|(refine av hfm rfl rfl ?_)
         exact⟨k+1, [],⟨by omega,HN⟩,by omega,by simp[iU]⟩
        ·have hS:=hstop _ hE hz
         rw[hS]
         clear hstop hnext hE hS
         repeat' first|simp(disch:=omega) only[go_sem, *,ae hlt,eB,wrap_i64,hfrom,ht,hd',hz]|((with_reducible refine ab ?_ ?_)<;>intro h<;>try omega)|(refine bS hF rfl rfl ?_)|(refine av hfm rfl rfl ?_)
         try rfl
       ·rw[if_pos hd]at hE
        have hS:=hstop _ hE (by omega)
        have hd': ¬(d'.length:Int)=e.idx[k].2.2.length:=by omega
        rw[hS]
        clear hstop hnext hE hS hd
        repeat' first|simp(disch:=omega) only[go_sem, *,ae hlt,eB,wrap_i64,hfrom,ht,hd']|((with_reducible refine ab ?_ ?_)<;>intro h<;>try omega)|(refine bS hF rfl rfl ?_)
        try rfl
      ·rw[if_pos ht]at hE
       have hS:=hstop _ hE (by omega)
       rw[hS]
       clear hstop hnext hE hS
       repeat' first|simp(disch:=omega) only[go_sem, *,ae hlt,eB,wrap_i64,hfrom,ht]|((with_reducible refine ab ?_ ?_)<;>intro h<;>try omega)|(refine bS hF rfl rfl ?_)
       try rfl
   ·have hz:=hall.out
    rw[List.take_of_length_le (by simp;omega)]at hz
    rw[LD HF.out HL.out hz]
    clear HF HL hall hz
    repeat' first|simp(disch:=omega) only[go_sem, *]|((with_reducible refine ab ?_ ?_)<;>intro h<;>try omega)
  ·have hlen': ¬(dims.length:Int)=e.idx.length:=by omega
   rw[Hk hfind hlen]
   clear hlen hfind
   repeat' first|simp(disch:=omega) only[go_sem, *,hlen']|((with_reducible refine ab ?_ ?_)<;>intro h<;>try omega)|(refine bS hF rfl rfl ?_)
   try rfl
end Go.Proofs.YthkaaahphlneiaaGreatDoor
