import Derived.Test.YthkaaahphlneiaaGreatDoorVGrow
import Derived.Test.YthkaaahphlneiaaGreatDoorV14b
set_option linter.unusedVariables false
set_option linter.unusedSimpArgs false
set_option maxRecDepth 20000
set_option maxHeartbeats 4000000
set_option maxRecDepth 1000000
namespace Go.Proofs.YthkaaahphlneiaaGreatDoor
open Go.Abs Go.RowKit
theorem sw (l:List aP) (hl:l.length≤1000):ac Tryz.prog bF [.c (.pure (aE l))] (.c (.pure (aE l))):=by
 refine ac.of dc (by simp) fun hb=>aa ?_
 simp only[b9]
 repeat' first|simp(disch:=omega) only[go_sem, *,List.take_zero,List.drop_nil]|((with_reducible refine ab ?_ ?_)<;>intro h<;>try omega)|(with_reducible refine af ?_ ?_)|(with_reducible refine ag (fun h=> ?_) ?_)|(refine im aU (ar fun x=>rfl) (by simp;omega) (by simp;omega) ?_)
 cases l with
 |nil=>rfl
 |cons m r=>exact absurd (h _ List.mem_cons_self) (by simp[mP])
theorem eM (l:ca) (hl:l.2.length≤1000):ac Tryz.prog mZ [dj l.1 l.2] (dj l.1 l.2):=by
 refine ac.of vq (by simp) fun hb=>aa ?_
 simp only[mS]
 repeat' first|simp(disch:=omega) only[go_sem, *]|((with_reducible refine ab ?_ ?_)<;>intro h<;>try omega)|(with_reducible refine af ?_ ?_)|(with_reducible refine ag (fun h=> ?_) ?_)|(refine bS (sw l.2 hl) rfl rfl ?_)
theorem jP (ls:List ca) (hn:ls.length≤1000) (hl: ∀l∈ls,l.2.length≤1000):ac Tryz.prog lT [kL ls] (kL ls):=by
 refine ac.of uX (by simp) fun hb=>aa ?_
 simp only[lX]
 repeat' first|simp(disch:=omega) only[go_sem, *]|((with_reducible refine ab ?_ ?_)<;>intro h<;>try omega)
 refine dv 3 44 2 rfl (by decide) ?_
 refine aj (fun k:Nat=>⟨[(8,I k),(7,I ls.length),(6,kL ls),(3,.c (.ref 0))], [(0,.arr 44 2 ((ls.take k).map bQ))],1,0⟩) (fun k=>k≤ls.length) (fun k=>ls.length-k) ⟨0, [],by omega,by simp⟩ ?_
 intro k hk
 refine aa ?_
 by_cases hlt:k<ls.length
 ·have hc:=eM ls[k] (hl _ (List.getElem_mem hlt))
  have ht:(ls.take k).map bQ++ [bQ ls[k]]=(ls.take (k+1)).map bQ:=by rw[List.take_succ_eq_append_getElem hlt,List.map_append];rfl
  simp only[bQ]at ht
  have HT:=Lib.hid ht
  clear ht hl
  repeat' first|simp(disch:=omega) only[go_sem, *,ae hlt,bQ,wrap_i64]|((with_reducible refine ab ?_ ?_)<;>intro h<;>try omega)|(refine bS hc rfl rfl ?_)|(refine aN rfl (by intro h;cases h) (aI rfl) (by simp;omega) (by simp;omega) ?_)
  rw[HT.out]
  exact⟨k+1, [(0,2)],by omega,by omega,by simp⟩
 ·repeat' first|simp(disch:=omega) only[go_sem, *]|((with_reducible refine ab ?_ ?_)<;>intro h<;>try omega)
  rw[List.take_of_length_le (by omega)]
theorem sB (d:zH) (s:ByteArray):ac Tryz.prog e9 [JI d,.c (.cptr [pS s])] (Go.Abs.B (qD (d.name=s))):=by
 refine ac.of uI (by simp) fun hb=>aa ?_
 simp only[lL]
 repeat' first|simp(disch:=omega) only[go_sem, *,jA]|((with_reducible refine ab ?_ ?_)<;>intro h<;>try omega)
 all_goals(refine BC ?_;clear hb;simp only[Bool.not_eq_true',BT,B4,reduceCtorEq,false_iff,true_iff,not_exists,not_and,Classical.not_not,decide_eq_true_iff,decide_eq_false_iff_not];first|done|grind [])
theorem oE (s:ByteArray) (xs:List zH):ac Tryz.prog ee [d8 cr xs,.c (.clo e9 [.cptr [pS s]])] (I (nB (fun d=>d.name=s) xs)):=by
 refine ac.of ip (by simp) fun hb=>aa ?_
 have hl:=M1 hb
 simp only[eh]
 repeat' first|simp(disch:=omega) only[go_sem, *]|((with_reducible refine ab ?_ ?_)<;>intro h<;>try omega)
 refine aj (fun k:Nat=>⟨[(0,d8 cr xs),(1,.c (.clo e9 [.cptr [pS s]])),(7,I xs.length),(8,I k)], [],0,0⟩) (fun k=>k≤xs.length∧dW (fun j=> ∀h:j<xs.length,¬xs[j].name=s) k) (fun k=>xs.length-k) ⟨0, [],⟨by omega,.zero⟩,by simp⟩ ?_
 rintro k ⟨hk,hall⟩
 refine aa ?_
 by_cases hlt:k<xs.length
 ·have HN:=Lib.hid fun h=>y8 (p:=fun d:zH=>d.name=s) hlt h fun j hj=>hall j hj (by omega)
  have HA:=Lib.hid hall
  clear hall
  repeat' first|simp(disch:=omega) only[go_sem, *,ae hlt,cr,wrap_i64]|((with_reducible refine ab ?_ ?_)<;>intro h<;>try omega)|(refine av (sB _ _) rfl rfl ?_)
  ·rw[HN.out h]
  ·exact⟨k+1, [],⟨by omega,HA.out.succ fun _=>h⟩,by omega,by simp⟩
 ·have HN:=Lib.hid (re (p:=fun d:zH=>d.name=s) fun j hj=>hall j (by omega) hj)
  clear hall
  repeat' first|simp(disch:=omega) only[go_sem, *]|((with_reducible refine ab ?_ ?_)<;>intro h<;>try omega)
  rw[HN.out]
theorem l7 (p:bK) (s:ByteArray):ac Tryz.prog nR [fK p,S s] (I (nB (fun d=>d.name=s) p.defs)):=by
 refine ac.of xN (by simp) fun hb=>aa ?_
 simp only[nO]
 repeat' first|simp(disch:=omega) only[go_sem, *]|((with_reducible refine ab ?_ ?_)<;>intro h<;>try omega)|(refine av (oE s p.defs) rfl rfl ?_)
abbrev QZ (x:Option (Ty×List ca)):AV:=match x with
 |some (t,l)=> .tup [I7 t,kL l,Go.Abs.B true]
 |none=> .tup [I7 iU,.c (.pure (.slice [])),Go.Abs.B false]
theorem Ir {p:bK} {s:ByteArray} {k:Nat} (hk:k<p.params.length) (h:p.params[k].1=s) (hn: ∀j (hj:j<k),¬(p.params[j]'(by omega)).1=s):c8 p s=some p.params[k].2:=by
 have:p.params.find? (fun x=>decide (x.1=s))=some p.params[k]:=by
  rw[List.find?_eq_some_iff_getElem]
  exact⟨by simpa using h,k,hk,rfl,fun j hj=>by simpa using hn j hj⟩
 rw[c8,this]
theorem Ie {p:bK} {s:ByteArray} (h0: ∀j (hj:j<p.params.length),¬p.params[j].1=s) {k:Nat} (hk:k<p.defs.length) (h:p.defs[k].name=s) (hn: ∀j (hj:j<k),¬(p.defs[j]'(by omega)).name=s):c8 p s=some (p.defs[k].ty,p.defs[k].dims.map (·.2)):=by
 have e1:p.params.find? (fun x=>decide (x.1=s))=none:=by
  rw[List.find?_eq_none]
  intro x hx
  obtain⟨j,hj,rfl⟩:=List.mem_iff_getElem.1 hx
  simpa using h0 j hj
 have e2:p.defs.find? (fun d=>decide (d.name=s))=some p.defs[k]:=by
  rw[List.find?_eq_some_iff_getElem]
  exact⟨by simpa using h,k,hk,rfl,fun j hj=>by simpa using hn j hj⟩
 rw[c8,e1]
 simp only[e2]
theorem Eo {p:bK} {s:ByteArray} (h0: ∀j (hj:j<p.params.length),¬p.params[j].1=s) (h1: ∀d∈p.defs,¬d.name=s):c8 p s=none:=by
 have e1:p.params.find? (fun x=>decide (x.1=s))=none:=by
  rw[List.find?_eq_none]
  intro x hx
  obtain⟨j,hj,rfl⟩:=List.mem_iff_getElem.1 hx
  simpa using h0 j hj
 have e2:p.defs.find? (fun d=>decide (d.name=s))=none:=by
  rw[List.find?_eq_none]
  intro x hx
  simpa using h1 x hx
 rw[c8,e1]
 simp only[e2]
set_option maxHeartbeats 1000000 in
theorem gJ {p:bK} (hf:j8 p) (s:ByteArray):ac Tryz.prog np [fK p,S s] (QZ (c8 p s)):=by
 refine ac.of Co (by simp) fun hb=>aa ?_
 have hl:p.params.length≤9223372036854775807∧p.defs.length≤9223372036854775807:=by
  have:=hb.1
  simp[ie,lO,iz]at this
  omega
 conv in uC=>cbv
 repeat' first|simp(disch:=omega) only[go_sem, *]|((with_reducible refine ab ?_ ?_)<;>intro h<;>try omega)
 refine aj (fun k:Nat=>⟨[(16,I k),(15,I p.params.length),(14,d8 gV p.params),(4,.c (.ptr 1 0)),(2,.c (.ptr 0 0)),(1,S s)], [(1,.var [.pure (pI 0),.pure (pI 0),.pure (pI 0),.pure (pI 0),.pure (pI 0)]),(0,d6 p)],2,0⟩) (fun k=>k≤p.params.length∧dW (fun j=> ∀h:j<p.params.length,¬p.params[j].1=s) k) (fun k=>p.params.length-k) ⟨0, [],⟨by omega,.zero⟩,by simp⟩ ?_
 rintro k ⟨hk,hall⟩
 refine aa ?_
 by_cases hlt:k<p.params.length
 ·have hfw:=hf.1 _ (List.getElem_mem hlt)
  have hcf:=jP p.params[k].2.2 (by omega) (fun l hl=>by have:=hfw.2 l hl;omega)
  by_cases he:p.params[k].1=s
  ·have HN:=Lib.hid (Ir hlt he fun j hj=>hall j hj (by omega))
   clear hall hf hfw
   repeat' first|simp(disch:=omega) only[go_sem, *,ae hlt,gV,jA,he,decide_true,wrap_i64,]|((with_reducible refine ab ?_ ?_)<;>intro h<;>try omega)|(with_reducible refine af ?_ ?_)|(with_reducible refine ag (fun h=> ?_) ?_)|(refine bS hcf rfl rfl ?_)
   all_goals(rw[HN.out])
  ·have HA:=Lib.hid hall
   clear hall hf hfw hcf
   repeat' first|simp(disch:=omega) only[go_sem, *,ae hlt,gV,jA,he,decide_false,wrap_i64]|((with_reducible refine ab ?_ ?_)<;>intro h<;>try omega)
   exact⟨k+1, [],⟨by omega,HA.out.succ fun _=>he⟩,by omega,by simp⟩
 ·have h0: ∀j (hj:j<p.params.length),¬p.params[j].1=s:=fun j hj=>hall j (by omega) hj
  rcases sW (fun d:zH=>d.name=s) p.defs with⟨g1,g2⟩|⟨i,hi,g1,g2,g3⟩
  ·have HN:=Lib.hid (Eo h0 g2)
   clear hall hf h0 g2
   have hix:=l7 p s
   rw[g1]at hix
   clear g1
   repeat' first|simp(disch:=omega) only[go_sem, *]|((with_reducible refine ab ?_ ?_)<;>intro h<;>try omega)|(refine av hix rfl rfl ?_)
   all_goals(rw[HN.out];try rfl)
  ·have hfw:=hf.2 _ (List.getElem_mem hi)
   have HN:=Lib.hid (Ie h0 hi g2 g3)
   have hix:=l7 p s
   rw[g1]at hix
   have HF:=Lib.hid hfw
   clear hall hf h0 g1 g2 g3 hfw
   repeat' first|simp(disch:=omega) only[go_sem, *,ae hi,cr]|((with_reducible refine ab ?_ ?_)<;>intro h<;>try omega)|(refine av hix rfl rfl ?_)
   refine dv 10 44 2 rfl (by decide) ?_
   refine aj (fun k:Nat=>⟨[(42,I k),(41,I p.defs[i].dims.length),(40,d8 ed p.defs[i].dims),(10,.c (.ref 2)),(9,I i),(4,.c (.ptr 1 0)),(2,.c (.ptr 0 0))], [(2,.arr 44 2 ((p.defs[i].dims.take k).map fun a=>bQ a.2)),(1,.var [.pure (pI 0),.pure (pI 0),.pure (pI 0),.pure (pI 0),.pure (pI 0)]),(0,d6 p)],3,0⟩) (fun k=>k≤p.defs[i].dims.length) (fun k=>p.defs[i].dims.length-k) ⟨0, [],by omega,by simp⟩ ?_
   intro k hk
   refine aa ?_
   by_cases hlt:k<p.defs[i].dims.length
   ·have hc:=eM p.defs[i].dims[k].2 (by have:=HF.out.2.2.1 _ (List.getElem_mem hlt);omega)
    have hd:=HF.out.1
    have ht:(p.defs[i].dims.take k).map (fun a:eY=>bQ a.2)++ [bQ p.defs[i].dims[k].2]=(p.defs[i].dims.take (k+1)).map fun a=>bQ a.2:=by rw[List.take_succ_eq_append_getElem hlt,List.map_append];rfl
    simp only[bQ]at ht
    have HT:=Lib.hid ht
    clear ht HF
    repeat' first|simp(disch:=omega) only[go_sem, *,ae hi,cr,ae hlt,ed,bQ,wrap_i64]|((with_reducible refine ab ?_ ?_)<;>intro h<;>try omega)|(refine bS hc rfl rfl ?_)|(refine aN rfl (by intro h;cases h) (aI rfl) (by simp;omega) (by simp;omega) ?_)
    rw[HT.out]
    exact⟨k+1, [(2,4)],by omega,by omega,by simp[bQ]⟩
   ·repeat' first|simp(disch:=omega) only[go_sem, *,ae hi,cr]|((with_reducible refine ab ?_ ?_)<;>intro h<;>try omega)
    rw[HN.out,List.take_of_length_le (by omega)]
    simp[List.map_map,Function.comp_def]
theorem qE {d:zH} (h1:d.dims.length≤1000) (h2:d.red.length≤1000):ac Tryz.prog kS [JI d] (.c (.pure (cH (aT d)))):=by
 refine ac.of sM (by simp) fun hb=>aa ?_
 have hC:=FH d.dims d.red h1 h2
 have hlen:(d.dims++d.red).length≤2000:=by simp;omega
 have hi:aT d=(d.dims++d.red).map (·.1):=rfl
 generalize d.dims++d.red=ax at*
 rw[hi]
 clear hi
 simp only[kP]
 repeat' first|simp(disch:=omega) only[go_sem, *]|((with_reducible refine ab ?_ ?_)<;>intro h<;>try omega)|(refine bS hC rfl rfl ?_)
 refine dv 3 9 1 rfl (by decide) ?_
 refine aj (fun k:Nat=>⟨[(13,I k),(12,I ax.length),(11,d8 ed ax),(3,.c (.ref 1))], [(1,.arr 9 1 ((ax.take k).map fun a=> [pS a.1])),(0,J4 d)],2,0⟩) (fun k=>k≤ax.length) (fun k=>ax.length-k) ⟨0, [],by omega,by simp⟩ ?_
 intro k hk
 refine aa ?_
 by_cases hlt:k<ax.length
 ·have ht:(ax.take k).map (fun a:eY=> [pS a.1])++ [[pS ax[k].1]]=(ax.take (k+1)).map fun a=> [pS a.1]:=by rw[List.take_succ_eq_append_getElem hlt,List.map_append];rfl
  have HT:=Lib.hid ht
  clear ht hC
  repeat' first|simp(disch:=omega) only[go_sem, *,ae hlt,ed,wrap_i64]|((with_reducible refine ab ?_ ?_)<;>intro h<;>try omega)|(refine aN rfl (by intro h;cases h) (aI rfl) (by simp;omega) (by simp;omega) ?_)
  rw[HT.out]
  exact⟨k+1, [(1,3)],by omega,by omega,by simp⟩
 ·repeat' first|simp(disch:=omega) only[go_sem, *]|((with_reducible refine ab ?_ ?_)<;>intro h<;>try omega)
  rw[List.take_of_length_le (by omega)]
  simp[List.map_map,Function.comp_def]
theorem DL (a:Nat):ac Tryz.prog gI [.c (.pure (.slice [[pI a]]))] (I a):=by
 refine ac.of jO (by simp) fun hb=>aa ?_
 simp only[gw]
 repeat' first|simp(disch:=omega) only[go_sem, *,Int.toNat_zero,List.getElem?_cons_zero]|((with_reducible refine ab ?_ ?_)<;>intro h<;>try omega)
 refine aj (fun _:Unit=>⟨[(4,I 1),(3,I a),(0,.c (.pure (.slice [[pI a]])))], [],0,0⟩) (fun _=>True) (fun _=>0) ⟨(), [],trivial,by simp⟩ ?_
 intro _ _
 refine aa ?_
 repeat' first|simp(disch:=omega) only[go_sem, *]|((with_reducible refine ab ?_ ?_)<;>intro h<;>try omega)
theorem DJ (a b:Nat):ac Tryz.prog gI [.c (.pure (.slice [[pI a], [pI b]]))] (I (max a b:Nat)):=by
 refine ac.of jO (by simp) fun hb=>aa ?_
 simp only[gw]
 repeat' first|simp(disch:=omega) only[go_sem, *,Int.toNat_zero,List.getElem?_cons_zero]|((with_reducible refine ab ?_ ?_)<;>intro h<;>try omega)
 refine aj (fun k:Nat=>⟨[(4,I k),(3,I (if k=1 then a else max a b:Nat)),(0,.c (.pure (.slice [[pI a], [pI b]])))], [],0,0⟩) (fun k=>k=1∨k=2) (fun k=>2-k) ⟨1, [],.inl rfl,by simp⟩ ?_
 rintro k (rfl|rfl)
 ·refine aa ?_
  repeat' first|simp(disch:=omega) only[go_sem, *,wrap_i64,show Int.toNat 1=1 from rfl]|((with_reducible refine ab ?_ ?_)<;>intro h<;>try omega)
  rw[show max (a:Int) (b:Int)=((max a b:Nat):Int) by omega]
  exact⟨2, [],.inr rfl,by omega,by simp⟩
 ·refine aa ?_
  repeat' first|simp(disch:=omega) only[go_sem, *,wrap_i64]|((with_reducible refine ab ?_ ?_)<;>intro h<;>try omega)
theorem ue {t:Ty} (n:Nat):ac Tryz.prog iC [I7 t,.c (.pure (.slice [[pI n]]))] (I (if ¬l8 t then 10 else if 6<n then 11 else 0)):=by
 refine ac.of lK (by simp) fun hb=>aa ?_
 simp only[iG]
 repeat' first|simp(disch:=omega) only[go_sem, *]|((with_reducible refine ab ?_ ?_)<;>intro h<;>try omega)|(refine av (ew t) rfl rfl ?_)|(refine av (DL n) rfl rfl ?_)
 all_goals(repeat' split)<;>first|rfl|omega|simp_all
theorem td {t:Ty} (n m:Nat):ac Tryz.prog iC [I7 t,.c (.pure (.slice [[pI n], [pI m]]))] (I (if ¬l8 t then 10 else if 6<n∨6<m then 11 else 0)):=by
 refine ac.of lK (by simp) fun hb=>aa ?_
 simp only[iG]
 repeat' first|simp(disch:=omega) only[go_sem, *]|((with_reducible refine ab ?_ ?_)<;>intro h<;>try omega)|(refine av (ew t) rfl rfl ?_)|(refine av (DJ n m) rfl rfl ?_)
 all_goals(repeat' split)<;>first|rfl|omega|simp_all
theorem AH (d:zH):ac Tryz.prog tB [JI d] (I (f8 d)):=by
 refine ac.of B5 (by simp) fun hb=>aa ?_
 simp only[sV]
 repeat' first|simp(disch:=omega) only[go_sem, *]|((with_reducible refine ab ?_ ?_)<;>intro h<;>try omega)
 all_goals(refine IE ?_;unfold f8;grind)
theorem xJ (p:bK):ac Tryz.prog pK [fK p] (Go.Abs.B (decide (p.sizes.length≤64∧p.params.length≤64∧p.defs.length≤64∧p.outs.length≤64∧p.wher.length≤256))):=by
 refine ac.of yy (by simp) fun hb=>aa ?_
 simp only[qo]
 repeat' first|simp(disch:=omega) only[go_sem, *]|((with_reducible refine ab ?_ ?_)<;>intro h<;>try omega)
 all_goals(refine BD ?_;simp only[decide_eq_true_iff,reduceCtorEq,false_iff];omega)
end Go.Proofs.YthkaaahphlneiaaGreatDoor
