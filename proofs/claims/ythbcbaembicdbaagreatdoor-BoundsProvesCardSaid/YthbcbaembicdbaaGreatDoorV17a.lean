import Derived.Test.YthbcbaembicdbaaGreatDoorVLex
import Derived.Test.YthbcbaembicdbaaGreatDoorV14b
set_option linter.unusedVariables false
set_option linter.unusedSimpArgs false
set_option maxRecDepth 20000
set_option maxHeartbeats 4000000
set_option maxRecDepth 1000000
namespace Go.Proofs.YthbcbaembicdbaaGreatDoor
open Go.Abs Go.RowKit
theorem tV (l:List bJ) (hl:l.length≤1000):ac Tryz.prog bU [.c (.pure (aw l))] (.c (.pure (aw l))):=by
 refine ac.of dp (by simp) fun hb=>aa ?_
 conv in cG=>cbv
 repeat' first|simp(disch:=omega) only[go_sem, *,List.take_zero,List.drop_nil]|((with_reducible apply ab)<;>intro h<;>try omega)|(with_reducible apply ag)|(with_reducible refine aj (fun h=> ?_) ?_)|(refine fZ be (av fun x=>rfl) (by simp;omega) (by simp;omega) ?_)
 cases l with
 |nil=>rfl
 |cons m r=>exact absurd (h _ List.mem_cons_self) (by simp[mP])
theorem fg (l:bY) (hl:l.2.length≤1000):ac Tryz.prog nJ [dm l.1 l.2] (dm l.1 l.2):=by
 refine ac.of wO (by simp) fun hb=>aa ?_
 conv in nU=>cbv
 repeat' first|simp(disch:=omega) only[go_sem, *]|((with_reducible apply ab)<;>intro h<;>try omega)|(with_reducible apply ag)|(with_reducible refine aj (fun h=> ?_) ?_)|(refine cg (tV l.2 hl) rfl rfl ?_)
theorem ky (ls:List bY) (hn:ls.length≤1000) (hl: ∀l∈ls,l.2.length≤1000):ac Tryz.prog mU [md ls] (md ls):=by
 refine ac.of uY (by simp) fun hb=>aa ?_
 conv in mF=>cbv
 repeat' first|simp(disch:=omega) only[go_sem, *]|((with_reducible apply ab)<;>intro h<;>try omega)
 refine dR 3 44 2 rfl (by decide) ?_
 refine an (fun k:Nat=>⟨[(8,I k),(7,I ls.length),(6,md ls),(3,.c (.ref 0))], [(0,.arr 44 2 ((ls.take k).map cd))],1,0⟩) (fun k=>k≤ls.length) (fun k=>ls.length-k) ⟨0, [],by omega,by simp⟩ ?_
 intro k hk
 refine aa ?_
 by_cases hlt:k<ls.length
 ·have hc:=fg ls[k] (hl _ (List.getElem_mem hlt))
  have ht:(ls.take k).map cd++ [cd ls[k]]=(ls.take (k+1)).map cd:=by rw[List.take_succ_eq_append_getElem hlt,List.map_append];rfl
  simp only[cd]at ht
  have HT:=Lib.hid ht
  clear ht hl
  repeat' first|simp(disch:=omega) only[go_sem, *,ah hlt,cd,wrap_i64]|((with_reducible apply ab)<;>intro h<;>try omega)|(refine cg hc rfl rfl ?_)|(refine aJ rfl (by intro h;cases h) (aB rfl) (by simp;omega) (by simp;omega) ?_)
  rw[HT.out]
  exact⟨k+1, [(0,2)],by omega,by omega,by simp⟩
 ·repeat' first|simp(disch:=omega) only[go_sem, *]|((with_reducible apply ab)<;>intro h<;>try omega)
  rw[List.take_of_length_le (by omega)]
theorem tF (d:zB) (s:ByteArray):ac Tryz.prog fD [Oq d,.c (.cptr [pS s])] (Go.Abs.B (BI (d.name=s))):=by
 refine ac.of u4 (by simp) fun hb=>aa ?_
 conv in mW=>cbv
 repeat' first|simp(disch:=omega) only[go_sem, *,nq]|((with_reducible apply ab)<;>intro h<;>try omega)
 all_goals(refine BC ?_;clear hb;simp only[Bool.not_eq_true',D9,D7,reduceCtorEq,false_iff,true_iff,not_exists,not_and,Classical.not_not,decide_eq_true_iff,decide_eq_false_iff_not];first|done|grind [])
theorem pX (s:ByteArray) (xs:List zB):ac Tryz.prog eE [j5 da xs,.c (.clo fD [.cptr [pS s]])] (I (sV (fun d=>d.name=s) xs)):=by
 refine ac.of iE (by simp) fun hb=>aa ?_
 have hl:=Xa hb
 conv in eM=>cbv
 repeat' first|simp(disch:=omega) only[go_sem, *]|((with_reducible apply ab)<;>intro h<;>try omega)
 refine an (fun k:Nat=>⟨[(0,j5 da xs),(1,.c (.clo fD [.cptr [pS s]])),(7,I xs.length),(8,I k)], [],0,0⟩) (fun k=>k≤xs.length∧el (fun j=> ∀h:j<xs.length,¬xs[j].name=s) k) (fun k=>xs.length-k) ⟨0, [],⟨by omega,.zero⟩,by simp⟩ ?_
 rintro k ⟨hk,hall⟩
 refine aa ?_
 by_cases hlt:k<xs.length
 ·have HN:=Lib.hid fun h=>GM (p:=fun d:zB=>d.name=s) hlt h fun j hj=>hall j hj (by omega)
  have HA:=Lib.hid hall
  clear hall
  repeat' first|simp(disch:=omega) only[go_sem, *,ah hlt,da,wrap_i64]|((with_reducible apply ab)<;>intro h<;>try omega)|(refine aF (tF _ _) rfl rfl ?_)
  ·rw[HN.out h]
  ·exact⟨k+1, [],⟨by omega,HA.out.succ fun _=>h⟩,by omega,by simp⟩
 ·have HN:=Lib.hid (y6 (p:=fun d:zB=>d.name=s) fun j hj=>hall j (by omega) hj)
  clear hall
  repeat' first|simp(disch:=omega) only[go_sem, *]|((with_reducible apply ab)<;>intro h<;>try omega)
  rw[HN.out]
theorem mR (p:bI) (s:ByteArray):ac Tryz.prog oZ [fO p,S s] (I (sV (fun d=>d.name=s) p.defs)):=by
 refine ac.of yW (by simp) fun hb=>aa ?_
 conv in pC=>cbv
 repeat' first|simp(disch:=omega) only[go_sem, *]|((with_reducible apply ab)<;>intro h<;>try omega)|(refine aF (pX s p.defs) rfl rfl ?_)
abbrev WE (x:Option (Ty×List bY)):AV:=match x with
 |some (t,l)=> .tup [Mg t,md l,Go.Abs.B true]
 |none=> .tup [Mg js,.c (.pure (.slice [])),Go.Abs.B false]
theorem Kg {p:bI} {s:ByteArray} {k:Nat} (hk:k<p.params.length) (h:p.params[k].1=s) (hn: ∀j (hj:j<k),¬(p.params[j]'(by omega)).1=s):di p s=some p.params[k].2:=by
 have:p.params.find? (fun x=>decide (x.1=s))=some p.params[k]:=by
  rw[List.find?_eq_some_iff_getElem]
  exact⟨by simpa using h,k,hk,rfl,fun j hj=>by simpa using hn j hj⟩
 rw[di,this]
theorem J4 {p:bI} {s:ByteArray} (h0: ∀j (hj:j<p.params.length),¬p.params[j].1=s) {k:Nat} (hk:k<p.defs.length) (h:p.defs[k].name=s) (hn: ∀j (hj:j<k),¬(p.defs[j]'(by omega)).name=s):di p s=some (p.defs[k].ty,p.defs[k].dims.map (·.2)):=by
 have e1:p.params.find? (fun x=>decide (x.1=s))=none:=by
  rw[List.find?_eq_none]
  intro x hx
  obtain⟨j,hj,rfl⟩:=List.mem_iff_getElem.1 hx
  simpa using h0 j hj
 have e2:p.defs.find? (fun d=>decide (d.name=s))=some p.defs[k]:=by
  rw[List.find?_eq_some_iff_getElem]
  exact⟨by simpa using h,k,hk,rfl,fun j hj=>by simpa using hn j hj⟩
 rw[di,e1]
 simp only[e2]
theorem IC {p:bI} {s:ByteArray} (h0: ∀j (hj:j<p.params.length),¬p.params[j].1=s) (h1: ∀d∈p.defs,¬d.name=s):di p s=none:=by
 have e1:p.params.find? (fun x=>decide (x.1=s))=none:=by
  rw[List.find?_eq_none]
  intro x hx
  obtain⟨j,hj,rfl⟩:=List.mem_iff_getElem.1 hx
  simpa using h0 j hj
 have e2:p.defs.find? (fun d=>decide (d.name=s))=none:=by
  rw[List.find?_eq_none]
  intro x hx
  simpa using h1 x hx
 rw[di,e1]
 simp only[e2]
set_option maxHeartbeats 1000000 in
theorem ie {p:bI} (hf:j0 p) (s:ByteArray):ac Tryz.prog vR [fO p,S s] (WE (di p s)):=by
 refine ac.of D5 (by simp) fun hb=>aa ?_
 have hl:p.params.length≤9223372036854775807∧p.defs.length≤9223372036854775807:=by
  have:=hb.1
  simp[i5,rF,jS]at this
  omega
 conv in ul=>cbv
 repeat' first|simp(disch:=omega) only[go_sem, *]|((with_reducible apply ab)<;>intro h<;>try omega)
 refine an (fun k:Nat=>⟨[(16,I k),(15,I p.params.length),(14,j5 ip p.params),(4,.c (.ptr 1 0)),(2,.c (.ptr 0 0)),(1,S s)], [(1,.var [.pure (pI 0),.pure (pI 0),.pure (pI 0),.pure (pI 0),.pure (pI 0)]),(0,eV p)],2,0⟩) (fun k=>k≤p.params.length∧el (fun j=> ∀h:j<p.params.length,¬p.params[j].1=s) k) (fun k=>p.params.length-k) ⟨0, [],⟨by omega,.zero⟩,by simp⟩ ?_
 rintro k ⟨hk,hall⟩
 refine aa ?_
 by_cases hlt:k<p.params.length
 ·have hfw:=hf.1 _ (List.getElem_mem hlt)
  have hcf:=ky p.params[k].2.2 (by omega) (fun l hl=>by have:=hfw.2 l hl;omega)
  by_cases he:p.params[k].1=s
  ·have HN:=Lib.hid (Kg hlt he fun j hj=>hall j hj (by omega))
   clear hall hf hfw
   repeat' first|simp(disch:=omega) only[go_sem, *,ah hlt,ip,nq,he,decide_true,wrap_i64,]|((with_reducible apply ab)<;>intro h<;>try omega)|(with_reducible apply ag)|(with_reducible refine aj (fun h=> ?_) ?_)|(refine cg hcf rfl rfl ?_)
   all_goals(rw[HN.out])
  ·have HA:=Lib.hid hall
   clear hall hf hfw hcf
   repeat' first|simp(disch:=omega) only[go_sem, *,ah hlt,ip,nq,he,decide_false,wrap_i64]|((with_reducible apply ab)<;>intro h<;>try omega)
   exact⟨k+1, [],⟨by omega,HA.out.succ fun _=>he⟩,by omega,by simp⟩
 ·have h0: ∀j (hj:j<p.params.length),¬p.params[j].1=s:=fun j hj=>hall j (by omega) hj
  rcases Do (fun d:zB=>d.name=s) p.defs with⟨g1,g2⟩|⟨i,hi,g1,g2,g3⟩
  ·have HN:=Lib.hid (IC h0 g2)
   clear hall hf h0 g2
   have hix:=mR p s
   rw[g1]at hix
   clear g1
   repeat' first|simp(disch:=omega) only[go_sem, *]|((with_reducible apply ab)<;>intro h<;>try omega)|(refine aF hix rfl rfl ?_)
   all_goals(rw[HN.out];try rfl)
  ·have hfw:=hf.2 _ (List.getElem_mem hi)
   have HN:=Lib.hid (J4 h0 hi g2 g3)
   have hix:=mR p s
   rw[g1]at hix
   have HF:=Lib.hid hfw
   clear hall hf h0 g1 g2 g3 hfw
   repeat' first|simp(disch:=omega) only[go_sem, *,ah hi,da]|((with_reducible apply ab)<;>intro h<;>try omega)|(refine aF hix rfl rfl ?_)
   refine dR 10 44 2 rfl (by decide) ?_
   refine an (fun k:Nat=>⟨[(42,I k),(41,I p.defs[i].dims.length),(40,j5 fl p.defs[i].dims),(10,.c (.ref 2)),(9,I i),(4,.c (.ptr 1 0)),(2,.c (.ptr 0 0))], [(2,.arr 44 2 ((p.defs[i].dims.take k).map fun a=>cd a.2)),(1,.var [.pure (pI 0),.pure (pI 0),.pure (pI 0),.pure (pI 0),.pure (pI 0)]),(0,eV p)],3,0⟩) (fun k=>k≤p.defs[i].dims.length) (fun k=>p.defs[i].dims.length-k) ⟨0, [],by omega,by simp⟩ ?_
   intro k hk
   refine aa ?_
   by_cases hlt:k<p.defs[i].dims.length
   ·have hc:=fg p.defs[i].dims[k].2 (by have:=HF.out.2.2.1 _ (List.getElem_mem hlt);omega)
    have hd:=HF.out.1
    have ht:(p.defs[i].dims.take k).map (fun a:iu=>cd a.2)++ [cd p.defs[i].dims[k].2]=(p.defs[i].dims.take (k+1)).map fun a=>cd a.2:=by rw[List.take_succ_eq_append_getElem hlt,List.map_append];rfl
    simp only[cd]at ht
    have HT:=Lib.hid ht
    clear ht HF
    repeat' first|simp(disch:=omega) only[go_sem, *,ah hi,da,ah hlt,fl,cd,wrap_i64]|((with_reducible apply ab)<;>intro h<;>try omega)|(refine cg hc rfl rfl ?_)|(refine aJ rfl (by intro h;cases h) (aB rfl) (by simp;omega) (by simp;omega) ?_)
    rw[HT.out]
    exact⟨k+1, [(2,4)],by omega,by omega,by simp[cd]⟩
   ·repeat' first|simp(disch:=omega) only[go_sem, *,ah hi,da]|((with_reducible apply ab)<;>intro h<;>try omega)
    rw[HN.out,List.take_of_length_le (by omega)]
    simp[List.map_map,Function.comp_def]
theorem sR {d:zB} (h1:d.dims.length≤1000) (h2:d.red.length≤1000):ac Tryz.prog lg [Oq d] (.c (.pure (c8 (aW d)))):=by
 refine ac.of tM (by simp) fun hb=>aa ?_
 have hC:=H9 d.dims d.red h1 h2
 have hlen:(d.dims++d.red).length≤2000:=by simp;omega
 have hi:aW d=(d.dims++d.red).map (·.1):=rfl
 generalize d.dims++d.red=ax at*
 rw[hi]
 clear hi
 conv in l7=>cbv
 repeat' first|simp(disch:=omega) only[go_sem, *]|((with_reducible apply ab)<;>intro h<;>try omega)|(refine cg hC rfl rfl ?_)
 refine dR 3 9 1 rfl (by decide) ?_
 refine an (fun k:Nat=>⟨[(13,I k),(12,I ax.length),(11,j5 fl ax),(3,.c (.ref 1))], [(1,.arr 9 1 ((ax.take k).map fun a=> [pS a.1])),(0,Uc d)],2,0⟩) (fun k=>k≤ax.length) (fun k=>ax.length-k) ⟨0, [],by omega,by simp⟩ ?_
 intro k hk
 refine aa ?_
 by_cases hlt:k<ax.length
 ·have ht:(ax.take k).map (fun a:iu=> [pS a.1])++ [[pS ax[k].1]]=(ax.take (k+1)).map fun a=> [pS a.1]:=by rw[List.take_succ_eq_append_getElem hlt,List.map_append];rfl
  have HT:=Lib.hid ht
  clear ht hC
  repeat' first|simp(disch:=omega) only[go_sem, *,ah hlt,fl,wrap_i64]|((with_reducible apply ab)<;>intro h<;>try omega)|(refine aJ rfl (by intro h;cases h) (aB rfl) (by simp;omega) (by simp;omega) ?_)
  rw[HT.out]
  exact⟨k+1, [(1,3)],by omega,by omega,by simp⟩
 ·repeat' first|simp(disch:=omega) only[go_sem, *]|((with_reducible apply ab)<;>intro h<;>try omega)
  rw[List.take_of_length_le (by omega)]
  simp[List.map_map,Function.comp_def]
theorem FH (a:Nat):ac Tryz.prog gM [.c (.pure (.slice [[pI a]]))] (I a):=by
 refine ac.of kf (by simp) fun hb=>aa ?_
 conv in gP=>cbv
 repeat' first|simp(disch:=omega) only[go_sem, *,Int.toNat_zero,List.getElem?_cons_zero]|((with_reducible apply ab)<;>intro h<;>try omega)
 refine an (fun _:Unit=>⟨[(4,I 1),(3,I a),(0,.c (.pure (.slice [[pI a]])))], [],0,0⟩) (fun _=>True) (fun _=>0) ⟨(), [],trivial,by simp⟩ ?_
 intro _ _
 refine aa ?_
 repeat' first|simp(disch:=omega) only[go_sem, *]|((with_reducible apply ab)<;>intro h<;>try omega)
theorem Ha (a b:Nat):ac Tryz.prog gM [.c (.pure (.slice [[pI a], [pI b]]))] (I (max a b:Nat)):=by
 refine ac.of kf (by simp) fun hb=>aa ?_
 conv in gP=>cbv
 repeat' first|simp(disch:=omega) only[go_sem, *,Int.toNat_zero,List.getElem?_cons_zero]|((with_reducible apply ab)<;>intro h<;>try omega)
 refine an (fun k:Nat=>⟨[(4,I k),(3,I (if k=1 then a else max a b:Nat)),(0,.c (.pure (.slice [[pI a], [pI b]])))], [],0,0⟩) (fun k=>k=1∨k=2) (fun k=>2-k) ⟨1, [],.inl rfl,by simp⟩ ?_
 rintro k (rfl|rfl)
 ·refine aa ?_
  repeat' first|simp(disch:=omega) only[go_sem, *,wrap_i64,show Int.toNat 1=1 from rfl]|((with_reducible apply ab)<;>intro h<;>try omega)
  rw[show max (a:Int) (b:Int)=((max a b:Nat):Int) by omega]
  exact⟨2, [],.inr rfl,by omega,by simp⟩
 ·refine aa ?_
  repeat' first|simp(disch:=omega) only[go_sem, *,wrap_i64]|((with_reducible apply ab)<;>intro h<;>try omega)
theorem we {t:Ty} (n:Nat):ac Tryz.prog i6 [Mg t,.c (.pure (.slice [[pI n]]))] (I (if ¬nb t then 10 else if 6<n then 11 else 0)):=by
 refine ac.of mM (by simp) fun hb=>aa ?_
 conv in iW=>cbv
 repeat' first|simp(disch:=omega) only[go_sem, *]|((with_reducible apply ab)<;>intro h<;>try omega)|(refine aF (eU t) rfl rfl ?_)|(refine aF (FH n) rfl rfl ?_)
 all_goals(repeat' split)<;>first|rfl|omega|simp_all
theorem uD {t:Ty} (n m:Nat):ac Tryz.prog i6 [Mg t,.c (.pure (.slice [[pI n], [pI m]]))] (I (if ¬nb t then 10 else if 6<n∨6<m then 11 else 0)):=by
 refine ac.of mM (by simp) fun hb=>aa ?_
 conv in iW=>cbv
 repeat' first|simp(disch:=omega) only[go_sem, *]|((with_reducible apply ab)<;>intro h<;>try omega)|(refine aF (eU t) rfl rfl ?_)|(refine aF (Ha n m) rfl rfl ?_)
 all_goals(repeat' split)<;>first|rfl|omega|simp_all
theorem BX (d:zB):ac Tryz.prog wn [Oq d] (I (gy d)):=by
 refine ac.of Eo (by simp) fun hb=>aa ?_
 conv in wb=>cbv
 repeat' first|simp(disch:=omega) only[go_sem, *]|((with_reducible apply ab)<;>intro h<;>try omega)
 all_goals(refine IE ?_;unfold gy;grind)
theorem zp (p:bI):ac Tryz.prog qq [fO p] (Go.Abs.B (decide (p.sizes.length≤64∧p.params.length≤64∧p.defs.length≤64∧p.outs.length≤64∧p.wher.length≤256))):=by
 refine ac.of Ac (by simp) fun hb=>aa ?_
 conv in rB=>cbv
 repeat' first|simp(disch:=omega) only[go_sem, *]|((with_reducible apply ab)<;>intro h<;>try omega)
 all_goals(refine BD ?_;simp only[decide_eq_true_iff,reduceCtorEq,false_iff];omega)
end Go.Proofs.YthbcbaembicdbaaGreatDoor
