import Derived.Test.YtjhkikmonejkjaaGreatDoorVLex
import Derived.Test.YtjhkikmonejkjaaGreatDoorV14b
set_option linter.unusedVariables false
set_option linter.unusedSimpArgs false
set_option maxRecDepth 20000
open Go.Proofs.Tryz renaming prog→Ya
namespace Go.Proofs.YtjhkikmonejkjaaGreatDoor
open Go.Abs Go.RowKit
theorem qW (l:List aH) (hl:l.length≤1000):af Ya d6 [.c (.pure (bp l))] (.c (.pure (bp l))):=by
 refine af.of iu (by simp) λhb=>aa ?_
 simp only[dW]
 repeat' first|simp(disch:=omega)only[go_sem, *,List.take_zero,List.drop_nil]|apply ab<;>intro h<;>try omega|apply au|(with_reducible refine az (λh=> ?_) ?_)|refine gl aN (aG λx=>rfl) (by simp;omega) (by simp;omega) ?_
 cases l with
 |nil=>rfl
 |cons m r=>exact absurd (h _ List.mem_cons_self) (by simp[mP])
theorem j5 (l:fc) (hl:l.2.length≤1000):af Ya lu [f9 l.1 l.2] (f9 l.1 l.2):=by
 refine af.of t7 (by simp) λhb=>aa ?_
 simp only[lq]
 repeat' first|simp(disch:=omega)only[go_sem, *]|apply ab<;>intro h<;>try omega|apply au|(with_reducible refine az (λh=> ?_) ?_)|refine o5 (qW l.2 hl) rfl rfl ?_
theorem qL (ls:List fc) (hn:ls.length≤1000) (hl: ∀l∈ls,l.2.length≤1000):af Ya kC [my ls] (my ls):=by
 refine af.of rH (by simp) λhb=>aa ?_
 simp only[kB]
 repeat' first|simp(disch:=omega)only[go_sem, *]|apply ab<;>intro h<;>try omega
 refine co 3 62 2 rfl (by decide) ?_
 refine ai (λk:Nat=>⟨[(8,I k),(7,I ls.length),(6,my ls),(3,.c (.ref 0))], [(0,.arr 62 2 ((ls.take k).map bP))],1,0⟩) (λk=>k≤ls.length) (λk=>ls.length-k) ⟨0, [],by omega,by simp⟩ ?_
 intro k hk
 refine aa ?_
 by_cases f:k<ls.length
 ·have hc:=j5 ls[k] (hl _ (List.getElem_mem f))
  have ht:(ls.take k).map bP++ [bP ls[k]]=(ls.take (k+1)).map bP:=by rw[List.take_succ_eq_append_getElem f,List.map_append];rfl
  simp only[bP]at ht
  have HT:=Lib.hid ht
  clear ht hl
  repeat' first|simp(disch:=omega)only[go_sem, *,ac f,bP,wrap_i64]|apply ab<;>intro h<;>try omega|refine o5 hc rfl rfl ?_|refine aF rfl (by intro h;cases h) (ak rfl) (by simp;omega) (by simp;omega) ?_
  rw[HT.out]
  exact⟨k+1, [(0,2)],by omega,by omega,by simp⟩
 ·repeat' first|simp(disch:=omega)only[go_sem, *]|apply ab<;>intro h<;>try omega
  rw[List.take_of_length_le (by omega)]
theorem qR (d:jA) (s:ByteArray):af Ya eo [sK d,.c (.cptr [pS s])] (Go.Abs.B (ni (d.name=s))):=by
 refine af.of rY (by simp) λhb=>aa ?_
 simp only[kK]
 repeat' first|simp(disch:=omega)only[go_sem, *,aj]|apply ab<;>intro h<;>try omega
 all_goals(refine BC ?_;clear hb;simp only[Bool.not_eq_true',A3,BF,reduceCtorEq,false_iff,true_iff,not_exists,not_and,Classical.not_not,decide_eq_true_iff,decide_eq_false_iff_not];first|done|grind [])
theorem nB (s:ByteArray) (xs:List jA):af Ya dB [bZ br xs,.c (.clo eo [.cptr [pS s]])] (I (iY (λd=>d.name=s) xs)):=by
 refine af.of gv (by simp) λhb=>aa ?_
 have hl:=iQ hb
 simp only[dC]
 repeat' first|simp(disch:=omega)only[go_sem, *]|apply ab<;>intro h<;>try omega
 refine ai (λk:Nat=>⟨[(0,bZ br xs),(1,.c (.clo eo [.cptr [pS s]])),(7,I xs.length),(8,I k)], [],0,0⟩) (λk=>k≤xs.length∧bI (λj=> ∀h:j<xs.length,¬xs[j].name=s) k) (λk=>xs.length-k) ⟨0, [],⟨by omega,.zero⟩,by simp⟩ ?_
 rintro k ⟨hk,e⟩
 refine aa ?_
 by_cases f:k<xs.length
 ·have HN:=Lib.hid λh=>lv (p:= λd:jA=>d.name=s) f h λj hj=>e j hj (by omega)
  have HA:=Lib.hid e
  clear e
  repeat' first|simp(disch:=omega)only[go_sem, *,ac f,br,wrap_i64]|apply ab<;>intro h<;>try omega|refine av (qR _ _) rfl rfl ?_
  ·rw[HN.out h]
  ·exact⟨k+1, [],⟨by omega,HA.out.succ λ_=>h⟩,by omega,by simp⟩
 ·have HN:=Lib.hid (gK (p:= λd:jA=>d.name=s) λj hj=>e j (by omega) hj)
  clear e
  repeat' first|simp(disch:=omega)only[go_sem, *]|apply ab<;>intro h<;>try omega
  rw[HN.out]
theorem kJ (p:be) (s:ByteArray):af Ya mT [eX p,S s] (I (iY (λd=>d.name=s) p.defs)):=by
 refine af.of vJ (by simp) λhb=>aa ?_
 simp only[mN]
 repeat' first|simp(disch:=omega)only[go_sem, *]|apply ab<;>intro h<;>try omega|refine av (nB s p.defs) rfl rfl ?_
abbrev Qd (x:Option (Ty×List fc)):AV:=match x with
 |some (t,l)=> .tup [yG t,my l,Go.Abs.B true]
 |none=> .tup [yG gL,.c (.pure (.slice [])),Go.Abs.B false]
theorem tF {p:be} {s:ByteArray} {k:Nat} (hk:k<p.params.length) (h:p.params[k].1=s) (hn: ∀j (hj:j<k),¬(p.params[j]'(by omega)).1=s):aZ p s=some p.params[k].2:=by
 have:p.params.find? (λx=>decide (x.1=s))=some p.params[k]:=by
  rw[List.find?_eq_some_iff_getElem]
  exact⟨by simpa using h,k,hk,rfl,λj hj=>by simpa using hn j hj⟩
 rw[aZ,this]
theorem tK {p:be} {s:ByteArray} (h0: ∀j (hj:j<p.params.length),¬p.params[j].1=s) {k:Nat} (hk:k<p.defs.length) (h:p.defs[k].name=s) (hn: ∀j (hj:j<k),¬(p.defs[j]'(by omega)).name=s):aZ p s=some (p.defs[k].ty,p.defs[k].dims.map (·.2)):=by
 have e1:p.params.find? (λx=>decide (x.1=s))=none:=by
  rw[List.find?_eq_none]
  intro x hx
  obtain⟨j,hj,rfl⟩:=List.mem_iff_getElem.1 hx
  simpa using h0 j hj
 have e2:p.defs.find? (λd=>decide (d.name=s))=some p.defs[k]:=by
  rw[List.find?_eq_some_iff_getElem]
  exact⟨by simpa using h,k,hk,rfl,λj hj=>by simpa using hn j hj⟩
 rw[aZ,e1]
 simp only[e2]
theorem vG {p:be} {s:ByteArray} (h0: ∀j (hj:j<p.params.length),¬p.params[j].1=s) (h1: ∀d∈p.defs,¬d.name=s):aZ p s=none:=by
 have e1:p.params.find? (λx=>decide (x.1=s))=none:=by
  rw[List.find?_eq_none]
  intro x hx
  obtain⟨j,hj,rfl⟩:=List.mem_iff_getElem.1 hx
  simpa using h0 j hj
 have e2:p.defs.find? (λd=>decide (d.name=s))=none:=by
  rw[List.find?_eq_none]
  intro x hx
  simpa using h1 x hx
 rw[aZ,e1]
 simp only[e2]
set_option maxHeartbeats 1000000 in
theorem jp {p:be} (hf:eR p) (s:ByteArray):af Ya rJ [eX p,S s] (Qd (aZ p s)):=by
 refine af.of A8 (by simp) λhb=>aa ?_
 have hl:p.params.length≤9223372036854775807∧p.defs.length≤9223372036854775807:=by
  have:=hb.1
  simp[eW,jP,ft]at this
  omega
 simp only[sB]
 repeat' first|simp(disch:=omega)only[go_sem, *]|apply ab<;>intro h<;>try omega
 refine ai (λk:Nat=>⟨[(16,I k),(15,I p.params.length),(14,bZ d7 p.params),(4,.c (.ptr 1 0)),(2,.c (.ptr 0 0)),(1,S s)], [(1,.var [.pure (pI 0),.pure (pI 0),.pure (pI 0),.pure (pI 0),.pure (pI 0)]),(0,dL p)],2,0⟩) (λk=>k≤p.params.length∧bI (λj=> ∀h:j<p.params.length,¬p.params[j].1=s) k) (λk=>p.params.length-k) ⟨0, [],⟨by omega,.zero⟩,by simp⟩ ?_
 rintro k ⟨hk,e⟩
 refine aa ?_
 by_cases f:k<p.params.length
 ·have g:=hf.1 _ (List.getElem_mem f)
  have q:=qL p.params[k].2.2 (by omega) (λl hl=>by have:=g.2 l hl;omega)
  by_cases he:p.params[k].1=s
  ·have HN:=Lib.hid (tF f he λj hj=>e j hj (by omega))
   clear e hf g
   repeat' first|simp(disch:=omega)only[go_sem, *,ac f,d7,aj,he,decide_true,wrap_i64,]|apply ab<;>intro h<;>try omega|apply au|(with_reducible refine az (λh=> ?_) ?_)|refine o5 q rfl rfl ?_
   all_goals(rw[HN.out])
  ·have HA:=Lib.hid e
   clear e hf g q
   repeat' first|simp(disch:=omega)only[go_sem, *,ac f,d7,aj,he,decide_false,wrap_i64]|apply ab<;>intro h<;>try omega
   exact⟨k+1, [],⟨by omega,HA.out.succ λ_=>he⟩,by omega,by simp⟩
 ·have h0: ∀j (hj:j<p.params.length),¬p.params[j].1=s:= λj hj=>e j (by omega) hj
  rcases nc (λd:jA=>d.name=s) p.defs with⟨g1,g2⟩|⟨i,hi,g1,g2,g3⟩
  ·have HN:=Lib.hid (vG h0 g2)
   clear e hf h0 g2
   have o:=kJ p s
   rw[g1]at o
   clear g1
   repeat' first|simp(disch:=omega)only[go_sem, *]|apply ab<;>intro h<;>try omega|refine av o rfl rfl ?_
   all_goals(rw[HN.out];try rfl)
  ·have g:=hf.2 _ (List.getElem_mem hi)
   have HN:=Lib.hid (tK h0 hi g2 g3)
   have o:=kJ p s
   rw[g1]at o
   have HF:=Lib.hid g
   clear e hf h0 g1 g2 g3 g
   repeat' first|simp(disch:=omega)only[go_sem, *,ac hi,br]|apply ab<;>intro h<;>try omega|refine av o rfl rfl ?_
   refine co 10 62 2 rfl (by decide) ?_
   refine ai (λk:Nat=>⟨[(42,I k),(41,I p.defs[i].dims.length),(40,bZ ee p.defs[i].dims),(10,.c (.ref 2)),(9,I i),(4,.c (.ptr 1 0)),(2,.c (.ptr 0 0))], [(2,.arr 62 2 ((p.defs[i].dims.take k).map λa=>bP a.2)),(1,.var [.pure (pI 0),.pure (pI 0),.pure (pI 0),.pure (pI 0),.pure (pI 0)]),(0,dL p)],3,0⟩) (λk=>k≤p.defs[i].dims.length) (λk=>p.defs[i].dims.length-k) ⟨0, [],by omega,by simp⟩ ?_
   intro k hk
   refine aa ?_
   by_cases f:k<p.defs[i].dims.length
   ·have hc:=j5 p.defs[i].dims[k].2 (by have:=HF.out.2.2.1 _ (List.getElem_mem f);omega)
    have hd:=HF.out.1
    have ht:(p.defs[i].dims.take k).map (λa:eU=>bP a.2)++ [bP p.defs[i].dims[k].2]=(p.defs[i].dims.take (k+1)).map λa=>bP a.2:=by rw[List.take_succ_eq_append_getElem f,List.map_append];rfl
    simp only[bP]at ht
    have HT:=Lib.hid ht
    clear ht HF
    repeat' first|simp(disch:=omega)only[go_sem, *,ac hi,br,ac f,ee,bP,wrap_i64]|apply ab<;>intro h<;>try omega|refine o5 hc rfl rfl ?_|refine aF rfl (by intro h;cases h) (ak rfl) (by simp;omega) (by simp;omega) ?_
    rw[HT.out]
    exact⟨k+1, [(2,4)],by omega,by omega,by simp[bP]⟩
   ·repeat' first|simp(disch:=omega)only[go_sem, *,ac hi,br]|apply ab<;>intro h<;>try omega
    rw[HN.out,List.take_of_length_le (by omega)]
    simp[List.map_map,Function.comp_def]
theorem ph {d:jA} (h1:d.dims.length≤1000) (h2:d.red.length≤1000):af Ya jS [sK d] (.c (.pure (b6 (ar d)))):=by
 refine af.of qG (by simp) λhb=>aa ?_
 have hC:=DL d.dims d.red h1 h2
 have u:(d.dims++d.red).length≤2000:=by simp;omega
 have hi:ar d=(d.dims++d.red).map (·.1):=rfl
 generalize d.dims++d.red=ax at*
 rw[hi]
 clear hi
 simp only[jK]
 repeat' first|simp(disch:=omega)only[go_sem, *]|apply ab<;>intro h<;>try omega|refine o5 hC rfl rfl ?_
 refine co 3 9 1 rfl (by decide) ?_
 refine ai (λk:Nat=>⟨[(13,I k),(12,I ax.length),(11,bZ ee ax),(3,.c (.ref 1))], [(1,.arr 9 1 ((ax.take k).map λa=> [pS a.1])),(0,qJ d)],2,0⟩) (λk=>k≤ax.length) (λk=>ax.length-k) ⟨0, [],by omega,by simp⟩ ?_
 intro k hk
 refine aa ?_
 by_cases f:k<ax.length
 ·have ht:(ax.take k).map (λa:eU=> [pS a.1])++ [[pS ax[k].1]]=(ax.take (k+1)).map λa=> [pS a.1]:=by rw[List.take_succ_eq_append_getElem f,List.map_append];rfl
  have HT:=Lib.hid ht
  clear ht hC
  repeat' first|simp(disch:=omega)only[go_sem, *,ac f,ee,wrap_i64]|apply ab<;>intro h<;>try omega|refine aF rfl (by intro h;cases h) (ak rfl) (by simp;omega) (by simp;omega) ?_
  rw[HT.out]
  exact⟨k+1, [(1,3)],by omega,by omega,by simp⟩
 ·repeat' first|simp(disch:=omega)only[go_sem, *]|apply ab<;>intro h<;>try omega
  rw[List.take_of_length_le (by omega)]
  simp[List.map_map,Function.comp_def]
theorem Ec (a:Nat):af Ya fG [.c (.pure (.slice [[pI a]]))] (I a):=by
 refine af.of iZ (by simp) λhb=>aa ?_
 simp only[fP]
 repeat' first|simp(disch:=omega)only[go_sem, *,Int.toNat_zero,List.getElem?_cons_zero]|apply ab<;>intro h<;>try omega
 refine ai (λ_:Unit=>⟨[(4,I 1),(3,I a),(0,.c (.pure (.slice [[pI a]])))], [],0,0⟩) (λ_=>True) (λ_=>0) ⟨(), [],trivial,by simp⟩ ?_
 intro _ _
 refine aa ?_
 repeat' first|simp(disch:=omega)only[go_sem, *]|apply ab<;>intro h<;>try omega
theorem Dy (a b:Nat):af Ya fG [.c (.pure (.slice [[pI a], [pI b]]))] (I (max a b:Nat)):=by
 refine af.of iZ (by simp) λhb=>aa ?_
 simp only[fP]
 repeat' first|simp(disch:=omega)only[go_sem, *,Int.toNat_zero,List.getElem?_cons_zero]|apply ab<;>intro h<;>try omega
 refine ai (λk:Nat=>⟨[(4,I k),(3,I (if k=1 then a else max a b:Nat)),(0,.c (.pure (.slice [[pI a], [pI b]])))], [],0,0⟩) (λk=>k=1∨k=2) (λk=>2-k) ⟨1, [],.inl rfl,by simp⟩ ?_
 rintro k (rfl|rfl)
 ·refine aa ?_
  repeat' first|simp(disch:=omega)only[go_sem, *,wrap_i64,show Int.toNat 1=1 from rfl]|apply ab<;>intro h<;>try omega
  rw[show max (a:Int) (b:Int)=((max a b:Nat):Int) by omega]
  exact⟨2, [],.inr rfl,by omega,by simp⟩
 ·refine aa ?_
  repeat' first|simp(disch:=omega)only[go_sem, *,wrap_i64]|apply ab<;>intro h<;>try omega
theorem re {t:Ty} (n:Nat):af Ya gU [yG t,.c (.pure (.slice [[pI n]]))] (I (if ¬ju t then 10 else if 6<n then 11 else 0)):=by
 refine af.of kq (by simp) λhb=>aa ?_
 simp only[gT]
 repeat' first|simp(disch:=omega)only[go_sem, *]|apply ab<;>intro h<;>try omega|refine av (c7 t) rfl rfl ?_|refine av (Ec n) rfl rfl ?_
 all_goals(repeat' split)<;>first|rfl|omega|simp_all
theorem ra {t:Ty} (n m:Nat):af Ya gU [yG t,.c (.pure (.slice [[pI n], [pI m]]))] (I (if ¬ju t then 10 else if 6<n∨6<m then 11 else 0)):=by
 refine af.of kq (by simp) λhb=>aa ?_
 simp only[gT]
 repeat' first|simp(disch:=omega)only[go_sem, *]|apply ab<;>intro h<;>try omega|refine av (c7 t) rfl rfl ?_|refine av (Dy n m) rfl rfl ?_
 all_goals(repeat' split)<;>first|rfl|omega|simp_all
theorem zm (d:jA):af Ya s6 [sK d] (I (fj d)):=by
 refine af.of Bo (by simp) λhb=>aa ?_
 simp only[rL]
 repeat' first|simp(disch:=omega)only[go_sem, *]|apply ab<;>intro h<;>try omega
 all_goals(refine IE ?_;unfold fj;grind)
theorem vM (p:be):af Ya oX [eX p] (Go.Abs.B (decide (p.sizes.length≤64∧p.params.length≤64∧p.defs.length≤64∧p.outs.length≤64∧p.wher.length≤256))):=by
 refine af.of xT (by simp) λhb=>aa ?_
 simp only[oe]
 repeat' first|simp(disch:=omega)only[go_sem, *]|apply ab<;>intro h<;>try omega
 all_goals(refine BD ?_;simp only[decide_eq_true_iff,reduceCtorEq,false_iff];omega)
end Go.Proofs.YtjhkikmonejkjaaGreatDoor
