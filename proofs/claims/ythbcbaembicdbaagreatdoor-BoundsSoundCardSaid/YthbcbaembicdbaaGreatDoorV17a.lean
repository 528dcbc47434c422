import Derived.Test.YthbcbaembicdbaaGreatDoorVLex
import Derived.Test.YthbcbaembicdbaaGreatDoorV14a
set_option maxHeartbeats 4000000
set_option linter.unusedVariables false
set_option linter.unusedSimpArgs false
set_option maxRecDepth 1000000
namespace Go.Proofs.YthbcbaembicdbaaGreatDoor
open Go.Abs Go.RowKit
theorem sY (l:List aD) (hl:l.length≤1000):af Tryz.prog bI [.c (.pure (aw l))] (.c (.pure (aw l))):=by
 refine af.of df (by simp) λhb=>aa ?_
 simp only[b7]
 repeat' first|simp(disch:=omega) only[go_sem, *,List.take_zero,List.drop_nil]|((with_reducible apply ab)<;>intro h<;>try omega)|(with_reducible apply ah)|(with_reducible refine aj (λh=> ?_) ?_)|(refine nJ iR (aQ λx=>rfl) (by simp;omega) (by simp;omega) ?_)
 cases l with
 |nil=>rfl
 |cons m r=>exact absurd (h _ List.mem_cons_self) (by simp[mP])
theorem eO (l:bU) (hl:l.2.length≤1000):af Tryz.prog nH [dR l.1 l.2] (dR l.1 l.2):=by
 refine af.of wn (by simp) λhb=>aa ?_
 simp only[nd]
 repeat' first|simp(disch:=omega) only[go_sem, *]|((with_reducible apply ab)<;>intro h<;>try omega)|(with_reducible apply ah)|(with_reducible refine aj (λh=> ?_) ?_)|(refine el (sY l.2 hl) rfl rfl ?_)
theorem jW (ls:List bU) (hn:ls.length≤1000) (hl: ∀l∈ls,l.2.length≤1000):af Tryz.prog mu [sH ls] (sH ls):=by
 refine af.of uh (by simp) λhb=>aa ?_
 simp only[mG]
 repeat' first|simp(disch:=omega) only[go_sem, *]|((with_reducible apply ab)<;>intro h<;>try omega)
 refine fj 3 44 2 rfl (by decide) ?_
 refine ap (λk:Nat=>⟨[(8,I k),(7,I ls.length),(6,sH ls),(3,.c (.ref 0))], [(0,.arr 44 2 ((ls.take k).map cR))],1,0⟩) (λk=>k≤ls.length) (λk=>ls.length-k) ⟨0, [],by omega,by simp⟩ ?_
 intro k hk
 refine aa ?_
 by_cases hlt:k<ls.length
 ·have hc:=eO ls[k] (hl _ (List.getElem_mem hlt))
  have ht:(ls.take k).map cR++ [cR ls[k]]=(ls.take (k+1)).map cR:=by rw[List.take_succ_eq_append_getElem hlt,List.map_append];rfl
  simp only[cR]at ht
  have HT:=Lib.hid ht
  clear ht hl
  repeat' first|simp(disch:=omega) only[go_sem, *,ai hlt,cR,wrap_i64]|((with_reducible apply ab)<;>intro h<;>try omega)|(refine el hc rfl rfl ?_)|(refine bf rfl (by intro h;cases h) (aO rfl) (by simp;omega) (by simp;omega) ?_)
  rw[HT.out]
  exact⟨k+1, [(0,2)],by omega,by omega,by simp⟩
 ·repeat' first|simp(disch:=omega) only[go_sem, *]|((with_reducible apply ab)<;>intro h<;>try omega)
  rw[List.take_of_length_le (by omega)]
theorem s7 (d:y5) (s:ByteArray):af Tryz.prog e8 [Qa d,.c (.cptr [pS s])] (Go.Abs.B (re (d.name=s))):=by
 refine af.of vH (by simp) λhb=>aa ?_
 simp only[mH]
 repeat' first|simp(disch:=omega) only[go_sem, *,ry]|((with_reducible apply ab)<;>intro h<;>try omega)
 all_goals(refine BC ?_;clear hb;simp only[Bool.not_eq_true',M6,Oj,reduceCtorEq,false_iff,true_iff,not_exists,not_and,Classical.not_not,decide_eq_true_iff,decide_eq_false_iff_not];first|done|grind [])
theorem o8 (s:ByteArray) (xs:List y5):af Tryz.prog dY [gG eh xs,.c (.clo e8 [.cptr [pS s]])] (I (ny (λd=>d.name=s) xs)):=by
 refine af.of ir (by simp) λhb=>aa ?_
 have hl:=N3 hb
 simp only[d8]
 repeat' first|simp(disch:=omega) only[go_sem, *]|((with_reducible apply ab)<;>intro h<;>try omega)
 refine ap (λk:Nat=>⟨[(0,gG eh xs),(1,.c (.clo e8 [.cptr [pS s]])),(7,I xs.length),(8,I k)], [],0,0⟩) (λk=>k≤xs.length∧fY (λj=> ∀h:j<xs.length,¬xs[j].name=s) k) (λk=>xs.length-k) ⟨0, [],⟨by omega,.zero⟩,by simp⟩ ?_
 rintro k ⟨hk,hall⟩
 refine aa ?_
 by_cases hlt:k<xs.length
 ·have HN:=Lib.hid λh=>yS (p:= λd:y5=>d.name=s) hlt h λj hj=>hall j hj (by omega)
  have HA:=Lib.hid hall
  clear hall
  repeat' first|simp(disch:=omega) only[go_sem, *,ai hlt,eh,wrap_i64]|((with_reducible apply ab)<;>intro h<;>try omega)|(refine aY (s7 _ _) rfl rfl ?_)
  ·rw[HN.out h]
  ·exact⟨k+1, [],⟨by omega,HA.out.succ λ_=>h⟩,by omega,by simp⟩
 ·have HN:=Lib.hid (rf (p:= λd:y5=>d.name=s) λj hj=>hall j (by omega) hj)
  clear hall
  repeat' first|simp(disch:=omega) only[go_sem, *]|((with_reducible apply ab)<;>intro h<;>try omega)
  rw[HN.out]
theorem mw (p:bz) (s:ByteArray):af Tryz.prog oj [jE p,S s] (I (ny (λd=>d.name=s) p.defs)):=by
 refine af.of xP (by simp) λhb=>aa ?_
 simp only[oJ]
 repeat' first|simp(disch:=omega) only[go_sem, *]|((with_reducible apply ab)<;>intro h<;>try omega)|(refine aY (o8 s p.defs) rfl rfl ?_)
abbrev Zv (x:Option (Ty×List bU)):AV:=match x with
 |some (t,l)=> .tup [I0 t,sH l,Go.Abs.B true]
 |none=> .tup [I0 pH,.c (.pure (.slice [])),Go.Abs.B false]
theorem RF {p:bz} {s:ByteArray} {k:Nat} (hk:k<p.params.length) (h:p.params[k].1=s) (hn: ∀j (hj:j<k),¬(p.params[j]'(by omega)).1=s):dJ p s=some p.params[k].2:=by
 have:p.params.find? (λx=>decide (x.1=s))=some p.params[k]:=by
  rw[List.find?_eq_some_iff_getElem]
  exact⟨by simpa using h,k,hk,rfl,λj hj=>by simpa using hn j hj⟩
 rw[dJ,this]
theorem Rb {p:bz} {s:ByteArray} (h0: ∀j (hj:j<p.params.length),¬p.params[j].1=s) {k:Nat} (hk:k<p.defs.length) (h:p.defs[k].name=s) (hn: ∀j (hj:j<k),¬(p.defs[j]'(by omega)).name=s):dJ p s=some (p.defs[k].ty,p.defs[k].dims.map (·.2)):=by
 have e1:p.params.find? (λx=>decide (x.1=s))=none:=by
  rw[List.find?_eq_none]
  intro x hx
  obtain⟨j,hj,rfl⟩:=List.mem_iff_getElem.1 hx
  simpa using h0 j hj
 have e2:p.defs.find? (λd=>decide (d.name=s))=some p.defs[k]:=by
  rw[List.find?_eq_some_iff_getElem]
  exact⟨by simpa using h,k,hk,rfl,λj hj=>by simpa using hn j hj⟩
 rw[dJ,e1]
 simp only[e2]
theorem NV {p:bz} {s:ByteArray} (h0: ∀j (hj:j<p.params.length),¬p.params[j].1=s) (h1: ∀d∈p.defs,¬d.name=s):dJ p s=none:=by
 have e1:p.params.find? (λx=>decide (x.1=s))=none:=by
  rw[List.find?_eq_none]
  intro x hx
  obtain⟨j,hj,rfl⟩:=List.mem_iff_getElem.1 hx
  simpa using h0 j hj
 have e2:p.defs.find? (λd=>decide (d.name=s))=none:=by
  rw[List.find?_eq_none]
  intro x hx
  simpa using h1 x hx
 rw[dJ,e1]
 simp only[e2]
theorem gR {p:bz} (hf:rI p) (s:ByteArray):af Tryz.prog tW [jE p,S s] (Zv (dJ p s)):=by
 refine af.of CN (by simp) λhb=>aa ?_
 have hl:p.params.length≤9223372036854775807∧p.defs.length≤9223372036854775807:=by
  have:=hb.1
  simp[iI,sR,jt]at this
  omega
 conv in t7=>cbv
 repeat' first|simp(disch:=omega) only[go_sem, *]|((with_reducible apply ab)<;>intro h<;>try omega)
 refine ap (λk:Nat=>⟨[(16,I k),(15,I p.params.length),(14,gG ku p.params),(4,.c (.ptr 1 0)),(2,.c (.ptr 0 0)),(1,S s)], [(1,.var [.pure (pI 0),.pure (pI 0),.pure (pI 0),.pure (pI 0),.pure (pI 0)]),(0,kx p)],2,0⟩) (λk=>k≤p.params.length∧fY (λj=> ∀h:j<p.params.length,¬p.params[j].1=s) k) (λk=>p.params.length-k) ⟨0, [],⟨by omega,.zero⟩,by simp⟩ ?_
 rintro k ⟨hk,hall⟩
 refine aa ?_
 by_cases hlt:k<p.params.length
 ·have hfw:=hf.1 _ (List.getElem_mem hlt)
  have hcf:=jW p.params[k].2.2 (by omega) (λl hl=>by have:=hfw.2 l hl;omega)
  by_cases he:p.params[k].1=s
  ·have HN:=Lib.hid (RF hlt he λj hj=>hall j hj (by omega))
   clear hall hf hfw
   repeat' first|simp(disch:=omega) only[go_sem, *,ai hlt,ku,ry,he,decide_true,wrap_i64,]|((with_reducible apply ab)<;>intro h<;>try omega)|(with_reducible apply ah)|(with_reducible refine aj (λh=> ?_) ?_)|(refine el hcf rfl rfl ?_)
   all_goals(rw[HN.out])
  ·have HA:=Lib.hid hall
   clear hall hf hfw hcf
   repeat' first|simp(disch:=omega) only[go_sem, *,ai hlt,ku,ry,he,decide_false,wrap_i64]|((with_reducible apply ab)<;>intro h<;>try omega)
   exact⟨k+1, [],⟨by omega,HA.out.succ λ_=>he⟩,by omega,by simp⟩
 ·have h0: ∀j (hj:j<p.params.length),¬p.params[j].1=s:= λj hj=>hall j (by omega) hj
  rcases vK (λd:y5=>d.name=s) p.defs with⟨g1,g2⟩|⟨i,hi,g1,g2,g3⟩
  ·have HN:=Lib.hid (NV h0 g2)
   clear hall hf h0 g2
   have hix:=mw p s
   rw[g1]at hix
   clear g1
   repeat' first|simp(disch:=omega) only[go_sem, *]|((with_reducible apply ab)<;>intro h<;>try omega)|(refine aY hix rfl rfl ?_)
   all_goals(rw[HN.out];try rfl)
  ·have hfw:=hf.2 _ (List.getElem_mem hi)
   have HN:=Lib.hid (Rb h0 hi g2 g3)
   have hix:=mw p s
   rw[g1]at hix
   have HF:=Lib.hid hfw
   clear hall hf h0 g1 g2 g3 hfw
   repeat' first|simp(disch:=omega) only[go_sem, *,ai hi,eh]|((with_reducible apply ab)<;>intro h<;>try omega)|(refine aY hix rfl rfl ?_)
   refine fj 10 44 2 rfl (by decide) ?_
   refine ap (λk:Nat=>⟨[(42,I k),(41,I p.defs[i].dims.length),(40,gG ic p.defs[i].dims),(10,.c (.ref 2)),(9,I i),(4,.c (.ptr 1 0)),(2,.c (.ptr 0 0))], [(2,.arr 44 2 ((p.defs[i].dims.take k).map λa=>cR a.2)),(1,.var [.pure (pI 0),.pure (pI 0),.pure (pI 0),.pure (pI 0),.pure (pI 0)]),(0,kx p)],3,0⟩) (λk=>k≤p.defs[i].dims.length) (λk=>p.defs[i].dims.length-k) ⟨0, [],by omega,by simp⟩ ?_
   intro k hk
   refine aa ?_
   by_cases hlt:k<p.defs[i].dims.length
   ·have hc:=eO p.defs[i].dims[k].2 (by have:=HF.out.2.2.1 _ (List.getElem_mem hlt);omega)
    have hd:=HF.out.1
    have ht:(p.defs[i].dims.take k).map (λa:dW=>cR a.2)++ [cR p.defs[i].dims[k].2]=(p.defs[i].dims.take (k+1)).map λa=>cR a.2:=by rw[List.take_succ_eq_append_getElem hlt,List.map_append];rfl
    simp only[cR]at ht
    have HT:=Lib.hid ht
    clear ht HF
    repeat' first|simp(disch:=omega) only[go_sem, *,ai hi,eh,ai hlt,ic,cR,wrap_i64]|((with_reducible apply ab)<;>intro h<;>try omega)|(refine el hc rfl rfl ?_)|(refine bf rfl (by intro h;cases h) (aO rfl) (by simp;omega) (by simp;omega) ?_)
    rw[HT.out]
    exact⟨k+1, [(2,4)],by omega,by omega,by simp[cR]⟩
   ·repeat' first|simp(disch:=omega) only[go_sem, *,ai hi,eh]|((with_reducible apply ab)<;>intro h<;>try omega)
    rw[HN.out,List.take_of_length_le (by omega)]
    simp[List.map_map,Function.comp_def]
theorem rC {d:y5} (h1:d.dims.length≤1000) (h2:d.red.length≤1000):af Tryz.prog lM [Qa d] (.c (.pure (gn (bX d)))):=by
 refine af.of s9 (by simp) λhb=>aa ?_
 have hC:=E6 d.dims d.red h1 h2
 have hlen:(d.dims++d.red).length≤2000:=by simp;omega
 have hi:bX d=(d.dims++d.red).map (·.1):=rfl
 generalize d.dims++d.red=ax at*
 rw[hi]
 clear hi
 simp only[li]
 repeat' first|simp(disch:=omega) only[go_sem, *]|((with_reducible apply ab)<;>intro h<;>try omega)|(refine el hC rfl rfl ?_)
 refine fj 3 9 1 rfl (by decide) ?_
 refine ap (λk:Nat=>⟨[(13,I k),(12,I ax.length),(11,gG ic ax),(3,.c (.ref 1))], [(1,.arr 9 1 ((ax.take k).map λa=> [pS a.1])),(0,QD d)],2,0⟩) (λk=>k≤ax.length) (λk=>ax.length-k) ⟨0, [],by omega,by simp⟩ ?_
 intro k hk
 refine aa ?_
 by_cases hlt:k<ax.length
 ·have ht:(ax.take k).map (λa:dW=> [pS a.1])++ [[pS ax[k].1]]=(ax.take (k+1)).map λa=> [pS a.1]:=by rw[List.take_succ_eq_append_getElem hlt,List.map_append];rfl
  have HT:=Lib.hid ht
  clear ht hC
  repeat' first|simp(disch:=omega) only[go_sem, *,ai hlt,ic,wrap_i64]|((with_reducible apply ab)<;>intro h<;>try omega)|(refine bf rfl (by intro h;cases h) (aO rfl) (by simp;omega) (by simp;omega) ?_)
  rw[HT.out]
  exact⟨k+1, [(1,3)],by omega,by omega,by simp⟩
 ·repeat' first|simp(disch:=omega) only[go_sem, *]|((with_reducible apply ab)<;>intro h<;>try omega)
  rw[List.take_of_length_le (by omega)]
  simp[List.map_map,Function.comp_def]
theorem FO (a:Nat):af Tryz.prog gI [.c (.pure (.slice [[pI a]]))] (I a):=by
 refine af.of ki (by simp) λhb=>aa ?_
 simp only[gx]
 repeat' first|simp(disch:=omega) only[go_sem, *,Int.toNat_zero,List.getElem?_cons_zero]|((with_reducible apply ab)<;>intro h<;>try omega)
 refine ap (λ_:Unit=>⟨[(4,I 1),(3,I a),(0,.c (.pure (.slice [[pI a]])))], [],0,0⟩) (λ_=>True) (λ_=>0) ⟨(), [],trivial,by simp⟩ ?_
 intro _ _
 refine aa ?_
 repeat' first|simp(disch:=omega) only[go_sem, *]|((with_reducible apply ab)<;>intro h<;>try omega)
theorem Dm (a b:Nat):af Tryz.prog gI [.c (.pure (.slice [[pI a], [pI b]]))] (I (max a b:Nat)):=by
 refine af.of ki (by simp) λhb=>aa ?_
 simp only[gx]
 repeat' first|simp(disch:=omega) only[go_sem, *,Int.toNat_zero,List.getElem?_cons_zero]|((with_reducible apply ab)<;>intro h<;>try omega)
 refine ap (λk:Nat=>⟨[(4,I k),(3,I (if k=1 then a else max a b:Nat)),(0,.c (.pure (.slice [[pI a], [pI b]])))], [],0,0⟩) (λk=>k=1∨k=2) (λk=>2-k) ⟨1, [],.inl rfl,by simp⟩ ?_
 rintro k (rfl|rfl)
 ·refine aa ?_
  repeat' first|simp(disch:=omega) only[go_sem, *,wrap_i64,show Int.toNat 1=1 from rfl]|((with_reducible apply ab)<;>intro h<;>try omega)
  rw[show max (a:Int) (b:Int)=((max a b:Nat):Int) by omega]
  exact⟨2, [],.inr rfl,by omega,by simp⟩
 ·refine aa ?_
  repeat' first|simp(disch:=omega) only[go_sem, *,wrap_i64]|((with_reducible apply ab)<;>intro h<;>try omega)
theorem ut {t:Ty} (n:Nat):af Tryz.prog iQ [I0 t,.c (.pure (.slice [[pI n]]))] (I (if ¬uz t then 10 else if 6<n then 11 else 0)):=by
 refine af.of mo (by simp) λhb=>aa ?_
 simp only[iM]
 repeat' first|simp(disch:=omega) only[go_sem, *]|((with_reducible apply ab)<;>intro h<;>try omega)|(refine aY (ee t) rfl rfl ?_)|(refine aY (FO n) rfl rfl ?_)
 all_goals(repeat' split)<;>first|rfl|omega|simp_all
theorem ug {t:Ty} (n m:Nat):af Tryz.prog iQ [I0 t,.c (.pure (.slice [[pI n], [pI m]]))] (I (if ¬uz t then 10 else if 6<n∨6<m then 11 else 0)):=by
 refine af.of mo (by simp) λhb=>aa ?_
 simp only[iM]
 repeat' first|simp(disch:=omega) only[go_sem, *]|((with_reducible apply ab)<;>intro h<;>try omega)|(refine aY (ee t) rfl rfl ?_)|(refine aY (Dm n m) rfl rfl ?_)
 all_goals(repeat' split)<;>first|rfl|omega|simp_all
theorem AL (d:y5):af Tryz.prog u9 [Qa d] (I (oF d)):=by
 refine af.of CT (by simp) λhb=>aa ?_
 simp only[uB]
 repeat' first|simp(disch:=omega) only[go_sem, *]|((with_reducible apply ab)<;>intro h<;>try omega)
 all_goals(refine IE ?_;unfold oF;grind)
theorem xR (p:bz):af Tryz.prog qx [jE p] (Go.Abs.B (decide (p.sizes.length≤64∧p.params.length≤64∧p.defs.length≤64∧p.outs.length≤64∧p.wher.length≤256))):=by
 refine af.of yQ (by simp) λhb=>aa ?_
 simp only[qd]
 repeat' first|simp(disch:=omega) only[go_sem, *]|((with_reducible apply ab)<;>intro h<;>try omega)
 all_goals(refine BD ?_;simp only[decide_eq_true_iff,reduceCtorEq,false_iff];omega)
end Go.Proofs.YthbcbaembicdbaaGreatDoor
