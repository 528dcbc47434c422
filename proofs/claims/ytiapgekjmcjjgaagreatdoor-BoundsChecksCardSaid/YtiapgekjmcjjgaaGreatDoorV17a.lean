import Derived.Test.YtiapgekjmcjjgaaGreatDoorVLex
import Derived.Test.YtiapgekjmcjjgaaGreatDoorV14b
set_option maxHeartbeats 4000000
set_option linter.unusedVariables false
set_option linter.unusedSimpArgs false
set_option maxRecDepth 1000000
open Go.Proofs.Tryz renaming prog→Ya
namespace Go.Proofs.YtiapgekjmcjjgaaGreatDoor
open Go.Abs Go.RowKit
theorem pW (l:List aR) (hl:l.length≤1000):ac Ya 66 [.c (.pure (ay l))] (.c (.pure (ay l))):=by
 refine ac.of dw (by simp) λhb=>aa ?_
 conv in bh _ _=>cbv
 repeat' first|simp(disch:=omega)only[go_sem, *,List.take_zero,List.drop_nil]|apply ab<;>intro h<;>try omega|apply af|(with_reducible refine ag (λh=> ?_) ?_)|refine cN aZ (ar λx=>rfl) (by simp;omega) (by simp;omega) ?_
 cases l with
 |nil=>rfl
 |cons m r=>exact absurd (h _ List.mem_cons_self) (by simp[mP])
theorem e8 (l:bW) (hl:l.2.length≤1000):ac Ya 32 [da l.1 l.2] (da l.1 l.2):=by
 refine ac.of sF (by simp) λhb=>aa ?_
 conv in bh _ _=>cbv
 repeat' first|simp(disch:=omega)only[go_sem, *]|apply ab<;>intro h<;>try omega|apply af|(with_reducible refine ag (λh=> ?_) ?_)|refine aW (pW l.2 hl) rfl rfl ?_
theorem jv (ls:List bW) (hn:ls.length≤1000) (hl: ∀l∈ls,l.2.length≤1000):ac Ya 33 [j6 ls] (j6 ls):=by
 refine ac.of qk (by simp) λhb=>aa ?_
 conv in bh _ _=>cbv
 repeat' first|simp(disch:=omega)only[go_sem, *]|apply ab<;>intro h<;>try omega
 refine dv 3 51 2 rfl (by decide) ?_
 refine ai (λk:Nat=>⟨[(8,I k),(7,I ls.length),(6,j6 ls),(3,.c (.ref 0))], [(0,.arr 51 2 ((ls.take k).map b9))],1,0⟩) (λk=>k≤ls.length) (λk=>ls.length-k) ⟨0, [],by omega,by simp⟩ ?_
 intro k hk
 refine aa ?_
 by_cases f:k<ls.length
 ·have hc:=e8 ls[k] (hl _ (List.getElem_mem f))
  have ht:(ls.take k).map b9++ [b9 ls[k]]=(ls.take (k+1)).map b9:=by rw[List.take_succ_eq_append_getElem f,List.map_append];rfl
  simp only[b9]at ht
  have HT:=Lib.hid ht
  clear ht hl
  repeat' first|simp(disch:=omega)only[go_sem, *,ah f,b9,wrap_i64]|apply ab<;>intro h<;>try omega|refine aW hc rfl rfl ?_|refine aA rfl (by intro h;cases h) (an rfl) (by simp;omega) (by simp;omega) ?_
  rw[HT.out]
  exact⟨k+1, [(0,2)],by omega,by omega,by simp⟩
 ·repeat' first|simp(disch:=omega)only[go_sem, *]|apply ab<;>intro h<;>try omega
  rw[List.take_of_length_le (by omega)]
theorem pY (d:uu) (s:ByteArray):ac Ya 160 [Ia d,.c (.cptr [pS s])] (Go.Abs.B (wA (d.name=s))):=by
 refine ac.of re (by simp) λhb=>aa ?_
 conv in bh _ _=>cbv
 repeat' first|simp(disch:=omega)only[go_sem, *,lL]|apply ab<;>intro h<;>try omega
 all_goals(refine BC ?_;clear hb;simp only[Bool.not_eq_true',xP,yB,reduceCtorEq,false_iff,true_iff,not_exists,not_and,Classical.not_not,decide_eq_true_iff,decide_eq_false_iff_not];first|done|grind [])
theorem mY (s:ByteArray) (xs:List uu):ac Ya 159 [i6 di xs,.c (.clo 160 [.cptr [pS s]])] (I (oY (λd=>d.name=s) xs)):=by
 refine ac.of gX (by simp) λhb=>aa ?_
 have hl:=PW hb
 conv in bh _ _=>cbv
 repeat' first|simp(disch:=omega)only[go_sem, *]|apply ab<;>intro h<;>try omega
 refine ai (λk:Nat=>⟨[(0,i6 di xs),(1,.c (.clo 160 [.cptr [pS s]])),(7,I xs.length),(8,I k)], [],0,0⟩) (λk=>k≤xs.length∧dZ (λj=> ∀h:j<xs.length,¬xs[j].name=s) k) (λk=>xs.length-k) ⟨0, [],⟨by omega,.zero⟩,by simp⟩ ?_
 rintro k ⟨hk,e⟩
 refine aa ?_
 by_cases f:k<xs.length
 ·have HN:=Lib.hid λh=>AH (p:= λd:uu=>d.name=s) f h λj hj=>e j hj (by omega)
  have HA:=Lib.hid e
  clear e
  repeat' first|simp(disch:=omega)only[go_sem, *,ah f,di,wrap_i64]|apply ab<;>intro h<;>try omega|refine aq (pY _ _) rfl rfl ?_
  ·rw[HN.out h]
  ·exact⟨k+1, [],⟨by omega,HA.out.succ λ_=>h⟩,by omega,by simp⟩
 ·have HN:=Lib.hid (tZ (p:= λd:uu=>d.name=s) λj hj=>e j (by omega) hj)
  clear e
  repeat' first|simp(disch:=omega)only[go_sem, *]|apply ab<;>intro h<;>try omega
  rw[HN.out]
theorem kD (p:bG) (s:ByteArray):ac Ya 120 [gy p,S s] (I (oY (λd=>d.name=s) p.defs)):=by
 refine ac.of tN (by simp) λhb=>aa ?_
 conv in bh _ _=>cbv
 repeat' first|simp(disch:=omega)only[go_sem, *]|apply ab<;>intro h<;>try omega|refine aq (mY s p.defs) rfl rfl ?_
abbrev Qc (x:Option (Ty×List bW)):AV:=match x with
 |some (t,l)=> .tup [Fz t,j6 l,Go.Abs.B true]
 |none=> .tup [Fz iH,.c (.pure (.slice [])),Go.Abs.B false]
theorem CP {p:bG} {s:ByteArray} {k:Nat} (hk:k<p.params.length) (h:p.params[k].1=s) (hn: ∀j (hj:j<k),¬(p.params[j]'(by omega)).1=s):dm p s=some p.params[k].2:=by
 have:p.params.find? (λx=>decide (x.1=s))=some p.params[k]:=by
  rw[List.find?_eq_some_iff_getElem]
  exact⟨by simpa using h,k,hk,rfl,λj hj=>by simpa using hn j hj⟩
 rw[dm,this]
theorem CT {p:bG} {s:ByteArray} (h0: ∀j (hj:j<p.params.length),¬p.params[j].1=s) {k:Nat} (hk:k<p.defs.length) (h:p.defs[k].name=s) (hn: ∀j (hj:j<k),¬(p.defs[j]'(by omega)).name=s):dm p s=some (p.defs[k].ty,p.defs[k].dims.map (·.2)):=by
 have e1:p.params.find? (λx=>decide (x.1=s))=none:=by
  rw[List.find?_eq_none]
  intro x hx
  obtain⟨j,hj,rfl⟩:=List.mem_iff_getElem.1 hx
  simpa using h0 j hj
 have e2:p.defs.find? (λd=>decide (d.name=s))=some p.defs[k]:=by
  rw[List.find?_eq_some_iff_getElem]
  exact⟨by simpa using h,k,hk,rfl,λj hj=>by simpa using hn j hj⟩
 rw[dm,e1]
 simp only[e2]
theorem AO {p:bG} {s:ByteArray} (h0: ∀j (hj:j<p.params.length),¬p.params[j].1=s) (h1: ∀d∈p.defs,¬d.name=s):dm p s=none:=by
 have e1:p.params.find? (λx=>decide (x.1=s))=none:=by
  rw[List.find?_eq_none]
  intro x hx
  obtain⟨j,hj,rfl⟩:=List.mem_iff_getElem.1 hx
  simpa using h0 j hj
 have e2:p.defs.find? (λd=>decide (d.name=s))=none:=by
  rw[List.find?_eq_none]
  intro x hx
  simpa using h1 x hx
 rw[dm,e1]
 simp only[e2]
theorem gL {p:bG} (hf:iR p) (s:ByteArray):ac Ya 69 [gy p,S s] (Qc (dm p s)):=by
 refine ac.of yD (by simp) λhb=>aa ?_
 have hl:p.params.length≤9223372036854775807∧p.defs.length≤9223372036854775807:=by
  have:=hb.1
  simp[gw,nc,gT]at this
  omega
 conv in bh _ _=>cbv
 repeat' first|simp(disch:=omega)only[go_sem, *]|apply ab<;>intro h<;>try omega
 refine ai (λk:Nat=>⟨[(16,I k),(15,I p.params.length),(14,i6 gR p.params),(4,.c (.ptr 1 0)),(2,.c (.ptr 0 0)),(1,S s)], [(1,.var [.pure (pI 0),.pure (pI 0),.pure (pI 0),.pure (pI 0),.pure (pI 0)]),(0,eJ p)],2,0⟩) (λk=>k≤p.params.length∧dZ (λj=> ∀h:j<p.params.length,¬p.params[j].1=s) k) (λk=>p.params.length-k) ⟨0, [],⟨by omega,.zero⟩,by simp⟩ ?_
 rintro k ⟨hk,e⟩
 refine aa ?_
 by_cases f:k<p.params.length
 ·have g:=hf.1 _ (List.getElem_mem f)
  have q:=jv p.params[k].2.2 (by omega) (λl hl=>by have:=g.2 l hl;omega)
  by_cases he:p.params[k].1=s
  ·have HN:=Lib.hid (CP f he λj hj=>e j hj (by omega))
   clear e hf g
   repeat' first|simp(disch:=omega)only[go_sem, *,ah f,gR,lL,he,decide_true,wrap_i64,]|apply ab<;>intro h<;>try omega|apply af|(with_reducible refine ag (λh=> ?_) ?_)|refine aW q rfl rfl ?_
   all_goals(rw[HN.out])
  ·have HA:=Lib.hid e
   clear e hf g q
   repeat' first|simp(disch:=omega)only[go_sem, *,ah f,gR,lL,he,decide_false,wrap_i64]|apply ab<;>intro h<;>try omega
   exact⟨k+1, [],⟨by omega,HA.out.succ λ_=>he⟩,by omega,by simp⟩
 ·have h0: ∀j (hj:j<p.params.length),¬p.params[j].1=s:= λj hj=>e j (by omega) hj
  rcases xn (λd:uu=>d.name=s) p.defs with⟨g1,g2⟩|⟨i,hi,g1,g2,g3⟩
  ·have HN:=Lib.hid (AO h0 g2)
   clear e hf h0 g2
   have o:=kD p s
   rw[g1]at o
   clear g1
   repeat' first|simp(disch:=omega)only[go_sem, *]|apply ab<;>intro h<;>try omega|refine aq o rfl rfl ?_
   all_goals(rw[HN.out];try rfl)
  ·have g:=hf.2 _ (List.getElem_mem hi)
   have HN:=Lib.hid (CT h0 hi g2 g3)
   have o:=kD p s
   rw[g1]at o
   have HF:=Lib.hid g
   clear e hf h0 g1 g2 g3 g
   repeat' first|simp(disch:=omega)only[go_sem, *,ah hi,di]|apply ab<;>intro h<;>try omega|refine aq o rfl rfl ?_
   refine dv 10 51 2 rfl (by decide) ?_
   refine ai (λk:Nat=>⟨[(42,I k),(41,I p.defs[i].dims.length),(40,i6 fg p.defs[i].dims),(10,.c (.ref 2)),(9,I i),(4,.c (.ptr 1 0)),(2,.c (.ptr 0 0))], [(2,.arr 51 2 ((p.defs[i].dims.take k).map λa=>b9 a.2)),(1,.var [.pure (pI 0),.pure (pI 0),.pure (pI 0),.pure (pI 0),.pure (pI 0)]),(0,eJ p)],3,0⟩) (λk=>k≤p.defs[i].dims.length) (λk=>p.defs[i].dims.length-k) ⟨0, [],by omega,by simp⟩ ?_
   intro k hk
   refine aa ?_
   by_cases f:k<p.defs[i].dims.length
   ·have hc:=e8 p.defs[i].dims[k].2 (by have:=HF.out.2.2.1 _ (List.getElem_mem f);omega)
    have hd:=HF.out.1
    have ht:(p.defs[i].dims.take k).map (λa:gU=>b9 a.2)++ [b9 p.defs[i].dims[k].2]=(p.defs[i].dims.take (k+1)).map λa=>b9 a.2:=by rw[List.take_succ_eq_append_getElem f,List.map_append];rfl
    simp only[b9]at ht
    have HT:=Lib.hid ht
    clear ht HF
    repeat' first|simp(disch:=omega)only[go_sem, *,ah hi,di,ah f,fg,b9,wrap_i64]|apply ab<;>intro h<;>try omega|refine aW hc rfl rfl ?_|refine aA rfl (by intro h;cases h) (an rfl) (by simp;omega) (by simp;omega) ?_
    rw[HT.out]
    exact⟨k+1, [(2,4)],by omega,by omega,by simp[b9]⟩
   ·repeat' first|simp(disch:=omega)only[go_sem, *,ah hi,di]|apply ab<;>intro h<;>try omega
    rw[HN.out,List.take_of_length_le (by omega)]
    simp[List.map_map,Function.comp_def]
theorem oG {d:uu} (h1:d.dims.length≤1000) (h2:d.red.length≤1000):ac Ya 64 [Ia d] (.c (.pure (c7 (aS d)))):=by
 refine ac.of pR (by simp) λhb=>aa ?_
 have hC:=A0 d.dims d.red h1 h2
 have u:(d.dims++d.red).length≤2000:=by simp;omega
 have hi:aS d=(d.dims++d.red).map (·.1):=rfl
 generalize d.dims++d.red=ax at*
 rw[hi]
 clear hi
 conv in bh _ _=>cbv
 repeat' first|simp(disch:=omega)only[go_sem, *]|apply ab<;>intro h<;>try omega|refine aW hC rfl rfl ?_
 refine dv 3 9 1 rfl (by decide) ?_
 refine ai (λk:Nat=>⟨[(13,I k),(12,I ax.length),(11,i6 fg ax),(3,.c (.ref 1))], [(1,.arr 9 1 ((ax.take k).map λa=> [pS a.1])),(0,L0 d)],2,0⟩) (λk=>k≤ax.length) (λk=>ax.length-k) ⟨0, [],by omega,by simp⟩ ?_
 intro k hk
 refine aa ?_
 by_cases f:k<ax.length
 ·have ht:(ax.take k).map (λa:gU=> [pS a.1])++ [[pS ax[k].1]]=(ax.take (k+1)).map λa=> [pS a.1]:=by rw[List.take_succ_eq_append_getElem f,List.map_append];rfl
  have HT:=Lib.hid ht
  clear ht hC
  repeat' first|simp(disch:=omega)only[go_sem, *,ah f,fg,wrap_i64]|apply ab<;>intro h<;>try omega|refine aA rfl (by intro h;cases h) (an rfl) (by simp;omega) (by simp;omega) ?_
  rw[HT.out]
  exact⟨k+1, [(1,3)],by omega,by omega,by simp⟩
 ·repeat' first|simp(disch:=omega)only[go_sem, *]|apply ab<;>intro h<;>try omega
  rw[List.take_of_length_le (by omega)]
  simp[List.map_map,Function.comp_def]
theorem AB (a:Nat):ac Ya 112 [.c (.pure (.slice [[pI a]]))] (I a):=by
 refine ac.of jq (by simp) λhb=>aa ?_
 conv in bh _ _=>cbv
 repeat' first|simp(disch:=omega)only[go_sem, *,Int.toNat_zero,List.getElem?_cons_zero]|apply ab<;>intro h<;>try omega
 refine ai (λ_:Unit=>⟨[(4,I 1),(3,I a),(0,.c (.pure (.slice [[pI a]])))], [],0,0⟩) (λ_=>True) (λ_=>0) ⟨(), [],trivial,by simp⟩ ?_
 intro _ _
 refine aa ?_
 repeat' first|simp(disch:=omega)only[go_sem, *]|apply ab<;>intro h<;>try omega
theorem AP (a b:Nat):ac Ya 112 [.c (.pure (.slice [[pI a], [pI b]]))] (I (max a b:Nat)):=by
 refine ac.of jq (by simp) λhb=>aa ?_
 conv in bh _ _=>cbv
 repeat' first|simp(disch:=omega)only[go_sem, *,Int.toNat_zero,List.getElem?_cons_zero]|apply ab<;>intro h<;>try omega
 refine ai (λk:Nat=>⟨[(4,I k),(3,I (if k=1 then a else max a b:Nat)),(0,.c (.pure (.slice [[pI a], [pI b]])))], [],0,0⟩) (λk=>k=1∨k=2) (λk=>2-k) ⟨1, [],.inl rfl,by simp⟩ ?_
 rintro k (rfl|rfl)
 ·refine aa ?_
  repeat' first|simp(disch:=omega)only[go_sem, *,wrap_i64,show Int.toNat 1=1 from rfl]|apply ab<;>intro h<;>try omega
  rw[show max (a:Int) (b:Int)=((max a b:Nat):Int) by omega]
  exact⟨2, [],.inr rfl,by omega,by simp⟩
 ·refine aa ?_
  repeat' first|simp(disch:=omega)only[go_sem, *,wrap_i64]|apply ab<;>intro h<;>try omega
theorem qz {t:Ty} (n:Nat):ac Ya 60 [Fz t,.c (.pure (.slice [[pI n]]))] (I (if ¬kU t then 10 else if 6<n then 11 else 0)):=by
 refine ac.of kA (by simp) λhb=>aa ?_
 conv in bh _ _=>cbv
 repeat' first|simp(disch:=omega)only[go_sem, *]|apply ab<;>intro h<;>try omega|refine aq (eO t) rfl rfl ?_|refine aq (AB n) rfl rfl ?_
 all_goals(repeat' split)<;>first|rfl|omega|simp_all
theorem qS {t:Ty} (n m:Nat):ac Ya 60 [Fz t,.c (.pure (.slice [[pI n], [pI m]]))] (I (if ¬kU t then 10 else if 6<n∨6<m then 11 else 0)):=by
 refine ac.of kA (by simp) λhb=>aa ?_
 conv in bh _ _=>cbv
 repeat' first|simp(disch:=omega)only[go_sem, *]|apply ab<;>intro h<;>try omega|refine aq (eO t) rfl rfl ?_|refine aq (AP n m) rfl rfl ?_
 all_goals(repeat' split)<;>first|rfl|omega|simp_all
theorem wU (d:uu):ac Ya 62 [Ia d] (I (f8 d)):=by
 refine ac.of xU (by simp) λhb=>aa ?_
 conv in bh _ _=>cbv
 repeat' first|simp(disch:=omega)only[go_sem, *]|apply ab<;>intro h<;>try omega
 all_goals(refine IE ?_;unfold f8;grind)
theorem tA (p:bG):ac Ya 25 [gy p] (Go.Abs.B (decide (p.sizes.length≤64∧p.params.length≤64∧p.defs.length≤64∧p.outs.length≤64∧p.wher.length≤256))):=by
 refine ac.of vP (by simp) λhb=>aa ?_
 conv in bh _ _=>cbv
 repeat' first|simp(disch:=omega)only[go_sem, *]|apply ab<;>intro h<;>try omega
 all_goals(refine BD ?_;simp only[decide_eq_true_iff,reduceCtorEq,false_iff];omega)
end Go.Proofs.YtiapgekjmcjjgaaGreatDoor
