import Derived.Test.YtjhkikmonejkjaaGreatDoorV54x
import Derived.Test.YtjhkikmonejkjaaGreatDoorP54f
set_option linter.unusedVariables false
set_option linter.unusedSimpArgs false
set_option maxRecDepth 20000
namespace Go.Proofs.YtjhkikmonejkjaaGreatDoor
open Go.Abs Go.RowKit
def s7 (t:Tr):List PC:= [pI t.1,pI t.2.1,pI t.2.2.1,pI t.2.2.2.1,pS t.2.2.2.2]
theorem If (out:List Tr) (t:Tr):out.map s7++ [[pI t.1,pI t.2.1,pI t.2.2.1,pI t.2.2.2.1,pS t.2.2.2.2]]=(out++ [t]).map s7:=by simp[s7]
theorem tA {l:List ByteArray} {s:ByteArray}:s∈ff l↔s∈l:=by
 have key: ∀(l a:List ByteArray),s∈l.foldl gA a↔s∈a∨s∈l:=by
  intro l
  induction l with
  |nil=>intro a;simp
  |cons x r ih=>
   intro a
   rw[List.foldl_cons,ih,Jl,List.mem_cons]
   constructor
   ·rintro((h|h)|h)
    ·exact .inl h
    ·exact .inr (.inl h)
    ·exact .inr (.inr h)
   ·rintro(h|h|h)
    ·exact .inl (.inl h)
    ·exact .inl (.inr h)
    ·exact .inr h
 unfold ff
 rw[key]
 simp
theorem zM (l:List ByteArray):(ff l).length≤l.length:=by
 have key: ∀(l a:List ByteArray),(l.foldl gA a).length≤a.length+l.length:=by
  intro l
  induction l with
  |nil=>intro a;simp
  |cons x r ih=>
   intro a
   have h1:=ih (gA a x)
   have h2:=w5 (a:=a) (s:=x)
   rw[List.foldl_cons,List.length_cons]
   omega
 have:=key l []
 simpa[ff]using this
set_option maxHeartbeats 4000000 in
theorem Cq {p:be} {L:List T3} {W:List (List V3)} (hW:W.length=p.defs.length) (F: ∀i (h:i<p.defs.length) (h':i<W.length),v6 L p.defs[i] W[i]) (q:(gZ L (p.defs.zip W)).length≤1000000000000):
  af Tryz.prog yX [eX p,Nu L W] (.c (.pure (.slice ((gZ L (p.defs.zip W)).map s7)))):=by
 refine af.of EH (by simp) λhb=>aa ?_
 have hU:p.defs.length≤9223372036854775807:=by
  have:=hb.1
  simp[eW,jP,ft]at this
  omega
 simp only[wJ]
 clear hb
 obtain⟨R,hR⟩: ∃R,R= []++gZ L ((p.defs.zip W).drop 0):=⟨_,rfl⟩
 have G:gZ L (p.defs.zip W)=R:=hR.symm
 rw[G]at q ⊢
 have HR:=Lib.hid hR
 have HOK:=Lib.hid F
 clear hR G F
 repeat' first|simp(disch:=omega)only[go_sem]|((with_reducible refine ab ?_ ?_)<;>intro h<;>try first|omega|simp(disch:=omega)only[go_sem, *])
 refine co 5 51 5 rfl (by decide) ?_
 refine ai (λz:Nat×List Tr=>⟨[(2,.c (.ptr 0 0)),(3,.c (.ptr 1 0)),(5,.c (.ref 2)),(6,I z.1)], [(2,.arr 51 5 (z.2.map s7)),(1,IY L W),(0,dL p)],3,0⟩) (λz=>z.1≤p.defs.length∧Hid (R=z.2++gZ L ((p.defs.zip W).drop z.1))) (λz=>p.defs.length-z.1) ⟨(0, []), [],⟨Nat.zero_le _,HR⟩,by simp⟩ ?_
 clear HR
 rintro⟨i,out⟩ ⟨hi,hr⟩
 simp only at hi hr
 refine aa ?_
 by_cases o:i<p.defs.length
 ·have P:i<W.length:=by omega
  have g1:=ac (f:=br) o
  have g2:=ac (f:=Pz) P
  simp only[Pz]at g2
  obtain⟨k1,k2,k3,k4,k5,k6,k7,k8⟩:=HOK.out i o P
  have hd:=hr.out
  rw[JF o P]at hd
  obtain⟨rest,w⟩: ∃r,r=gZ L ((p.defs.zip W).drop (i+1)):=⟨_,rfl⟩
  rw[←w]at hd
  have HQ:=Lib.hid w
  clear w hr HOK
  have cR:=Bm k1 k3 k2
  have cL:= λ(s:ByteArray) (hs:s∈ld p.defs[i].body.pre) (j:Nat) (x:Int) (hj: ∀a∈p.defs[i].body.pre,sQ a s→j<a.idx.length)=>BI (d:=p.defs[i]) (V:=W[i]) (x:=x) k1 k2 k4 hs hj (by omega)
  unfold fp at hd
  have hD: ∀s∈ff (ld p.defs[i].body.pre),s∈ld p.defs[i].body.pre:= λs h=>tA.1 h
  have hV:(ff (ld p.defs[i].body.pre)).length≤1000000:=by have:=zM (ld p.defs[i].body.pre);omega
  obtain⟨R1,T⟩: ∃r,r=iz p.defs[i].name 0 (W[i].drop p.defs[i].dims.length)++rest:=⟨_,rfl⟩
  rw[List.append_assoc,←T]at hd
  have H1:=Lib.hid T
  clear T
  generalize ff (ld p.defs[i].body.pre)=N at*
  have HD0:Hid (R=out++(nk L p.defs[i].body.pre W[i] (N.drop 0)++R1)):=Lib.hid (by rw[List.drop_zero];exact hd)
  have HNM:=Lib.hid hD
  have H8:=Lib.hid k8
  have HL:=Lib.hid cL
  clear hd hD k8 cL k1 k2 k3 k4
  repeat' first|simp(disch:=omega)only[go_sem,g1,g2,br]|((with_reducible refine ab ?_ ?_)<;>intro h<;>try first|omega|simp(disch:=omega)only[go_sem, *,g1,g2,br])|apply au|(with_reducible refine az (λh=> ?_) ?_)|refine ae cR rfl (.inr rfl) ?_
  all_goals refine ai (λz:Nat×List Tr=>⟨[(2,.c (.ptr 0 0)),(3,.c (.ptr 1 0)),(5,.c (.ref 2)),(6,I i),(7,.c (.ptr 3 0)),(8,Bu W[i]),(9,iA N),(10,I z.1)], [(3,qJ p.defs[i]),(2,.arr 51 5 (z.2.map s7)),(1,IY L W),(0,dL p)],4,0⟩) (λz=>z.1≤N.length∧Hid (R=z.2++(nk L p.defs[i].body.pre W[i] (N.drop z.1)++R1))) (λz=>N.length-z.1) ⟨(0,out), [],⟨Nat.zero_le _,HD0⟩,by simp⟩ ?body
  case body=>
   clear HD0
   rintro⟨k,out2⟩ ⟨hk,H⟩
   simp only at hk H
   refine aa ?_
   by_cases A:k<N.length
   ·have hs:=HNM.out _ (List.getElem_mem A)
    obtain⟨ds,sp,f1,f2,f3⟩:=H8.out _ hs
    obtain⟨ti,hE,f4,f5⟩:=GT f1
    have cF:=sY L W N[k]
    rw[f4]at cF
    have gs:(L.map Ky)[ti]? =some [ce sp]:=by rw[ac (f:=Ky) hE,Ky,f5]
    have gN:=ac (f:= λs:ByteArray=> [pS s]) A
    have cl:=HL.out _ hs
    have v:=H.out
    rw[LR A f1,List.append_assoc]at v
    obtain⟨R2,Y⟩: ∃r,r=nk L p.defs[i].body.pre W[i] (N.drop (k+1))++R1:=⟨_,rfl⟩
    rw[←Y]at v
    have H2:=Lib.hid Y
    have HD1:=Lib.hid v
    have HCL:=Lib.hid λ(m:Nat) (x:Int) (hm:m<sp.length)=>cl m x λa ha hr=>by rw[f3 a ha hr];exact hm
    clear Y v H hs f1 f3 f4 f5 cl hE
    repeat' first|simp(disch:=omega)only[go_sem,gN]|((with_reducible refine ab ?_ ?_)<;>intro h<;>try first|omega|simp(disch:=omega)only[go_sem, *,gN])|refine ae cF rfl (.inl rfl) ?_
    refine ai (λz:Nat×List Tr=>⟨[(2,.c (.ptr 0 0)),(3,.c (.ptr 1 0)),(5,.c (.ref 2)),(6,I i),(7,.c (.ptr 3 0)),(8,Bu W[i]),(9,iA N),(10,I k),(11,I ti),(12,I z.1)], [(3,qJ p.defs[i]),(2,.arr 51 5 (z.2.map s7)),(1,IY L W),(0,dL p)],4,0⟩) (λz=>z.1≤sp.length∧Hid (R=z.2++(pg p.defs[i].body.pre W[i] N[k] z.1 (sp.drop z.1)++R2))) (λz=>sp.length-z.1) ⟨(0,out2), [],⟨Nat.zero_le _,HD1⟩,by simp⟩ ?_
    clear HD1 cF
    rintro⟨m,out3⟩ ⟨hm,y⟩
    simp only at hm y
    refine aa ?_
    have g:=y.out
    clear y
    by_cases u:m<sp.length
    ·have gj:=ac (f:= λn:Int=> [pI n]) u
     have cl:=HCL.out m sp[m] u
     have hN:out3.length≤1000000000000:=by
      rw[g]at q
      simp only[List.length_append]at q
      omega
     by_cases c1:0≤sp[m]
     ·by_cases c2:jT p.defs[i].body.pre W[i] N[k] m sp[m]
      ·rw[BY u (λh=>h.2 c2)]at g
       rw[decide_eq_true c2]at cl
       have HD:=Lib.hid g
       clear g q HCL c2
       repeat' first|simp(disch:=omega)only[go_sem,gN,gs,gj,wrap_i64]|((with_reducible refine ab ?_ ?_)<;>intro h<;>try first|omega|simp(disch:=omega)only[go_sem, *,gN,gs,gj,wrap_i64])|refine ae cl rfl (.inl rfl) ?_
       exact⟨(m+1,out3), [],⟨u,HD⟩,by show _-_<_-_;omega,by simp⟩
      ·rw[IK u ⟨c1,c2⟩]at g
       rw[decide_eq_false c2]at cl
       have HD:Hid (R=(out3++ [(1,sp[m],(m:Int),(m:Int),N[k])])++(pg p.defs[i].body.pre W[i] N[k] (m+1) (sp.drop (m+1))++R2)):=Lib.hid (by rw[g];simp)
       have HT:=Lib.hid (If out3 (1,sp[m],(m:Int),(m:Int),N[k]))
       simp only at HT
       clear g q HCL c2
       repeat' first|simp(disch:=omega)only[go_sem,gN,gs,gj,wrap_i64]|((with_reducible refine ab ?_ ?_)<;>intro h<;>try first|omega|simp(disch:=omega)only[go_sem, *,gN,gs,gj,wrap_i64])|refine ae cl rfl (.inl rfl) ?_|refine aF rfl (by intro h;cases h) (ak rfl) (by simp only[List.length_cons,List.length_nil,List.length_map];omega) (by simp only[List.length_cons,List.length_nil,List.length_map];omega) ?_
       rw[HT.out]
       exact⟨(m+1,out3++ [(1,sp[m],(m:Int),(m:Int),N[k])]), [(2,4)],⟨u,HD⟩,by show _-_<_-_;omega,by simp⟩
     ·rw[BY u (λh=>c1 h.1)]at g
      have HD:=Lib.hid g
      clear g q HCL cl
      repeat' first|simp(disch:=omega)only[go_sem,gN,gs,gj,c1,wrap_i64]|((with_reducible refine ab ?_ ?_)<;>intro h<;>try first|omega|simp(disch:=omega)only[go_sem, *,gN,gs,gj,c1,wrap_i64])
      exact⟨(m+1,out3), [],⟨u,HD⟩,by show _-_<_-_;omega,by simp⟩
    ·rw[IS (by omega),List.nil_append,H2.out]at g
     have HD:=Lib.hid g
     clear g q HCL
     repeat' first|simp(disch:=omega)only[go_sem,gs,wrap_i64]|((with_reducible refine ab ?_ ?_)<;>intro h<;>try first|omega|simp(disch:=omega)only[go_sem, *,gs,wrap_i64])
     exact⟨(k+1,out3), [],⟨A,HD⟩,by show _-_<_-_;omega,by simp⟩
   ·have v:=H.out
    rw[JN (by omega),List.nil_append,H1.out,←Nat.add_zero p.defs[i].dims.length]at v
    have HD1:=Lib.hid v
    clear v H H8 HL HNM
    repeat' first|simp(disch:=omega)only[go_sem]|((with_reducible refine ab ?_ ?_)<;>intro h<;>try first|omega|simp(disch:=omega)only[go_sem, *])
    refine ai (λz:Nat×List Tr=>⟨[(2,.c (.ptr 0 0)),(3,.c (.ptr 1 0)),(5,.c (.ref 2)),(6,I i),(7,.c (.ptr 3 0)),(8,Bu W[i]),(14,I z.1)], [(3,qJ p.defs[i]),(2,.arr 51 5 (z.2.map s7)),(1,IY L W),(0,dL p)],4,0⟩) (λz=>z.1≤p.defs[i].red.length∧Hid (R=z.2++(iz p.defs[i].name z.1 (W[i].drop (p.defs[i].dims.length+z.1))++rest))) (λz=>p.defs[i].red.length-z.1) ⟨(0,out2), [],⟨Nat.zero_le _,HD1⟩,by simp⟩ ?_
    clear HD1
    rintro⟨m,out3⟩ ⟨hm,y⟩
    simp only at hm y
    refine aa ?_
    have g:=y.out
    clear y
    by_cases u:m<p.defs[i].red.length
    ·have Z:p.defs[i].dims.length+m<W[i].length:=by omega
     have gj:=ac (f:=dw) Z
     have hw:IntKind.wrap .i64 ((p.defs[i].dims.length:Int)+m)=((p.defs[i].dims.length+m:Nat):Int):=by rw[wrap_i64 (by omega)];omega
     have hN:out3.length≤1000000000000:=by
      rw[g]at q
      simp only[List.length_append]at q
      omega
     by_cases c1:0≤W[i][p.defs[i].dims.length+m].2.2
     ·rw[OT Z c1]at g
      have HD:Hid (R=(out3++ [(2,W[i][p.defs[i].dims.length+m].2.2,(m:Int),(m:Int),p.defs[i].name)])++(iz p.defs[i].name (m+1) (W[i].drop (p.defs[i].dims.length+(m+1)))++rest)):=Lib.hid (by rw[g];simp)
      have HT:=Lib.hid (If out3 (2,W[i][p.defs[i].dims.length+m].2.2,(m:Int),(m:Int),p.defs[i].name))
      simp only at HT
      clear g q
      repeat' first|simp(disch:=omega)only[go_sem,gj,dw,hw,wrap_i64]|((with_reducible refine ab ?_ ?_)<;>intro h<;>try first|omega|simp(disch:=omega)only[go_sem, *,gj,dw,hw,wrap_i64])|refine aF rfl (by intro h;cases h) (ak rfl) (by simp only[List.length_cons,List.length_nil,List.length_map];omega) (by simp only[List.length_cons,List.length_nil,List.length_map];omega) ?_
      rw[HT.out]
      exact⟨(m+1,out3++ [(2,W[i][p.defs[i].dims.length+m].2.2,(m:Int),(m:Int),p.defs[i].name)]), [(2,4)],⟨u,HD⟩,by show _-_<_-_;omega,by simp⟩
     ·rw[RO Z c1]at g
      have HD:=Lib.hid g
      clear g q
      repeat' first|simp(disch:=omega)only[go_sem,gj,dw,hw,c1,wrap_i64]|((with_reducible refine ab ?_ ?_)<;>intro h<;>try first|omega|simp(disch:=omega)only[go_sem, *,gj,dw,hw,c1,wrap_i64])
      exact⟨(m+1,out3), [],⟨u,HD⟩,by show _-_<_-_;omega,by simp⟩
    ·rw[Pg (by omega),List.nil_append,HQ.out]at g
     have HD:=Lib.hid g
     clear g q
     repeat' first|simp(disch:=omega)only[go_sem,wrap_i64]|((with_reducible refine ab ?_ ?_)<;>intro h<;>try first|omega|simp(disch:=omega)only[go_sem, *,wrap_i64])
     exact⟨(i+1,out3), [],⟨o,HD⟩,by show _-_<_-_;omega,by simp⟩
 ·have hd:=hr.out
  rw[ND (by omega),List.append_nil]at hd
  subst hd
  clear HOK hr
  repeat' first|simp(disch:=omega)only[go_sem]|((with_reducible refine ab ?_ ?_)<;>intro h<;>try first|omega|simp(disch:=omega)only[go_sem, *])
def ep (s:List Int):List PC:= [ce s]
theorem Rg {p:be} {env:List aH} (hv:(aV p).2=0) (hf:eR p) {i:Nat} (hi:i<p.defs.length):(ej p env p.defs[i].name).1.length≤1000:=by
 have h1:=(hf.2 _ (List.getElem_mem hi)).1
 unfold ej
 rw[wA hv hi]
 simp only
 split
 ·simp
 ·rename_i h
  split
  ·simp
  ·have:=(pK (env:=env) (l:=p.defs[i].dims.map (·.2)) (Prod.ext rfl (Classical.not_not.1 h))).1
   rw[this,List.length_map]
   omega
theorem Mk {V:List V3} {k:Nat} (h:k<V.length):(((V.take k).map (·.2.2)).map λn:Int=> [pI n])++ [[pI V[k].2.2]]=((V.take (k+1)).map (·.2.2)).map λn:Int=> [pI n]:=by
 rw[List.take_succ_eq_append_getElem h,List.map_append,List.map_append]
 rfl
theorem GR (l:List Int):bV 1 (l.map λn=> [pI n]):=by
 intro r hr
 obtain⟨n,_,rfl⟩:=List.mem_map.1 hr
 rfl
theorem NZ (L:List T3) (t:T3):L.map NV++ [[pS t.1]]=(L++ [t]).map NV:=by simp[NV]
theorem Qa (L:List T3) (t:T3):L.map OJ++ [[ce t.2.1]]=(L++ [t]).map OJ:=by simp[OJ]
theorem OK (L:List T3) (t:T3):L.map Ky++ [[ce t.2.2]]=(L++ [t]).map Ky:=by simp[Ky]
theorem TF (W:List (List V3)) (V:List V3):W.map Pz++ [[cZ dw V]]=(W++ [V]).map Pz:=by simp[Pz]
set_option maxHeartbeats 4000000 in
theorem E5 {ms:List Int} {p:be} {env:List aH} {ins:List (List Int)} (hf:eR p) (J:ij p) (hL:pu p) (he: ∀m∈env,aX m.2):
  af Tryz.prog Az [mI ms,eX p,bZ mP env,bZ ep ins] (.tup [Nu (jZ ms p env ins).1.1 (jZ ms p env ins).1.2,I (jZ ms p env ins).2]):=by
 refine af.of Hv (by simp) λhb=>aa ?_
 have c1:=gJ ms
 have c2:=lX hf J
 have c3:=j6 (p:=p) hL.1 he
 simp only[AI]
 unfold jZ
 clear hb
 by_cases h1:kz ms=0
 ·rw[if_neg (not_not_intro h1)]
  rw[h1]at c1
  by_cases h2:(aV p).2=0
  ·rw[if_neg (not_not_intro h2)]
   rw[h2]at c2
   by_cases h3:lZ p env=0
   ·rw[if_neg (not_not_intro h3)]
    rw[h3]at c3
    have K:qN p env=0:=by unfold qN;rw[if_neg (not_not_intro h2),h3]
    by_cases h4:ins.length=p.params.length
    ·rw[if_neg (not_not_intro h4)]
     have C:(ins.length:Int)=p.params.length:=by omega
     have HV:=Lib.hid h2
     have HA:=Lib.hid K
     have H4:=Lib.hid h4
     have M:=(bX h2).1
     have hF:p.params.length≤64:=M.2.1
     have hG:p.defs.length≤64:=M.2.2.1
     obtain⟨Q,hQ⟩: ∃Q,Q=oR p env ms (p.params.zip ins) []:=⟨_,rfl⟩
     rw[←hQ]
     have HQ:Hid (oR p env ms ((p.params.zip ins).drop 0) []=Q):=Lib.hid hQ.symm
     have HF:=Lib.hid hf
     have H64:=Lib.hid J
     have HL:=Lib.hid hL
     have HE:=Lib.hid he
     clear hQ h1 h2 h3 h4 K M hf J hL he
     repeat' first|simp(disch:=omega)only[go_sem,C]|((with_reducible refine ab ?_ ?_)<;>intro h<;>try first|omega|simp(disch:=omega)only[go_sem, *,C])|refine ae c1 rfl (.inl rfl) ?_|refine ae c2 rfl (.inl rfl) ?_|refine ae c3 rfl (.inl rfl) ?_
     clear c1 c2 c3 C
     refine jn 3 0 9 1 _ rfl rfl (by decide) ?_
     refine jn 3 1 22 1 _ rfl rfl (by decide) ?_
     refine jn 3 2 45 1 _ rfl rfl (by decide) ?_
     refine jn 3 3 118 1 _ rfl rfl (by decide) ?_
     refine ai (λz:Nat×List T3=>⟨[(2,bZ mP env),(3,bZ ep ins),(4,.c (.ptr 0 0)),(5,.c (.ptr 1 0)),(8,.c (.ptr 2 0)),(14,.c (.ptr 3 0)),(15,I z.1)], [(7,.arr 118 1 (([]:List (List V3)).map Pz)),(6,.arr 45 1 (z.2.map Ky)),(5,.arr 22 1 (z.2.map OJ)),(4,.arr 9 1 (z.2.map NV)),(3,.var [.ref 4,.ref 5,.ref 6,.ref 7]),(2,.var [.nils,.nils,.nils,.nils]),(1,dL p),(0,.var [.pure (ce ms)])],8,0⟩) (λz=>z.1≤p.params.length∧Hid (rt p z.1 z.2)∧Hid (oR p env ms ((p.params.zip ins).drop z.1) z.2=Q)) (λz=>p.params.length-z.1) ⟨(0, []), [],⟨Nat.zero_le _,Lib.hid ⟨rfl,λt h=>by cases h⟩,HQ⟩,by simp⟩ ?_
     clear HQ
     rintro⟨j,L⟩ ⟨hj,HP,hr⟩
     simp only at hj HP hr
     refine aa ?_
     have hd:=hr.out
     clear hr
     have hH:L.length≤64:=by
      have:=congrArg List.length HP.out.1
      simp at this
      omega
     by_cases o:j<p.params.length
     ·have hI:j<ins.length:=by have:=H4.out;omega
      have g1:=ac (f:=d7) o
      have g2:=ac (f:=ep) hI
      have cD:=th (s:=p.params[j].1) HF.out H64.out HL.out HE.out
      rw[wH HA.out]at cD
      obtain⟨⟨ds,e⟩,E⟩: ∃D,D=ej p env p.params[j].1:=⟨_,rfl⟩
      rw[←E]at cD
      simp only at cD
      rw[LH o hI E.symm]at hd
      have cV:=vO ms ds ins[j]
      by_cases h0:e=0
      ·subst h0
       rw[if_neg (by simp)]at hd
       by_cases hs:gr ms ds ins[j]=0
       ·rw[if_neg (not_not_intro hs)]at hd
        rw[hs]at cV
        have HD:=Lib.hid hd
        have HP2:=Lib.hid (Cg HV.out o HP.out E.symm hs)
        have T1:=Lib.hid (NZ L (p.params[j].1,ds,ins[j]))
        have T2:=Lib.hid (Qa L (p.params[j].1,ds,ins[j]))
        have T3':=Lib.hid (OK L (p.params[j].1,ds,ins[j]))
        simp only at T1 T2 T3'
        clear hd E hs HP HF H64 HL HE
        repeat' first|simp(disch:=omega)only[go_sem,g1,g2,d7,ep,wrap_i64]|((with_reducible refine ab ?_ ?_)<;>intro h<;>try first|omega|simp(disch:=omega)only[go_sem, *,g1,g2,d7,ep,wrap_i64])|refine ae cD rfl (.inr rfl) ?_|refine ae cV rfl (.inl rfl) ?_|refine aF rfl (by intro h;cases h) (ak rfl) (by simp only[List.length_cons,List.length_nil,List.length_map];omega) (by simp only[List.length_cons,List.length_nil,List.length_map];omega) ?_
        rw[T1.out,T2.out,T3'.out]
        exact⟨(j+1,L++ [(p.params[j].1,ds,ins[j])]), [(4,8),(5,9),(6,10)],⟨o,HP2,HD⟩,by show _-_<_-_;omega,by simp⟩
       ·rw[if_pos hs]at hd
        subst hd
        rw[if_pos hs]
        clear E HP HF H64 HL HE
        repeat' first|simp(disch:=omega)only[go_sem,g1,g2,d7,ep,hs]|((with_reducible refine ab ?_ ?_)<;>intro h<;>try first|omega|simp(disch:=omega)only[go_sem, *,g1,g2,d7,ep,hs])|refine ae cD rfl (.inr rfl) ?_|refine ae cV rfl (.inl rfl) ?_
        all_goals rfl
      ·rw[if_pos h0]at hd
       subst hd
       rw[if_pos h0]
       clear E HP HF H64 HL HE cV
       repeat' first|simp(disch:=omega)only[go_sem,g1,d7,h0]|((with_reducible refine ab ?_ ?_)<;>intro h<;>try first|omega|simp(disch:=omega)only[go_sem, *,g1,d7,h0])|refine ae cD rfl (.inr rfl) ?_
       all_goals rfl
     ·rw[Jp (by omega)]at hd
      subst hd
      rw[if_neg (by simp)]
      obtain rfl:j=p.params.length:=by omega
      have F:=HP.out.ok
      obtain⟨R,hR⟩: ∃R,R=kZ p env (p.defs.drop 0) L []:=⟨_,rfl⟩
      have G:kZ p env p.defs L []=R:=hR.symm
      simp only
      rw[G]
      have HR:Hid (kZ p env (p.defs.drop 0) L []=R):=Lib.hid hR.symm
      have HK:=Lib.hid F
      clear hR G F HP o hj H4
      repeat' first|simp(disch:=omega)only[go_sem]|((with_reducible refine ab ?_ ?_)<;>intro h<;>try first|omega|simp(disch:=omega)only[go_sem, *])
      refine ai (λz:Nat×List T3×List (List V3)=>⟨[(2,bZ mP env),(4,.c (.ptr 0 0)),(5,.c (.ptr 1 0)),(8,.c (.ptr 2 0)),(14,.c (.ptr 3 0)),(19,I z.1)], [(7,.arr 118 1 (z.2.2.map Pz)),(6,.arr 45 1 (z.2.1.map Ky)),(5,.arr 22 1 (z.2.1.map OJ)),(4,.arr 9 1 (z.2.1.map NV)),(3,.var [.ref 4,.ref 5,.ref 6,.ref 7]),(2,.var [.nils,.nils,.nils,.nils]),(1,dL p),(0,.var [.pure (ce ms)])],8,0⟩) (λz=>z.1≤p.defs.length∧z.2.2.length=z.1∧Hid (ip p z.1 z.2.1)∧Hid (kZ p env (p.defs.drop z.1) z.2.1 z.2.2=R)) (λz=>p.defs.length-z.1) ⟨(0,L, []), [],⟨Nat.zero_le _,rfl,HK,HR⟩,by simp⟩ ?_
      clear HK HR hH
      rintro⟨i,L2,W⟩ ⟨hi,hJ,HK,hr⟩
      simp only at hi hJ HK hr
      refine aa ?_
      have hd:=hr.out
      clear hr
      have hH:L2.length≤128:=by rw[HK.out.len hi];omega
      by_cases o:i<p.defs.length
      ·have g1:=ac (f:=br) o
       have hY:=HF.out.2 _ (List.getElem_mem o)
       have cE:=yu (d:=p.defs[i]) HF.out H64.out HL.out HE.out HA.out (λa ha=>(HL.out.2.2 _ (List.getElem_mem o)).1 a (List.mem_append_right _ ha)) (by omega) (Rg HV.out HF.out o)
       rw[BP o]at hd
       by_cases h0:(eJ p env p.defs[i]).2=0
       ·have hx:eJ p env p.defs[i]=((eJ p env p.defs[i]).1,0):=Prod.ext rfl h0
        obtain⟨x1,x2⟩:=tS HV.out o hx
        obtain⟨b1,b2,_⟩:=Dd HV.out o
        have HST:=Lib.hid (xw HV.out o HK.out h0)
        have hc:=mo (L:=L2) x1
        have cV:=wZ (L:=L2) (W:=W) (d:=p.defs[i]) (by omega) (λa ha=>by have:=(b2 a ha).1;omega) (Qs HV.out o HK.out) (by omega) (by omega) x1
        rw[if_neg (not_not_intro h0)]at hd
        rw[h0]at cE
        have hg:(ar p.defs[i]).length≤24:=by unfold ar;simp;omega
        unfold ue at hd HST
        unfold G9 at hd HST
        generalize eJ p env p.defs[i]=X at*
        generalize fE L2 p.defs[i] X.1=V at*
        generalize X.1=ext at*
        have T1:=Lib.hid (NZ L2 (p.defs[i].name,ext.take p.defs[i].dims.length,(V.take p.defs[i].dims.length).map (·.2.2)))
        have T2:=Lib.hid (Qa L2 (p.defs[i].name,ext.take p.defs[i].dims.length,(V.take p.defs[i].dims.length).map (·.2.2)))
        have T3':=Lib.hid (OK L2 (p.defs[i].name,ext.take p.defs[i].dims.length,(V.take p.defs[i].dims.length).map (·.2.2)))
        have T4:=Lib.hid (TF W V)
        simp only[Pz,ce,cZ]at T1 T2 T3' T4
        have HD:=Lib.hid hd
        have hT:W.length≤64:=by omega
        clear hd h0 hx b1 b2 HK HF H64 HL HE HA HV
        repeat' first|simp(disch:=omega)only[go_sem,g1,br]|((with_reducible refine ab ?_ ?_)<;>intro h<;>try first|omega|simp(disch:=omega)only[go_sem, *,g1,br])|refine ae cE rfl (.inr rfl) ?_|refine aU (mh.inner cV L3 rfl) ?_
        refine co 24 3 1 rfl (by decide) ?_
        refine ai (λk:Nat=>⟨[(2,bZ mP env),(4,.c (.ptr 0 0)),(5,.c (.ptr 1 0)),(8,.c (.ptr 2 0)),(14,.c (.ptr 3 0)),(19,I i),(20,.c (.ptr 8 0)),(21,bw ext),(23,.c (.ref 9)),(24,.c (.ref 10)),(25,I k)], [(10,.arr 3 1 (((V.take k).map (·.2.2)).map λn=> [pI n])),(9,.arr 121 3 (V.map dw)),(8,qJ p.defs[i]),(7,.arr 118 1 (W.map Pz)),(6,.arr 45 1 (L2.map Ky)),(5,.arr 22 1 (L2.map OJ)),(4,.arr 9 1 (L2.map NV)),(3,.var [.ref 4,.ref 5,.ref 6,.ref 7]),(2,.var [.nils,.nils,.nils,.nils]),(1,dL p),(0,.var [.pure (ce ms)])],11,0⟩) (λk=>k≤p.defs[i].dims.length) (λk=>p.defs[i].dims.length-k) ⟨0, [],Nat.zero_le _,by simp⟩ ?_
        clear cE cV
        intro k hk
        refine aa ?_
        by_cases A:k<p.defs[i].dims.length
        ·have hK:k<V.length:=by omega
         have g2:=ac (f:=dw) hK
         have HT:=Lib.hid (Mk hK)
         have hh:(V.take k).length≤24:=by simp;omega
         clear HST T1 T2 T3' T4 HD
         repeat' first|simp(disch:=omega)only[go_sem,g2,dw,wrap_i64]|((with_reducible refine ab ?_ ?_)<;>intro h<;>try first|omega|simp(disch:=omega)only[go_sem, *,g2,dw,wrap_i64])|refine aF rfl (by intro h;cases h) (ak rfl) (by simp only[List.length_cons,List.length_nil,List.length_map];omega) (by simp only[List.length_cons,List.length_nil,List.length_map];omega) ?_
         rw[HT.out]
         exact⟨k+1, [(10,11)],A,by omega,by simp⟩
        ·obtain rfl:k=p.defs[i].dims.length:=by omega
         repeat' first|simp(disch:=omega)only[go_sem,wrap_i64,GR ext,Option.getD_none,Option.getD_some,←List.map_take,Int.toNat_zero,List.drop_zero,Option.isSome_none,and_false]|((with_reducible refine ab ?_ ?_)<;>intro h<;>try first|omega|simp(disch:=omega)only[go_sem, *,wrap_i64,GR ext,Option.getD_none,Option.getD_some,←List.map_take,Int.toNat_zero,List.drop_zero,Option.isSome_none,and_false])|refine aF rfl (by intro h;cases h) (ak rfl) (by simp only[List.length_cons,List.length_nil,List.length_map];omega) (by simp only[List.length_cons,List.length_nil,List.length_map];omega) ?_
         rw[T1.out,T2.out,T3'.out,T4.out]
         exact⟨(i+1,L2++ [(p.defs[i].name,ext.take p.defs[i].dims.length,(V.take p.defs[i].dims.length).map (·.2.2))],W++ [V]), [(4,11),(5,12),(6,13),(7,14)],⟨o,by simp[hJ],HST,HD⟩,by show _-_<_-_;omega,by simp⟩
       ·rw[if_pos h0]at hd
        subst hd
        clear HK HV HA HF H64 HL HE
        repeat' first|simp(disch:=omega)only[go_sem,g1,br,h0]|((with_reducible refine ab ?_ ?_)<;>intro h<;>try first|omega|simp(disch:=omega)only[go_sem, *,g1,br,h0])|refine ae cE rfl (.inr rfl) ?_
        all_goals rfl
      ·rw[wK (by omega)]at hd
       subst hd
       clear HK HV HA HF H64 HL HE
       repeat' first|simp(disch:=omega)only[go_sem]|((with_reducible refine ab ?_ ?_)<;>intro h<;>try first|omega|simp(disch:=omega)only[go_sem, *])
       all_goals rfl
    ·rw[if_pos h4]
     have C: ¬(ins.length:Int)=p.params.length:=by omega
     clear h1 h2 h3 h4 K
     repeat' first|simp(disch:=omega)only[go_sem,C]|((with_reducible refine ab ?_ ?_)<;>intro h<;>try first|omega|simp(disch:=omega)only[go_sem, *,C])|refine ae c1 rfl (.inl rfl) ?_|refine ae c2 rfl (.inl rfl) ?_|refine ae c3 rfl (.inl rfl) ?_
     all_goals rfl
   ·rw[if_pos h3]
    clear h1 h2
    repeat' first|simp(disch:=omega)only[go_sem,h3]|((with_reducible refine ab ?_ ?_)<;>intro h<;>try first|omega|simp(disch:=omega)only[go_sem, *,h3])|refine ae c1 rfl (.inl rfl) ?_|refine ae c2 rfl (.inl rfl) ?_|refine ae c3 rfl (.inl rfl) ?_
    all_goals rfl
  ·rw[if_pos h2]
   clear h1
   repeat' first|simp(disch:=omega)only[go_sem,h2]|((with_reducible refine ab ?_ ?_)<;>intro h<;>try first|omega|simp(disch:=omega)only[go_sem, *,h2])|refine ae c1 rfl (.inl rfl) ?_|refine ae c2 rfl (.inl rfl) ?_
   all_goals rfl
 ·rw[if_pos h1]
  repeat' first|simp(disch:=omega)only[go_sem,h1]|((with_reducible refine ab ?_ ?_)<;>intro h<;>try first|omega|simp(disch:=omega)only[go_sem, *,h1])|refine ae c1 rfl (.inl rfl) ?_
  all_goals rfl
theorem GM {L:List T3} {d:jA} {V:List V3} (h:v6 L d V):(fp L d V).length≤1000010000:=by
 obtain⟨_,_,h3,_,h5,h6,h7,h8⟩:=h
 have h1:=ID (L:=L) (l:=d.body.pre) (V:=V) (N:=ff (ld d.body.pre)) λs hs=>by
  obtain⟨ds,sp,a,b,_⟩:=h8 s (tA.1 hs)
  exact⟨ds,sp,a,b⟩
 have h2:=zM (ld d.body.pre)
 have h4:=IQ (nm:=d.name) (k:=0) (V:=V.drop d.dims.length)
 rw[List.length_drop]at h4
 unfold fp
 rw[List.length_append]
 omega
theorem zl {L:List T3}: ∀{l:List (jA×List V3)},(∀x∈l,v6 L x.1 x.2)→(gZ L l).length≤1000010000*l.length
 | [],_=>Nat.le_refl _
 |(d,V)::r,h=>by
  have h1:=zl λx hx=>h x (List.mem_cons_of_mem _ hx)
  have h2:(fp L d V).length≤_:=GM (h (d,V) (List.mem_cons_self ..))
  rw[gZ,List.length_append,List.length_cons]
  omega
theorem LV (L:List T3):bV 1 (L.map Ky):=by
 intro r hr
 obtain⟨n,_,rfl⟩:=List.mem_map.1 hr
 rfl
set_option maxHeartbeats 1000000 in
theorem A2 {ms:List Int} {p:be} {env:List aH} {ins:List (List Int)} (hf:eR p) (J:ij p) (hL:pu p) (he: ∀m∈env,aX m.2):
  af Tryz.prog u5 [mI ms,eX p,bZ mP env,bZ ep ins] (.tup [bZ ep (jw ms p env ins).1.1,bZ s7 (jw ms p env ins).1.2,I (jw ms p env ins).2]):=by
 refine af.of Cd (by simp) λhb=>aa ?_
 have cL:=E5 (ms:=ms) (ins:=ins) hf J hL he
 simp only[uq]
 clear hb
 unfold jw
 by_cases h0:(jZ ms p env ins).2=0
 ·rw[if_neg (not_not_intro h0)]
  rw[h0]at cL
  obtain⟨L,hA⟩: ∃L,L=(jZ ms p env ins).1.1:=⟨_,rfl⟩
  obtain⟨W,hB⟩: ∃W,W=(jZ ms p env ins).1.2:=⟨_,rfl⟩
  have O:jZ ms p env ins=((L,W),0):=by rw[hA,hB,←h0]
  rw[←hA,←hB]at cL ⊢
  obtain⟨_,h2,_,_,k1,k2,k3⟩:=FN O
  have hC: ∀i (h:i<p.defs.length) (h':i<W.length),v6 L p.defs[i] W[i]:= λi h h'=>by
   obtain⟨L0,ext,x1,x2⟩:=k3 i h' h
   rw[x2]
   exact tI h2 hf (Nat.le_of_lt h) h k1 x1
  have hG:=(bX h2).1.2.2.1
  have hF:=(bX h2).1.2.1
  have hl:=k1.len (Nat.le_refl _)
  have hM:=zl (L:=L) (l:=p.defs.zip W) λx hx=>by
   obtain⟨i,hi,rfl⟩:=List.mem_iff_getElem.1 hx
   rw[List.length_zip]at hi
   rw[List.getElem_zip]
   exact hC i (by omega) (by omega)
  rw[List.length_zip]at hM
  have cP:=Cq k2 hC (by omega)
  have hS:((L.map Ky).take L.length).drop p.params.length=((L.drop p.params.length).map λt=>t.2.2).map ep:=by
   rw[List.take_of_length_le (by simp),←List.map_drop,List.map_map]
   rfl
  clear O hA hB h0 k1 k2 k3 hC h2 hM
  repeat' first|simp(disch:=omega)only[go_sem,LV L,Option.getD_none,Option.getD_some,Option.isSome_none,and_false]|((with_reducible refine ab ?_ ?_)<;>intro h<;>try first|omega|simp(disch:=omega)only[go_sem, *,LV L,Option.getD_none,Option.getD_some,Option.isSome_none,and_false])|refine ae cL rfl (.inr rfl) ?_|refine ae cP rfl (.inr rfl) ?_
  all_goals rw[hS]
  all_goals rfl
 ·rw[if_pos h0]
  repeat' first|simp(disch:=omega)only[go_sem,h0]|((with_reducible refine ab ?_ ?_)<;>intro h<;>try first|omega|simp(disch:=omega)only[go_sem, *,h0])|refine ae cL rfl (.inr rfl) ?_
  all_goals rfl
end Go.Proofs.YtjhkikmonejkjaaGreatDoor
