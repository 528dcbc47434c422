import Derived.Test.YthbcbaembicdbaaGreatDoorV17l
import Derived.Test.YthbcbaembicdbaaGreatDoorV17g
set_option linter.unusedVariables false
set_option linter.unusedSimpArgs false
set_option maxRecDepth 20000
namespace Go.Proofs.YthbcbaembicdbaaGreatDoor
open Go.Abs Go.RowKit
def KK (p:bz) (T:List ByteArray):KL:=kZ (kZ [] 1 p.sizes) 2 T
def Tp (p:bz) (k:Nat):List ByteArray:=(p.params.take k).map (·.1)
def Td (p:bz) (k:Nat):List ByteArray:=p.params.map (·.1)++(p.defs.take k).map (·.name)
theorem I9 (p:bz) (T:List ByteArray) (s:ByteArray):s8 (KK p T) s=if s∈T then 2 else if s∈p.sizes then 1 else 0:=by
 unfold KK
 rw[qR,qR,Dp]
theorem Yl (p:bz) (T:List ByteArray):Kt (KK p T) (p.sizes++T):= λs=>by
 rw[I9,List.mem_append]
 by_cases h1:s∈T
 ·simp[h1]
 ·by_cases h2:s∈p.sizes<;>simp[h1,h2]
theorem T0 {p:bz} {T:List ByteArray} (h: ∀s∈T,¬s∈p.sizes):Kc p (KK p T):= λs=>by
 rw[I9]
 by_cases h1:s∈T
 ·have:=h s h1
  simp[h1,this]
 ·by_cases h2:s∈p.sizes<;>simp[h1,h2]
theorem SG (p:bz) (T:List ByteArray) (s:ByteArray):vj (KK p T) s 2=KK p (T++ [s]):=by
 unfold KK
 rw[FQ]
 rfl
theorem PH (p:bz):KK p (Tp p 0)=kZ [] 1 p.sizes:=by simp[KK,Tp,kZ]
theorem LT (l:List ByteArray):Kt (kZ [] 1 l) l:= λs=>by
 rw[qR,Dp]
 by_cases h1:s∈l<;>simp[h1]
theorem Oz {p:bz} {k:Nat} (h:k<p.params.length):Tp p (k+1)=Tp p k++ [p.params[k].1]:=by
 unfold Tp
 rw[List.take_succ_eq_append_getElem h,List.map_append]
 rfl
theorem Pz {p:bz} {k:Nat} (h:k<p.defs.length):Td p (k+1)=Td p k++ [p.defs[k].name]:=by
 unfold Td
 rw[List.take_succ_eq_append_getElem h,List.map_append,List.append_assoc]
 rfl
theorem XT (p:bz):Td p 0=Tp p p.params.length:=by simp[Td,Tp]
theorem Tt (p:bz) (k:Nat):vn p k=p.sizes++Tp p k:=rfl
theorem Ki (p:bz) (k:Nat):rW p k=p.sizes++Td p k:=by unfold rW Td;rw[List.append_assoc]
theorem Ij {p:bz} {s:ByteArray}:dJ p s=none↔ ¬s∈Td p p.defs.length:=by
 have h1:p.params.find? (λx=>decide (x.1=s))=none↔ ¬s∈p.params.map (·.1):=by
  rw[List.find?_eq_none]
  constructor
  ·intro h hm
   obtain⟨x,hx,rfl⟩:=List.mem_map.1 hm
   exact h x hx (by simp)
  ·intro h x hx e
   exact h (List.mem_map.2 ⟨x,hx,by simpa using e⟩)
 have h2:p.defs.find? (λd=>decide (d.name=s))=none↔ ¬s∈p.defs.map (·.name):=by
  rw[List.find?_eq_none]
  constructor
  ·intro h hm
   obtain⟨x,hx,rfl⟩:=List.mem_map.1 hm
   exact h x hx (by simp)
  ·intro h x hx e
   exact h (List.mem_map.2 ⟨x,hx,by simpa using e⟩)
 unfold Td dJ
 rw[List.take_length,List.mem_append]
 cases hp:p.params.find? (λx=>decide (x.1=s))with
 |some x=>
  rw[hp]at h1
  have:s∈p.params.map (·.1):=Classical.not_not.1 λh=>by cases h1.2 h
  exact⟨λh=>(by cases h),λh=>absurd (.inl this) h⟩
 |none=>
  have n1:=h1.1 hp
  cases hd:p.defs.find? (λd=>decide (d.name=s))with
  |some x=>
   rw[hd]at h2
   have:s∈p.defs.map (·.name):=Classical.not_not.1 λh=>by cases h2.2 h
   exact⟨λh=>(by cases h),λh=>absurd (.inr this) h⟩
  |none=>
   have n2:=h2.1 hd
   exact⟨λ_ h=>h.elim n1 n2,λ_=>rfl⟩
theorem B5 {sizes taken:List ByteArray} {x:su} (h:gH sizes taken x=0):be taken x.1=0:=by
 unfold gH at h
 exact Classical.not_not.1 λhn=>by rw[if_pos hn]at h;exact hn h
theorem Cg {p:bz} {k:Nat} {taken:List ByteArray} {d:y5} (h:dE p k taken d=0):be taken d.name=0:=by
 unfold dE at h
 exact Classical.not_not.1 λhn=>by rw[if_pos hn]at h;exact hn h
theorem ID {p:bz} {T:List ByteArray} {s:ByteArray} (h:be (p.sizes++T) s=0) (hT: ∀x∈T,¬x∈p.sizes): ∀x∈T++ [s],¬x∈p.sizes:= λx hx hs=>by
 rcases List.mem_append.1 hx with hx|hx
 ·exact hT x hx hs
 ·rw[List.mem_singleton]at hx
  subst hx
  exact(rm h).2 (List.mem_append_left _ hs)
abbrev mV (p:bz) (K:KL):List (Nat×aU):= [(2,U5 p 1),(1,mK K),(0,kx p)]
set_option maxHeartbeats 4000000 in
theorem eJ {p:bz} (hf:rI p) (h64:tP p):af Tryz.prog d7 [jE p] (.tup [I (bB p).1,I (bB p).2]):=by
 refine af.of ws (by simp) λhb=>aa ?_
 have cL:=xR p
 simp only[nl]
 by_cases hc:oC p
 ·rw[decide_eq_true (show _∧_ from hc)]at cL
  have hl1:=hc.1
  have hl2:=hc.2.1
  have hl3:=hc.2.2.1
  have hl4:=hc.2.2.2.1
  have hl5:=hc.2.2.2.2
  have HC:=Lib.hid hc
  clear hc
  repeat' first|simp(disch:=omega) only[go_sem, *]|((with_reducible apply ab)<;>intro h<;>try omega)|(refine aY cL rfl rfl ?_)
  clear cL
  refine ap (λk:Nat=>⟨[(29,I k),(28,I p.sizes.length),(27,.c (.pure (gn p.sizes))),(4,.c (.ptr 2 0)),(1,.c (.ptr 0 0))],mV p (kZ [] 1 (p.sizes.take k)),3,0⟩) (λk=>k≤p.sizes.length∧fY (λj=>V4 p j=0) k) (λk=>p.sizes.length-k) ⟨0, [],⟨by omega,.zero⟩,by simp[kZ,kb,Ol]⟩ ?_
  rintro k ⟨hk,hall⟩
  refine aa ?_
  by_cases hlt:k<p.sizes.length
  ·have hs:=Vr hlt
   by_cases hz:be (p.sizes.take k) p.sizes[k]=0
   ·have HA:=Lib.hid (hall.succ (hs.trans hz))
    have hn:= λmem nx h2 h3=>fb (mem:=mem) (nx:=nx) (c:=2) (m:=1) (p:=p) h2 h3 (LT (p.sizes.take k)) hz 1
    clear hall hs
    repeat' first|simp(disch:=omega) only[go_sem, *,ai hlt,wrap_i64,←AK hlt]|((with_reducible apply ab)<;>intro h<;>try omega)|(refine an (hn _ _ rfl rfl) ?_)
    exact⟨k+1, [],⟨by omega,HA.out⟩,by omega,by simp[bS,dM]⟩
   ·rw[Ad HC.out (UY hlt hall hs hz) hz]
    have hn:= λmem nx h2 h3=>eV (mem:=mem) (nx:=nx) (c:=2) (m:=1) (p:=p) h2 h3 (LT (p.sizes.take k)) hz 1
    clear hall hs
    repeat' first|simp(disch:=omega) only[go_sem, *,ai hlt,wrap_i64,hz]|((with_reducible apply ab)<;>intro h<;>try omega)|(refine an (hn _ _ rfl rfl) ?_)
  have HS:Hid (oB p=0):=Kq λj hj=>hall j (by omega)
  have hkp:k=p.sizes.length:=by omega
  subst hkp
  rw[List.take_length]
  clear hall
  repeat clear hlt
  repeat clear hk
  repeat' first|simp(disch:=omega) only[go_sem, *]|((with_reducible apply ab)<;>intro h<;>try omega)
  refine ap (λk:Nat=>⟨[(43,I k),(42,I p.wher.length),(41,.c (.pure (dg cP p.wher))),(4,.c (.ptr 2 0)),(1,.c (.ptr 0 0))],mV p (kZ [] 1 p.sizes),3,0⟩) (λk=>k≤p.wher.length∧Hid (dV ((p.wher.map λc=>cq p.sizes c.1).take k)=0)) (λk=>p.wher.length-k) ⟨0, [],⟨by omega,by show _=_;simp[dV]⟩,by simp[bS,dM]⟩ ?_
  rintro k ⟨hk,hall⟩
  refine aa ?_
  by_cases hlt:k<p.wher.length
  ·have hlm:k<(p.wher.map λc=>cq p.sizes c.1).length:=by simpa using hlt
   have h4:=ni hlm hall.out
   have h5:=uL hlm hall.out
   rw[List.getElem_map]at h4 h5
   have hkc:Kc p (kZ [] 1 p.sizes):=by rw[←PH];exact T0 (by simp[Tp])
   have cC:=kG hkc p.wher[k]
   clear hall
   by_cases hz:cq p.sizes p.wher[k].1=0
   ·have HN:=Lib.hid (h4.trans hz)
    clear h4 h5
    repeat' first|simp(disch:=omega) only[go_sem, *,ai hlt,cP,wrap_i64,hz]|((with_reducible apply ab)<;>intro h<;>try omega)|(refine ac cC (pz (c:=2) (m:=1) rfl rfl rfl) (.inl rfl) ?_)
    exact⟨k+1, [],⟨by omega,HN⟩,by omega,by simp[bS,dM]⟩
   ·rw[Ay HC.out HS.out (h5 hz) hz]
    clear h4 h5
    repeat' first|simp(disch:=omega) only[go_sem, *,ai hlt,cP,wrap_i64,hz]|((with_reducible apply ab)<;>intro h<;>try omega)|(refine ac cC (pz (c:=2) (m:=1) rfl rfl rfl) (.inl rfl) ?_)
  have hw:uo p=0:=by
   have hz:=hall.out
   rw[List.take_of_length_le (by simp;omega)]at hz
   exact hz
  have HW:=Lib.hid hw
  clear hall hw
  repeat' first|simp(disch:=omega) only[go_sem, *]|((with_reducible apply ab)<;>intro h<;>try omega)
  repeat clear hlt
  repeat clear hk
  refine ap (λk:Nat=>⟨[(57,I k),(56,I p.params.length),(55,.c (.pure (dg ku p.params))),(11,I ((2:Int)+k)),(4,.c (.ptr 2 0)),(1,.c (.ptr 0 0))],mV p (KK p (Tp p k)),3,0⟩) (λk=>k≤p.params.length∧fY (λj=>CG p j=0) k∧Hid (∀s∈Tp p k,¬s∈p.sizes)) (λk=>p.params.length-k) ⟨0, [],⟨by omega,.zero,by intro s hs;simp[Tp]at hs⟩,by rw[PH];simp[bS,dM]⟩ ?_
  rintro k ⟨hk,hall,hap⟩
  refine aa ?_
  by_cases hlt:k<p.params.length
  ·have hs:=PY hlt
   have cP:=nZ (Yl p (Tp p k)) (T0 hap.out) (λx hx=>List.mem_append_left _ hx) p.params[k]
   rw[←Tt]at cP
   by_cases hz:gH p.sizes (vn p k) p.params[k]=0
   ·have HA:=Lib.hid (hall.succ (hs.trans hz))
    have HP:Hid (∀s∈Tp p (k+1),¬s∈p.sizes):=by
     show ∀s∈Tp p (k+1),_
     rw[Oz hlt]
     exact ID (B5 hz) hap.out
    rw[show Mq (KK p (Tp p k)) (vn p k) p.params[k].1=KK p (Tp p (k+1)) by rw[Oz hlt,←SG];exact if_pos (B5 hz),hz]at cP
    clear hall hs hap hz
    repeat' first|simp(disch:=omega) only[go_sem, *,ai hlt,ku,wrap_i64]|((with_reducible apply ab)<;>intro h<;>try omega)|(refine an cP ?_)
    exact⟨k+1, [],⟨by omega,HA.out,HP⟩,by omega,by simp[bS,dM];omega⟩
   ·rw[FU HC.out HS.out HW.out hlt hall hs hz]
    clear hall hs hap
    repeat' first|simp(disch:=omega) only[go_sem, *,ai hlt,ku,wrap_i64,hz]|((with_reducible apply ab)<;>intro h<;>try omega)|(refine an cP ?_)
  have HP:Hid (∀j,j<p.params.length→CG p j=0):= λj hj=>hall j (by omega)
  have hkp:k=p.params.length:=by omega
  subst hkp
  rw[←XT]at hap ⊢
  have HT:=Lib.hid hap
  clear hall hap
  repeat clear hlt
  repeat clear hk
  repeat' first|simp(disch:=omega) only[go_sem, *]|((with_reducible apply ab)<;>intro h<;>try omega)
  refine ap (λk:Nat=>⟨[(74,I k),(73,I p.defs.length),(11,I ((2:Int)+p.params.length+k)),(4,.c (.ptr 2 0)),(1,.c (.ptr 0 0))],mV p (KK p (Td p k)),3,0⟩) (λk=>k≤p.defs.length∧fY (λj=>Aj p j=0) k∧Hid (∀s∈Td p k,¬s∈p.sizes)) (λk=>p.defs.length-k) ⟨0, [],⟨by omega,.zero,HT.out⟩,by simp[bS,dM]⟩ ?_
  clear HT
  rintro k ⟨hk,hall,hap⟩
  refine aa ?_
  by_cases hlt:k<p.defs.length
  ·have hs:=Dh hlt
   have cP:=qT hf h64 (Yl p (Td p k)) (T0 hap.out) (λx hx=>List.mem_append_left _ hx) hlt
   rw[←Ki]at cP
   by_cases hz:dE p k (rW p k) p.defs[k]=0
   ·have HA:=Lib.hid (hall.succ (hs.trans hz))
    have HN:Hid (∀s∈Td p (k+1),¬s∈p.sizes):=by
     show ∀s∈Td p (k+1),_
     rw[Pz hlt]
     have:=Cg hz
     rw[Ki]at this
     exact ID this hap.out
    rw[show Mq (KK p (Td p k)) (rW p k) p.defs[k].name=KK p (Td p (k+1)) by rw[Pz hlt,←SG];exact if_pos (Cg hz),hz]at cP
    clear hall hs hap hz
    repeat' first|simp(disch:=omega) only[go_sem, *,wrap_i64]|((with_reducible apply ab)<;>intro h<;>try omega)|(refine an cP ?_)
    exact⟨k+1, [],⟨by omega,HA.out,HN⟩,by omega,by simp[bS,dM];omega⟩
   ·rw[EN HC.out HS.out HW.out HP.out hlt hall hs hz]
    clear hall hs hap
    repeat' first|simp(disch:=omega) only[go_sem, *,wrap_i64,hz]|((with_reducible apply ab)<;>intro h<;>try omega)|(refine an cP ?_)
  have HD:Hid (∀j,j<p.defs.length→Aj p j=0):= λj hj=>hall j (by omega)
  have hkp:k=p.defs.length:=by omega
  subst hkp
  clear hall hap
  repeat clear hlt
  repeat clear hk
  repeat' first|simp(disch:=omega) only[go_sem, *]|((with_reducible apply ab)<;>intro h<;>try omega)
  refine ap (λk:Nat=>⟨[(90,I k),(89,I p.outs.length),(88,.c (.pure (gn p.outs))),(11,I ((2:Int)+p.params.length+p.defs.length+k)),(4,.c (.ptr 2 0)),(1,.c (.ptr 0 0))],mV p (KK p (Td p p.defs.length)),3,0⟩) (λk=>k≤p.outs.length∧fY (λj=>MT p j=0) k) (λk=>p.outs.length-k) ⟨0, [],⟨by omega,.zero⟩,by simp[bS,dM]⟩ ?_
  rintro k ⟨hk,hall⟩
  refine aa ?_
  by_cases hlt:k<p.outs.length
  ·have hs:=O3 hlt
   have cB:=jf (p.outs.take k) p.outs[k]
   have hm:=rQ p.outs[k] (KK p (Td p p.defs.length))
   have hg:=I9 p (Td p p.defs.length) p.outs[k]
   by_cases hn:dJ p p.outs[k]=none
   ·rw[if_pos hn]at hs
    rw[DA HC.out HS.out HW.out HP.out HD.out hlt hall hs (by decide)]
    have h2: ¬s8 (KK p (Td p p.defs.length)) p.outs[k]=2:=by
     rw[hg,if_neg (Ij.1 hn)]
     split<;>decide
    clear hall hs hn hg
    cases hL:jF (KK p (Td p p.defs.length)) p.outs[k]with
    |none=>
     rw[hL]at hm
     clear hL h2
     repeat' first|simp(disch:=omega) only[go_sem, *,ai hlt,wrap_i64,hm,Option.map_none]|((with_reducible apply ab)<;>intro h<;>try omega)
    |some j=>
     rw[iY hL]at h2
     rw[hL]at hm
     clear hL
     repeat' first|simp(disch:=omega) only[go_sem, *,ai hlt,wrap_i64,hm,Option.map_some,h2]|((with_reducible apply ab)<;>intro h<;>try omega)
   ·rw[if_neg hn]at hs
    have h2:s8 (KK p (Td p p.defs.length)) p.outs[k]=2:=by
     rw[hg,if_pos (Classical.not_not.1 λh=>hn (Ij.2 h))]
    cases hL:jF (KK p (Td p p.defs.length)) p.outs[k]with
    |none=>rw[nw hL]at h2;exact absurd h2 (by decide)
    |some j=>
     rw[iY hL]at h2
     rw[hL,h2]at hm
     clear hL h2 hn hg
     by_cases hmem:p.outs[k]∈p.outs.take k
     ·rw[if_pos hmem]at hs
      rw[DA HC.out HS.out HW.out HP.out HD.out hlt hall hs (by decide)]
      clear hall hs
      repeat' first|simp(disch:=omega) only[go_sem, *,ai hlt,wrap_i64,hm,Option.map_some,←List.map_take,OV,Option.getD_none,Option.getD_some,hmem,decide_true]|((with_reducible apply ab)<;>intro h<;>try omega)|(refine aY cB rfl rfl ?_)
     ·rw[if_neg hmem]at hs
      have HA:=Lib.hid (hall.succ hs)
      clear hall hs
      repeat' first|simp(disch:=omega) only[go_sem, *,ai hlt,wrap_i64,hm,Option.map_some,←List.map_take,OV,Option.getD_none,Option.getD_some,hmem,decide_false]|((with_reducible apply ab)<;>intro h<;>try omega)|(refine aY cB rfl rfl ?_)
      exact⟨k+1, [],⟨by omega,HA.out⟩,by omega,by simp[bS,dM];omega⟩
  ·rw[Iv HC.out HS.out HW.out HP.out HD.out λj hj=>hall j (by omega)]
   clear hall
   repeat' first|simp(disch:=omega) only[go_sem, *]|((with_reducible apply ab)<;>intro h<;>try omega)
 ·rw[decide_eq_false (show ¬(_∧_)from hc)]at cL
  rw[Eu hc]
  repeat' first|simp(disch:=omega) only[go_sem, *]|((with_reducible apply ab)<;>intro h<;>try omega)|(refine aY cL rfl rfl ?_)
end Go.Proofs.YthbcbaembicdbaaGreatDoor
