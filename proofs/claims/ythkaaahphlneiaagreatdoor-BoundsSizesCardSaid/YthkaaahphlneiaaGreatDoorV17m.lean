import Derived.Test.YthkaaahphlneiaaGreatDoorV17l
import Derived.Test.YthkaaahphlneiaaGreatDoorV17g
set_option linter.unusedVariables false
set_option linter.unusedSimpArgs false
set_option maxRecDepth 20000
namespace Go.Proofs.YthkaaahphlneiaaGreatDoor
open Go.Abs Go.RowKit
def KK (p:bK) (T:List ByteArray):KL:=kZ (kZ [] 1 p.sizes) 2 T
def Tp (p:bK) (k:Nat):List ByteArray:=(p.params.take k).map (·.1)
def Td (p:bK) (k:Nat):List ByteArray:=p.params.map (·.1)++(p.defs.take k).map (·.name)
theorem Js (p:bK) (T:List ByteArray) (s:ByteArray):sO (KK p T) s=if s∈T then 2 else if s∈p.sizes then 1 else 0:=by
 unfold KK
 rw[qi,qi,EV]
theorem VK (p:bK) (T:List ByteArray):Kt (KK p T) (p.sizes++T):=fun s=>by
 rw[Js,List.mem_append]
 by_cases h1:s∈T
 ·simp[h1]
 ·by_cases h2:s∈p.sizes<;>simp[h1,h2]
theorem Th {p:bK} {T:List ByteArray} (h: ∀s∈T,¬s∈p.sizes):Kc p (KK p T):=fun s=>by
 rw[Js]
 by_cases h1:s∈T
 ·have:=h s h1
  simp[h1,this]
 ·by_cases h2:s∈p.sizes<;>simp[h1,h2]
theorem SH (p:bK) (T:List ByteArray) (s:ByteArray):uD (KK p T) s 2=KK p (T++ [s]):=by
 unfold KK
 rw[E9]
 rfl
theorem OQ (p:bK):KK p (Tp p 0)=kZ [] 1 p.sizes:=by simp[KK,Tp,kZ]
theorem LR (l:List ByteArray):Kt (kZ [] 1 l) l:=fun s=>by
 rw[qi,EV]
 by_cases h1:s∈l<;>simp[h1]
theorem OS {p:bK} {k:Nat} (h:k<p.params.length):Tp p (k+1)=Tp p k++ [p.params[k].1]:=by
 unfold Tp
 rw[List.take_succ_eq_append_getElem h,List.map_append]
 rfl
theorem Ov {p:bK} {k:Nat} (h:k<p.defs.length):Td p (k+1)=Td p k++ [p.defs[k].name]:=by
 unfold Td
 rw[List.take_succ_eq_append_getElem h,List.map_append,List.append_assoc]
 rfl
theorem TX (p:bK):Td p 0=Tp p p.params.length:=by simp[Td,Tp]
theorem SQ (p:bK) (k:Nat):dM p k=p.sizes++Tp p k:=rfl
theorem LX (p:bK) (k:Nat):dV p k=p.sizes++Td p k:=by unfold dV Td;rw[List.append_assoc]
theorem Hp {p:bK} {s:ByteArray}:c8 p s=none↔ ¬s∈Td p p.defs.length:=by
 have h1:p.params.find? (fun x=>decide (x.1=s))=none↔ ¬s∈p.params.map (·.1):=by
  rw[List.find?_eq_none]
  constructor
  ·intro h hm
   obtain⟨x,hx,rfl⟩:=List.mem_map.1 hm
   exact h x hx (by simp)
  ·intro h x hx e
   exact h (List.mem_map.2 ⟨x,hx,by simpa using e⟩)
 have h2:p.defs.find? (fun d=>decide (d.name=s))=none↔ ¬s∈p.defs.map (·.name):=by
  rw[List.find?_eq_none]
  constructor
  ·intro h hm
   obtain⟨x,hx,rfl⟩:=List.mem_map.1 hm
   exact h x hx (by simp)
  ·intro h x hx e
   exact h (List.mem_map.2 ⟨x,hx,by simpa using e⟩)
 unfold Td c8
 rw[List.take_length,List.mem_append]
 cases hp:p.params.find? (fun x=>decide (x.1=s))with
 |some x=>
  rw[hp]at h1
  have:s∈p.params.map (·.1):=Classical.not_not.1 fun h=>by cases h1.2 h
  exact⟨fun h=>(by cases h),fun h=>absurd (.inl this) h⟩
 |none=>
  have n1:=h1.1 hp
  cases hd:p.defs.find? (fun d=>decide (d.name=s))with
  |some x=>
   rw[hd]at h2
   have:s∈p.defs.map (·.name):=Classical.not_not.1 fun h=>by cases h2.2 h
   exact⟨fun h=>(by cases h),fun h=>absurd (.inr this) h⟩
  |none=>
   have n2:=h2.1 hd
   exact⟨fun _ h=>h.elim n1 n2,fun _=>rfl⟩
theorem BG {sizes taken:List ByteArray} {x:pH} (h:dC sizes taken x=0):aO taken x.1=0:=by
 unfold dC at h
 exact Classical.not_not.1 fun hn=>by rw[if_pos hn]at h;exact hn h
theorem Be {p:bK} {k:Nat} {taken:List ByteArray} {d:zH} (h:bh p k taken d=0):aO taken d.name=0:=by
 unfold bh at h
 exact Classical.not_not.1 fun hn=>by rw[if_pos hn]at h;exact hn h
theorem HH {p:bK} {T:List ByteArray} {s:ByteArray} (h:aO (p.sizes++T) s=0) (hT: ∀x∈T,¬x∈p.sizes): ∀x∈T++ [s],¬x∈p.sizes:=fun x hx hs=>by
 rcases List.mem_append.1 hx with hx|hx
 ·exact hT x hx hs
 ·rw[List.mem_singleton]at hx
  subst hx
  exact(qZ h).2 (List.mem_append_left _ hs)
abbrev mV (p:bK) (K:KL):List (Nat×aS):= [(2,RM p 1),(1,mK K),(0,d6 p)]
set_option maxHeartbeats 4000000 in
theorem k9 {p:bK} (hf:j8 p) (h64:sd p):ac Tryz.prog ei [fK p] (.tup [I (c7 p).1,I (c7 p).2]):=by
 refine ac.of vB (by simp) fun hb=>aa ?_
 have cL:=xJ p
 simp only[nC]
 by_cases hc:jE p
 ·rw[decide_eq_true (show _∧_ from hc)]at cL
  have hl1:=hc.1
  have hl2:=hc.2.1
  have hl3:=hc.2.2.1
  have hl4:=hc.2.2.2.1
  have hl5:=hc.2.2.2.2
  have HC:=Lib.hid hc
  clear hc
  repeat' first|simp(disch:=omega) only[go_sem, *]|((with_reducible refine ab ?_ ?_)<;>intro h<;>try omega)|(refine av cL rfl rfl ?_)
  clear cL
  refine aj (fun k:Nat=>⟨[(29,I k),(28,I p.sizes.length),(27,.c (.pure (cH p.sizes))),(4,.c (.ptr 2 0)),(1,.c (.ptr 0 0))],mV p (kZ [] 1 (p.sizes.take k)),3,0⟩) (fun k=>k≤p.sizes.length∧dW (fun j=>S5 p j=0) k) (fun k=>p.sizes.length-k) ⟨0, [],⟨by omega,.zero⟩,by simp[kZ,jK,M0]⟩ ?_
  rintro k ⟨hk,hall⟩
  refine aa ?_
  by_cases hlt:k<p.sizes.length
  ·have hs:=Nd hlt
   by_cases hz:aO (p.sizes.take k) p.sizes[k]=0
   ·have HA:=Lib.hid (hall.succ (hs.trans hz))
    have hn:=fun mem nx h2 h3=>fg (mem:=mem) (nx:=nx) (c:=2) (m:=1) (p:=p) h2 h3 (LR (p.sizes.take k)) hz 1
    clear hall hs
    repeat' first|simp(disch:=omega) only[go_sem, *,ae hlt,wrap_i64,←AF hlt]|((with_reducible refine ab ?_ ?_)<;>intro h<;>try omega)|(refine aq (hn _ _ rfl rfl) ?_)
    exact⟨k+1, [],⟨by omega,HA.out⟩,by omega,by simp[bT,dS]⟩
   ·rw[zK HC.out (Lt hlt hall hs hz) hz]
    have hn:=fun mem nx h2 h3=>eT (mem:=mem) (nx:=nx) (c:=2) (m:=1) (p:=p) h2 h3 (LR (p.sizes.take k)) hz 1
    clear hall hs
    repeat' first|simp(disch:=omega) only[go_sem, *,ae hlt,wrap_i64,hz]|((with_reducible refine ab ?_ ?_)<;>intro h<;>try omega)|(refine aq (hn _ _ rfl rfl) ?_)
  have HS:Hid (mN p=0):=DY fun j hj=>hall j (by omega)
  have hkp:k=p.sizes.length:=by omega
  subst hkp
  rw[List.take_length]
  clear hall
  repeat clear hlt
  repeat clear hk
  repeat' first|simp(disch:=omega) only[go_sem, *]|((with_reducible refine ab ?_ ?_)<;>intro h<;>try omega)
  refine aj (fun k:Nat=>⟨[(43,I k),(42,I p.wher.length),(41,.c (.pure (c9 cP p.wher))),(4,.c (.ptr 2 0)),(1,.c (.ptr 0 0))],mV p (kZ [] 1 p.sizes),3,0⟩) (fun k=>k≤p.wher.length∧Hid (cQ ((p.wher.map fun c=>bq p.sizes c.1).take k)=0)) (fun k=>p.wher.length-k) ⟨0, [],⟨by omega,by show _=_;simp[cQ]⟩,by simp[bT,dS]⟩ ?_
  rintro k ⟨hk,hall⟩
  refine aa ?_
  by_cases hlt:k<p.wher.length
  ·have hlm:k<(p.wher.map fun c=>bq p.sizes c.1).length:=by simpa using hlt
   have h4:=iD hlm hall.out
   have h5:=m9 hlm hall.out
   rw[List.getElem_map]at h4 h5
   have hkc:Kc p (kZ [] 1 p.sizes):=by rw[←OQ];exact Th (by simp[Tp])
   have cC:=j7 hkc p.wher[k]
   clear hall
   by_cases hz:bq p.sizes p.wher[k].1=0
   ·have HN:=Lib.hid (h4.trans hz)
    clear h4 h5
    repeat' first|simp(disch:=omega) only[go_sem, *,ae hlt,cP,wrap_i64,hz]|((with_reducible refine ab ?_ ?_)<;>intro h<;>try omega)|(refine ah cC (oV (c:=2) (m:=1) rfl rfl rfl) (.inl rfl) ?_)
    exact⟨k+1, [],⟨by omega,HN⟩,by omega,by simp[bT,dS]⟩
   ·rw[Aj HC.out HS.out (h5 hz) hz]
    clear h4 h5
    repeat' first|simp(disch:=omega) only[go_sem, *,ae hlt,cP,wrap_i64,hz]|((with_reducible refine ab ?_ ?_)<;>intro h<;>try omega)|(refine ah cC (oV (c:=2) (m:=1) rfl rfl rfl) (.inl rfl) ?_)
  have hw:ua p=0:=by
   have hz:=hall.out
   rw[List.take_of_length_le (by simp;omega)]at hz
   exact hz
  have HW:=Lib.hid hw
  clear hall hw
  repeat' first|simp(disch:=omega) only[go_sem, *]|((with_reducible refine ab ?_ ?_)<;>intro h<;>try omega)
  repeat clear hlt
  repeat clear hk
  refine aj (fun k:Nat=>⟨[(57,I k),(56,I p.params.length),(55,.c (.pure (c9 gV p.params))),(11,I ((2:Int)+k)),(4,.c (.ptr 2 0)),(1,.c (.ptr 0 0))],mV p (KK p (Tp p k)),3,0⟩) (fun k=>k≤p.params.length∧dW (fun j=>x5 p j=0) k∧Hid (∀s∈Tp p k,¬s∈p.sizes)) (fun k=>p.params.length-k) ⟨0, [],⟨by omega,.zero,by intro s hs;simp[Tp]at hs⟩,by rw[OQ];simp[bT,dS]⟩ ?_
  rintro k ⟨hk,hall,hap⟩
  refine aa ?_
  by_cases hlt:k<p.params.length
  ·have hs:=JZ hlt
   have cP:=nE (VK p (Tp p k)) (Th hap.out) (fun x hx=>List.mem_append_left _ hx) p.params[k]
   rw[←SQ]at cP
   by_cases hz:dC p.sizes (dM p k) p.params[k]=0
   ·have HA:=Lib.hid (hall.succ (hs.trans hz))
    have HP:Hid (∀s∈Tp p (k+1),¬s∈p.sizes):=by
     show ∀s∈Tp p (k+1),_
     rw[OS hlt]
     exact HH (BG hz) hap.out
    rw[show Lw (KK p (Tp p k)) (dM p k) p.params[k].1=KK p (Tp p (k+1)) by rw[OS hlt,←SH];exact if_pos (BG hz),hz]at cP
    clear hall hs hap hz
    repeat' first|simp(disch:=omega) only[go_sem, *,ae hlt,gV,wrap_i64]|((with_reducible refine ab ?_ ?_)<;>intro h<;>try omega)|(refine aq cP ?_)
    exact⟨k+1, [],⟨by omega,HA.out,HP⟩,by omega,by simp[bT,dS];omega⟩
   ·rw[xC HC.out HS.out HW.out hlt hall hs hz]
    clear hall hs hap
    repeat' first|simp(disch:=omega) only[go_sem, *,ae hlt,gV,wrap_i64,hz]|((with_reducible refine ab ?_ ?_)<;>intro h<;>try omega)|(refine aq cP ?_)
  have HP:Hid (∀j,j<p.params.length→x5 p j=0):=fun j hj=>hall j (by omega)
  have hkp:k=p.params.length:=by omega
  subst hkp
  rw[←TX]at hap ⊢
  have HT:=Lib.hid hap
  clear hall hap
  repeat clear hlt
  repeat clear hk
  repeat' first|simp(disch:=omega) only[go_sem, *]|((with_reducible refine ab ?_ ?_)<;>intro h<;>try omega)
  refine aj (fun k:Nat=>⟨[(74,I k),(73,I p.defs.length),(11,I ((2:Int)+p.params.length+k)),(4,.c (.ptr 2 0)),(1,.c (.ptr 0 0))],mV p (KK p (Td p k)),3,0⟩) (fun k=>k≤p.defs.length∧dW (fun j=>yR p j=0) k∧Hid (∀s∈Td p k,¬s∈p.sizes)) (fun k=>p.defs.length-k) ⟨0, [],⟨by omega,.zero,HT.out⟩,by simp[bT,dS]⟩ ?_
  clear HT
  rintro k ⟨hk,hall,hap⟩
  refine aa ?_
  by_cases hlt:k<p.defs.length
  ·have hs:=CL hlt
   have cP:=pE hf h64 (VK p (Td p k)) (Th hap.out) (fun x hx=>List.mem_append_left _ hx) hlt
   rw[←LX]at cP
   by_cases hz:bh p k (dV p k) p.defs[k]=0
   ·have HA:=Lib.hid (hall.succ (hs.trans hz))
    have HN:Hid (∀s∈Td p (k+1),¬s∈p.sizes):=by
     show ∀s∈Td p (k+1),_
     rw[Ov hlt]
     have:=Be hz
     rw[LX]at this
     exact HH this hap.out
    rw[show Lw (KK p (Td p k)) (dV p k) p.defs[k].name=KK p (Td p (k+1)) by rw[Ov hlt,←SH];exact if_pos (Be hz),hz]at cP
    clear hall hs hap hz
    repeat' first|simp(disch:=omega) only[go_sem, *,wrap_i64]|((with_reducible refine ab ?_ ?_)<;>intro h<;>try omega)|(refine aq cP ?_)
    exact⟨k+1, [],⟨by omega,HA.out,HN⟩,by omega,by simp[bT,dS];omega⟩
   ·rw[xR HC.out HS.out HW.out HP.out hlt hall hs hz]
    clear hall hs hap
    repeat' first|simp(disch:=omega) only[go_sem, *,wrap_i64,hz]|((with_reducible refine ab ?_ ?_)<;>intro h<;>try omega)|(refine aq cP ?_)
  have HD:Hid (∀j,j<p.defs.length→yR p j=0):=fun j hj=>hall j (by omega)
  have hkp:k=p.defs.length:=by omega
  subst hkp
  clear hall hap
  repeat clear hlt
  repeat clear hk
  repeat' first|simp(disch:=omega) only[go_sem, *]|((with_reducible refine ab ?_ ?_)<;>intro h<;>try omega)
  refine aj (fun k:Nat=>⟨[(90,I k),(89,I p.outs.length),(88,.c (.pure (cH p.outs))),(11,I ((2:Int)+p.params.length+p.defs.length+k)),(4,.c (.ptr 2 0)),(1,.c (.ptr 0 0))],mV p (KK p (Td p p.defs.length)),3,0⟩) (fun k=>k≤p.outs.length∧dW (fun j=>KE p j=0) k) (fun k=>p.outs.length-k) ⟨0, [],⟨by omega,.zero⟩,by simp[bT,dS]⟩ ?_
  rintro k ⟨hk,hall⟩
  refine aa ?_
  by_cases hlt:k<p.outs.length
  ·have hs:=Jx hlt
   have cB:=iV (p.outs.take k) p.outs[k]
   have hm:=qX p.outs[k] (KK p (Td p p.defs.length))
   have hg:=Js p (Td p p.defs.length) p.outs[k]
   by_cases hn:c8 p p.outs[k]=none
   ·rw[if_pos hn]at hs
    rw[qI HC.out HS.out HW.out HP.out HD.out hlt hall hs (by decide)]
    have h2: ¬sO (KK p (Td p p.defs.length)) p.outs[k]=2:=by
     rw[hg,if_neg (Hp.1 hn)]
     split<;>decide
    clear hall hs hn hg
    cases hL:jl (KK p (Td p p.defs.length)) p.outs[k]with
    |none=>
     rw[hL]at hm
     clear hL h2
     repeat' first|simp(disch:=omega) only[go_sem, *,ae hlt,wrap_i64,hm,Option.map_none]|((with_reducible refine ab ?_ ?_)<;>intro h<;>try omega)
    |some j=>
     rw[i9 hL]at h2
     rw[hL]at hm
     clear hL
     repeat' first|simp(disch:=omega) only[go_sem, *,ae hlt,wrap_i64,hm,Option.map_some,h2]|((with_reducible refine ab ?_ ?_)<;>intro h<;>try omega)
   ·rw[if_neg hn]at hs
    have h2:sO (KK p (Td p p.defs.length)) p.outs[k]=2:=by
     rw[hg,if_pos (Classical.not_not.1 fun h=>hn (Hp.2 h))]
    cases hL:jl (KK p (Td p p.defs.length)) p.outs[k]with
    |none=>rw[no hL]at h2;exact absurd h2 (by decide)
    |some j=>
     rw[i9 hL]at h2
     rw[hL,h2]at hm
     clear hL h2 hn hg
     by_cases hmem:p.outs[k]∈p.outs.take k
     ·rw[if_pos hmem]at hs
      rw[qI HC.out HS.out HW.out HP.out HD.out hlt hall hs (by decide)]
      clear hall hs
      repeat' first|simp(disch:=omega) only[go_sem, *,ae hlt,wrap_i64,hm,Option.map_some,←List.map_take,vi,Option.getD_none,Option.getD_some,hmem,decide_true]|((with_reducible refine ab ?_ ?_)<;>intro h<;>try omega)|(refine av cB rfl rfl ?_)
     ·rw[if_neg hmem]at hs
      have HA:=Lib.hid (hall.succ hs)
      clear hall hs
      repeat' first|simp(disch:=omega) only[go_sem, *,ae hlt,wrap_i64,hm,Option.map_some,←List.map_take,vi,Option.getD_none,Option.getD_some,hmem,decide_false]|((with_reducible refine ab ?_ ?_)<;>intro h<;>try omega)|(refine av cB rfl rfl ?_)
      exact⟨k+1, [],⟨by omega,HA.out⟩,by omega,by simp[bT,dS];omega⟩
  ·rw[zZ HC.out HS.out HW.out HP.out HD.out fun j hj=>hall j (by omega)]
   clear hall
   repeat' first|simp(disch:=omega) only[go_sem, *]|((with_reducible refine ab ?_ ?_)<;>intro h<;>try omega)
 ·rw[decide_eq_false (show ¬(_∧_)from hc)]at cL
  rw[xp hc]
  repeat' first|simp(disch:=omega) only[go_sem, *]|((with_reducible refine ab ?_ ?_)<;>intro h<;>try omega)|(refine av cL rfl rfl ?_)
end Go.Proofs.YthkaaahphlneiaaGreatDoor
