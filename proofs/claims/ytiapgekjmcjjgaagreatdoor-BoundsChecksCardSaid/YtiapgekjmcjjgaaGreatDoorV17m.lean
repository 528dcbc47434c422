import Derived.Test.YtiapgekjmcjjgaaGreatDoorV17l
import Derived.Test.YtiapgekjmcjjgaaGreatDoorV17g
set_option maxHeartbeats 4000000
set_option linter.unusedVariables false
set_option linter.unusedSimpArgs false
set_option maxRecDepth 1000000
namespace Go.Proofs.YtiapgekjmcjjgaaGreatDoor
open Go.Abs Go.RowKit
def KK (p:bG) (T:List ByteArray):KL:=kd (kd [] 1 p.sizes) 2 T
def Tp (p:bG) (k:Nat):List ByteArray:=(p.params.take k).map (·.1)
def Td (p:bG) (k:Nat):List ByteArray:=p.params.map (·.1)++(p.defs.take k).map (·.name)
theorem EX (p:bG) (T:List ByteArray) (s:ByteArray):pN (KK p T) s=if s∈T then 2 else if s∈p.sizes then 1 else 0:=by
 unfold KK
 rw[nu,nu,A8]
theorem R6 (p:bG) (T:List ByteArray):Kt (KK p T) (p.sizes++T):= λs=>by
 rw[EX,List.mem_append]
 by_cases h1:s∈T
 ·simp[h1]
 ·by_cases h2:s∈p.sizes<;>simp[h1,h2]
theorem PT {p:bG} {T:List ByteArray} (h: ∀s∈T,¬s∈p.sizes):Kc p (KK p T):= λs=>by
 rw[EX]
 by_cases h1:s∈T
 ·have:=h s h1
  simp[h1,this]
 ·by_cases h2:s∈p.sizes<;>simp[h1,h2]
theorem Pc (p:bG) (T:List ByteArray) (s:ByteArray):sM (KK p T) s 2=KK p (T++ [s]):=by
 unfold KK
 rw[zK]
 rfl
theorem Li (p:bG):KK p (Tp p 0)=kd [] 1 p.sizes:=by simp[KK,Tp,kd]
theorem GX (l:List ByteArray):Kt (kd [] 1 l) l:= λs=>by
 rw[nu,A8]
 by_cases h1:s∈l<;>simp[h1]
theorem LG {p:bG} {k:Nat} (h:k<p.params.length):Tp p (k+1)=Tp p k++ [p.params[k].1]:=by
 unfold Tp
 rw[List.take_succ_eq_append_getElem h,List.map_append]
 rfl
theorem KU {p:bG} {k:Nat} (h:k<p.defs.length):Td p (k+1)=Td p k++ [p.defs[k].name]:=by
 unfold Td
 rw[List.take_succ_eq_append_getElem h,List.map_append,List.append_assoc]
 rfl
theorem Rb (p:bG):Td p 0=Tp p p.params.length:=by simp[Td,Tp]
theorem Oa (p:bG) (k:Nat):dT p k=p.sizes++Tp p k:=rfl
theorem HH (p:bG) (k:Nat):dY p k=p.sizes++Td p k:=by unfold dY Td;rw[List.append_assoc]
theorem DJ {p:bG} {s:ByteArray}:dm p s=none↔ ¬s∈Td p p.defs.length:=by
 have h1:p.params.find? (λx=>decide (x.1=s))=none↔ ¬s∈p.params.map (·.1):=by
  rw[List.find?_eq_none]
  constructor
  ·intro h hm
   obtain⟨x,hx,rfl⟩:=List.mem_map.1 hm
   exact h x hx (by simp)
  ·intro h x hx e
   exact h (List.mem_map.2 ⟨x,hx,by simpa using e⟩)
 have h2:p.defs.find? (λd=>decide (d.name=s))=none↔ ¬s∈p.defs.map (·.name):=by
  rw[List.find?_eq_none]
  constructor
  ·intro h hm
   obtain⟨x,hx,rfl⟩:=List.mem_map.1 hm
   exact h x hx (by simp)
  ·intro h x hx e
   exact h (List.mem_map.2 ⟨x,hx,by simpa using e⟩)
 unfold Td dm
 rw[List.take_length,List.mem_append]
 cases hp:p.params.find? (λx=>decide (x.1=s))with
 |some x=>
  rw[hp]at h1
  have:s∈p.params.map (·.1):=Classical.not_not.1 λh=>by cases h1.2 h
  exact⟨λh=>(by cases h),λh=>absurd (.inl this) h⟩
 |none=>
  have n1:=h1.1 hp
  cases hd:p.defs.find? (λd=>decide (d.name=s))with
  |some x=>
   rw[hd]at h2
   have:s∈p.defs.map (·.name):=Classical.not_not.1 λh=>by cases h2.2 h
   exact⟨λh=>(by cases h),λh=>absurd (.inr this) h⟩
  |none=>
   have n2:=h2.1 hd
   exact⟨λ_ h=>h.elim n1 n2,λ_=>rfl⟩
theorem xB {sizes taken:List ByteArray} {x:nP} (h:dL sizes taken x=0):aP taken x.1=0:=by
 unfold dL at h
 exact Classical.not_not.1 λhn=>by rw[if_pos hn]at h;exact hn h
theorem xr {p:bG} {k:Nat} {taken:List ByteArray} {d:uu} (h:bt p k taken d=0):aP taken d.name=0:=by
 unfold bt at h
 exact Classical.not_not.1 λhn=>by rw[if_pos hn]at h;exact hn h
theorem CV {p:bG} {T:List ByteArray} {s:ByteArray} (h:aP (p.sizes++T) s=0) (hT: ∀x∈T,¬x∈p.sizes): ∀x∈T++ [s],¬x∈p.sizes:= λx hx hs=>by
 rcases List.mem_append.1 hx with hx|hx
 ·exact hT x hx hs
 ·rw[List.mem_singleton]at hx
  subst hx
  exact(oo h).2 (List.mem_append_left _ hs)
abbrev mV (p:bG) (K:KL):List (Nat×bk):= [(2,OO p 1),(1,mK K),(0,eJ p)]
theorem kc {p:bG} (hf:iR p) (o:kI p):ac Tryz.prog 12 [gy p] (.tup [I (bn p).1,I (bn p).2]):=by
 refine ac.of sO (by simp) λhb=>aa ?_
 have cL:=tA p
 conv in bh _ _=>cbv
 by_cases hc:jf p
 ·rw[decide_eq_true (show _∧_ from hc)]at cL
  have r:=hc.1
  have t:=hc.2.1
  have u:=hc.2.2.1
  have v:=hc.2.2.2.1
  have w:=hc.2.2.2.2
  have HC:=Lib.hid hc
  clear hc
  repeat' first|simp(disch:=omega)only[go_sem, *]|apply ab<;>intro h<;>try omega|refine aq cL rfl rfl ?_
  clear cL
  refine ai (λk:Nat=>⟨[(29,I k),(28,I p.sizes.length),(27,.c (.pure (c7 p.sizes))),(4,.c (.ptr 2 0)),(1,.c (.ptr 0 0))],mV p (kd [] 1 (p.sizes.take k)),3,0⟩) (λk=>k≤p.sizes.length∧dZ (λj=>PQ p j=0) k) (λk=>p.sizes.length-k) ⟨0, [],⟨by omega,.zero⟩,by simp[kd,js,Jo]⟩ ?_
  rintro k ⟨hk,a⟩
  refine aa ?_
  by_cases b:k<p.sizes.length
  ·have hs:=Jk b
   by_cases hz:aP (p.sizes.take k) p.sizes[k]=0
   ·have HA:=Lib.hid (a.succ (hs.trans hz))
    have hn:= λmem nx h2 h3=>fC (mem:=mem) (nx:=nx) (c:=2) (m:=1) (p:=p) h2 h3 (GX (p.sizes.take k)) hz 1
    clear a hs
    repeat' first|simp(disch:=omega)only[go_sem, *,ah b,wrap_i64,←wF b]|apply ab<;>intro h<;>try omega|refine ap (hn _ _ rfl rfl) ?_
    exact⟨k+1, [],⟨by omega,HA.out⟩,by omega,by simp[cn,dW]⟩
   ·rw[wO HC.out (GI b a hs hz) hz]
    have hn:= λmem nx h2 h3=>fh (mem:=mem) (nx:=nx) (c:=2) (m:=1) (p:=p) h2 h3 (GX (p.sizes.take k)) hz 1
    clear a hs
    repeat' first|simp(disch:=omega)only[go_sem, *,ah b,wrap_i64,hz]|apply ab<;>intro h<;>try omega|refine ap (hn _ _ rfl rfl) ?_
  have HS:Hid (lW p=0):=BS λj hj=>a j (by omega)
  have i:k=p.sizes.length:=by omega
  subst i
  rw[List.take_length]
  clear a
  repeat clear b
  repeat clear hk
  repeat' first|simp(disch:=omega)only[go_sem, *]|apply ab<;>intro h<;>try omega
  refine ai (λk:Nat=>⟨[(43,I k),(42,I p.wher.length),(41,.c (.pure (dp cP p.wher))),(4,.c (.ptr 2 0)),(1,.c (.ptr 0 0))],mV p (kd [] 1 p.sizes),3,0⟩) (λk=>k≤p.wher.length∧Hid (de ((p.wher.map λc=>bH p.sizes c.1).take k)=0)) (λk=>p.wher.length-k) ⟨0, [],⟨by omega,by show _=_;simp[de]⟩,by simp[cn,dW]⟩ ?_
  rintro k ⟨hk,a⟩
  refine aa ?_
  by_cases b:k<p.wher.length
  ·have n:k<(p.wher.map λc=>bH p.sizes c.1).length:=by simpa using b
   have h4:=ix n a.out
   have h5:=lY n a.out
   rw[List.getElem_map]at h4 h5
   have q:Kc p (kd [] 1 p.sizes):=by rw[←Li];exact PT (by simp[Tp])
   have cC:=jx q p.wher[k]
   clear a
   by_cases hz:bH p.sizes p.wher[k].1=0
   ·have HN:=Lib.hid (h4.trans hz)
    clear h4 h5
    repeat' first|simp(disch:=omega)only[go_sem, *,ah b,cP,wrap_i64,hz]|apply ab<;>intro h<;>try omega|refine bA cC (mU (c:=2) (m:=1) rfl rfl rfl) (.inl rfl) ?_
    exact⟨k+1, [],⟨by omega,HN⟩,by omega,by simp[cn,dW]⟩
   ·rw[wV HC.out HS.out (h5 hz) hz]
    clear h4 h5
    repeat' first|simp(disch:=omega)only[go_sem, *,ah b,cP,wrap_i64,hz]|apply ab<;>intro h<;>try omega|refine bA cC (mU (c:=2) (m:=1) rfl rfl rfl) (.inl rfl) ?_
  have hw:qU p=0:=by
   have hz:=a.out
   rw[List.take_of_length_le (by simp;omega)]at hz
   exact hz
  have HW:=Lib.hid hw
  clear a hw
  repeat' first|simp(disch:=omega)only[go_sem, *]|apply ab<;>intro h<;>try omega
  repeat clear b
  repeat clear hk
  refine ai (λk:Nat=>⟨[(57,I k),(56,I p.params.length),(55,.c (.pure (dp gR p.params))),(11,I ((2:Int)+k)),(4,.c (.ptr 2 0)),(1,.c (.ptr 0 0))],mV p (KK p (Tp p k)),3,0⟩) (λk=>k≤p.params.length∧dZ (λj=>uK p j=0) k∧Hid (∀s∈Tp p k,¬s∈p.sizes)) (λk=>p.params.length-k) ⟨0, [],⟨by omega,.zero,by intro s hs;simp[Tp]at hs⟩,by rw[Li];simp[cn,dW]⟩ ?_
  rintro k ⟨hk,a,f⟩
  refine aa ?_
  by_cases b:k<p.params.length
  ·have hs:=Fc b
   have cP:=mr (R6 p (Tp p k)) (PT f.out) (λx hx=>List.mem_append_left _ hx) p.params[k]
   rw[←Oa]at cP
   by_cases hz:dL p.sizes (dT p k) p.params[k]=0
   ·have HA:=Lib.hid (a.succ (hs.trans hz))
    have HP:Hid (∀s∈Tp p (k+1),¬s∈p.sizes):=by
     show ∀s∈Tp p (k+1),_
     rw[LG b]
     exact CV (xB hz) f.out
    rw[show If (KK p (Tp p k)) (dT p k) p.params[k].1=KK p (Tp p (k+1)) by rw[LG b,←Pc];exact if_pos (xB hz),hz]at cP
    clear a hs f hz
    repeat' first|simp(disch:=omega)only[go_sem, *,ah b,gR,wrap_i64]|apply ab<;>intro h<;>try omega|refine ap cP ?_
    exact⟨k+1, [],⟨by omega,HA.out,HP⟩,by omega,by simp[cn,dW];omega⟩
   ·rw[tu HC.out HS.out HW.out b a hs hz]
    clear a hs f
    repeat' first|simp(disch:=omega)only[go_sem, *,ah b,gR,wrap_i64,hz]|apply ab<;>intro h<;>try omega|refine ap cP ?_
  have HP:Hid (∀j,j<p.params.length→uK p j=0):= λj hj=>a j (by omega)
  have i:k=p.params.length:=by omega
  subst i
  rw[←Rb]at f ⊢
  have HT:=Lib.hid f
  clear a f
  repeat clear b
  repeat clear hk
  repeat' first|simp(disch:=omega)only[go_sem, *]|apply ab<;>intro h<;>try omega
  refine ai (λk:Nat=>⟨[(74,I k),(73,I p.defs.length),(11,I ((2:Int)+p.params.length+k)),(4,.c (.ptr 2 0)),(1,.c (.ptr 0 0))],mV p (KK p (Td p k)),3,0⟩) (λk=>k≤p.defs.length∧dZ (λj=>vI p j=0) k∧Hid (∀s∈Td p k,¬s∈p.sizes)) (λk=>p.defs.length-k) ⟨0, [],⟨by omega,.zero,HT.out⟩,by simp[cn,dW]⟩ ?_
  clear HT
  rintro k ⟨hk,a,f⟩
  refine aa ?_
  by_cases b:k<p.defs.length
  ·have hs:=yW b
   have cP:=nM hf o (R6 p (Td p k)) (PT f.out) (λx hx=>List.mem_append_left _ hx) b
   rw[←HH]at cP
   by_cases hz:bt p k (dY p k) p.defs[k]=0
   ·have HA:=Lib.hid (a.succ (hs.trans hz))
    have HN:Hid (∀s∈Td p (k+1),¬s∈p.sizes):=by
     show ∀s∈Td p (k+1),_
     rw[KU b]
     have:=xr hz
     rw[HH]at this
     exact CV this f.out
    rw[show If (KK p (Td p k)) (dY p k) p.defs[k].name=KK p (Td p (k+1)) by rw[KU b,←Pc];exact if_pos (xr hz),hz]at cP
    clear a hs f hz
    repeat' first|simp(disch:=omega)only[go_sem, *,wrap_i64]|apply ab<;>intro h<;>try omega|refine ap cP ?_
    exact⟨k+1, [],⟨by omega,HA.out,HN⟩,by omega,by simp[cn,dW];omega⟩
   ·rw[tU HC.out HS.out HW.out HP.out b a hs hz]
    clear a hs f
    repeat' first|simp(disch:=omega)only[go_sem, *,wrap_i64,hz]|apply ab<;>intro h<;>try omega|refine ap cP ?_
  have HD:Hid (∀j,j<p.defs.length→vI p j=0):= λj hj=>a j (by omega)
  have i:k=p.defs.length:=by omega
  subst i
  clear a f
  repeat clear b
  repeat clear hk
  repeat' first|simp(disch:=omega)only[go_sem, *]|apply ab<;>intro h<;>try omega
  refine ai (λk:Nat=>⟨[(90,I k),(89,I p.outs.length),(88,.c (.pure (c7 p.outs))),(11,I ((2:Int)+p.params.length+p.defs.length+k)),(4,.c (.ptr 2 0)),(1,.c (.ptr 0 0))],mV p (KK p (Td p p.defs.length)),3,0⟩) (λk=>k≤p.outs.length∧dZ (λj=>GO p j=0) k) (λk=>p.outs.length-k) ⟨0, [],⟨by omega,.zero⟩,by simp[cn,dW]⟩ ?_
  rintro k ⟨hk,a⟩
  refine aa ?_
  by_cases b:k<p.outs.length
  ·have hs:=FB b
   have cB:=iK (p.outs.take k) p.outs[k]
   have hm:=oi p.outs[k] (KK p (Td p p.defs.length))
   have hg:=EX p (Td p p.defs.length) p.outs[k]
   by_cases hn:dm p p.outs[k]=none
   ·rw[if_pos hn]at hs
    rw[oF HC.out HS.out HW.out HP.out HD.out b a hs (by decide)]
    have h2: ¬pN (KK p (Td p p.defs.length)) p.outs[k]=2:=by
     rw[hg,if_neg (DJ.1 hn)]
     split<;>decide
    clear a hs hn hg
    cases hL:jj (KK p (Td p p.defs.length)) p.outs[k]with
    |none=>
     rw[hL]at hm
     clear hL h2
     repeat' first|simp(disch:=omega)only[go_sem, *,ah b,wrap_i64,hm,Option.map_none]|apply ab<;>intro h<;>try omega
    |some j=>
     rw[iz hL]at h2
     rw[hL]at hm
     clear hL
     repeat' first|simp(disch:=omega)only[go_sem, *,ah b,wrap_i64,hm,Option.map_some,h2]|apply ab<;>intro h<;>try omega
   ·rw[if_neg hn]at hs
    have h2:pN (KK p (Td p p.defs.length)) p.outs[k]=2:=by
     rw[hg,if_pos (Classical.not_not.1 λh=>hn (DJ.2 h))]
    cases hL:jj (KK p (Td p p.defs.length)) p.outs[k]with
    |none=>rw[lJ hL]at h2;exact absurd h2 (by decide)
    |some j=>
     rw[iz hL]at h2
     rw[hL,h2]at hm
     clear hL h2 hn hg
     by_cases g:p.outs[k]∈p.outs.take k
     ·rw[if_pos g]at hs
      rw[oF HC.out HS.out HW.out HP.out HD.out b a hs (by decide)]
      clear a hs
      repeat' first|simp(disch:=omega)only[go_sem, *,ah b,wrap_i64,hm,Option.map_some,←List.map_take,rP,Option.getD_none,Option.getD_some,g,decide_true]|apply ab<;>intro h<;>try omega|refine aq cB rfl rfl ?_
     ·rw[if_neg g]at hs
      have HA:=Lib.hid (a.succ hs)
      clear a hs
      repeat' first|simp(disch:=omega)only[go_sem, *,ah b,wrap_i64,hm,Option.map_some,←List.map_take,rP,Option.getD_none,Option.getD_some,g,decide_false]|apply ab<;>intro h<;>try omega|refine aq cB rfl rfl ?_
      exact⟨k+1, [],⟨by omega,HA.out⟩,by omega,by simp[cn,dW];omega⟩
  ·rw[v7 HC.out HS.out HW.out HP.out HD.out λj hj=>a j (by omega)]
   clear a
   repeat' first|simp(disch:=omega)only[go_sem, *]|apply ab<;>intro h<;>try omega
 ·rw[decide_eq_false (show ¬(_∧_)from hc)]at cL
  rw[tP hc]
  repeat' first|simp(disch:=omega)only[go_sem, *]|apply ab<;>intro h<;>try omega|refine aq cL rfl rfl ?_
end Go.Proofs.YtiapgekjmcjjgaaGreatDoor
