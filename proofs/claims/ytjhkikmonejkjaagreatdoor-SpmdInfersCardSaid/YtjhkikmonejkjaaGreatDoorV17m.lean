import Derived.Test.YtjhkikmonejkjaaGreatDoorV17l
import Derived.Test.YtjhkikmonejkjaaGreatDoorV17g
set_option linter.unusedVariables false
set_option linter.unusedSimpArgs false
set_option maxRecDepth 20000
namespace Go.Proofs.YtjhkikmonejkjaaGreatDoor
open Go.Abs Go.RowKit
def KK (p:be) (T:List ByteArray):KL:=jY (jY [] 1 p.sizes) 2 T
def Tp (p:be) (k:Nat):List ByteArray:=(p.params.take k).map (·.1)
def Td (p:be) (k:Nat):List ByteArray:=p.params.map (·.1)++(p.defs.take k).map (·.name)
theorem Iy (p:be) (T:List ByteArray) (s:ByteArray):qV (KK p T) s=if s∈T then 2 else if s∈p.sizes then 1 else 0:=by
 unfold KK
 rw[nM,nM,Cl]
theorem Sp (p:be) (T:List ByteArray):Kt (KK p T) (p.sizes++T):= λs=>by
 rw[Iy,List.mem_append]
 by_cases h1:s∈T
 ·simp[h1]
 ·by_cases h2:s∈p.sizes<;>simp[h1,h2]
theorem O1 {p:be} {T:List ByteArray} (h: ∀s∈T,¬s∈p.sizes):Kc p (KK p T):= λs=>by
 rw[Iy]
 by_cases h1:s∈T
 ·have:=h s h1
  simp[h1,this]
 ·by_cases h2:s∈p.sizes<;>simp[h1,h2]
theorem PR (p:be) (T:List ByteArray) (s:ByteArray):t8 (KK p T) s 2=KK p (T++ [s]):=by
 unfold KK
 rw[Dp]
 rfl
theorem MA (p:be):KK p (Tp p 0)=jY [] 1 p.sizes:=by simp[KK,Tp,jY]
theorem Js (l:List ByteArray):Kt (jY [] 1 l) l:= λs=>by
 rw[nM,Cl]
 by_cases h1:s∈l<;>simp[h1]
theorem Mc {p:be} {k:Nat} (h:k<p.params.length):Tp p (k+1)=Tp p k++ [p.params[k].1]:=by
 unfold Tp
 rw[List.take_succ_eq_append_getElem h,List.map_append]
 rfl
theorem LC {p:be} {k:Nat} (h:k<p.defs.length):Td p (k+1)=Td p k++ [p.defs[k].name]:=by
 unfold Td
 rw[List.take_succ_eq_append_getElem h,List.map_append,List.append_assoc]
 rfl
theorem RU (p:be):Td p 0=Tp p p.params.length:=by simp[Td,Tp]
theorem PN (p:be) (k:Nat):ci p k=p.sizes++Tp p k:=rfl
theorem JZ (p:be) (k:Nat):cM p k=p.sizes++Td p k:=by unfold cM Td;rw[List.append_assoc]
theorem Gu {p:be} {s:ByteArray}:aZ p s=none↔ ¬s∈Td p p.defs.length:=by
 have h1:p.params.find? (λx=>decide (x.1=s))=none↔ ¬s∈p.params.map (·.1):=by
  rw[List.find?_eq_none]
  constructor
  ·intro h hm
   obtain⟨x,hx,rfl⟩:=List.mem_map.1 hm
   exact h x hx (by simp)
  ·intro h x hx e
   exact h (List.mem_map.2 ⟨x,hx,by simpa using e⟩)
 have h2:p.defs.find? (λd=>decide (d.name=s))=none↔ ¬s∈p.defs.map (·.name):=by
  rw[List.find?_eq_none]
  constructor
  ·intro h hm
   obtain⟨x,hx,rfl⟩:=List.mem_map.1 hm
   exact h x hx (by simp)
  ·intro h x hx e
   exact h (List.mem_map.2 ⟨x,hx,by simpa using e⟩)
 unfold Td aZ
 rw[List.take_length,List.mem_append]
 cases hp:p.params.find? (λx=>decide (x.1=s))with
 |some x=>
  rw[hp]at h1
  have:s∈p.params.map (·.1):=Classical.not_not.1 λh=>by cases h1.2 h
  exact⟨λh=>(by cases h),λh=>absurd (.inl this) h⟩
 |none=>
  have n1:=h1.1 hp
  cases hd:p.defs.find? (λd=>decide (d.name=s))with
  |some x=>
   rw[hd]at h2
   have:s∈p.defs.map (·.name):=Classical.not_not.1 λh=>by cases h2.2 h
   exact⟨λh=>(by cases h),λh=>absurd (.inr this) h⟩
  |none=>
   have n2:=h2.1 hd
   exact⟨λ_ h=>h.elim n1 n2,λ_=>rfl⟩
theorem AN {sizes taken:List ByteArray} {x:kO} (h:cg sizes taken x=0):aE taken x.1=0:=by
 unfold cg at h
 exact Classical.not_not.1 λhn=>by rw[if_pos hn]at h;exact hn h
theorem AB {p:be} {k:Nat} {taken:List ByteArray} {d:jA} (h:aR p k taken d=0):aE taken d.name=0:=by
 unfold aR at h
 exact Classical.not_not.1 λhn=>by rw[if_pos hn]at h;exact hn h
theorem Gq {p:be} {T:List ByteArray} {s:ByteArray} (h:aE (p.sizes++T) s=0) (hT: ∀x∈T,¬x∈p.sizes): ∀x∈T++ [s],¬x∈p.sizes:= λx hx hs=>by
 rcases List.mem_append.1 hx with hx|hx
 ·exact hT x hx hs
 ·rw[List.mem_singleton]at hx
  subst hx
  exact(o6 h).2 (List.mem_append_left _ hs)
abbrev mV (p:be) (K:KL):List (Nat×bm):= [(2,P6 p 1),(1,mK K),(0,dL p)]
set_option maxHeartbeats 4000000 in
theorem jR {p:be} (hf:eR p) (o:ij p):af Tryz.prog lH [eX p] (.tup [I (aV p).1,I (aV p).2]):=by
 refine af.of tT (by simp) λhb=>aa ?_
 have cL:=vM p
 simp only[lO]
 by_cases hc:iC p
 ·rw[decide_eq_true (show _∧_ from hc)]at cL
  have r:=hc.1
  have t:=hc.2.1
  have u:=hc.2.2.1
  have v:=hc.2.2.2.1
  have w:=hc.2.2.2.2
  have HC:=Lib.hid hc
  clear hc
  repeat' first|simp(disch:=omega)only[go_sem, *]|apply ab<;>intro h<;>try omega|refine av cL rfl rfl ?_
  clear cL
  refine ai (λk:Nat=>⟨[(29,I k),(28,I p.sizes.length),(27,.c (.pure (b6 p.sizes))),(4,.c (.ptr 2 0)),(1,.c (.ptr 0 0))],mV p (jY [] 1 (p.sizes.take k)),3,0⟩) (λk=>k≤p.sizes.length∧bI (λj=>Pf p j=0) k) (λk=>p.sizes.length-k) ⟨0, [],⟨by omega,.zero⟩,by simp[jY,ja,K1]⟩ ?_
  rintro k ⟨hk,a⟩
  refine aa ?_
  by_cases b:k<p.sizes.length
  ·have hs:=KZ b
   by_cases hz:aE (p.sizes.take k) p.sizes[k]=0
   ·have HA:=Lib.hid (a.succ (hs.trans hz))
    have hn:= λmem nx h2 h3=>ew (mem:=mem) (nx:=nx) (c:=2) (m:=1) (p:=p) h2 h3 (Js (p.sizes.take k)) hz 1
    clear a hs
    repeat' first|simp(disch:=omega)only[go_sem, *,ac b,wrap_i64,←zZ b]|apply ab<;>intro h<;>try omega|refine aU (hn _ _ rfl rfl) ?_
    exact⟨k+1, [],⟨by omega,HA.out⟩,by omega,by simp[dH,gO]⟩
   ·rw[zy HC.out (JP b a hs hz) hz]
    have hn:= λmem nx h2 h3=>eg (mem:=mem) (nx:=nx) (c:=2) (m:=1) (p:=p) h2 h3 (Js (p.sizes.take k)) hz 1
    clear a hs
    repeat' first|simp(disch:=omega)only[go_sem, *,ac b,wrap_i64,hz]|apply ab<;>intro h<;>try omega|refine aU (hn _ _ rfl rfl) ?_
  have HS:Hid (lF p=0):=D4 λj hj=>a j (by omega)
  have i:k=p.sizes.length:=by omega
  subst i
  rw[List.take_length]
  clear a
  repeat clear b
  repeat clear hk
  repeat' first|simp(disch:=omega)only[go_sem, *]|apply ab<;>intro h<;>try omega
  refine ai (λk:Nat=>⟨[(43,I k),(42,I p.wher.length),(41,.c (.pure (cZ cP p.wher))),(4,.c (.ptr 2 0)),(1,.c (.ptr 0 0))],mV p (jY [] 1 p.sizes),3,0⟩) (λk=>k≤p.wher.length∧Hid (bY ((p.wher.map λc=>bi p.sizes c.1).take k)=0)) (λk=>p.wher.length-k) ⟨0, [],⟨by omega,by show _=_;simp[bY]⟩,by simp[dH,gO]⟩ ?_
  rintro k ⟨hk,a⟩
  refine aa ?_
  by_cases b:k<p.wher.length
  ·have n:k<(p.wher.map λc=>bi p.sizes c.1).length:=by simpa using b
   have h4:=gV n a.out
   have h5:=l9 n a.out
   rw[List.getElem_map]at h4 h5
   have q:Kc p (jY [] 1 p.sizes):=by rw[←MA];exact O1 (by simp[Tp])
   have cC:=jq q p.wher[k]
   clear a
   by_cases hz:bi p.sizes p.wher[k].1=0
   ·have HN:=Lib.hid (h4.trans hz)
    clear h4 h5
    repeat' first|simp(disch:=omega)only[go_sem, *,ac b,cP,wrap_i64,hz]|apply ab<;>intro h<;>try omega|refine ae cC (ny (c:=2) (m:=1) rfl rfl rfl) (.inl rfl) ?_
    exact⟨k+1, [],⟨by omega,HN⟩,by omega,by simp[dH,gO]⟩
   ·rw[zf HC.out HS.out (h5 hz) hz]
    clear h4 h5
    repeat' first|simp(disch:=omega)only[go_sem, *,ac b,cP,wrap_i64,hz]|apply ab<;>intro h<;>try omega|refine ae cC (ny (c:=2) (m:=1) rfl rfl rfl) (.inl rfl) ?_
  have hw:rE p=0:=by
   have hz:=a.out
   rw[List.take_of_length_le (by simp;omega)]at hz
   exact hz
  have HW:=Lib.hid hw
  clear a hw
  repeat' first|simp(disch:=omega)only[go_sem, *]|apply ab<;>intro h<;>try omega
  repeat clear b
  repeat clear hk
  refine ai (λk:Nat=>⟨[(57,I k),(56,I p.params.length),(55,.c (.pure (cZ d7 p.params))),(11,I ((2:Int)+k)),(4,.c (.ptr 2 0)),(1,.c (.ptr 0 0))],mV p (KK p (Tp p k)),3,0⟩) (λk=>k≤p.params.length∧bI (λj=>xS p j=0) k∧Hid (∀s∈Tp p k,¬s∈p.sizes)) (λk=>p.params.length-k) ⟨0, [],⟨by omega,.zero,by intro s hs;simp[Tp]at hs⟩,by rw[MA];simp[dH,gO]⟩ ?_
  rintro k ⟨hk,a,f⟩
  refine aa ?_
  by_cases b:k<p.params.length
  ·have hs:=BV b
   have cP:=mG (Sp p (Tp p k)) (O1 f.out) (λx hx=>List.mem_append_left _ hx) p.params[k]
   rw[←PN]at cP
   by_cases hz:cg p.sizes (ci p k) p.params[k]=0
   ·have HA:=Lib.hid (a.succ (hs.trans hz))
    have HP:Hid (∀s∈Tp p (k+1),¬s∈p.sizes):=by
     show ∀s∈Tp p (k+1),_
     rw[Mc b]
     exact Gq (AN hz) f.out
    rw[show Jq (KK p (Tp p k)) (ci p k) p.params[k].1=KK p (Tp p (k+1)) by rw[Mc b,←PR];exact if_pos (AN hz),hz]at cP
    clear a hs f hz
    repeat' first|simp(disch:=omega)only[go_sem, *,ac b,d7,wrap_i64]|apply ab<;>intro h<;>try omega|refine aU cP ?_
    exact⟨k+1, [],⟨by omega,HA.out,HP⟩,by omega,by simp[dH,gO];omega⟩
   ·rw[wd HC.out HS.out HW.out b a hs hz]
    clear a hs f
    repeat' first|simp(disch:=omega)only[go_sem, *,ac b,d7,wrap_i64,hz]|apply ab<;>intro h<;>try omega|refine aU cP ?_
  have HP:Hid (∀j,j<p.params.length→xS p j=0):= λj hj=>a j (by omega)
  have i:k=p.params.length:=by omega
  subst i
  rw[←RU]at f ⊢
  have HT:=Lib.hid f
  clear a f
  repeat clear b
  repeat clear hk
  repeat' first|simp(disch:=omega)only[go_sem, *]|apply ab<;>intro h<;>try omega
  refine ai (λk:Nat=>⟨[(74,I k),(73,I p.defs.length),(11,I ((2:Int)+p.params.length+k)),(4,.c (.ptr 2 0)),(1,.c (.ptr 0 0))],mV p (KK p (Td p k)),3,0⟩) (λk=>k≤p.defs.length∧bI (λj=>xD p j=0) k∧Hid (∀s∈Td p k,¬s∈p.sizes)) (λk=>p.defs.length-k) ⟨0, [],⟨by omega,.zero,HT.out⟩,by simp[dH,gO]⟩ ?_
  clear HT
  rintro k ⟨hk,a,f⟩
  refine aa ?_
  by_cases b:k<p.defs.length
  ·have hs:=w8 b
   have cP:=oG hf o (Sp p (Td p k)) (O1 f.out) (λx hx=>List.mem_append_left _ hx) b
   rw[←JZ]at cP
   by_cases hz:aR p k (cM p k) p.defs[k]=0
   ·have HA:=Lib.hid (a.succ (hs.trans hz))
    have HN:Hid (∀s∈Td p (k+1),¬s∈p.sizes):=by
     show ∀s∈Td p (k+1),_
     rw[LC b]
     have:=AB hz
     rw[JZ]at this
     exact Gq this f.out
    rw[show Jq (KK p (Td p k)) (cM p k) p.defs[k].name=KK p (Td p (k+1)) by rw[LC b,←PR];exact if_pos (AB hz),hz]at cP
    clear a hs f hz
    repeat' first|simp(disch:=omega)only[go_sem, *,wrap_i64]|apply ab<;>intro h<;>try omega|refine aU cP ?_
    exact⟨k+1, [],⟨by omega,HA.out,HN⟩,by omega,by simp[dH,gO];omega⟩
   ·rw[ww HC.out HS.out HW.out HP.out b a hs hz]
    clear a hs f
    repeat' first|simp(disch:=omega)only[go_sem, *,wrap_i64,hz]|apply ab<;>intro h<;>try omega|refine aU cP ?_
  have HD:Hid (∀j,j<p.defs.length→xD p j=0):= λj hj=>a j (by omega)
  have i:k=p.defs.length:=by omega
  subst i
  clear a f
  repeat clear b
  repeat clear hk
  repeat' first|simp(disch:=omega)only[go_sem, *]|apply ab<;>intro h<;>try omega
  refine ai (λk:Nat=>⟨[(90,I k),(89,I p.outs.length),(88,.c (.pure (b6 p.outs))),(11,I ((2:Int)+p.params.length+p.defs.length+k)),(4,.c (.ptr 2 0)),(1,.c (.ptr 0 0))],mV p (KK p (Td p p.defs.length)),3,0⟩) (λk=>k≤p.outs.length∧bI (λj=>I3 p j=0) k) (λk=>p.outs.length-k) ⟨0, [],⟨by omega,.zero⟩,by simp[dH,gO]⟩ ?_
  rintro k ⟨hk,a⟩
  refine aa ?_
  by_cases b:k<p.outs.length
  ·have hs:=Iw b
   have cB:=hX (p.outs.take k) p.outs[k]
   have hm:=pW p.outs[k] (KK p (Td p p.defs.length))
   have hg:=Iy p (Td p p.defs.length) p.outs[k]
   by_cases hn:aZ p p.outs[k]=none
   ·rw[if_pos hn]at hs
    rw[pH HC.out HS.out HW.out HP.out HD.out b a hs (by decide)]
    have h2: ¬qV (KK p (Td p p.defs.length)) p.outs[k]=2:=by
     rw[hg,if_neg (Gu.1 hn)]
     split<;>decide
    clear a hs hn hg
    cases hL:ix (KK p (Td p p.defs.length)) p.outs[k]with
    |none=>
     rw[hL]at hm
     clear hL h2
     repeat' first|simp(disch:=omega)only[go_sem, *,ac b,wrap_i64,hm,Option.map_none]|apply ab<;>intro h<;>try omega
    |some j=>
     rw[gX hL]at h2
     rw[hL]at hm
     clear hL
     repeat' first|simp(disch:=omega)only[go_sem, *,ac b,wrap_i64,hm,Option.map_some,h2]|apply ab<;>intro h<;>try omega
   ·rw[if_neg hn]at hs
    have h2:qV (KK p (Td p p.defs.length)) p.outs[k]=2:=by
     rw[hg,if_pos (Classical.not_not.1 λh=>hn (Gu.2 h))]
    cases hL:ix (KK p (Td p p.defs.length)) p.outs[k]with
    |none=>rw[mu hL]at h2;exact absurd h2 (by decide)
    |some j=>
     rw[gX hL]at h2
     rw[hL,h2]at hm
     clear hL h2 hn hg
     by_cases g:p.outs[k]∈p.outs.take k
     ·rw[if_pos g]at hs
      rw[pH HC.out HS.out HW.out HP.out HD.out b a hs (by decide)]
      clear a hs
      repeat' first|simp(disch:=omega)only[go_sem, *,ac b,wrap_i64,hm,Option.map_some,←List.map_take,tH,Option.getD_none,Option.getD_some,g,decide_true]|apply ab<;>intro h<;>try omega|refine av cB rfl rfl ?_
     ·rw[if_neg g]at hs
      have HA:=Lib.hid (a.succ hs)
      clear a hs
      repeat' first|simp(disch:=omega)only[go_sem, *,ac b,wrap_i64,hm,Option.map_some,←List.map_take,tH,Option.getD_none,Option.getD_some,g,decide_false]|apply ab<;>intro h<;>try omega|refine av cB rfl rfl ?_
      exact⟨k+1, [],⟨by omega,HA.out⟩,by omega,by simp[dH,gO];omega⟩
  ·rw[zc HC.out HS.out HW.out HP.out HD.out λj hj=>a j (by omega)]
   clear a
   repeat' first|simp(disch:=omega)only[go_sem, *]|apply ab<;>intro h<;>try omega
 ·rw[decide_eq_false (show ¬(_∧_)from hc)]at cL
  rw[wi hc]
  repeat' first|simp(disch:=omega)only[go_sem, *]|apply ab<;>intro h<;>try omega|refine av cL rfl rfl ?_
end Go.Proofs.YtjhkikmonejkjaaGreatDoor
