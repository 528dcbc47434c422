import Derived.Test.YtigdjhnndaokjaaGreatDoorV17l
import Derived.Test.YtigdjhnndaokjaaGreatDoorV17g
set_option linter.unusedVariables false
set_option linter.unusedSimpArgs false
set_option maxHeartbeats 4000000
set_option maxRecDepth 1000000
namespace Go.Proofs.YtigdjhnndaokjaaGreatDoor
open Go.Abs Go.RowKit
def KK (p:bu) (T:List ByteArray):KL:=na (na [] 1 p.sizes) 2 T
def Tp (p:bu) (k:Nat):List ByteArray:=(p.params.take k).map (·.1)
def Td (p:bu) (k:Nat):List ByteArray:=p.params.map (·.1)++(p.defs.take k).map (·.name)
theorem Qu (p:bu) (T:List ByteArray) (s:ByteArray):xi (KK p T) s=if s∈T then 2 else if s∈p.sizes then 1 else 0:=by
 unfold KK
 rw[uq,uq,LK]
theorem aca (p:bu) (T:List ByteArray):Kt (KK p T) (p.sizes++T):= λs=>by
 rw[Qu,zE7]
 by_cases h1:s∈T
 ·simp[h1]
 ·by_cases h2:s∈p.sizes<;>simp[h1,h2]
variable {p:bu}{T:List ByteArray}
theorem ZF (h: ∀s∈T,¬s∈p.sizes):Kc p (KK p T):= λs=>by
 rw[Qu]
 by_cases h1:s∈T
 ·have:=h s h1
  simp[h1,this]
 ·by_cases h2:s∈p.sizes<;>simp[h1,h2]
theorem XS (p:bu) (T:List ByteArray) (s:ByteArray):CC (KK p T) s 2=KK p (T++ [s]):=by
 unfold KK
 rw[Mo]
 rfl
theorem VP (p:bu):KK p (Tp p 0)=na [] 1 p.sizes:=by simp[KK,Tp,na]
theorem Rv (l:List ByteArray):Kt (na [] 1 l) l:= λs=>by
 rw[uq,LK]
 by_cases h1:s∈l<;>simp[h1]
variable {k:Nat}
theorem VI (h:k<p.params.length):Tp p (k+1)=Tp p k++ [p.params[k].1]:=by
 unfold Tp
 rw[zB5 h,zC8]
 rfl
theorem VR (h:k<p.defs.length):Td p (k+1)=Td p k++ [p.defs[k].name]:=by
 unfold Td
 rw[zB5 h,zC8,zE4]
 rfl
theorem aa6 (p:bu):Td p 0=Tp p p.params.length:=by simp[Td,Tp]
theorem Z4 (p:bu) (k:Nat):eD p k=p.sizes++Tp p k:=rfl
theorem Sn (p:bu) (k:Nat):eh p k=p.sizes++Td p k:=by unfold eh Td;rw[zE4]
variable {s:ByteArray}
theorem OB:cY p s=none↔ ¬s∈Td p p.defs.length:=by
 have h1:p.params.find? (λx=>decide (x.1=s))=none↔ ¬s∈p.params.map (·.1):=by
  rw[zK4]
  constructor
  ·intro h hm
   obtain⟨x,hx,rfl⟩:=zE0.1 hm
   exact h x hx zR6
  ·intro h x hx e
   exact h (zE0.2 ⟨x,hx,by simpa using e⟩)
 have h2:p.defs.find? (λd=>decide (d.name=s))=none↔ ¬s∈p.defs.map (·.name):=by
  rw[zK4]
  constructor
  ·intro h hm
   obtain⟨x,hx,rfl⟩:=zE0.1 hm
   exact h x hx zR6
  ·intro h x hx e
   exact h (zE0.2 ⟨x,hx,by simpa using e⟩)
 unfold Td cY
 rw[zM8,zE7]
 cases hp:p.params.find? (λx=>decide (x.1=s))with
 |some x=>
  rw[hp]at h1
  have:s∈p.params.map (·.1):=zB9.1 λh=>by cases h1.2 h
  exact⟨λh=> zT0,λh=>absurd (.inl this) h⟩
 |none=>
  have n1:=h1.1 hp
  cases hd:p.defs.find? (λd=>decide (d.name=s))with
  |some x=>
   rw[hd]at h2
   have:s∈p.defs.map (·.name):=zB9.1 λh=>by cases h2.2 h
   exact⟨λh=> zT0,λh=>absurd (.inr this) h⟩
  |none=>
   have n2:=h2.1 hd
   exact⟨λ_ h=>h.elim n1 n2,λ_=>rfl⟩
variable {taken:List ByteArray}
theorem G9 {sizes:List ByteArray} {x:gV} (h:dX sizes taken x=0):aQ taken x.1=0:=by
 unfold dX at h
 exact zB9.1 λhn=>by rw[if_pos hn]at h;exact hn h
theorem G5 {d:lH} (h:bq p k taken d=0):aQ taken d.name=0:=by
 unfold bq at h
 exact zB9.1 λhn=>by rw[if_pos hn]at h;exact hn h
theorem O1 (h:aQ (p.sizes++T) s=0) (hT: ∀x∈T,¬x∈p.sizes): ∀x∈T++ [s],¬x∈p.sizes:= λx hx hs=>by
 rcases zE7.1 hx with hx|hx
 ·exact hT x hx hs
 ·rw[zG1]at hx
  subst hx
  exact(D8 h).2 (zF5 _ hs)
abbrev mV (p:bu) (K:KL):List (Nat×bP):= [(2,X5 p 1),(1,mK K),(0,dK p)]
theorem m4 (hf:iD p) (o:m9 p):ac Tryz.prog j7 [fL p] (.tup [I (bA p).1,I (bA p).2]):=by
 refine ac.of Av zR6 λhb=>aa ?_
 have cL:=CQ p
 conv in qq=>cbv
 by_cases hc:gE p
 ·rw[zB1 (show _∧_ from hc)]at cL
  have r:=hc.1
  have t:=hc.2.1
  have u:=hc.2.2.1
  have v:=hc.2.2.2.1
  have w:=hc.2.2.2.2
  have HC:=Lib.hid hc
  clear hc
  repeat' first|simp(disch:=omega)only[go_sem, *]|apply ab<;>intro h<;>try omega|refine ak cL ?_
  clear cL
  refine al (λk:Nat=>⟨[(29,I k),(28,I p.sizes.length),(27,.c (.pure (bj p.sizes))),(4,.c (.ptr 2 0)),(1,.c (.ptr 0 0))],mV p (na [] 1 (p.sizes.take k)),3,0⟩) (λk=>k≤p.sizes.length∧ct (λj=>YD p j=0) k) (λk=>p.sizes.length-k) ⟨0, [],⟨by omega,.zero⟩,by simp[na,lA,Uf]⟩ ?_
  rintro k ⟨hk,a⟩
  refine aa ?_
  by_cases b:k<p.sizes.length
  ·have hs:=UF b
   by_cases hz:aQ (p.sizes.take k) p.sizes[k]=0
   ·have HA:=Lib.hid (a.succ (hs.trans hz))
    have hn:= λmem nx h2 h3=>fW (mem:=mem) (nx:=nx) (c:=2) (m:=1) (p:=p) h2 h3 (Rv (p.sizes.take k)) hz 1
    clear a hs
    repeat' first|simp(disch:=omega)only[go_sem, *,ae b,wrap_i64,←Fo b]|apply ab<;>intro h<;>try omega|refine bN (hn _ _ rfl rfl) ?_
    exact⟨k+1, [],⟨by omega,HA.out⟩,by omega,by simp[fy,lr]⟩
   ·rw[Aa HC.out (Ss b a hs hz) hz]
    have hn:= λmem nx h2 h3=>fq (mem:=mem) (nx:=nx) (c:=2) (m:=1) (p:=p) h2 h3 (Rv (p.sizes.take k)) hz 1
    clear a hs
    repeat' first|simp(disch:=omega)only[go_sem, *,ae b,wrap_i64,hz]|apply ab<;>intro h<;>try omega|refine bN (hn _ _ rfl rfl) ?_
  have HS:Hid (ow p=0):=RO λj hj=>a j zR5
  have i:k=p.sizes.length:=by omega
  subst i
  rw[zM8]
  clear a
  repeat clear b
  repeat clear hk
  repeat' first|simp(disch:=omega)only[go_sem, *]|apply ab<;>intro h<;>try omega
  refine al (λk:Nat=>⟨[(43,I k),(42,I p.wher.length),(41,.c (.pure (dp cP p.wher))),(4,.c (.ptr 2 0)),(1,.c (.ptr 0 0))],mV p (na [] 1 p.sizes),3,0⟩) (λk=>k≤p.wher.length∧Hid (dz ((p.wher.map λc=>bL p.sizes c.1).take k)=0)) (λk=>p.wher.length-k) ⟨0, [],⟨by omega,by show _=_;simp[dz]⟩,by simp[fy,lr]⟩ ?_
  rintro k ⟨hk,a⟩
  refine aa ?_
  by_cases b:k<p.wher.length
  ·have n:k<(p.wher.map λc=>bL p.sizes c.1).length:=by simpa using b
   have h4:=jL n a.out
   have h5:=qk n a.out
   rw[zJ2]at h4 h5
   have q:Kc p (na [] 1 p.sizes):=by rw[←VP];exact ZF (by simp[Tp])
   have cC:=lS q p.wher[k]
   clear a
   by_cases hz:bL p.sizes p.wher[k].1=0
   ·have HN:=Lib.hid (h4.trans hz)
    clear h4 h5
    repeat' first|simp(disch:=omega)only[go_sem, *,ae b,cP,wrap_i64,hz]|apply ab<;>intro h<;>try omega|refine ah cC (rW (c:=2) (m:=1) rfl rfl rfl) (.inl rfl) ?_
    exact⟨k+1, [],⟨by omega,HN⟩,by omega,by simp[fy,lr]⟩
   ·rw[zX HC.out HS.out (h5 hz) hz]
    clear h4 h5
    repeat' first|simp(disch:=omega)only[go_sem, *,ae b,cP,wrap_i64,hz]|apply ab<;>intro h<;>try omega|refine ah cC (rW (c:=2) (m:=1) rfl rfl rfl) (.inl rfl) ?_
  have hw:yB p=0:=by
   have hz:=a.out
   rw[zB6 zR8]at hz
   exact hz
  have HW:=Lib.hid hw
  clear a hw
  repeat' first|simp(disch:=omega)only[go_sem, *]|apply ab<;>intro h<;>try omega
  repeat clear b
  repeat clear hk
  refine al (λk:Nat=>⟨[(57,I k),(56,I p.params.length),(55,.c (.pure (dp ef p.params))),(11,I ((2:Int)+k)),(4,.c (.ptr 2 0)),(1,.c (.ptr 0 0))],mV p (KK p (Tp p k)),3,0⟩) (λk=>k≤p.params.length∧ct (λj=>Dg p j=0) k∧Hid (∀s∈Tp p k,¬s∈p.sizes)) (λk=>p.params.length-k) ⟨0, [],⟨by omega,.zero,by intro s hs;simp[Tp]at hs⟩,by rw[VP];simp[fy,lr]⟩ ?_
  rintro k ⟨hk,a,f⟩
  refine aa ?_
  by_cases b:k<p.params.length
  ·have hs:=QY b
   have cP:=qU (aca p (Tp p k)) (ZF f.out) (λx hx=>zF5 _ hx) p.params[k]
   rw[←Z4]at cP
   by_cases hz:dX p.sizes (eD p k) p.params[k]=0
   ·have HA:=Lib.hid (a.succ (hs.trans hz))
    have HP:Hid (∀s∈Tp p (k+1),¬s∈p.sizes):=by
     show ∀s∈Tp p (k+1),_
     rw[VI b]
     exact O1 (G9 hz) f.out
    rw[show Tj (KK p (Tp p k)) (eD p k) p.params[k].1=KK p (Tp p (k+1)) by rw[VI b,←XS];exact if_pos (G9 hz),hz]at cP
    clear a hs f hz
    repeat' first|simp(disch:=omega)only[go_sem, *,ae b,ef,wrap_i64]|apply ab<;>intro h<;>try omega|refine bN cP ?_
    exact⟨k+1, [],⟨by omega,HA.out,HP⟩,by omega,by simp[fy,lr];omega⟩
   ·rw[Cb HC.out HS.out HW.out b a hs hz]
    clear a hs f
    repeat' first|simp(disch:=omega)only[go_sem, *,ae b,ef,wrap_i64,hz]|apply ab<;>intro h<;>try omega|refine bN cP ?_
  have HP:Hid (∀j,j<p.params.length→Dg p j=0):= λj hj=>a j zR5
  have i:k=p.params.length:=by omega
  subst i
  rw[←aa6]at f ⊢
  have HT:=Lib.hid f
  clear a f
  repeat clear b
  repeat clear hk
  repeat' first|simp(disch:=omega)only[go_sem, *]|apply ab<;>intro h<;>try omega
  refine al (λk:Nat=>⟨[(74,I k),(73,I p.defs.length),(11,I ((2:Int)+p.params.length+k)),(4,.c (.ptr 2 0)),(1,.c (.ptr 0 0))],mV p (KK p (Td p k)),3,0⟩) (λk=>k≤p.defs.length∧ct (λj=>Do p j=0) k∧Hid (∀s∈Td p k,¬s∈p.sizes)) (λk=>p.defs.length-k) ⟨0, [],⟨by omega,.zero,HT.out⟩,by simp[fy,lr]⟩ ?_
  clear HT
  rintro k ⟨hk,a,f⟩
  refine aa ?_
  by_cases b:k<p.defs.length
  ·have hs:=DD b
   have cP:=uj hf o (aca p (Td p k)) (ZF f.out) (λx hx=>zF5 _ hx) b
   rw[←Sn]at cP
   by_cases hz:bq p k (eh p k) p.defs[k]=0
   ·have HA:=Lib.hid (a.succ (hs.trans hz))
    have HN:Hid (∀s∈Td p (k+1),¬s∈p.sizes):=by
     show ∀s∈Td p (k+1),_
     rw[VR b]
     have:=G5 hz
     rw[Sn]at this
     exact O1 this f.out
    rw[show Tj (KK p (Td p k)) (eh p k) p.defs[k].name=KK p (Td p (k+1)) by rw[VR b,←XS];exact if_pos (G5 hz),hz]at cP
    clear a hs f hz
    repeat' first|simp(disch:=omega)only[go_sem, *,wrap_i64]|apply ab<;>intro h<;>try omega|refine bN cP ?_
    exact⟨k+1, [],⟨by omega,HA.out,HN⟩,by omega,by simp[fy,lr];omega⟩
   ·rw[Ca HC.out HS.out HW.out HP.out b a hs hz]
    clear a hs f
    repeat' first|simp(disch:=omega)only[go_sem, *,wrap_i64,hz]|apply ab<;>intro h<;>try omega|refine bN cP ?_
  have HD:Hid (∀j,j<p.defs.length→Do p j=0):= λj hj=>a j zR5
  have i:k=p.defs.length:=by omega
  subst i
  clear a f
  repeat clear b
  repeat clear hk
  repeat' first|simp(disch:=omega)only[go_sem, *]|apply ab<;>intro h<;>try omega
  refine al (λk:Nat=>⟨[(90,I k),(89,I p.outs.length),(88,.c (.pure (bj p.outs))),(11,I ((2:Int)+p.params.length+p.defs.length+k)),(4,.c (.ptr 2 0)),(1,.c (.ptr 0 0))],mV p (KK p (Td p p.defs.length)),3,0⟩) (λk=>k≤p.outs.length∧ct (λj=>Qh p j=0) k) (λk=>p.outs.length-k) ⟨0, [],⟨by omega,.zero⟩,by simp[fy,lr]⟩ ?_
  rintro k ⟨hk,a⟩
  refine aa ?_
  by_cases b:k<p.outs.length
  ·have hs:=Rb b
   have cB:=fQ (p.outs.take k) p.outs[k]
   have hm:=vI p.outs[k] (KK p (Td p p.defs.length))
   have hg:=Qu p (Td p p.defs.length) p.outs[k]
   by_cases hn:cY p p.outs[k]=none
   ·rw[if_pos hn]at hs
    rw[pu HC.out HS.out HW.out HP.out HD.out b a hs zR9]
    have h2: ¬xi (KK p (Td p p.defs.length)) p.outs[k]=2:=by
     rw[hg,if_neg (OB.1 hn)]
     split<;>decide
    clear a hs hn hg
    cases hL:lh (KK p (Td p p.defs.length)) p.outs[k]with
    |none=>
     rw[hL]at hm
     clear hL h2
     repeat' first|simp(disch:=omega)only[go_sem, *,ae b,wrap_i64,hm,zG9]|apply ab<;>intro h<;>try omega
    |some j=>
     rw[kj hL]at h2
     rw[hL]at hm
     clear hL
     repeat' first|simp(disch:=omega)only[go_sem, *,ae b,wrap_i64,hm,zE1,h2]|apply ab<;>intro h<;>try omega
   ·rw[if_neg hn]at hs
    have h2:xi (KK p (Td p p.defs.length)) p.outs[k]=2:=by
     rw[hg,if_pos (zB9.1 λh=>hn (OB.2 h))]
    cases hL:lh (KK p (Td p p.defs.length)) p.outs[k]with
    |none=>rw[qM hL]at h2;exact absurd h2 zR9
    |some j=>
     rw[kj hL]at h2
     rw[hL,h2]at hm
     clear hL h2 hn hg
     by_cases g:p.outs[k]∈p.outs.take k
     ·rw[if_pos g]at hs
      rw[pu HC.out HS.out HW.out HP.out HD.out b a hs zR9]
      clear a hs
      repeat' first|simp(disch:=omega)only[go_sem, *,ae b,wrap_i64,hm,zE1,←zF9,zY,zD3,zA8,g,decide_true]|apply ab<;>intro h<;>try omega|refine ak cB ?_
     ·rw[if_neg g]at hs
      have HA:=Lib.hid (a.succ hs)
      clear a hs
      repeat' first|simp(disch:=omega)only[go_sem, *,ae b,wrap_i64,hm,zE1,←zF9,zY,zD3,zA8,g,decide_false]|apply ab<;>intro h<;>try omega|refine ak cB ?_
      exact⟨k+1, [],⟨by omega,HA.out⟩,by omega,by simp[fy,lr];omega⟩
  ·rw[Pa HC.out HS.out HW.out HP.out HD.out λj hj=>a j zR5]
   clear a
   exact zW0
 ·rw[zA9 (show ¬(_∧_)from hc)]at cL
  rw[vg hc]
  repeat' first|simp(disch:=omega)only[go_sem, *]|apply ab<;>intro h<;>try omega|refine ak cL ?_
end Go.Proofs.YtigdjhnndaokjaaGreatDoor
