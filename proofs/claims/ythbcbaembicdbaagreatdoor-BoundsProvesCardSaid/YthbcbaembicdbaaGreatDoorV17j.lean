import Derived.Test.YthbcbaembicdbaaGreatDoorV17i
set_option linter.unusedVariables false
set_option linter.unusedSimpArgs false
set_option maxHeartbeats 4000000
set_option maxRecDepth 1000000
namespace Go.Proofs.YthbcbaembicdbaaGreatDoor
open Go.Abs Go.RowKit
def Kc (p:bI) (K:KL):Prop:= ∀s,tG K s=1↔s∈p.sizes
theorem e7 {p:bI} {K:KL} (hK:Kc p K) (l:bY):ac Tryz.prog jk [QR p K,dm l.1 l.2] (I (bE p.sizes l)):=by
 refine ac.of pZ (by simp) λhb=>aa ?_
 have hl:=wN hb.2.1
 unfold bE
 conv in jb=>cbv
 by_cases n:bi l.2
 ·rw[if_neg (not_not_intro n)]
  have cV:=cE l.1 l.2
  rw[if_pos n]at cV
  clear n
  repeat' first|simp(disch:=omega)only[go_sem, *]|(with_reducible apply ab)<;>intro h<;>try omega|refine aF cV rfl rfl ?_
  refine an (λk:Nat=>⟨[(13,I k),(12,I l.2.length),(11,.c (.pure (aw l.2))),(0,QR p K)], [],0,0⟩) (λk=>k≤l.2.length∧el (λi=> ∀h:i<l.2.length,l.2[i].1∈p.sizes) k) (λk=>l.2.length-k) ⟨0, [],⟨by omega,.zero⟩,by simp⟩ ?_
  clear cV
  rintro k ⟨hk,b⟩
  refine aa ?_
  by_cases g:k<l.2.length
  ·have hm:=sN l.2[k].1 K
   rw[←FM]at hm
   have f:=hK l.2[k].1
   have y: ¬l.2[k].1∈p.sizes→ ¬fq [] p.sizes l:=λh h2=>h ((h2 _ (List.getElem_mem g)).resolve_left (by simp))
   cases hL:jK K l.2[k].1 with
   |none=>
    rw[hL]at hm
    rw[oF hL]at f
    rw[if_pos (y λh=>absurd (f.2 h) (by decide))]
    clear hL f b y
    repeat' first|simp(disch:=omega)only[go_sem, *,ah g,mP,wrap_i64,hm,Option.map_none]|(with_reducible apply ab)<;>intro h<;>try omega
   |some j=>
    rw[hL]at hm
    rw[ja hL]at f
    clear hL
    by_cases hj:j=1
    ·have HA:=Lib.hid (b.succ λ_=>f.1 hj)
     clear f b y
     repeat' first|simp(disch:=omega)only[go_sem, *,ah g,mP,wrap_i64,hm,Option.map_some,hj]|(with_reducible apply ab)<;>intro h<;>try omega
     exact⟨k+1, [],⟨by omega,HA.out⟩,by omega,by simp⟩
    ·rw[if_pos (y λh=>hj (f.2 h))]
     clear f b y
     repeat' first|simp(disch:=omega)only[go_sem, *,ah g,mP,wrap_i64,hm,Option.map_some,hj]|(with_reducible apply ab)<;>intro h<;>try omega
  ·have f:fq [] p.sizes l:=λm hm=>by
    obtain⟨i,hi,rfl⟩:=List.mem_iff_getElem.1 hm
    exact .inr (b i (by omega) hi)
   rw[if_neg (not_not_intro f)]
   clear b f
   repeat' first|simp(disch:=omega)only[go_sem, *]|(with_reducible apply ab)<;>intro h<;>try omega
 ·rw[if_pos n]
  have cV:=cE l.1 l.2
  rw[if_neg n]at cV
  clear n
  repeat' first|simp(disch:=omega)only[go_sem, *]|(with_reducible apply ab)<;>intro h<;>try omega|refine aF cV rfl rfl ?_
theorem kL {p:bI} {K:KL} (hK:Kc p K) (c:bt):ac Tryz.prog gh [QR p K,jM c] (I (bE p.sizes c.1)):=by
 refine ac.of lL (by simp) λhb=>aa ?_
 have cV:=b8 c
 have cS:=e7 hK c.1
 conv in f7=>cbv
 by_cases n:bi c.1.2
 ·rw[if_pos n]at cV
  clear n
  generalize bE p.sizes c.1=r at*
  repeat' first|simp(disch:=omega)only[go_sem, *]|(with_reducible apply ab)<;>intro h<;>try omega|refine aF cV rfl rfl ?_|refine aF cS rfl rfl ?_
 ·rw[if_neg n]at cV
  rw[show bE p.sizes c.1=1 from if_pos n]
  clear n
  repeat' first|simp(disch:=omega)only[go_sem, *]|(with_reducible apply ab)<;>intro h<;>try omega|refine aF cV rfl rfl ?_
def vw (o:List ByteArray):List (MK×List AC):=o.map λa=>(MK.str a.data.toList, [.pure (pB true)])
theorem R5 (s:ByteArray): ∀o:List ByteArray,iD (vw o) (.str s.data.toList)=if s∈o then some [.pure (pB true)]else none
 | []=>rfl
 |a::r=>by
  have ih:=R5 s r
  simp only[vw,List.map_cons,iD]at ih ⊢
  by_cases h:a=s
  ·rw[if_pos (zc.2 h),if_pos (by rw[h];exact List.mem_cons_self)]
  ·rw[if_neg (λe=>h (zc.1 e)),ih]
   by_cases h2:s∈r
   ·rw[if_pos h2,if_pos (List.mem_cons_of_mem _ h2)]
   ·rw[if_neg h2,if_neg]
    intro hm
    rcases List.mem_cons.1 hm with rfl|hm
    ·exact h rfl
    ·exact h2 hm
theorem UR (s:ByteArray): ∀o:List ByteArray,¬s∈o→Ct (vw o) (.str s.data.toList) [.pure (pB true)]=vw (o++ [s])
 | [],_=>rfl
 |a::r,h=>by
  have ih:=UR s r λhm=>h (List.mem_cons_of_mem _ hm)
  simp only[vw,List.map_cons,Ct,List.cons_append]at ih ⊢
  rw[if_neg (λe=>h (by rw[←zc.1 e];exact List.mem_cons_self)),ih]
theorem Uu (rl:List (Nat×Nat)): ∀o:List ByteArray,List.map (λx:MK×List AC=>(x.1,List.map (dB rl) x.2)) (vw o)=vw o
 | []=>rfl
 |x::r=>by
  have ih:=Uu rl r
  simp only[vw,List.map_cons]at ih ⊢
  rw[ih]
  rfl
theorem aay (N:Nat): ∀o:List ByteArray,TH N (vw o)
 | []=>trivial
 |x::r=>⟨⟨trivial,trivial⟩,aay N r⟩
theorem Qe {taken:List ByteArray} {s:ByteArray} (h: ¬gc s):aS taken s=7:=if_pos h
theorem Gj {taken:List ByteArray} {s:ByteArray} (h:gc s) (h2:s∈taken):aS taken s=8:=by unfold aS;rw[if_neg (not_not_intro h),if_pos h2]
theorem PW {taken:List ByteArray} {s:ByteArray} (h:gc s) (h2: ¬s∈taken):aS taken s=0:=by unfold aS;rw[if_neg (not_not_intro h),if_neg h2]
theorem qc {p:bI} {K:KL} (hK:Kc p K) (d:zB) (A:d.dims.length≤1000) (C:d.red.length≤1000):ac Tryz.prog jD [QR p K,Oq d] (I (bB p.sizes p.sizes (d.dims++d.red))):=by
 refine ac.of qY (by simp) λhb=>aa ?_
 have cC:=H9 d.dims d.red A C
 have E:(d.dims++d.red).length≤2000:=by simp;omega
 conv in jN=>cbv
 generalize d.dims++d.red=L at*
 repeat' first|simp(disch:=omega)only[go_sem, *]|(with_reducible apply ab)<;>intro h<;>try omega|refine cg cC rfl rfl ?_
 refine an (λk:Nat=>⟨[(17,I k),(16,I L.length),(15,j5 fl L),(5,.c (.mref 1)),(0,QR p K)], [(1,.map .str none (vw ((L.take k).map (·.1)))),(0,Uc d)],2,0⟩) (λk=>k≤L.length∧Hid (bB p.sizes p.sizes (L.take k)=0)) (λk=>L.length-k) ⟨0, [],⟨by omega,by show _=_;simp[bB]⟩,by simp[vw,PO]⟩ ?_
 clear cC A C
 rintro k ⟨hk,b⟩
 refine aa ?_
 by_cases g:k<L.length
 ·have t:=λh1=>vz (sizes:=p.sizes) g b.out h1
  have v:=λh1 h2=>vX (sizes:=p.sizes) g b.out h1 h2
  have w:=λh1 h2=>Lib.hid (tY (sizes:=p.sizes) g b.out h1 h2)
  have cS:=e7 hK L[k].2
  have f:=hK L[k].1
  have hm:=sN L[k].1 K
  rw[←FM]at hm
  have u:=R5 L[k].1 ((L.take k).map (·.1))
  have q:=UR L[k].1 ((L.take k).map (·.1))
  have D:(L.take (k+1)).map (·.1)=(L.take k).map (·.1)++ [L[k].1]:=by rw[List.take_succ_eq_append_getElem g,List.map_append];rfl
  rw[←D]at q
  clear b D
  by_cases hi:gc L[k].1
  ·by_cases ho:L[k].1∈(L.take k).map (·.1)
   ·rw[if_pos ho]at u
    have hE:=Gj (taken:=p.sizes++(L.take k).map (·.1)) hi (List.mem_append_right _ ho)
    rw[t (by rw[hE];decide),hE]
    clear t v w q f hm ho hE
    repeat' first|simp(disch:=omega)only[go_sem, *,ah g,fl,wrap_i64,hi,decide_true,u]|(with_reducible apply ab)<;>intro h<;>try omega|refine aF (bH _) rfl rfl ?_
   ·rw[if_neg ho]at u
    have q:=q ho
    by_cases hs:L[k].1∈p.sizes
    ·have hE:=Gj (taken:=p.sizes++(L.take k).map (·.1)) hi (List.mem_append_left _ hs)
     have hg:=f.2 hs
     rw[t (by rw[hE];decide),hE]
     cases hL:jK K L[k].1 with
     |none=>
      rw[oF hL]at hg
      exact absurd hg (by decide)
     |some j=>
      rw[ja hL]at hg
      rw[hL,hg]at hm
      clear t v w q f ho hE hs hL hg
      repeat' first|simp(disch:=omega)only[go_sem, *,ah g,fl,wrap_i64,hi,decide_true,u,hm,Option.map_some]|(with_reducible apply ab)<;>intro h<;>try omega|refine aF (bH _) rfl rfl ?_
    ·have hE:aS (p.sizes++(L.take k).map (·.1)) L[k].1=0:=PW hi λh=>(List.mem_append.1 h).elim hs ho
     have hg: ¬tG K L[k].1=1:=λh=>hs (f.1 h)
     have z:(iD (qi (Ht K)) (.str L[k].1.data.toList)=none)∨ ∃j,iD (qi (Ht K)) (.str L[k].1.data.toList)=some [.pure (pI j)]∧ ¬j=1:=by
      rw[hm]
      cases hL:jK K L[k].1 with
      |none=>exact .inl rfl
      |some j=>exact .inr ⟨j,rfl,λh=>hg ((ja hL).trans h)⟩
     by_cases h2:bE p.sizes L[k].2=0
     ·have HN:=w hE h2
      rw[h2]at cS
      clear t v w f ho hE hs hm hg h2
      rcases z with hm|⟨j,hm,hj⟩
      ·repeat' first|simp(disch:=omega)only[go_sem, *,ah g,fl,wrap_i64,hi,decide_true,u,hm,q]|(with_reducible apply ab)<;>intro h<;>try omega|refine aF (bH _) rfl rfl ?_|refine aF cS rfl rfl ?_
       exact⟨k+1, [],⟨by omega,HN⟩,by omega,by simp[Uu,aay]⟩
      ·repeat' first|simp(disch:=omega)only[go_sem, *,ah g,fl,wrap_i64,hi,decide_true,u,hm,q,hj]|(with_reducible apply ab)<;>intro h<;>try omega|refine aF (bH _) rfl rfl ?_|refine aF cS rfl rfl ?_
       exact⟨k+1, [],⟨by omega,HN⟩,by omega,by simp[Uu,aay]⟩
     ·rw[v hE h2]
      clear t v w f ho hE hs hm hg
      rcases z with hm|⟨j,hm,hj⟩
      ·repeat' first|simp(disch:=omega)only[go_sem, *,ah g,fl,wrap_i64,hi,decide_true,u,hm,q,h2]|(with_reducible apply ab)<;>intro h<;>try omega|refine aF (bH _) rfl rfl ?_|refine aF cS rfl rfl ?_
      ·repeat' first|simp(disch:=omega)only[go_sem, *,ah g,fl,wrap_i64,hi,decide_true,u,hm,q,hj,h2]|(with_reducible apply ab)<;>intro h<;>try omega|refine aF (bH _) rfl rfl ?_|refine aF cS rfl rfl ?_
  ·have hE:=Qe (taken:=p.sizes++(L.take k).map (·.1)) hi
   rw[t (by rw[hE];decide),hE]
   clear t v w q f hm hE
   repeat' first|simp(disch:=omega)only[go_sem, *,ah g,fl,wrap_i64,hi,decide_false]|(with_reducible apply ab)<;>intro h<;>try omega|refine aF (bH _) rfl rfl ?_
 ·have hz:=b.out
  rw[List.take_of_length_le (by omega)]at hz
  rw[hz]
  clear hz b
  repeat' first|simp(disch:=omega)only[go_sem, *]|(with_reducible apply ab)<;>intro h<;>try omega
end Go.Proofs.YthbcbaembicdbaaGreatDoor
