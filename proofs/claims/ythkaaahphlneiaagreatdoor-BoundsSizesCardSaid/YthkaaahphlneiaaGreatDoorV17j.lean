import Derived.Test.YthkaaahphlneiaaGreatDoorV17i
import Derived.Test.YthkaaahphlneiaaGreatDoorV17e
import Derived.Test.YthkaaahphlneiaaGreatDoorVGrow
set_option linter.unusedVariables false
set_option linter.unusedSimpArgs false
set_option maxRecDepth 20000
namespace Go.Proofs.YthkaaahphlneiaaGreatDoor
open Go.Abs Go.RowKit
def Kc (p:bK) (K:KL):Prop:= ∀s,sO K s=1↔s∈p.sizes
theorem eH {p:bK} {K:KL} (hK:Kc p K) (l:ca):ac Tryz.prog iQ [M4 p K,dj l.1 l.2] (I (bq p.sizes l)):=by
 refine ac.of oX (by simp) fun hb=>aa ?_
 have hl:=nY hb.2.1
 unfold bq
 simp only[ja]
 by_cases hok:cd l.2
 ·rw[if_neg (not_not_intro hok)]
  have cV:=bD l.1 l.2
  rw[if_pos hok]at cV
  clear hok
  repeat' first|simp(disch:=omega) only[go_sem, *]|((with_reducible refine ab ?_ ?_)<;>intro h<;>try omega)|(refine av cV rfl rfl ?_)
  refine aj (fun k:Nat=>⟨[(13,I k),(12,I l.2.length),(11,.c (.pure (aE l.2))),(0,M4 p K)], [],0,0⟩) (fun k=>k≤l.2.length∧dW (fun i=> ∀h:i<l.2.length,l.2[i].1∈p.sizes) k) (fun k=>l.2.length-k) ⟨0, [],⟨by omega,.zero⟩,by simp⟩ ?_
  clear cV
  rintro k ⟨hk,hall⟩
  refine aa ?_
  by_cases hlt:k<l.2.length
  ·have hm:=qX l.2[k].1 K
   rw[←DV]at hm
   have hkn:=hK l.2[k].1
   have hno: ¬l.2[k].1∈p.sizes→ ¬eU [] p.sizes l:=fun h h2=>h ((h2 _ (List.getElem_mem hlt)).resolve_left (by simp))
   cases hL:jl K l.2[k].1 with
   |none=>
    rw[hL]at hm
    rw[no hL]at hkn
    rw[if_pos (hno fun h=>absurd (hkn.2 h) (by decide))]
    clear hL hkn hall hno
    repeat' first|simp(disch:=omega) only[go_sem, *,ae hlt,mP,wrap_i64,hm,Option.map_none]|((with_reducible refine ab ?_ ?_)<;>intro h<;>try omega)
   |some j=>
    rw[hL]at hm
    rw[i9 hL]at hkn
    clear hL
    by_cases hj:j=1
    ·have HA:=Lib.hid (hall.succ fun _=>hkn.1 hj)
     clear hkn hall hno
     repeat' first|simp(disch:=omega) only[go_sem, *,ae hlt,mP,wrap_i64,hm,Option.map_some,hj]|((with_reducible refine ab ?_ ?_)<;>intro h<;>try omega)
     exact⟨k+1, [],⟨by omega,HA.out⟩,by omega,by simp⟩
    ·rw[if_pos (hno fun h=>hj (hkn.2 h))]
     clear hkn hall hno
     repeat' first|simp(disch:=omega) only[go_sem, *,ae hlt,mP,wrap_i64,hm,Option.map_some,hj]|((with_reducible refine ab ?_ ?_)<;>intro h<;>try omega)
  ·have hkn:eU [] p.sizes l:=fun m hm=>by
    obtain⟨i,hi,rfl⟩:=List.mem_iff_getElem.1 hm
    exact .inr (hall i (by omega) hi)
   rw[if_neg (not_not_intro hkn)]
   clear hall hkn
   repeat' first|simp(disch:=omega) only[go_sem, *]|((with_reducible refine ab ?_ ?_)<;>intro h<;>try omega)
 ·rw[if_pos hok]
  have cV:=bD l.1 l.2
  rw[if_neg hok]at cV
  clear hok
  repeat' first|simp(disch:=omega) only[go_sem, *]|((with_reducible refine ab ?_ ?_)<;>intro h<;>try omega)|(refine av cV rfl rfl ?_)
theorem j7 {p:bK} {K:KL} (hK:Kc p K) (c:gf):ac Tryz.prog fJ [M4 p K,nI c] (I (bq p.sizes c.1)):=by
 refine ac.of kY (by simp) fun hb=>aa ?_
 have cV:=ff c
 have cS:=eH hK c.1
 simp only[fH]
 by_cases hok:cd c.1.2
 ·rw[if_pos hok]at cV
  clear hok
  generalize bq p.sizes c.1=r at*
  repeat' first|simp(disch:=omega) only[go_sem, *]|((with_reducible refine ab ?_ ?_)<;>intro h<;>try omega)|(refine av cV rfl rfl ?_)|(refine av cS rfl rfl ?_)
 ·rw[if_neg hok]at cV
  rw[show bq p.sizes c.1=1 from if_pos hok]
  clear hok
  repeat' first|simp(disch:=omega) only[go_sem, *]|((with_reducible refine ab ?_ ?_)<;>intro h<;>try omega)|(refine av cV rfl rfl ?_)
def uR (o:List ByteArray):List (MK×List AC):=o.map fun a=>(MK.str a.data.toList, [.pure (pB true)])
theorem N4 (s:ByteArray): ∀o:List ByteArray,ij (uR o) (.str s.data.toList)=if s∈o then some [.pure (pB true)]else none
 | []=>rfl
 |a::r=>by
  have ih:=N4 s r
  simp only[uR,List.map_cons,ij]at ih ⊢
  by_cases h:a=s
  ·rw[if_pos (xG.2 h),if_pos (by rw[h];exact List.mem_cons_self)]
  ·rw[if_neg (fun e=>h (xG.1 e)),ih]
   by_cases h2:s∈r
   ·rw[if_pos h2,if_pos (List.mem_cons_of_mem _ h2)]
   ·rw[if_neg h2,if_neg]
    intro hm
    rcases List.mem_cons.1 hm with rfl|hm
    ·exact h rfl
    ·exact h2 hm
theorem Ry (s:ByteArray): ∀o:List ByteArray,¬s∈o→zX (uR o) (.str s.data.toList) [.pure (pB true)]=uR (o++ [s])
 | [],_=>rfl
 |a::r,h=>by
  have ih:=Ry s r fun hm=>h (List.mem_cons_of_mem _ hm)
  simp only[uR,List.map_cons,zX,List.cons_append]at ih ⊢
  rw[if_neg (fun e=>h (by rw[←xG.1 e];exact List.mem_cons_self)),ih]
theorem RB (rl:List (Nat×Nat)): ∀o:List ByteArray,List.map (fun x:MK×List AC=>(x.1,List.map (b8 rl) x.2)) (uR o)=uR o
 | []=>rfl
 |x::r=>by
  have ih:=RB rl r
  simp only[uR,List.map_cons]at ih ⊢
  rw[ih]
  rfl
theorem WM (N:Nat): ∀o:List ByteArray,Pa N (uR o)
 | []=>trivial
 |x::r=>⟨⟨trivial,trivial⟩,WM N r⟩
theorem MJ {taken:List ByteArray} {s:ByteArray} (h: ¬fp s):aO taken s=7:=if_pos h
theorem EO {taken:List ByteArray} {s:ByteArray} (h:fp s) (h2:s∈taken):aO taken s=8:=by unfold aO;rw[if_neg (not_not_intro h),if_pos h2]
theorem Mx {taken:List ByteArray} {s:ByteArray} (h:fp s) (h2: ¬s∈taken):aO taken s=0:=by unfold aO;rw[if_neg (not_not_intro h),if_neg h2]
set_option maxHeartbeats 1000000 in
theorem oP {p:bK} {K:KL} (hK:Kc p K) (d:zH) (hd1:d.dims.length≤1000) (hd2:d.red.length≤1000):ac Tryz.prog jh [M4 p K,JI d] (I (bk p.sizes p.sizes (d.dims++d.red))):=by
 refine ac.of py (by simp) fun hb=>aa ?_
 have cC:=FH d.dims d.red hd1 hd2
 have hlL:(d.dims++d.red).length≤2000:=by simp;omega
 simp only[jG]
 generalize d.dims++d.red=L at*
 repeat' first|simp(disch:=omega) only[go_sem, *]|((with_reducible refine ab ?_ ?_)<;>intro h<;>try omega)|(refine bS cC rfl rfl ?_)
 refine aj (fun k:Nat=>⟨[(17,I k),(16,I L.length),(15,d8 ed L),(5,.c (.mref 1)),(0,M4 p K)], [(1,.map .str none (uR ((L.take k).map (·.1)))),(0,J4 d)],2,0⟩) (fun k=>k≤L.length∧Hid (bk p.sizes p.sizes (L.take k)=0)) (fun k=>L.length-k) ⟨0, [],⟨by omega,by show _=_;simp[bk]⟩,by simp[uR,M0]⟩ ?_
 clear cC hd1 hd2
 rintro k ⟨hk,hall⟩
 refine aa ?_
 by_cases hlt:k<L.length
 ·have hn1:=fun h1=>uO (sizes:=p.sizes) hlt hall.out h1
  have hn2:=fun h1 h2=>u4 (sizes:=p.sizes) hlt hall.out h1 h2
  have hn3:=fun h1 h2=>Lib.hid (uq (sizes:=p.sizes) hlt hall.out h1 h2)
  have cS:=eH hK L[k].2
  have hkn:=hK L[k].1
  have hm:=qX L[k].1 K
  rw[←DV]at hm
  have hmo:=N4 L[k].1 ((L.take k).map (·.1))
  have hso:=Ry L[k].1 ((L.take k).map (·.1))
  have htk:(L.take (k+1)).map (·.1)=(L.take k).map (·.1)++ [L[k].1]:=by rw[List.take_succ_eq_append_getElem hlt,List.map_append];rfl
  rw[←htk]at hso
  clear hall htk
  by_cases hi:fp L[k].1
  ·by_cases ho:L[k].1∈(L.take k).map (·.1)
   ·rw[if_pos ho]at hmo
    have hE:=EO (taken:=p.sizes++(L.take k).map (·.1)) hi (List.mem_append_right _ ho)
    rw[hn1 (by rw[hE];decide),hE]
    clear hn1 hn2 hn3 hso hkn hm ho hE
    repeat' first|simp(disch:=omega) only[go_sem, *,ae hlt,ed,wrap_i64,hi,decide_true,hmo]|((with_reducible refine ab ?_ ?_)<;>intro h<;>try omega)|(refine av (br _) rfl rfl ?_)
   ·rw[if_neg ho]at hmo
    have hso:=hso ho
    by_cases hs:L[k].1∈p.sizes
    ·have hE:=EO (taken:=p.sizes++(L.take k).map (·.1)) hi (List.mem_append_left _ hs)
     have hg:=hkn.2 hs
     rw[hn1 (by rw[hE];decide),hE]
     cases hL:jl K L[k].1 with
     |none=>
      rw[no hL]at hg
      exact absurd hg (by decide)
     |some j=>
      rw[i9 hL]at hg
      rw[hL,hg]at hm
      clear hn1 hn2 hn3 hso hkn ho hE hs hL hg
      repeat' first|simp(disch:=omega) only[go_sem, *,ae hlt,ed,wrap_i64,hi,decide_true,hmo,hm,Option.map_some]|((with_reducible refine ab ?_ ?_)<;>intro h<;>try omega)|(refine av (br _) rfl rfl ?_)
    ·have hE:aO (p.sizes++(L.take k).map (·.1)) L[k].1=0:=Mx hi fun h=>(List.mem_append.1 h).elim hs ho
     have hg: ¬sO K L[k].1=1:=fun h=>hs (hkn.1 h)
     have hcase:(ij (oT (EK K)) (.str L[k].1.data.toList)=none)∨ ∃j,ij (oT (EK K)) (.str L[k].1.data.toList)=some [.pure (pI j)]∧ ¬j=1:=by
      rw[hm]
      cases hL:jl K L[k].1 with
      |none=>exact .inl rfl
      |some j=>exact .inr ⟨j,rfl,fun h=>hg ((i9 hL).trans h)⟩
     by_cases h2:bq p.sizes L[k].2=0
     ·have HN:=hn3 hE h2
      rw[h2]at cS
      clear hn1 hn2 hn3 hkn ho hE hs hm hg h2
      rcases hcase with hm|⟨j,hm,hj⟩
      ·repeat' first|simp(disch:=omega) only[go_sem, *,ae hlt,ed,wrap_i64,hi,decide_true,hmo,hm,hso]|((with_reducible refine ab ?_ ?_)<;>intro h<;>try omega)|(refine av (br _) rfl rfl ?_)|(refine av cS rfl rfl ?_)
       exact⟨k+1, [],⟨by omega,HN⟩,by omega,by simp[RB,WM]⟩
      ·repeat' first|simp(disch:=omega) only[go_sem, *,ae hlt,ed,wrap_i64,hi,decide_true,hmo,hm,hso,hj]|((with_reducible refine ab ?_ ?_)<;>intro h<;>try omega)|(refine av (br _) rfl rfl ?_)|(refine av cS rfl rfl ?_)
       exact⟨k+1, [],⟨by omega,HN⟩,by omega,by simp[RB,WM]⟩
     ·rw[hn2 hE h2]
      clear hn1 hn2 hn3 hkn ho hE hs hm hg
      rcases hcase with hm|⟨j,hm,hj⟩
      ·repeat' first|simp(disch:=omega) only[go_sem, *,ae hlt,ed,wrap_i64,hi,decide_true,hmo,hm,hso,h2]|((with_reducible refine ab ?_ ?_)<;>intro h<;>try omega)|(refine av (br _) rfl rfl ?_)|(refine av cS rfl rfl ?_)
      ·repeat' first|simp(disch:=omega) only[go_sem, *,ae hlt,ed,wrap_i64,hi,decide_true,hmo,hm,hso,hj,h2]|((with_reducible refine ab ?_ ?_)<;>intro h<;>try omega)|(refine av (br _) rfl rfl ?_)|(refine av cS rfl rfl ?_)
  ·have hE:=MJ (taken:=p.sizes++(L.take k).map (·.1)) hi
   rw[hn1 (by rw[hE];decide),hE]
   clear hn1 hn2 hn3 hso hkn hm hE
   repeat' first|simp(disch:=omega) only[go_sem, *,ae hlt,ed,wrap_i64,hi,decide_false]|((with_reducible refine ab ?_ ?_)<;>intro h<;>try omega)|(refine av (br _) rfl rfl ?_)
 ·have hz:=hall.out
  rw[List.take_of_length_le (by omega)]at hz
  rw[hz]
  clear hz hall
  repeat' first|simp(disch:=omega) only[go_sem, *]|((with_reducible refine ab ?_ ?_)<;>intro h<;>try omega)
end Go.Proofs.YthkaaahphlneiaaGreatDoor
