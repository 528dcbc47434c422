import Derived.Test.YtjhkikmonejkjaaGreatDoorV54z
set_option linter.unusedVariables false
set_option linter.unusedSimpArgs false
set_option maxRecDepth 20000
open Go.Proofs.Tryz renaming prog→Ya
namespace Go.Proofs.YtjhkikmonejkjaaGreatDoor
open Go.Abs Go.RowKit
theorem zA {x:Ix} (h: ¬(x.2.1=mC∧x.1.1=0∧x.1.2.length=1)):mc x=mC:=by
 unfold mc
 split
 ·rename_i h1
  split
  ·rename_i m hm
   exact absurd ⟨h1.1,h1.2,by rw[hm];rfl⟩ h
  ·rfl
 ·rfl
theorem qu (x:Ix):af Ya ut [Um x] (S (mc x)):=by
 refine af.of B9 (by simp) λhb=>aa ?_
 simp only[uP]
 clear hb
 obtain⟨⟨K,l⟩,f,ats⟩:=x
 by_cases h1:f=mC
 ·by_cases h2:K=0
  ·by_cases h3:l.length=1
   ·obtain⟨⟨t,b⟩,rfl⟩: ∃m,l= [m]:=by match l,h3 with| [m],_=>exact⟨m,rfl⟩
    rw[mc,if_pos ⟨h1,h2⟩]
    simp only
    by_cases h5:b=1
    ·subst h1 h2 h5
     repeat' first|simp(disch:=omega)only[go_sem,mP,Int.toNat_zero,aj,decide_true]|((with_reducible refine ab ?_ ?_)<;>intro h<;>try first|omega|simp(disch:=omega)only[go_sem, *,mP,Int.toNat_zero,aj,decide_true])
     all_goals rfl
    ·rw[if_neg h5]
     subst h1 h2
     repeat' first|simp(disch:=omega)only[go_sem,mP,Int.toNat_zero,aj,decide_true,h5]|((with_reducible refine ab ?_ ?_)<;>intro h<;>try first|omega|simp(disch:=omega)only[go_sem, *,mP,Int.toNat_zero,aj,decide_true,h5])
     all_goals rfl
   ·have o: ¬(l.length:Int)=1:=by omega
    rw[zA λh=>h3 h.2.2]
    subst h1 h2
    clear h3
    repeat' first|simp(disch:=omega)only[go_sem,aj,decide_true,o]|((with_reducible refine ab ?_ ?_)<;>intro h<;>try first|omega|simp(disch:=omega)only[go_sem, *,aj,decide_true,o])
    all_goals rfl
  ·rw[zA λh=>h2 h.2.1]
   subst h1
   repeat' first|simp(disch:=omega)only[go_sem,aj,decide_true,h2]|((with_reducible refine ab ?_ ?_)<;>intro h<;>try first|omega|simp(disch:=omega)only[go_sem, *,aj,decide_true,h2])
   all_goals rfl
 ·rw[zA λh=>h1 h.1]
  repeat' first|simp(disch:=omega)only[go_sem,aj,decide_false,h1]|((with_reducible refine ab ?_ ?_)<;>intro h<;>try first|omega|simp(disch:=omega)only[go_sem, *,aj,decide_false,h1])
  all_goals rfl
theorem mD (x:Ix) (s:ByteArray):af Ya cd [Um x,.c (.cptr [pS s])] (Go.Abs.B (ni (x.2.1=s))):=by
 refine af.of nD (by simp) λhb=>aa ?_
 simp only[io]
 repeat' first|simp(disch:=omega)only[go_sem,aj]|((with_reducible refine ab ?_ ?_)<;>intro h<;>try first|omega|simp(disch:=omega)only[go_sem, *,aj])
 rw[Lc]
theorem Fh (s:ByteArray) (xs:List Ix):af Ya bM [bZ dN xs,.c (.clo cd [.cptr [pS s]])] (I (iY (λx=>x.2.1=s) xs)):=by
 refine af.of df (by simp) λhb=>aa ?_
 have hl:=iQ hb
 simp only[bN]
 repeat' first|simp(disch:=omega)only[go_sem]|((with_reducible refine ab ?_ ?_)<;>intro h<;>try first|omega|simp(disch:=omega)only[go_sem, *])
 refine ai (λk:Nat=>⟨[(0,bZ dN xs),(1,.c (.clo cd [.cptr [pS s]])),(7,I xs.length),(8,I k)], [],0,0⟩) (λk=>k≤xs.length∧bI (λj=> ∀h:j<xs.length,¬xs[j].2.1=s) k) (λk=>xs.length-k) ⟨0, [],⟨by omega,.zero⟩,by simp⟩ ?_
 rintro k ⟨hk,q⟩
 refine aa ?_
 by_cases i:k<xs.length
 ·have HN:=Lib.hid λh=>lv (p:= λx:Ix=>x.2.1=s) i h λj hj=>q j hj (by omega)
  have HA:=Lib.hid q
  clear q
  repeat' first|simp(disch:=omega)only[go_sem,ac i,dN,wrap_i64]|((with_reducible refine ab ?_ ?_)<;>intro h<;>try first|omega|simp(disch:=omega)only[go_sem, *,ac i,dN,wrap_i64])|refine ae (mD _ s) rfl (.inl rfl) ?_
  ·rw[HN.out h]
  ·exact⟨k+1, [],⟨by omega,HA.out.succ λ_=>h⟩,by omega,by simp⟩
 ·have HN:=Lib.hid (gK (p:= λx:Ix=>x.2.1=s) λj hj=>q j (by omega) hj)
  clear q
  repeat' first|simp(disch:=omega)only[go_sem]|((with_reducible refine ab ?_ ?_)<;>intro h<;>try first|omega|simp(disch:=omega)only[go_sem, *])
  rw[HN.out]
theorem z7 (s:ByteArray) (xs:List Ix):af Ya bD [bZ dN xs,.c (.clo cd [.cptr [pS s]])] (Go.Abs.B (ni (∃x∈xs,x.2.1=s))):=by
 refine af.of cr (by simp) λhb=>aa ?_
 simp only[bE]
 repeat' first|simp(disch:=omega)only[go_sem]|((with_reducible refine ab ?_ ?_)<;>intro h<;>try first|omega|simp(disch:=omega)only[go_sem, *])|refine ae (Fh s xs) rfl (.inl rfl) ?_
 exact BC (by rw[decide_eq_true_iff];exact yf)
def Sl (u:ByteArray) (x:Int) (v:V3):Prop:=v.1=u∧v.2.2=x
theorem mF (v:V3) (u:ByteArray) (x:Int):af Ya cf [.agg [.pure (pS v.1),.pure (pI v.2.1),.pure (pI v.2.2)],.c (.cptr [pS u]),.c (.cptr [pI x])] (Go.Abs.B (ni (Sl u x v))):=by
 refine af.of nu (by simp) λhb=>aa ?_
 simp only[hP]
 obtain⟨n,d,y⟩:=v
 unfold Sl
 by_cases h1:n=u
 ·repeat' first|simp(disch:=omega)only[go_sem,aj,h1,decide_true]|((with_reducible refine ab ?_ ?_)<;>intro h<;>try first|omega|simp(disch:=omega)only[go_sem, *,aj,h1,decide_true])
  all_goals exact BC (by simp)
 ·repeat' first|simp(disch:=omega)only[go_sem,aj,h1,decide_false]|((with_reducible refine ab ?_ ?_)<;>intro h<;>try first|omega|simp(disch:=omega)only[go_sem, *,aj,h1,decide_false])
  all_goals exact BC (by simp)
theorem EC (u:ByteArray) (x:Int) (xs:List V3):af Ya b7 [bZ dw xs,.c (.clo cf [.cptr [pS u],.cptr [pI x]])] (I (iY (Sl u x) xs)):=by
 refine af.of dY (by simp) λhb=>aa ?_
 have hl:=iQ hb
 simp only[b8]
 repeat' first|simp(disch:=omega)only[go_sem]|((with_reducible refine ab ?_ ?_)<;>intro h<;>try first|omega|simp(disch:=omega)only[go_sem, *])
 refine ai (λk:Nat=>⟨[(0,bZ dw xs),(1,.c (.clo cf [.cptr [pS u],.cptr [pI x]])),(7,I xs.length),(8,I k)], [],0,0⟩) (λk=>k≤xs.length∧bI (λj=> ∀h:j<xs.length,¬Sl u x xs[j]) k) (λk=>xs.length-k) ⟨0, [],⟨by omega,.zero⟩,by simp⟩ ?_
 rintro k ⟨hk,q⟩
 refine aa ?_
 by_cases i:k<xs.length
 ·have HN:=Lib.hid λh=>lv (p:=Sl u x) i h λj hj=>q j hj (by omega)
  have HA:=Lib.hid q
  clear q
  repeat' first|simp(disch:=omega)only[go_sem,ac i,dw,wrap_i64]|((with_reducible refine ab ?_ ?_)<;>intro h<;>try first|omega|simp(disch:=omega)only[go_sem, *,ac i,dw,wrap_i64])|refine ae (mF _ u x) rfl (.inl rfl) ?_
  ·rw[HN.out h]
  ·exact⟨k+1, [],⟨by omega,HA.out.succ λ_=>h⟩,by omega,by simp⟩
 ·have HN:=Lib.hid (gK (p:=Sl u x) λj hj=>q j (by omega) hj)
  clear q
  repeat' first|simp(disch:=omega)only[go_sem]|((with_reducible refine ab ?_ ?_)<;>intro h<;>try first|omega|simp(disch:=omega)only[go_sem, *])
  rw[HN.out]
theorem zn (u:ByteArray) (x:Int) (xs:List V3):af Ya bQ [bZ dw xs,.c (.clo cf [.cptr [pS u],.cptr [pI x]])] (Go.Abs.B (ni (∃v∈xs,Sl u x v))):=by
 refine af.of dA (by simp) λhb=>aa ?_
 simp only[bR]
 repeat' first|simp(disch:=omega)only[go_sem]|((with_reducible refine ab ?_ ?_)<;>intro h<;>try first|omega|simp(disch:=omega)only[go_sem, *])|refine ae (EC u x xs) rfl (.inl rfl) ?_
 exact BC (by rw[decide_eq_true_iff];exact yf)
theorem Co (xs:List Int) (x:Int):af Ya iP [bw xs,I x] (I (nT xs x 0)):=by
 refine af.of oE (by simp) λhb=>aa ?_
 have hx:xs.length≤9223372036854775807:=by simpa[fL,eW,ft]using hb.1
 obtain⟨R,hR⟩: ∃R,R=nT xs x 0:=⟨_,rfl⟩
 rw[←hR]
 have HR:=Lib.hid hR
 clear hR
 simp only[iI]
 repeat' first|simp(disch:=omega)only[go_sem]|((with_reducible refine ab ?_ ?_)<;>intro h<;>try first|omega|simp(disch:=omega)only[go_sem, *])
 refine ai (λk:Nat=>⟨[(0,bw xs),(1,I x),(7,I xs.length),(8,I k)], [],0,0⟩) (λk=>k≤xs.length∧Hid (R=nT (xs.drop k) x k)) (λk=>xs.length-k) ⟨0, [],⟨by omega,HR⟩,by simp⟩ ?_
 rintro k ⟨hk,HR⟩
 refine aa ?_
 by_cases i:k<xs.length
 ·have HR':Hid (R=if x=xs[k]then(k:Int)else nT (xs.drop (k+1)) x (k+1)):=by
   have:=HR.out
   rwa [List.drop_eq_getElem_cons i,nT]at this
  clear HR
  by_cases e:x=xs[k]
  ·have h2:=HR'.out
   rw[if_pos e]at h2
   subst h2
   subst e
   repeat' first|simp(disch:=omega)only[go_sem,ac i,wrap_i64]|((with_reducible refine ab ?_ ?_)<;>intro h<;>try first|omega|simp(disch:=omega)only[go_sem, *,ac i,wrap_i64])
  ·have h2:Hid (R=nT (xs.drop (k+1)) x (k+1)):=by
    have:=HR'.out
    rwa [if_neg e]at this
   repeat' first|simp(disch:=omega)only[go_sem,ac i,wrap_i64]|((with_reducible refine ab ?_ ?_)<;>intro h<;>try first|omega|simp(disch:=omega)only[go_sem, *,ac i,wrap_i64])
   exact⟨k+1, [],⟨by omega,h2⟩,by omega,by simp⟩
 ·have h2:=HR.out
  rw[List.drop_eq_nil_of_le (by omega),nT]at h2
  subst h2
  repeat' first|simp(disch:=omega)only[go_sem]|((with_reducible refine ab ?_ ?_)<;>intro h<;>try first|omega|simp(disch:=omega)only[go_sem, *])
theorem yS (xs:List Int) (x:Int):af Ya f7 [bw xs,I x] (Go.Abs.B (decide (x∈xs))):=by
 refine af.of lU (by simp) λhb=>aa ?_
 have h:=Dh xs x 0
 have e:decide (nT xs x 0≥0)=decide (x∈xs):=by rw[decide_eq_decide];exact h
 simp only[fX]
 repeat' first|simp(disch:=omega)only[go_sem]|((with_reducible refine ab ?_ ?_)<;>intro h<;>try first|omega|simp(disch:=omega)only[go_sem, *])|refine ae (Co _ _) rfl (.inl rfl) ?_
 rw[e]
def Sn (g:T3→List Int) (L:List T3):List (MK×List PC):=L.map λt=>(MK.str t.1.data.toList, [ce (g t)])
def pC (g:T3→List Int) (L:List T3):List (MK×List AC):=L.map λt=>(MK.str t.1.data.toList, [.pure (ce (g t))])
def gD (t:T3):List Int:=t.2.1
def gS (t:T3):List Int:=t.2.2
section
variable {g : T3 → List Int}
theorem FW (L:List T3):lR (Sn g L)=pC g L:=by simp[lR,Sn,pC,List.map_map,Function.comp_def]
theorem rB (s:ByteArray): ∀L:List T3,eC (pC g L) (.str s.data.toList)=(L.find? λt=>decide (t.1=s)).map λt=> [.pure (ce (g t))]
 | []=>rfl
 |t::r=>by
  have ih:=rB s r
  simp only[pC,List.map_cons,eC]at ih ⊢
  by_cases h:t.1=s
  ·rw[if_pos (pX.2 h),List.find?_cons_of_pos (by simpa using h)]
   rfl
  ·rw[if_neg (λe=>h (pX.1 e)),List.find?_cons_of_neg (by simpa using h),ih]
theorem IM {mem:List (Nat×bm)}: ∀L:List T3,jd mem none (pC g L)=some (Sn g L)
 | []=>rfl
 |x::r=>by
  have ih:=IM (mem:=mem) r
  simp only[pC,Sn,List.map_cons,jd,lJ,cG]at ih ⊢
  rw[ih]
end
theorem SX {L:List T3} {s:ByteArray} {ds sp:List Int} (h:dQ L s=some (ds,sp)):eC (pC gD L) (.str s.data.toList)=some [.pure (ce ds)]:=by
 rw[rB]
 unfold dQ at h
 obtain⟨t,ht,he⟩:=Option.map_eq_some_iff.1 h
 rw[ht,Option.map_some,gD,he]
theorem On {L:List T3} {s:ByteArray} {ds sp:List Int} (h:dQ L s=some (ds,sp)):eC (pC gS L) (.str s.data.toList)=some [.pure (ce sp)]:=by
 rw[rB]
 unfold dQ at h
 obtain⟨t,ht,he⟩:=Option.map_eq_some_iff.1 h
 rw[ht,Option.map_some,gS,he]
abbrev Pa (L:List T3) (D:PC):AV:= .c (.cptr [.fmap .str none (Sn gD L),.fmap .str none (Sn gS L),D])
abbrev SD (L:List T3) (D:PC):AC:= .cptr [.fmap .str none (Sn gD L),.fmap .str none (Sn gS L),D]
set_option maxHeartbeats 4000000 in
theorem By {L:List T3} {D:PC} {e:Ex} {s:ByteArray} {n y:Int} {used:List Int} (hr:Me L e.pre) (hx: ∀a∈e.pre,a.idx.length≤1000) (hs:s≠mC):
  af Ya hO [Pa L D,gc e,.agg [.pure (pS s),.pure (pI n),.pure (pI y)],bw used] (I (ef L s n used e.pre)):=by
 refine af.of np (by simp) λhb=>aa ?_
 obtain⟨R,hR⟩: ∃R,R=ef L s n used (e.pre.drop 0):=⟨_,rfl⟩
 have M:ef L s n used e.pre=R:=hR.symm
 rw[M]
 have HR:=Lib.hid hR
 simp only[ia]
 clear hb hR M
 repeat' first|simp(disch:=omega)only[go_sem]|((with_reducible refine ab ?_ ?_)<;>intro h<;>try first|omega|simp(disch:=omega)only[go_sem, *])|refine ae (gx e) rfl (.inr rfl) ?_
 refine ji 5 [(4,.c (.ptr 0 0)),(6,.c (.ptr 2 0)),(7,.c (.ptr 3 0)),(8,.c (.ptr 4 0))] (λk (_:Unit)=>([(4,.var [.pure (pI 0)]),(3,.var [.pure (ce used)]),(2,.var [.pure (pS s),.pure (pI n),.pure (pI y)]),(1,tL e),(0,.var [SD L D])],5)) (λk _=>Hid (R=ef L s n used (e.pre.drop k))) rfl rfl rfl (gp e) ?_ ⟨by simp,by simp⟩ (by simp[j8,kf,du,cz,dM,rn,yv,c9,ba,dk,dh,bC,dn,cG,aD,am,kW,j9,dl]) ⟨(), [],HR,by simp⟩ ?_ ?_
 ·intro x hx
  obtain⟨a,_,rfl⟩:=List.mem_map.1 hx
  rfl
 ·intro k x _ E hk
  obtain⟨a,ha,rfl⟩: ∃a,e.pre[k]? =some a∧ [gc a]=x:=by
   rw[List.getElem?_map]at E
   exact Option.map_eq_some_iff.1 E
  obtain⟨i,rfl⟩:=List.getElem?_eq_some_iff.1 ha
  have hd:=hk.out
  have X:=hx _ (List.getElem_mem i)
  have z:=hr _ (List.getElem_mem i)
  clear E ha hk HR hx hr
  by_cases h3:e.pre[k].op=3
  ·rw[GK i h3]at hd
   obtain⟨ds,sp,f1,f2,f3⟩:=z h3
   obtain⟨q1,q2⟩:=Gf f1 f2 f3
   have lS:=On f1
   have lD:=SX f1
   rw[←FW]at lS lD
   obtain⟨rest,F⟩: ∃r,r=ef L s n used (e.pre.drop (k+1)):=⟨_,rfl⟩
   rw[←F]at hd
   have HQ:=Lib.hid F
   clear F z f1
   generalize iE L e.pre[k]=C at*
   generalize e.pre[k]=a at*
   have HD0:Hid (R=rf s n used (C.drop 0) rest):=Lib.hid hd
   have o:(a.op=3)=True:=eq_true h3
   clear hd h3
   repeat' first|simp(disch:=omega)only[go_sem,o]|((with_reducible refine ab ?_ ?_)<;>intro h<;>try first|omega|simp(disch:=omega)only[go_sem, *,o])
   refine ai (λj:Nat=>⟨[(4,.c (.ptr 0 0)),(6,.c (.ptr 2 0)),(7,.c (.ptr 3 0)),(8,.c (.ptr 4 0)),(9,.c (.ptr 5 0)),(20,bZ dN a.idx),(21,I a.idx.length),(22,I j)], [(5,tL a),(4,.var [.pure (pI 0)]),(3,.var [.pure (ce used)]),(2,.var [.pure (pS s),.pure (pI n),.pure (pI y)]),(1,tL e),(0,.var [SD L D])],6,5⟩) (λj=>j≤a.idx.length∧Hid (R=rf s n used (C.drop j) rest)) (λj=>a.idx.length-j) ⟨0, [],⟨Nat.zero_le _,HD0⟩,by simp⟩ ?_
   clear HD0
   rintro j ⟨hj,N⟩
   refine aa ?_
   have hd:=N.out
   clear N
   by_cases G:j<a.idx.length
   ·have O:j<ds.length:=by omega
    have P:j<sp.length:=by omega
    have H:j<C.length:=by omega
    have q3:=q2 j H G O P
    have g2:=ac (f:=dN) G
    have gi:=ac (f:= λn:Int=> [pI n]) P
    have gd:=ac (f:= λn:Int=> [pI n]) O
    have cU:=qu a.idx[j]
    have cC:=yS used sp[j]
    simp only[dN]at g2
    generalize a.idx[j]=x at*
    generalize sp[j]=m at*
    generalize ds[j]=d at*
    by_cases c1:mc x=s
    ·have c1':=(GB hs).1 c1
     by_cases c2:0≤m
     ·by_cases c3:d=n
      ·by_cases c4:m∈used
       ·rw[mJ H (by rw[q3];exact λh=>h.2.2.2 c4)]at hd
        have HD:=Lib.hid hd
        clear hd q2 q3
        repeat' first|simp(disch:=omega)only[go_sem,g2,gi,gd,lS,lD,wrap_i64,Option.map_some,aj,c1,c2,c3,c4,decide_true]|((with_reducible refine ab ?_ ?_)<;>intro h<;>try first|omega|simp(disch:=omega)only[go_sem, *,g2,gi,gd,lS,lD,wrap_i64,Option.map_some,aj,c1,c2,c3,c4,decide_true])|refine ae cU rfl (.inl rfl) ?_|refine ae cC rfl (.inl rfl) ?_
        all_goals exact⟨j+1, [],⟨G,HD⟩,by omega,by simp⟩
       ·rw[II H (by rw[q3];exact⟨c2,c1',c3,c4⟩),q3]at hd
        simp only at hd
        subst hd
        clear q2 q3
        repeat' first|simp(disch:=omega)only[go_sem,g2,gi,gd,lS,lD,wrap_i64,Option.map_some,aj,c1,c2,c3,c4,decide_true,decide_false]|((with_reducible refine ab ?_ ?_)<;>intro h<;>try first|omega|simp(disch:=omega)only[go_sem, *,g2,gi,gd,lS,lD,wrap_i64,Option.map_some,aj,c1,c2,c3,c4,decide_true,decide_false])|refine ae cU rfl (.inl rfl) ?_|refine ae cC rfl (.inl rfl) ?_
        all_goals rfl
      ·rw[mJ H (by rw[q3];exact λh=>c3 h.2.2.1)]at hd
       have HD:=Lib.hid hd
       clear hd q2 q3
       repeat' first|simp(disch:=omega)only[go_sem,g2,gi,gd,lS,lD,wrap_i64,Option.map_some,aj,c1,c2,c3,decide_true,decide_false]|((with_reducible refine ab ?_ ?_)<;>intro h<;>try first|omega|simp(disch:=omega)only[go_sem, *,g2,gi,gd,lS,lD,wrap_i64,Option.map_some,aj,c1,c2,c3,decide_true,decide_false])|refine ae cU rfl (.inl rfl) ?_|refine ae cC rfl (.inl rfl) ?_
       all_goals exact⟨j+1, [],⟨G,HD⟩,by omega,by simp⟩
     ·rw[mJ H (by rw[q3];exact λh=>c2 h.1)]at hd
      have HD:=Lib.hid hd
      clear hd q2 q3
      repeat' first|simp(disch:=omega)only[go_sem,g2,gi,gd,lS,lD,wrap_i64,Option.map_some,aj,c1,c2,decide_true,decide_false]|((with_reducible refine ab ?_ ?_)<;>intro h<;>try first|omega|simp(disch:=omega)only[go_sem, *,g2,gi,gd,lS,lD,wrap_i64,Option.map_some,aj,c1,c2,decide_true,decide_false])|refine ae cU rfl (.inl rfl) ?_|refine ae cC rfl (.inl rfl) ?_
      all_goals exact⟨j+1, [],⟨G,HD⟩,by omega,by simp⟩
    ·rw[mJ H (by rw[q3];exact λh=>c1 (DO h.2.1))]at hd
     have HD:=Lib.hid hd
     clear hd q2 q3
     repeat' first|simp(disch:=omega)only[go_sem,g2,gi,gd,lS,lD,wrap_i64,Option.map_some,aj,c1,decide_false]|((with_reducible refine ab ?_ ?_)<;>intro h<;>try first|omega|simp(disch:=omega)only[go_sem, *,g2,gi,gd,lS,lD,wrap_i64,Option.map_some,aj,c1,decide_false])|refine ae cU rfl (.inl rfl) ?_|refine ae cC rfl (.inl rfl) ?_
     all_goals exact⟨j+1, [],⟨G,HD⟩,by omega,by simp⟩
   ·rw[JB (by omega),HQ.out]at hd
    have HD:=Lib.hid hd
    clear hd q2
    repeat' first|simp(disch:=omega)only[go_sem]|((with_reducible refine ab ?_ ?_)<;>intro h<;>try first|omega|simp(disch:=omega)only[go_sem, *])
    exact⟨(), [],by simp⟩
  ·rw[Gj i h3]at hd
   have HD:=Lib.hid hd
   clear hd z
   generalize e.pre[k]=a at*
   repeat' first|simp(disch:=omega)only[go_sem,h3]|((with_reducible refine ab ?_ ?_)<;>intro h<;>try first|omega|simp(disch:=omega)only[go_sem, *,h3])
   exact⟨(), [],HD,by simp⟩
 ·intro _ hk
  have hd:=hk.out
  rw[List.length_map,Jw (Nat.le_refl _)]at hd
  subst hd
  clear hk HR hx hr
  repeat' first|simp(disch:=omega)only[go_sem]|((with_reducible refine ab ?_ ?_)<;>intro h<;>try first|omega|simp(disch:=omega)only[go_sem, *])
set_option maxRecDepth 20000
open Go.Abs Go.RowKit
theorem Ee (mem:List (Nat×bm)) (nx:Nat):bb Ya bA [bZ dw []] mem nx (.c (.tsl [])) mem nx:=by
 refine bb.of cj (by simp) λ_=> ?_
 simp only[bB]
 refine zV (aa ?_)
 repeat' first|simp(disch:=omega)only[go_sem]|((with_reducible refine ab ?_ ?_)<;>intro h<;>try first|omega|simp(disch:=omega)only[go_sem, *])
 refine zV (zV (aa ?_))
 repeat' first|simp(disch:=omega)only[go_sem]|((with_reducible refine ab ?_ ?_)<;>intro h<;>try first|omega|simp(disch:=omega)only[go_sem, *])|apply au|(with_reducible refine az (λh=> ?_) ?_)
 ·refine Hy (t:=true) rfl (λ_=> ?_) (λe=>by cases e)
  refine zV (aa ?_)
  repeat' first|simp(disch:=omega)only[go_sem]|((with_reducible refine ab ?_ ?_)<;>intro h<;>try first|omega|simp(disch:=omega)only[go_sem, *])
  refine Rl 2 rfl (Lt ?_)
  repeat' first|simp(disch:=omega)only[go_sem,Nc]|((with_reducible refine ab ?_ ?_)<;>intro h<;>try first|omega|simp(disch:=omega)only[go_sem, *,Nc])
  all_goals rfl
 ·refine Hy (t:=false) rfl (λe=>by cases e) (λ_=>Mx ?_)
  change AW _ _ _ _ _
  refine zV (aa ?_)
  repeat' first|simp(disch:=omega)only[go_sem]|((with_reducible refine ab ?_ ?_)<;>intro h<;>try first|omega|simp(disch:=omega)only[go_sem, *])|refine fu (by intro r hr;cases hr) ?_
  refine Lt ?_
  repeat' first|simp(disch:=omega)only[go_sem,Nc]|((with_reducible refine ab ?_ ?_)<;>intro h<;>try first|omega|simp(disch:=omega)only[go_sem, *,Nc])
  all_goals rfl
theorem Kv (mem:List (Nat×bm)) (nx:Nat) (x:V3) (l:List V3) (hl:l.length+1≤100000000):bb Ya bA [bZ dw (x::l)] mem nx (.c (.ref nx)) ((nx,.arr 134 3 ((x::l).map dw))::mem) (nx+1):=by
 refine bb.of cj (by simp) λ_=>aa ?_
 simp only[bB]
 have W:bV 3 ((x::l).map dw):=by
  intro r hr
  obtain⟨y,_,rfl⟩:=List.mem_map.1 hr
  rfl
 repeat' first|simp(disch:=omega)only[go_sem]|((with_reducible refine ab ?_ ?_)<;>intro h<;>try first|omega|simp(disch:=omega)only[go_sem, *])|apply au|(with_reducible refine az (λh=> ?_) ?_)|refine cQ (by intro r hr;cases hr) W (by simp) (by simp;omega) (by simp;omega) ?_
 all_goals first|rfl|(exfalso;have:=h (dw x) List.mem_cons_self;cases this)
theorem Md (l:List V3):bV 3 (l.map dw):=by
 intro r hr
 obtain⟨n,_,rfl⟩:=List.mem_map.1 hr
 rfl
abbrev Wz (Vd Vr:List V3) (T:List Tr):AV:= .agg [.pure (cZ dw Vd),.pure (cZ dw Vr),.pure (cZ s7 T)]
set_option maxHeartbeats 4000000 in
theorem zd {Vd Vr:List V3} {T:List Tr} {e:Ex} {s:ByteArray} {j:Nat} {x:Int} (hV: ∀v∈Vd++Vr,v.1≠mC) (hs:s∈ld e.pre) (hj: ∀a∈e.pre,sQ a s→j<a.idx.length) (h1:Vd.length≤1000) (h2:Vr.length≤1000):
  af Ya je [Wz Vd Vr T,gc e,S s,I j,I x] (Go.Abs.B (decide (jT e.pre (Vd++Vr) s j x))):=by
 refine af.of pj (by simp) λhb=>aa ?_
 obtain⟨R,hR⟩: ∃R,R=decide (jT e.pre (Vd++Vr) s j x):=⟨_,rfl⟩
 rw[←hR]
 have HN:Hid (¬jT e.pre (Vd++Vr) s j x→R=false):=Lib.hid λh=>by rw[hR,decide_eq_false h]
 have HR:=Lib.hid hR
 have HV:=Lib.hid hV
 have HS:=Lib.hid hs
 have HJ:=Lib.hid hj
 simp only[iX]
 clear hb hR hV hs hj
 repeat' first|simp(disch:=omega)only[go_sem]|((with_reducible refine ab ?_ ?_)<;>intro h<;>try first|omega|simp(disch:=omega)only[go_sem, *])|refine ae (gx e) rfl (.inr rfl) ?_
 refine ji 7 [(5,.c (.ptr 0 0)),(7,.c (.ptr 2 0)),(8,.c (.ptr 3 0)),(9,.c (.ptr 4 0)),(10,.c (.ptr 5 0)),(11,.c (.ptr 6 0))] (λk (u:ByteArray)=>([(6,.var [.pure (pS u)]),(5,.var [.pure (.val (.bool false))]),(4,.var [.pure (pI x)]),(3,.var [.pure (pI j)]),(2,.var [.pure (pS s)]),(1,tL e),(0,.var [.pure (cZ dw Vd),.pure (cZ dw Vr),.pure (cZ s7 T)])],7)) (λk u=>Hid (G7 e.pre s j (λ_=>True) k u)) rfl rfl rfl (gp e) ?_ ⟨by simp,by simp⟩ (by simp[j8,kf,du,cz,dM,rn,yv,c9,ba,dk,dh,bC,dn,cG,aD,am,kW,j9,dl]) ⟨mC, [],Lib.hid F5,by simp⟩ ?_ ?_
 ·intro x hx
  obtain⟨a,_,rfl⟩:=List.mem_map.1 hx
  rfl
 ·intro k x0 u E hk
  obtain⟨a,ha,rfl⟩: ∃a,e.pre[k]? =some a∧ [gc a]=x0:=by
   rw[List.getElem?_map]at E
   exact Option.map_eq_some_iff.1 E
  obtain⟨i,rfl⟩:=List.getElem?_eq_some_iff.1 ha
  clear E ha
  have cC:=z7 s e.pre[k].idx
  by_cases hF: ∃y∈e.pre[k].idx,y.2.1=s
  ·rw[gz hF]at cC
   obtain⟨y,hy,he⟩:=hF
   have e0:=HN.out (IX i hy he)
   subst e0
   clear HN HR HV HS HJ hk
   generalize e.pre[k]=a at*
   repeat' first|simp(disch:=omega)only[go_sem]|((with_reducible refine ab ?_ ?_)<;>intro h<;>try first|omega|simp(disch:=omega)only[go_sem, *])|refine ae cC rfl (.inl rfl) ?_
   all_goals rfl
  ·rw[fa hF]at cC
   have A: ∀y∈e.pre[k].idx,y.2.1≠s:= λy hy he=>hF ⟨y,hy,he⟩
   by_cases h3:e.pre[k].op=3
   ·by_cases hn:e.pre[k].name=s
    ·have z:sQ e.pre[k] s:=⟨h3,hn⟩
     have Q:=HJ.out _ (List.getElem_mem i) z
     have hy:e.pre[k].idx[j]? =some e.pre[k].idx[j]:=List.getElem?_eq_getElem Q
     have cU:=qu e.pre[k].idx[j]
     have g1:=ac (f:=dN) Q
     have o:(e.pre[k].op=3)=True:=eq_true h3
     simp only[dN]at g1
     by_cases hw:mc e.pre[k].idx[j]=mC
     ·have e0:=HN.out (Qq i z hy hw)
      subst e0
      rw[hw]at cU
      clear HN HR HV HS HJ hk hF A z h3 hy
      generalize e.pre[k].idx[j]=y at*
      generalize e.pre[k]=a at*
      repeat' first|simp(disch:=omega)only[go_sem,o,hn,g1,aj,decide_true]|((with_reducible refine ab ?_ ?_)<;>intro h<;>try first|omega|simp(disch:=omega)only[go_sem, *,o,hn,g1,aj,decide_true])|refine ae cC rfl (.inl rfl) ?_|refine ae cU rfl (.inl rfl) ?_
      all_goals rfl
     ·have hu:=(GB hw).1 rfl
      by_cases h0:u=mC
      ·have HD:=Lib.hid (tQ i hk.out A z hy hu hw trivial (.inl h0))
       clear HN HR HV HS HJ hk hF A z h3 hy hu
       generalize e.pre[k].idx[j]=y at*
       generalize mc y=w at*
       generalize e.pre[k]=a at*
       repeat' first|simp(disch:=omega)only[go_sem,o,hn,g1,aj,decide_true,decide_false,hw,h0]|((with_reducible refine ab ?_ ?_)<;>intro h<;>try first|omega|simp(disch:=omega)only[go_sem, *,o,hn,g1,aj,decide_true,decide_false,hw,h0])|refine ae cC rfl (.inl rfl) ?_|refine ae cU rfl (.inl rfl) ?_
       all_goals exact⟨w, [],HD,by simp⟩
      ·by_cases h5:mc e.pre[k].idx[j]=u
       ·have HD:=Lib.hid (tQ i hk.out A z hy hu hw trivial (.inr h5.symm))
        clear HN HR HV HS HJ hk hF A z h3 hy hu
        generalize e.pre[k].idx[j]=y at*
        generalize mc y=w at*
        generalize e.pre[k]=a at*
        subst h5
        repeat' first|simp(disch:=omega)only[go_sem,o,hn,g1,aj,decide_true,decide_false,hw]|((with_reducible refine ab ?_ ?_)<;>intro h<;>try first|omega|simp(disch:=omega)only[go_sem, *,o,hn,g1,aj,decide_true,decide_false,hw])|refine ae cC rfl (.inl rfl) ?_|refine ae cU rfl (.inl rfl) ?_
        all_goals exact⟨w, [],HD,by simp⟩
       ·have e0:=HN.out (LZ i hk.out h0 z hy hu λh=>h5 h.symm)
        subst e0
        clear HN HR HV HS HJ hk hF A z h3 hy hu
        generalize e.pre[k].idx[j]=y at*
        generalize mc y=w at*
        generalize e.pre[k]=a at*
        repeat' first|simp(disch:=omega)only[go_sem,o,hn,g1,aj,decide_true,decide_false,hw,h0,h5]|((with_reducible refine ab ?_ ?_)<;>intro h<;>try first|omega|simp(disch:=omega)only[go_sem, *,o,hn,g1,aj,decide_true,decide_false,hw,h0,h5])|refine ae cC rfl (.inl rfl) ?_|refine ae cU rfl (.inl rfl) ?_
        all_goals rfl
    ·have HD:=Lib.hid (tN i hk.out A λh=>hn h.2)
     have o:(e.pre[k].op=3)=True:=eq_true h3
     clear HN HR HV HS HJ hk hF A h3
     generalize e.pre[k]=a at*
     repeat' first|simp(disch:=omega)only[go_sem,o,hn,aj,decide_false]|((with_reducible refine ab ?_ ?_)<;>intro h<;>try first|omega|simp(disch:=omega)only[go_sem, *,o,hn,aj,decide_false])|refine ae cC rfl (.inl rfl) ?_
     all_goals exact⟨u, [],HD,by simp⟩
   ·have HD:=Lib.hid (tN i hk.out A λh=>h3 h.1)
    clear HN HR HV HS HJ hk hF A
    generalize e.pre[k]=a at*
    repeat' first|simp(disch:=omega)only[go_sem,h3]|((with_reducible refine ab ?_ ?_)<;>intro h<;>try first|omega|simp(disch:=omega)only[go_sem, *,h3])|refine ae cC rfl (.inl rfl) ?_
    all_goals exact⟨u, [],HD,by simp⟩
 ·intro u hk
  rw[List.length_map]at hk
  obtain⟨hu,_,J⟩:=Kg (V:=Vd++Vr) (x:=x) hk.out HS.out
  have hR:=HR.out
  have cC:=zn u x (Vd++Vr)
  rw[show ni (∃v∈Vd++Vr,Sl u x v)=R from by
   rw[hR]
   by_cases ha:jT e.pre (Vd++Vr) s j x
   ·rw[decide_eq_true ha];exact gz (J.1 ha)
   ·rw[decide_eq_false ha];exact fa λh=>ha (J.2 h)]at cC
  clear hk HN HR HV HS HJ J hR hu
  cases Vd with
  |nil=>
   cases Vr with
   |nil=>
    repeat' first|simp(disch:=omega)only[go_sem]|((with_reducible refine ab ?_ ?_)<;>intro h<;>try first|omega|simp(disch:=omega)only[go_sem, *])|apply au|(with_reducible refine az (λh=> ?_) ?_)|refine aU (Ee _ _) ?_|refine fu (by intro r hr;cases hr) ?_|refine ae cC rfl (.inl rfl) ?_
    all_goals rfl
   |cons v Vr=>
    have Y:Vr.length≤1000:=by simp at h2;omega
    repeat' first|simp(disch:=omega)only[go_sem]|((with_reducible refine ab ?_ ?_)<;>intro h<;>try first|omega|simp(disch:=omega)only[go_sem, *])|apply au|(with_reducible refine az (λh=> ?_) ?_)|refine aU (Ee _ _) ?_|refine cQ (by intro r hr;cases hr) (Md (v::Vr)) (by simp) (by simp;omega) (by simp;omega) ?_|refine ae cC rfl (.inl rfl) ?_
    all_goals rfl
  |cons v Vd=>
   have Z:Vd.length≤1000:=by simp at h1;omega
   rw[show bZ dw (v::Vd++Vr)= .c (.pure (.slice (dw v::(Vd.map dw++Vr.map dw)))) by simp]at cC
   repeat' first|simp(disch:=omega)only[go_sem]|((with_reducible refine ab ?_ ?_)<;>intro h<;>try first|omega|simp(disch:=omega)only[go_sem, *])|apply au|(with_reducible refine az (λh=> ?_) ?_)|refine aU (Kv _ _ _ _ (by omega)) ?_|refine aF rfl (by intro h;cases h) (Md _) (by simp;omega) (by simp;omega) ?_|refine ae cC rfl (.inl rfl) ?_
   all_goals rfl
end Go.Proofs.YtjhkikmonejkjaaGreatDoor
