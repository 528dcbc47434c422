import Derived.Test.YtjhkikmonejkjaaGreatDoorP54w
import Derived.Test.YtjhkikmonejkjaaGreatDoorP54d
import Derived.Test.YtjhkikmonejkjaaGreatDoorV19b
set_option linter.unusedVariables false
set_option linter.unusedSimpArgs false
namespace Go.Proofs.YtjhkikmonejkjaaGreatDoor
open Go.Abs Go.RowKit
def QK (p:be) (L:List T3):Prop:= ∀t∈L,t.2.1.length=t.2.2.length∧ ∃ty fs,aZ p t.1=some (ty,fs)∧t.2.1.length=fs.length
def rt (p:be) (j:Nat) (L:List T3):Prop:=L.map (·.1)=(p.params.take j).map (·.1)∧QK p L
theorem rt.ok {p:be} {L:List T3} (h:rt p p.params.length L):ip p 0 L:=⟨by rw[h.1,List.take_of_length_le (Nat.le_refl _)];simp[tm],h.2⟩
theorem ip.len {p:be} {k:Nat} {L:List T3} (h:ip p k L) (hk:k≤p.defs.length):L.length=p.params.length+k:=by
 have:=congrArg List.length h.1
 rw[List.length_map]at this
 rw[this]
 simp[tm]
 omega
theorem BQ {p:be} {env:List aH} {s:ByteArray} {ty:Ty} {fs:List fc} {ds:List Int} (hf:aZ p s=some (ty,fs)) (h:ej p env s=(ds,0)):iv env fs=(ds,0):=by
 unfold ej at h
 rw[hf]at h
 simp only at h
 split at h
 ·rename_i h1
  exact absurd (Prod.ext_iff.1 h).2 h1
 ·rename_i h1
  split at h
  ·cases (Prod.ext_iff.1 h).2
  ·exact Prod.ext (Prod.ext_iff.1 h).1 (Classical.not_not.1 h1)
theorem IP {ms ds ss:List Int} (h:gr ms ds ss=0):ss.length=ds.length:=by
 unfold gr at h
 split at h
 ·cases h
 ·split at h
  ·contradiction
  ·split at h
   ·cases h
   ·rename_i h3
    exact(Classical.not_not.1 h3).1
theorem FK {p:be} {L:List T3} {t:T3} (h:QK p L) (h1:t.2.1.length=t.2.2.length) {ty:Ty} {fs:List fc} (h2:aZ p t.1=some (ty,fs)) (h3:t.2.1.length=fs.length):QK p (L++ [t]):= λu hu=>(List.mem_append.1 hu).elim (h u) λhu=>by
 obtain rfl:=List.mem_singleton.1 hu
 exact⟨h1,ty,fs,h2,h3⟩
theorem Cg {p:be} {env:List aH} {ms:List Int} {j:Nat} {L:List T3} {ds s:List Int} (hv:(aV p).2=0) (hj:j<p.params.length) (h:rt p j L) (hd:ej p env p.params[j].1=(ds,0)) (hs:gr ms ds s=0):rt p (j+1) (L++ [(p.params[j].1,ds,s)]):=by
 have hf:=J2 hv hj
 have hx:=pK (BQ (ty:=p.params[j].2.1) (fs:=p.params[j].2.2) hf hd)
 refine⟨?_,FK h.2 (IP hs).symm (ty:=p.params[j].2.1) (fs:=p.params[j].2.2) hf hx.1⟩
 rw[List.map_append,h.1,List.take_succ_eq_append_getElem hj,List.map_append]
 rfl
theorem LH {p:be} {env:List aH} {ms:List Int} {ins:List (List Int)} {j:Nat} {L:List T3} {ds:List Int} {e:Int} (hj:j<p.params.length) (hi:j<ins.length) (hd:ej p env p.params[j].1=(ds,e)):
  oR p env ms ((p.params.zip ins).drop j) L=if e≠0 then([],e)else if gr ms ds ins[j]≠0 then([],gr ms ds ins[j])else oR p env ms ((p.params.zip ins).drop (j+1)) (L++ [(p.params[j].1,ds,ins[j])]):=by
 rw[List.drop_eq_getElem_cons (by simp;omega),List.getElem_zip,oR,hd]
theorem Jp {p:be} {env:List aH} {ms:List Int} {ins:List (List Int)} {j:Nat} {L:List T3} (hj:p.params.length≤j):oR p env ms ((p.params.zip ins).drop j) L=(L,0):=by
 rw[List.drop_of_length_le (by simp;omega),oR]
theorem BP {p:be} {env:List aH} {i:Nat} {L:List T3} {W:List (List V3)} (h:i<p.defs.length):kZ p env (p.defs.drop i) L W=if(eJ p env p.defs[i]).2≠0 then(([], []),(eJ p env p.defs[i]).2)else kZ p env (p.defs.drop (i+1)) (L++ [ue L p env p.defs[i]]) (W++ [G9 L p env p.defs[i]]):=by
 rw[List.drop_eq_getElem_cons h,kZ]
theorem wK {p:be} {env:List aH} {i:Nat} {L:List T3} {W:List (List V3)} (h:p.defs.length≤i):kZ p env (p.defs.drop i) L W=((L,W),0):=by
 rw[List.drop_of_length_le h,kZ]
theorem Ml {p:be} {env:List aH} {i:Nat} {ext:List Int} (hv:(aV p).2=0) (hi:i<p.defs.length) (h:eJ p env p.defs[i]=(ext,0)):
  ∃ds rs,ej p env p.defs[i].name=(ds,0)∧iv env (p.defs[i].dims.map (·.2))=(ds,0)∧iv env (p.defs[i].red.map (·.2))=(rs,0)∧ext=ds++rs∧ds.length=p.defs[i].dims.length∧rs.length=p.defs[i].red.length:=by
 have hf:=wA hv hi
 unfold eJ at h
 split at h
 ·rename_i h1
  exact absurd (Prod.ext_iff.1 h).2 h1
 ·rename_i h1
  split at h
  ·rename_i h2
   exact absurd (Prod.ext_iff.1 h).2 h2
  ·rename_i h2
   have e1:ej p env p.defs[i].name=((ej p env p.defs[i].name).1,0):=Prod.ext rfl (Classical.not_not.1 h1)
   have e2:iv env (p.defs[i].red.map (·.2))=((iv env (p.defs[i].red.map (·.2))).1,0):=Prod.ext rfl (Classical.not_not.1 h2)
   have e3:=BQ hf e1
   refine⟨_,_,e1,e3,e2,(Prod.ext_iff.1 h).1.symm, ?_, ?_⟩
   ·rw[(pK e3).1,List.length_map]
   ·rw[(pK e2).1,List.length_map]
theorem tS {p:be} {env:List aH} {i:Nat} {ext:List Int} (hv:(aV p).2=0) (hi:i<p.defs.length) (h:eJ p env p.defs[i]=(ext,0)):ext.length=(ar p.defs[i]).length∧p.defs[i].dims.length≤ext.length:=by
 obtain⟨ds,rs,_,_,_,rfl,h1,h2⟩:=Ml hv hi h
 refine⟨?_,by simp;omega⟩
 unfold ar
 simp
 omega
theorem xw {p:be} {env:List aH} {i:Nat} {L:List T3} (hv:(aV p).2=0) (hi:i<p.defs.length) (h:ip p i L) (he:(eJ p env p.defs[i]).2=0):ip p (i+1) (L++ [ue L p env p.defs[i]]):=by
 have hx:eJ p env p.defs[i]=((eJ p env p.defs[i]).1,0):=Prod.ext rfl he
 obtain⟨h1,h2⟩:=tS hv hi hx
 have h3:=mo (L:=L) h1
 refine⟨?_,FK h.2 ?_ (wA hv hi) ?_⟩
 ·rw[List.map_append,h.1,NG hi]
  rfl
 ·simp only[ue,G9,List.length_take,List.length_map]
  omega
 ·simp only[ue,List.length_take,List.length_map]
  omega
theorem Qs {p:be} {i:Nat} {L:List T3} (hv:(aV p).2=0) (hi:i<p.defs.length) (h:ip p i L):Me L p.defs[i].body.pre:= λa ha h3=>by
 obtain⟨ty,fs,h1,h2⟩:=(pt hv hi ha).1 h3
 obtain⟨ds,sp,h4,h5,h6⟩:=h.get h1
 exact⟨ds,sp,h4,by omega,by omega⟩
theorem FX {p:be} (hf:eR p) {s:ByteArray} {ty:Ty} {fs:List fc} (h:aZ p s=some (ty,fs)):fs.length≤12:=by
 unfold aZ at h
 split at h
 ·rename_i y hy
  have h1:=(hf.1 _ (List.mem_of_find?_eq_some hy)).1
  rw[Option.some.inj h]at h1
  exact h1
 ·split at h
  ·rename_i d hd
   cases h
   rw[List.length_map]
   exact(hf.2 _ (List.mem_of_find?_eq_some hd)).1
  ·cases h
theorem L8: ∀{l:List Ex},(∀a∈l,a.idx.length≤6)→(ld l).length≤7*l.length
 | [],_=>Nat.le_refl _
 |a::l,h=>by
  have h1:=h a (List.mem_cons_self ..)
  have h2:=L8 λb hb=>h b (List.mem_cons_of_mem _ hb)
  have h3:(SA a).length≤7:=by
   unfold SA
   have h4:=List.length_filter_le (λs:ByteArray=>decide (s≠mC)) (a.idx.map (·.2.1))
   rw[List.length_map]at h4
   rw[List.length_append]
   split<;>simp only[List.length_cons,List.length_nil]<;>omega
  show((a::l).flatMap SA).length≤_
  rw[List.flatMap_cons,List.length_append,List.length_cons]
  unfold ld at h2
  omega
theorem TG {p:be} {i k:Nat} (h:i≤k) {s:ByteArray} (hs:s∈tm p i):s∈tm p k:=by
 unfold tm at*
 rcases List.mem_append.1 hs with hs|hs
 ·exact List.mem_append_left _ hs
 ·obtain⟨d,hd,rfl⟩:=List.mem_map.1 hs
  obtain⟨j,hj,rfl⟩:=List.mem_take_iff_getElem.1 hd
  exact List.mem_append_right _ (List.mem_map.2 ⟨_,List.mem_take_iff_getElem.2 ⟨j,by omega,rfl⟩,rfl⟩)
theorem ip.get_le {p:be} {i k:Nat} (f:i≤k) {L:List T3} (h:ip p k L) {s:ByteArray} {ty:Ty} {fs:List fc} (hs:aZ (bu p i) s=some (ty,fs)): ∃ds sp,dQ L s=some (ds,sp)∧ds.length=fs.length∧sp.length=fs.length:=by
 obtain⟨t,ht,he,hf⟩:=v7 (L:=L) (s:=s) (by rw[h.1];exact TG f (Dn hs))
 obtain⟨h1,ty',fs',h2,h3⟩:=h.2 t ht
 rw[he,pM hs]at h2
 cases h2
 exact⟨t.2.1,t.2.2,hf,h3,by omega⟩
theorem Dd {p:be} (hv:(aV p).2=0) {i:Nat} (hi:i<p.defs.length):p.defs[i].body.sz≤2000∧(∀a∈p.defs[i].body.pre,a.idx.length≤6∧(a.op≠3→a.idx= []))∧ ∀s∈ar p.defs[i],s≠mC:=by
 obtain⟨h1,ht⟩:=Gi hi ((bX hv).2.2.2 i hi)
 obtain⟨t1,_⟩:=GU ht
 refine⟨?_,λa ha=> ?_,λs hs=> ?_⟩
 ·unfold gn at t1
  split at t1
  ·cases t1
  ·split at t1
   ·cases t1
   ·omega
 ·refine⟨(zx t1 a ha).2.2.2.1,λh3=> ?_⟩
  unfold gn at t1
  split at t1
  ·cases t1
  ·split at t1
   ·cases t1
   ·have:=Cv (nP t1 _ (List.mem_map_of_mem ha))
    exact List.length_eq_zero_iff.1 (this.1.2.2.2.2.1 h3).2
 ·unfold ar at hs
  obtain⟨a,ha,rfl⟩:=List.mem_map.1 hs
  have:=(h1 a ha).1.1
  intro h
  rw[h]at this
  exact absurd this (by decide)
theorem tI {p:be} {env:List aH} (hv:(aV p).2=0) (hf:eR p) {i k:Nat} (f:i≤k) (hi:i<p.defs.length) {L L0:List T3} (hL:ip p k L) {ext:List Int} (he:eJ p env p.defs[i]=(ext,0)):v6 L p.defs[i] (fE L0 p.defs[i] ext):=by
 obtain⟨b1,b2,b3⟩:=Dd hv hi
 obtain⟨x1,x2⟩:=tS hv hi he
 have h1:=(hf.2 _ (List.getElem_mem hi)).1
 have h2:=(hf.2 _ (List.getElem_mem hi)).2.1
 have hl:=L8 (l:=p.defs[i].body.pre) λa ha=>(b2 a ha).1
 rw[Ex.pre_length]at hl
 refine⟨by omega,λa ha=>by have:=(b2 a ha).1;omega,by omega,λv q=> ?_, ?_,by omega,by omega,λs hs=> ?_⟩
 ·refine b3 _ ?_
  rw[←Lo (L:=L0) x1]
  exact List.mem_map_of_mem q
 ·rw[mo x1,x1]
  unfold ar
  simp
 ·have key: ∃ty fs,aZ (bu p i) s=some (ty,fs):=by
   unfold ld at hs
   obtain⟨a,ha,hs⟩:=List.mem_flatMap.1 hs
   unfold SA at hs
   by_cases h3:a.op=3
   ·rw[if_pos h3]at hs
    rcases List.mem_append.1 hs with hs|hs
    ·obtain rfl:=List.mem_singleton.1 hs
     obtain⟨ty,fs,h,_⟩:=(pt hv hi ha).1 h3
     exact⟨ty,fs,h⟩
    ·obtain⟨h4,h5⟩:=List.mem_filter.1 hs
     obtain⟨x,hx,rfl⟩:=List.mem_map.1 h4
     exact(pt hv hi ha).2 h3 x hx (of_decide_eq_true h5)
   ·rw[if_neg h3,(b2 a ha).2 h3]at hs
    cases hs
  obtain⟨ty,fs,g⟩:=key
  obtain⟨ds,sp,f1,f2,f3⟩:=hL.get_le f g
  refine⟨ds,sp,f1, ?_,λa ha hr=> ?_⟩
  ·have:=FX hf (pM g)
   omega
  ·obtain⟨ty',fs',g1,g2⟩:=(pt hv hi ha).1 hr.1
   rw[hr.2,g]at g1
   cases g1
   omega
theorem FL {p:be} {env:List aH} (hv:(aV p).2=0): ∀(n i:Nat) {L L':List T3} {W W':List (List V3)},p.defs.length-i=n→i≤p.defs.length→W.length=i→ip p i L→
  (∀j (h:j<W.length) (h':j<p.defs.length),∃L0 ext,eJ p env p.defs[j]=(ext,0)∧W[j]=fE L0 p.defs[j] ext)→kZ p env (p.defs.drop i) L W=((L',W'),0)→
  ip p p.defs.length L'∧W'.length=p.defs.length∧ ∀j (h:j<W'.length) (h':j<p.defs.length),∃L0 ext,eJ p env p.defs[j]=(ext,0)∧W'[j]=fE L0 p.defs[j] ext
 |0,i,L,L',W,W',hn,hi,hW,hL,hA,h=>by
  rw[wK (by omega)]at h
  cases h
  obtain rfl:i=p.defs.length:=by omega
  exact⟨hL,hW,hA⟩
 |n+1,i,L,L',W,W',hn,hi,hW,hL,hA,h=>by
  have c:i<p.defs.length:=by omega
  rw[BP c]at h
  split at h
  ·rename_i h0
   exact absurd (Prod.ext_iff.1 h).2 h0
  ·rename_i h0
   have h0:=Classical.not_not.1 h0
   refine FL hv n (i+1) (by omega) c (by simp[hW]) (xw hv c hL h0) (λj hj w=> ?_) h
   by_cases m:j<W.length
   ·rw[List.getElem_append_left m]
    exact hA j m w
   ·simp only[List.length_append,List.length_cons,List.length_nil]at hj
    obtain rfl:j=W.length:=by omega
    rw[List.getElem_append_right (Nat.le_refl _)]
    subst hW
    exact⟨L,(eJ p env p.defs[W.length]).1,Prod.ext rfl h0,by simp only[Nat.sub_self,List.getElem_cons_zero];rfl⟩
theorem zb {p:be} {env:List aH} {ms:List Int} {ins:List (List Int)} (hv:(aV p).2=0) (hl:ins.length=p.params.length): ∀(n j:Nat) {L L':List T3},p.params.length-j=n→j≤p.params.length→rt p j L→oR p env ms ((p.params.zip ins).drop j) L=(L',0)→rt p p.params.length L'
 |0,j,L,L',hn,hj,hL,h=>by
  rw[Jp (by omega)]at h
  cases h
  obtain rfl:j=p.params.length:=by omega
  exact hL
 |n+1,j,L,L',hn,hj,hL,h=>by
  have c:j<p.params.length:=by omega
  obtain⟨⟨ds,e⟩,o⟩: ∃D,ej p env p.params[j].1=D:=⟨_,rfl⟩
  rw[LH c (by omega) o]at h
  split at h
  ·rename_i h0
   exact absurd (Prod.ext_iff.1 h).2 h0
  ·rename_i h0
   obtain rfl:=Classical.not_not.1 h0
   split at h
   ·rename_i h1
    exact absurd (Prod.ext_iff.1 h).2 h1
   ·rename_i h1
    exact zb hv hl n (j+1) (by omega) c (Cg hv c hL o (Classical.not_not.1 h1)) h
theorem FN {ms:List Int} {p:be} {env:List aH} {ins:List (List Int)} {L:List T3} {W:List (List V3)} (h:jZ ms p env ins=((L,W),0)):
  kz ms=0∧(aV p).2=0∧lZ p env=0∧ins.length=p.params.length∧ip p p.defs.length L∧W.length=p.defs.length∧ ∀j (h:j<W.length) (h':j<p.defs.length),∃L0 ext,eJ p env p.defs[j]=(ext,0)∧W[j]=fE L0 p.defs[j] ext:=by
 unfold jZ at h
 split at h
 ·rename_i h0
  exact absurd (Prod.ext_iff.1 h).2 h0
 ·rename_i h1
  split at h
  ·rename_i h0
   exact absurd (Prod.ext_iff.1 h).2 h0
  ·rename_i h2
   split at h
   ·rename_i h0
    exact absurd (Prod.ext_iff.1 h).2 h0
   ·rename_i h3
    split at h
    ·cases h
    ·rename_i h4
     split at h
     ·rename_i h0
      exact absurd (Prod.ext_iff.1 h).2 h0
     ·rename_i h5
      have h2:=Classical.not_not.1 h2
      have h4:=Classical.not_not.1 h4
      have hp:=zb h2 h4 _ 0 (L':=(oR p env ms (p.params.zip ins) []).1) rfl (Nat.zero_le _) ⟨rfl,λt h=>by cases h⟩ (Prod.ext rfl (Classical.not_not.1 h5))
      exact⟨Classical.not_not.1 h1,h2,Classical.not_not.1 h3,h4,FL h2 _ 0 rfl (Nat.zero_le _) rfl hp.ok (λj h=>absurd h (by simp)) h⟩
theorem Ke {l:List Ex} {V:List V3} {s:ByteArray}: ∀{j:Nat} {sp:List Int},(pg l V s j sp).length≤sp.length
 |_, []=>Nat.le_refl _
 |j,x::r=>by
  have:=Ke (l:=l) (V:=V) (s:=s) (j:=j+1) (sp:=r)
  rw[pg,List.length_append,List.length_cons]
  split<;>simp only[List.length_cons,List.length_nil]<;>omega
theorem ID {L:List T3} {l:List Ex} {V:List V3}: ∀{N:List ByteArray},(∀s∈N,∃ds sp,dQ L s=some (ds,sp)∧sp.length≤1000)→(nk L l V N).length≤1000*N.length
 | [],_=>Nat.le_refl _
 |s::r,h=>by
  have h1:=ID (L:=L) (l:=l) (V:=V) λx hx=>h x (List.mem_cons_of_mem _ hx)
  obtain⟨ds,sp,h2,h3⟩:=h s (List.mem_cons_self ..)
  have h4:=Ke (l:=l) (V:=V) (s:=s) (j:=0) (sp:=sp)
  rw[nk,List.length_append,List.length_cons,h2]
  simp only
  omega
theorem IQ {nm:ByteArray}: ∀{k:Nat} {V:List V3},(iz nm k V).length≤V.length
 |_, []=>Nat.le_refl _
 |k,x::r=>by
  have:=IQ (nm:=nm) (k:=k+1) (V:=r)
  rw[iz,List.length_append,List.length_cons]
  split<;>simp only[List.length_cons,List.length_nil]<;>omega
end Go.Proofs.YtjhkikmonejkjaaGreatDoor
