/- Valid programs: their names are distinct; what the layout holds. -/
import Derived.Test.YtjhkikmonejkjaaGreatDoorP54b
import Derived.Test.YtjhkikmonejkjaaGreatDoorP17v
import Derived.Test.YtjhkikmonejkjaaGreatDoorV17x
set_option linter.unusedVariables false
set_option linter.unusedSimpArgs false
namespace Go.Proofs.YtjhkikmonejkjaaGreatDoor
open Go.Abs Go.RowKit
theorem B3 {l:List ByteArray} {s:ByteArray} (h:aE l s=0):eI s∧s∉l:=by
 unfold aE at h
 split at h
 ·cases h
 ·rename_i h1
  split at h
  ·cases h
  ·exact⟨Classical.not_not.1 h1,‹_›⟩
theorem GG {p:be} (h:(aV p).2=0) {j:Nat} (hj:j<p.params.length):eI p.params[j].1∧p.params[j].1∉ci p j:=by
 have h1:=(bX h).2.2.1 j hj
 rw[BV hj]at h1
 unfold cg at h1
 split at h1
 ·contradiction
 ·exact B3 (Classical.not_not.1 ‹_›)
theorem tO {p:be} (h:(aV p).2=0) {j:Nat} (hj:j<p.defs.length):eI p.defs[j].name∧p.defs[j].name∉cM p j:=by
 have h1:=(bX h).2.2.2 j hj
 rw[w8 hj]at h1
 unfold aR at h1
 split at h1
 ·contradiction
 ·exact B3 (Classical.not_not.1 ‹_›)
theorem J2 {p:be} (h:(aV p).2=0) {j:Nat} (hj:j<p.params.length):aZ p p.params[j].1=some p.params[j].2:=by
 refine tF hj rfl λi hi he=>(GG h hj).2 ?_
 rw[←he]
 exact List.mem_append_right _ (List.mem_map.2 ⟨_,List.mem_take_iff_getElem.2 ⟨i,by omega,rfl⟩,rfl⟩)
theorem wA {p:be} (h:(aV p).2=0) {j:Nat} (hj:j<p.defs.length):aZ p p.defs[j].name=some (p.defs[j].ty,p.defs[j].dims.map (·.2)):=by
 refine tK (λi hi he=>(tO h hj).2 ?_) hj rfl λi hi he=>(tO h hj).2 ?_
 ·rw[←he]
  exact List.mem_append_left _ (List.mem_append_right _ (List.mem_map.2 ⟨_,List.getElem_mem hi,rfl⟩))
 ·rw[←he]
  exact List.mem_append_right _ (List.mem_map.2 ⟨_,List.mem_take_iff_getElem.2 ⟨i,by omega,rfl⟩,rfl⟩)
def tm (p:be) (k:Nat):List ByteArray:=p.params.map (·.1)++(p.defs.take k).map (·.name)
theorem J1 {p:be} {k:Nat} {s:ByteArray} (h:s∈tm p k):s∈cM p k:=by
 unfold tm at h
 unfold cM
 rw[List.append_assoc]
 exact List.mem_append_right _ h
theorem NG {p:be} {k:Nat} (h:k<p.defs.length):tm p (k+1)=tm p k++ [p.defs[k].name]:=by
 unfold tm
 rw[List.take_succ_eq_append_getElem h,List.map_append,←List.append_assoc]
 rfl
theorem Dn {p:be} {k:Nat} {s:ByteArray} {x:Ty×List fc} (h:aZ (bu p k) s=some x):s∈tm p k:=by
 unfold aZ bu at h
 simp only at h
 split at h
 ·rename_i y hy
  have:=List.find?_some hy
  exact List.mem_append_left _ (List.mem_map.2 ⟨y,List.mem_of_find?_eq_some hy,by simpa using this⟩)
 ·split at h
  ·rename_i d hd
   have:=List.find?_some hd
   exact List.mem_append_right _ (List.mem_map.2 ⟨d,List.mem_of_find?_eq_some hd,by simpa using this⟩)
  ·cases h
def ip (p:be) (k:Nat) (L:List T3):Prop:=L.map (·.1)=tm p k∧ ∀t∈L,t.2.1.length=t.2.2.length∧ ∃ty fs,aZ p t.1=some (ty,fs)∧t.2.1.length=fs.length
theorem v7 {L:List T3} {s:ByteArray} (h:s∈L.map (·.1)): ∃t∈L,t.1=s∧dQ L s=some t.2:=by
 unfold dQ
 cases hf:L.find? λt=>decide (t.1=s)with
 |none=>
  obtain⟨t,ht,he⟩:=List.mem_map.1 h
  exact absurd (by simpa using he) (by simpa using List.find?_eq_none.1 hf t ht)
 |some t=>
  have:=List.find?_some hf
  exact⟨t,List.mem_of_find?_eq_some hf,by simpa using this,rfl⟩
theorem MO {L M:List T3} {s:ByteArray} (h:s∈L.map (·.1)):dQ (L++M) s=dQ L s:=by
 obtain⟨t,_,_,ht⟩:=v7 h
 unfold dQ at*
 rw[List.find?_append]
 cases hf:L.find? λt=>decide (t.1=s)with
 |none=>rw[hf]at ht;cases ht
 |some u=>rfl
theorem ip.get {p:be} {k:Nat} {L:List T3} (h:ip p k L) {s:ByteArray} {ty:Ty} {fs:List fc} (hs:aZ (bu p k) s=some (ty,fs)): ∃ds sp,dQ L s=some (ds,sp)∧ds.length=fs.length∧sp.length=fs.length:=by
 obtain⟨t,ht,he,hf⟩:=v7 (L:=L) (s:=s) (by rw[h.1];exact Dn hs)
 obtain⟨h1,ty',fs',h2,h3⟩:=h.2 t ht
 rw[he,pM hs]at h2
 cases h2
 exact⟨t.2.1,t.2.2,hf,h3,by omega⟩
theorem pt {p:be} (h:(aV p).2=0) {k:Nat} (hk:k<p.defs.length) {a:Ex} (ha:a∈p.defs[k].body.pre):
  (a.op=3→ ∃ty fs,aZ (bu p k) a.name=some (ty,fs)∧a.idx.length=fs.length)∧(a.op=3→ ∀x∈a.idx,x.2.1≠mC→ ∃ty fs,aZ (bu p k) x.2.1=some (ty,fs)):=by
 obtain⟨_,ht⟩:=Gi hk ((bX h).2.2.2 k hk)
 obtain⟨_,t2⟩:=GU ht
 have key:a.op=3→(fm (bu p k) (ar p.defs[k]) a).2=0:=PI _ t2 a ha
 refine⟨λh3=> ?_,λh3 x hx hn=> ?_⟩
 ·have:=key h3
  unfold fm at this
  split at this
  ·cases this
  ·rename_i ty fs hf
   split at this
   ·cases this
   ·exact⟨ty,fs,hf,Classical.not_not.1 ‹_›⟩
 ·have:=key h3
  unfold fm at this
  split at this
  ·cases this
  ·split at this
   ·cases this
   ·split at this
    ·contradiction
    ·rename_i hz
     have b:=nP (Classical.not_not.1 hz) _ (List.mem_map.2 ⟨x,hx,rfl⟩)
     unfold f6 at b
     rw[if_neg hn]at b
     split at b
     ·cases b
     ·exact⟨_,_,‹_›⟩
set_option maxRecDepth 20000
abbrev sn:ByteArray:=⟨⟨[110]⟩⟩
abbrev si:ByteArray:=⟨⟨[105]⟩⟩
abbrev sj:ByteArray:=⟨⟨[106]⟩⟩
abbrev sk:ByteArray:=⟨⟨[107]⟩⟩
abbrev sa:ByteArray:=⟨⟨[97]⟩⟩
abbrev sb:ByteArray:=⟨⟨[98]⟩⟩
abbrev sc:ByteArray:=⟨⟨[99]⟩⟩
abbrev se:ByteArray:=⟨⟨[]⟩⟩
def FY:Ty:=(1,0,0,0,0)
def fV (s:ByteArray):fc:=(0, [(s,1)])
def jo (s i j:ByteArray):Ex:= .mk 3 s (0,0) (0,0,0,0,0) (0, []) [(fV i,se, []),(fV j,se, [])] []
def lT:Ex:= .mk 6 se (0,0) (0,0,0,0,0) (0, []) [] [jo sa si sk,jo sb sk sj]
def no:jA:=⟨sc,FY, [(si,fV sn),(sj,fV sn)], [(sk,fV sn)],1,lT⟩
def iT:be:=⟨[sn], [], [(sa,FY, [fV sn,fV sn]),(sb,FY, [fV sn,fV sn])], [no], [sc]⟩
theorem wu {c:UInt8} (h1:97≤c.toNat) (h2:c.toNat≤122):eI ⟨⟨[c]⟩⟩:=by
 refine⟨by simp[ByteArray.size],by simp[ByteArray.size], ?_,λi h=> ?_⟩
 ·intro h
  simp[vz]at h
 ·obtain rfl:i=0:=by simp[ByteArray.size]at h;omega
  exact .inl ⟨h1,h2⟩
theorem TH:eI sn:=wu (by decide) (by decide)
theorem Vu:eI si:=wu (by decide) (by decide)
theorem UJ:eI sj:=wu (by decide) (by decide)
theorem TX:eI sk:=wu (by decide) (by decide)
theorem UA:eI sa:=wu (by decide) (by decide)
theorem VM:eI sb:=wu (by decide) (by decide)
theorem We:eI sc:=wu (by decide) (by decide)
theorem BT {s:ByteArray} {k:Int} (h:eI s) (hk:k≠0):dZ [(s,k)]:=by
 intro i hi g
 obtain rfl:i=0:=by simpa using g
 exact⟨h,hk,λh=>by omega⟩
theorem PK:dZ []:= λi hi=>absurd hi (by simp)
theorem Ru {sizes:List ByteArray} {s:ByteArray} (h:eI s) (hs:s∈sizes):bi sizes (fV s)=0:=by
 unfold bi fV
 have hn:fe [] sizes (0, [(s,1)]):= λm hm=>by
  obtain rfl:=List.mem_singleton.1 hm
  exact .inr hs
 rw[if_neg (not_not_intro (BT h (by decide))),if_neg (not_not_intro hn)]
theorem vW {l:List ByteArray} {s:ByteArray} (h:eI s) (hs: ¬s∈l):aE l s=0:=by
 unfold aE
 rw[if_neg (not_not_intro h),if_neg hs]
theorem Mf:ju FY:= .inl ⟨.inl rfl,rfl,rfl,rfl,rfl⟩
theorem L4 (s i j:ByteArray):(jo s i j).pre= [jo s i j]:=by rw[jo,Ex.pre,Ex.pres]
theorem tM:lT.pre= [lT,jo sa si sk,jo sb sk sj]:=by
 rw[lT,Ex.pre,Ex.pres,Ex.pres,Ex.pres,L4,L4]
 rfl
theorem Kx {s i j:ByteArray} (hs:eI s) (hi:eI i) (hj:eI j):aP (jo s i j)=0:=by
 have hx: ∀x∈(jo s i j).idx,x=(fV i,se, [])∨x=(fV j,se, []):= λx hx=>by
  simpa[jo,Ex.idx]using hx
 have h1:qc (jo s i j):=⟨⟨by simp[jo,Ex.op],by simp[jo,Ex.op]⟩,λ_=>⟨rfl,rfl⟩,λ_ _=>⟨rfl,rfl,rfl,rfl,rfl⟩,λ_=>⟨rfl,rfl⟩,λh=>absurd rfl h,λx h=>by
  rcases hx x h with rfl|rfl<;>exact⟨λ_=>rfl,λh=>absurd rfl h⟩⟩
 have h2:qq (jo s i j):=⟨λ_=>hs,λx e h=>by
  rcases hx x e with rfl|rfl<;>exact absurd rfl h⟩
 have h3:qx (jo s i j):=⟨rfl,by simp[jo,Ex.idx],λx h=>by
  rcases hx x h with rfl|rfl<;>simp⟩
 have h4:kn (jo s i j):=⟨λh=>by simp[jo,Ex.op]at h,λi h=>by simp[jo,Ex.args]at h⟩
 have h5:pq (jo s i j):=by
  refine⟨λh=>by simp[jo,Ex.op]at h,λl hl=> ?_⟩
  simp[jo,Ex.forms,Ex.lin,Ex.idx]at hl
  rcases hl with rfl|rfl|rfl
  ·exact PK
  ·exact BT hi (by decide)
  ·exact BT hj (by decide)
 unfold aP
 rw[if_neg (not_not_intro h1),if_neg (not_not_intro h2),if_neg (not_not_intro h3),if_neg (not_not_intro h4),if_neg (not_not_intro h5)]
theorem Qm:aP lT=0:=by
 have h1:qc lT:=⟨⟨by simp[lT,Ex.op],by simp[lT,Ex.op]⟩,λ_=>⟨rfl,rfl⟩,λ_ _=>⟨rfl,rfl,rfl,rfl,rfl⟩,λ_=>⟨rfl,rfl⟩,λh=>⟨rfl,rfl⟩,λx h=>by simp[lT,Ex.idx]at h⟩
 have h2:qq lT:=⟨λh=>by simp[lT,Ex.op]at h,λx e h=>by simp[lT,Ex.idx]at e⟩
 have h3:qx lT:=⟨rfl,by simp[lT,Ex.idx],λx h=>by simp[lT,Ex.idx]at h⟩
 have h4:kn lT:=⟨λh=>by simp[lT,Ex.op]at h,λi h=>by
  have:i=0∨i=1:=by simp[lT,Ex.args]at h;omega
  rcases this with rfl|rfl<;>simp[lT,jo,Ex.args,Ex.op,jm,pZ]⟩
 have h5:pq lT:=by
  refine⟨λh=>by simp[lT,Ex.op]at h,λl hl=> ?_⟩
  simp[lT,Ex.forms,Ex.lin,Ex.idx]at hl
  rw[hl]
  exact PK
 unfold aP
 rw[if_neg (not_not_intro h1),if_neg (not_not_intro h2),if_neg (not_not_intro h3),if_neg (not_not_intro h4),if_neg (not_not_intro h5)]
theorem To:gn lT=0:=by
 have e1:lT.dep=2:=by simp[lT,jo,Ex.dep,Ex.deps]
 have e2:lT.sz=3:=by simp[lT,jo,Ex.sz,Ex.szs]
 unfold gn
 rw[e1,e2,if_neg (by decide),if_neg (by decide)]
 unfold iK
 rw[tM]
 simp[bY,Qm,Kx UA Vu TX,Kx VM TX UJ]
theorem Qv {q:be} {s i j:ByteArray} (hf:aZ q s=some (FY, [fV sn,fV sn])) (hi:i∈ [si,sj,sk]) (hj:j∈ [si,sj,sk]):dE q [si,sj,sk] (jo s i j)=(FY,0):=by
 have hx: ∀i∈ [si,sj,sk],f6 q [si,sj,sk] (fV i,se, [])=0:= λi hi=>by
  unfold f6 d9
  rw[if_pos rfl,if_pos]
  intro x hx m hm
  obtain rfl:=List.mem_singleton.1 hx
  obtain rfl:=List.mem_singleton.1 hm
  exact .inl hi
 have hr:fm q [si,sj,sk] (jo s i j)=(FY,0):=by
  unfold fm
  rw[show(jo s i j).name=s from rfl,hf]
  simp only
  rw[if_neg (by simp[jo,Ex.idx]),if_neg]
  show ¬bY ([(fV i,se, []),(fV j,se, [])].map (f6 q [si,sj,sk]))≠0
  simp[bY,hx i hi,hx j hj]
 rw[kY,show(jo s i j).args= []from rfl,cp]
 simp only
 unfold aM
 rw[show(jo s i j).op=3 from rfl]
 simp[hr]
theorem UN {q:be} (hp:q.params=iT.params):aT q [si,sj,sk] lT=(FY,0):=by
 have ha:aZ q sa=some (FY, [fV sn,fV sn]):=by simp[aZ,hp,iT]
 have hb:aZ q sb=some (FY, [fV sn,fV sn]):=by simp[aZ,hp,iT]
 have he:dE q [si,sj,sk] lT=(FY,0):=by
  rw[kY,show lT.args= [jo sa si sk,jo sb sk sj]from rfl,cp,Qv ha (by simp) (by simp),cp,Qv hb (by simp) (by simp),cp]
  simp[aM,show lT.op=6 from rfl]
 unfold aT
 rw[if_neg (not_not_intro To),if_neg (by simp[lT,Ex.op,jm]),he]
 simp
theorem M0:aV iT=(0,0):=by
 have hf:=Ru (sizes:= [sn]) TH (List.mem_singleton.2 rfl)
 refine zc (by simp[iC,iT]) (D4 λj hj=> ?_) (by simp[rE,iT,bY]) (λj hj=> ?_) (λj hj=> ?_) λj hj=> ?_
 ·obtain rfl:j=0:=by simpa[iT]using hj
  exact vW TH (by simp)
 ·rw[BV hj]
  have:j=0∨j=1:=by simp[iT]at hj;omega
  rcases this with rfl|rfl
  ·have h1:aE (ci iT 0) sa=0:=vW UA (by simp[ci,iT])
   show cg [sn] (ci iT 0) (sa,FY, [fV sn,fV sn])=0
   unfold cg
   simp[h1,hf,Mf,bY]
  ·have h1:aE (ci iT 1) sb=0:=vW VM (by simp[ci,iT])
   show cg [sn] (ci iT 1) (sb,FY, [fV sn,fV sn])=0
   unfold cg
   simp[h1,hf,Mf,bY]
 ·obtain rfl:j=0:=by simpa[iT]using hj
  rw[w8 hj]
  have h1:aE (cM iT 0) sc=0:=vW We (by simp[cM,iT])
  have h3:aE [sn] si=0:=vW Vu (by simp)
  have n:aE [sn,si] sj=0:=vW UJ (by simp)
  have f:aE [sn,si,sj] sk=0:=vW TX (by simp)
  show aR iT 0 (cM iT 0) no=0
  have h4:aY [sn] [sn] [(si,fV sn),(sj,fV sn),(sk,fV sn)]=0:=by simp[aY,h3,n,f,hf]
  have h5:fj no=0:=by simp[fj,no]
  have h6:=UN (q:=⟨[sn], [],iT.params,iT.defs.take 0, []⟩) rfl
  unfold aR
  rw[show no.name=sc from rfl,show no.ty=FY from rfl,show no.dims= [(si,fV sn),(sj,fV sn)]from rfl,show no.red= [(sk,fV sn)]from rfl,show iT.sizes= [sn]from rfl,show ar no= [si,sj,sk]from rfl,show no.body=lT from rfl]
  rw[show [(si,fV sn),(sj,fV sn)]++ [(sk,fV sn)]= [(si,fV sn),(sj,fV sn),(sk,fV sn)]from rfl,h1,h4,h5,h6]
  simp[Mf]
 ·obtain rfl:j=0:=by simpa[iT]using hj
  rw[Iw hj]
  have:aZ iT sc≠none:=by simp[aZ,iT,no]
  show(if aZ iT sc=none then(9:Int)else if sc∈ []then 8 else 0)=0
  rw[if_neg this]
  simp
end Go.Proofs.YtjhkikmonejkjaaGreatDoor
