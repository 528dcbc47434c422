import Derived.Test.YtjhkikmonejkjaaGreatDoorV52c
import Derived.Test.YtjhkikmonejkjaaGreatDoorV06h
import Derived.Test.YtjhkikmonejkjaaGreatDoorV18s
set_option linter.unusedVariables false
set_option linter.unusedSimpArgs false
namespace Go.Proofs.YtjhkikmonejkjaaGreatDoor
open Go.Abs Go.RowKit
noncomputable section
abbrev V3:=ByteArray×Int×Int
abbrev T3:=ByteArray×List Int×List Int
abbrev mC:ByteArray:=⟨⟨[]⟩⟩
def dQ (L:List T3) (s:ByteArray):Option (List Int×List Int):=(L.find? λt=>decide (t.1=s)).map (·.2)
def d8 (x:Ix) (s:ByteArray):Prop:=x.2.1=mC∧x.1.1=0∧x.1.2= [(s,1)]
instance (x:Ix) (s:ByteArray):Decidable (d8 x s):=Classical.propDecidable _
theorem zI {x:Ix} {s t:ByteArray} (h:d8 x s) (h':d8 x t):s=t:=by
 have:=h.2.2.symm.trans h'.2.2
 simp only[List.cons.injEq,Prod.mk.injEq,and_true]at this
 exact this
def mc (x:Ix):ByteArray:=if x.2.1=mC∧x.1.1=0 then match x.1.2 with
 | [m]=>if m.2=1 then m.1 else mC
 |_=>mC
 else mC
theorem DO {x:Ix} {s:ByteArray} (h:d8 x s):mc x=s:=by
 rw[mc,if_pos ⟨h.1,h.2.1⟩,h.2.2]
 exact if_pos rfl
theorem GB {x:Ix} {s:ByteArray} (hs:s≠mC):mc x=s↔d8 x s:=by
 refine⟨λh=> ?_,DO⟩
 unfold mc at h
 split at h
 ·rename_i h1
  split at h
  ·rename_i m hm
   split at h
   ·rename_i h2
    refine⟨h1.1,h1.2, ?_⟩
    rw[hm,←h,←h2]
   ·exact absurd h.symm hs
  ·exact absurd h.symm hs
 ·exact absurd h.symm hs
def Ea (s:ByteArray) (many:Int) (taken:List Int):List (Ix×Int×Int)→Option Int
 | []=>none
 |(x,d,m)::r=>if 0≤m∧d8 x s∧d=many∧m∉taken then some m else Ea s many taken r
def iE (L:List T3) (a:Ex):List (Ix×Int×Int):=match dQ L a.name with
 |some (ds,sp)=>a.idx.zip (ds.zip sp)
 |none=> []
def ef (L:List T3) (s:ByteArray) (many:Int) (taken:List Int):List Ex→Int
 | []=> -1
 |a::r=>if a.op=3 then match Ea s many taken (iE L a)with
  |some m=>m
  |none=>ef L s many taken r
  else ef L s many taken r
theorem Q5 {L:List T3} {s:ByteArray} {many:Int} {taken:List Int} {l:List Ex} {k:Nat} (h:k<l.length) (h3:l[k].op≠3∨Ea s many taken (iE L l[k])=none):ef L s many taken (l.drop k)=ef L s many taken (l.drop (k+1)):=by
 rw[List.drop_eq_getElem_cons h,ef]
 by_cases h0:l[k].op=3
 ·rw[if_pos h0,h3.resolve_left (not_not_intro h0)]
 ·rw[if_neg h0]
theorem Jw {L:List T3} {s:ByteArray} {many:Int} {taken:List Int} {l:List Ex} {k:Nat} (h:l.length≤k):ef L s many taken (l.drop k)= -1:=by
 rw[List.drop_of_length_le h,ef]
theorem L5 {s:ByteArray} {many:Int} {taken:List Int} {l:List (Ix×Int×Int)} {j:Nat} (h:j<l.length):Ea s many taken (l.drop j)=if 0≤l[j].2.2∧d8 l[j].1 s∧l[j].2.1=many∧l[j].2.2∉taken then some l[j].2.2 else Ea s many taken (l.drop (j+1)):=by
 rw[List.drop_eq_getElem_cons h,Ea]
theorem PS {s:ByteArray} {many:Int} {taken:List Int} {l:List (Ix×Int×Int)} {j:Nat} (h:l.length≤j):Ea s many taken (l.drop j)=none:=by
 rw[List.drop_of_length_le h,Ea]
def rf (s:ByteArray) (many:Int) (taken:List Int) (C:List (Ix×Int×Int)) (rest:Int):Int:=match Ea s many taken C with
 |some m=>m
 |none=>rest
theorem GK {L:List T3} {s:ByteArray} {many:Int} {taken:List Int} {l:List Ex} {k:Nat} (h:k<l.length) (h0:l[k].op=3):ef L s many taken (l.drop k)=rf s many taken (iE L l[k]) (ef L s many taken (l.drop (k+1))):=by
 rw[List.drop_eq_getElem_cons h,ef,if_pos h0,rf]
theorem Gj {L:List T3} {s:ByteArray} {many:Int} {taken:List Int} {l:List Ex} {k:Nat} (h:k<l.length) (h0:l[k].op≠3):ef L s many taken (l.drop k)=ef L s many taken (l.drop (k+1)):=Q5 h (.inl h0)
theorem II {s:ByteArray} {many:Int} {taken:List Int} {C:List (Ix×Int×Int)} {rest:Int} {j:Nat} (h:j<C.length) (hc:0≤C[j].2.2∧d8 C[j].1 s∧C[j].2.1=many∧C[j].2.2∉taken):rf s many taken (C.drop j) rest=C[j].2.2:=by
 rw[rf,L5 h,if_pos hc]
theorem mJ {s:ByteArray} {many:Int} {taken:List Int} {C:List (Ix×Int×Int)} {rest:Int} {j:Nat} (h:j<C.length) (hc: ¬(0≤C[j].2.2∧d8 C[j].1 s∧C[j].2.1=many∧C[j].2.2∉taken)):rf s many taken (C.drop j) rest=rf s many taken (C.drop (j+1)) rest:=by
 rw[rf,L5 h,if_neg hc,rf]
theorem JB {s:ByteArray} {many:Int} {taken:List Int} {C:List (Ix×Int×Int)} {rest:Int} {j:Nat} (h:C.length≤j):rf s many taken (C.drop j) rest=rest:=by
 rw[rf,PS h]
def Me (L:List T3) (l:List Ex):Prop:= ∀a∈l,a.op=3→ ∃ds sp,dQ L a.name=some (ds,sp)∧ds.length=a.idx.length∧sp.length=a.idx.length
theorem Gf {L:List T3} {a:Ex} {ds sp:List Int} (h:dQ L a.name=some (ds,sp)) (h1:ds.length=a.idx.length) (h2:sp.length=a.idx.length):(iE L a).length=a.idx.length∧ ∀j (h:j<(iE L a).length) (hi:j<a.idx.length) (hd:j<ds.length) (hs:j<sp.length),(iE L a)[j]=(a.idx[j],ds[j],sp[j]):=by
 have e:iE L a=a.idx.zip (ds.zip sp):=by rw[iE,h]
 refine⟨by rw[e];simp;omega,λj h hi hd hs=> ?_⟩
 simp only[e,List.getElem_zip]
def eM (f:Int) (t:Ty):Prop:=ju t∧(f=3∨f=4∨((f=1∨f=2)∧t.1≠2))
def py (d:jA) (i:Nat):Prop:=i<d.dims.length∧(d.fold≠5∨i+1<d.dims.length)∨d.dims.length≤i∧eM d.fold d.ty
instance (d:jA) (i:Nat):Decidable (py d i):=Classical.propDecidable _
def sO (L:List T3) (d:jA):List (ByteArray×Int)→List V3→List V3
 | [],done=>done
 |(s,n)::r,done=>sO L d r (done++ [(s,n,if py d done.length then ef L s n (done.map (·.2.2)) d.body.pre else-1)])
def fE (L:List T3) (d:jA) (ext:List Int):List V3:=sO L d ((ar d).zip ext) []
theorem xM {L:List T3} {d:jA}: ∀{l:List (ByteArray×Int)} {done:List V3},∃r,sO L d l done=done++r∧r.map (λv=>(v.1,v.2.1))=l
 | [],done=>⟨[],by rw[sO];simp⟩
 |(s,n)::r,done=>by
  obtain⟨t,h1,h2⟩:=xM (L:=L) (d:=d) (l:=r) (done:=done++ [(s,n,if py d done.length then ef L s n (done.map (·.2.2)) d.body.pre else-1)])
  exact⟨_::t,by rw[sO,h1,List.append_assoc];rfl,by rw[List.map_cons,h2]⟩
theorem PD {L:List T3} {d:jA} {l:List (ByteArray×Int)} {done:List V3}:(sO L d l done).length=done.length+l.length:=by
 obtain⟨r,h1,h2⟩:=xM (L:=L) (d:=d) (l:=l) (done:=done)
 rw[h1,List.length_append,←h2,List.length_map]
theorem Mr {L:List T3} {d:jA}: ∀{l:List (ByteArray×Int)} {done:List V3} {i:Nat} (h:i<l.length) (h':done.length+i<(sO L d l done).length),
  (sO L d l done)[done.length+i]=(l[i].1,l[i].2,if py d (done.length+i)then ef L l[i].1 l[i].2 (((sO L d l done).take (done.length+i)).map (·.2.2)) d.body.pre else-1)
 |(s,n)::r,done,0,h,h'=>by
  obtain⟨t,h1,h2⟩:=xM (L:=L) (d:=d) (l:=r) (done:=done++ [(s,n,if py d done.length then ef L s n (done.map (·.2.2)) d.body.pre else-1)])
  have e:sO L d ((s,n)::r) done=done++((s,n,if py d done.length then ef L s n (done.map (·.2.2)) d.body.pre else-1)::t):=by rw[sO,h1,List.append_assoc];rfl
  simp[e]
 |(s,n)::r,done,i+1,h,h'=>by
  have e:sO L d ((s,n)::r) done=sO L d r (done++ [(s,n,if py d done.length then ef L s n (done.map (·.2.2)) d.body.pre else-1)]):=by rw[sO]
  have hl:(done++ [(s,n,if py d done.length then ef L s n (done.map (·.2.2)) d.body.pre else-1)]).length+i=done.length+(i+1):=by simp;omega
  have ih:=Mr (L:=L) (d:=d) (l:=r) (done:=done++ [(s,n,if py d done.length then ef L s n (done.map (·.2.2)) d.body.pre else-1)]) (i:=i) (by simpa using h) (by rw[hl,←e];exact h')
  simp only[hl]at ih
  simp only[e]
  exact ih
theorem mo {L:List T3} {d:jA} {ext:List Int} (h:ext.length=(ar d).length):(fE L d ext).length=ext.length:=by
 rw[fE,PD]
 simp[h]
theorem L1 {L:List T3} {d:jA} {ext:List Int} (h:ext.length=(ar d).length) {i:Nat} (hi:i<ext.length) (hv:i<(fE L d ext).length):
  (fE L d ext)[i]=((ar d)[i],ext[i],if py d i then ef L (ar d)[i] ext[i] (((fE L d ext).take i).map (·.2.2)) d.body.pre else-1):=by
 have:=Mr (L:=L) (d:=d) (l:=(ar d).zip ext) (done:= []) (i:=i) (by simp;omega) (by simpa[fE]using hv)
 simp only[List.length_nil,Nat.zero_add,List.getElem_zip]at this
 exact this
theorem Lo {L:List T3} {d:jA} {ext:List Int} (h:ext.length=(ar d).length):(fE L d ext).map (·.1)=ar d:=by
 obtain⟨r,h1,h2⟩:=xM (L:=L) (d:=d) (l:=(ar d).zip ext) (done:= [])
 rw[fE,h1,List.nil_append]
 have:r.map (·.1)=(r.map λv=>(v.1,v.2.1)).map (·.1):=by rw[List.map_map];rfl
 rw[this,h2]
 exact List.map_fst_zip (by omega)
def jI (env:List aH):List Int→List fc→List Int×Int
 |acc, []=>(acc,0)
 |acc,a::r=>if(mB a.1 a.2 env).2≠0 then([],(mB a.1 a.2 env).2)else if(mB a.1 a.2 env).1<1∨4096<(mB a.1 a.2 env).1 then([],15)else jI env (acc++ [(mB a.1 a.2 env).1]) r
def iv (env:List aH) (l:List fc):List Int×Int:=jI env [] l
theorem xK {env:List aH} {acc:List Int} {l:List fc} {j:Nat} {n e:Int} (h:j<l.length) (hr:mB l[j].1 l[j].2 env=(n,e)):jI env acc (l.drop j)=if e≠0 then([],e)else if n<1∨4096<n then([],15)else jI env (acc++ [n]) (l.drop (j+1)):=by
 rw[List.drop_eq_getElem_cons h,jI,hr]
theorem sw {env:List aH} {acc:List Int} {l:List fc} {j:Nat} (h:l.length≤j):jI env acc (l.drop j)=(acc,0):=by
 rw[List.drop_of_length_le h,jI]
theorem LE {env:List aH}: ∀{l:List fc} {acc r:List Int},jI env acc l=(r,0)→ ∃t,r=acc++t∧t.length=l.length∧(∀x∈t,1≤x∧x≤4096)∧ ∀i (h:i<l.length) (h':i<t.length),mB l[i].1 l[i].2 env=(t[i],0)
 |[],acc,r,h=>by
  rw[jI]at h
  cases h
  exact⟨[],by simp,rfl,(λx hx=>by cases hx),(λi h=>absurd h (by simp))⟩
 |a::l,acc,r,h=>by
  rw[jI]at h
  split at h
  ·rename_i h1
   exact absurd (Prod.ext_iff.1 h).2 h1
  ·rename_i h1
   split at h
   ·cases (Prod.ext_iff.1 h).2
   ·rename_i h2
    obtain⟨t,e1,e2,e3,e4⟩:=LE h
    refine⟨(mB a.1 a.2 env).1::t,by rw[e1,List.append_assoc];rfl,by simp[e2],λx hx=> ?_,λi h h'=> ?_⟩
    ·rcases List.mem_cons.1 hx with rfl|hx
     ·omega
     ·exact e3 x hx
    ·cases i with
     |zero=>exact Prod.ext rfl (Classical.not_not.1 h1)
     |succ i=>simpa using e4 i (by simpa using h) (by simpa using h')
theorem pK {env:List aH} {l:List fc} {r:List Int} (h:iv env l=(r,0)):r.length=l.length∧(∀x∈r,1≤x∧x≤4096)∧ ∀i (h:i<l.length) (h':i<r.length),mB l[i].1 l[i].2 env=(r[i],0):=by
 obtain⟨t,rfl,h2⟩:=LE h
 exact h2
theorem Jb {env:List aH}: ∀{l:List fc} {acc r:List Int} {e:Int},jI env acc l=(r,e)→e≠0→r= []
 |[],acc,r,e,h,h0=>by
  rw[jI]at h
  cases h
  exact absurd rfl h0
 |a::l,acc,r,e,h,h0=>by
  rw[jI]at h
  split at h
  ·exact(Prod.ext_iff.1 h).1.symm
  ·split at h
   ·exact(Prod.ext_iff.1 h).1.symm
   ·exact Jb h h0
theorem N6 {env:List aH} {l:List fc} {r:List Int} {e:Int} (h:iv env l=(r,e)) (h0:e≠0):r= []:=Jb h h0
def gy:List Int→Int
 | []=>1
 |n::r=>n*gy r
def ej (p:be) (env:List aH) (s:ByteArray):List Int×Int:=match aZ p s with
 |none=>([],9)
 |some (_,fs)=>if(iv env fs).2≠0 then([],(iv env fs).2)else if 4096<gy (iv env fs).1 then([],15)else((iv env fs).1,0)
def SA (a:Ex):List ByteArray:=(if a.op=3 then [a.name]else [])++(a.idx.map (·.2.1)).filter λs=>decide (s≠mC)
def ld (l:List Ex):List ByteArray:=l.flatMap SA
def jT (l:List Ex) (V:List V3) (s:ByteArray) (j:Nat) (x:Int):Prop:=
 (∀a∈l,∀i∈a.idx,i.2.1≠s)∧ ∃u,u≠mC∧(∀a∈l,a.op=3→a.name=s→ ∃i,a.idx[j]? =some i∧d8 i u)∧ ∃v∈V,v.1=u∧v.2.2=x
instance (l:List Ex) (V:List V3) (s:ByteArray) (j:Nat) (x:Int):Decidable (jT l V s j x):=Classical.propDecidable _
abbrev Tr:=Int×Int×Int×Int×ByteArray
def pg (l:List Ex) (V:List V3) (s:ByteArray):Nat→List Int→List Tr
 |_, []=> []
 |j,x::r=>(if 0≤x∧ ¬jT l V s j x then [(1,x,(j:Int),(j:Int),s)]else [])++pg l V s (j+1) r
def nk (L:List T3) (l:List Ex) (V:List V3):List ByteArray→List Tr
 | []=> []
 |s::r=>(match dQ L s with
  |some t=>pg l V s 0 t.2
  |none=> [])++nk L l V r
def iz (nm:ByteArray):Nat→List V3→List Tr
 |_, []=> []
 |k,v::r=>(if 0≤v.2.2 then [(2,v.2.2,(k:Int),(k:Int),nm)]else [])++iz nm (k+1) r
def fp (L:List T3) (d:jA) (V:List V3):List Tr:=nk L d.body.pre V (ff (ld d.body.pre))++iz d.name 0 (V.drop d.dims.length)
def eJ (p:be) (env:List aH) (d:jA):List Int×Int:=
 if(ej p env d.name).2≠0 then([],(ej p env d.name).2)else if(iv env (d.red.map (·.2))).2≠0 then([],(iv env (d.red.map (·.2))).2)else((ej p env d.name).1++(iv env (d.red.map (·.2))).1,0)
def oR (p:be) (env:List aH) (ms:List Int):List (kO×List Int)→List T3→List T3×Int
 | [],L=>(L,0)
 |(x,s)::r,L=>if(ej p env x.1).2≠0 then([],(ej p env x.1).2)else if gr ms (ej p env x.1).1 s≠0 then([],gr ms (ej p env x.1).1 s)else oR p env ms r (L++ [(x.1,(ej p env x.1).1,s)])
def G9 (L:List T3) (p:be) (env:List aH) (d:jA):List V3:=fE L d (eJ p env d).1
def ue (L:List T3) (p:be) (env:List aH) (d:jA):T3:=(d.name,(eJ p env d).1.take d.dims.length,((G9 L p env d).take d.dims.length).map (·.2.2))
def kZ (p:be) (env:List aH):List jA→List T3→List (List V3)→(List T3×List (List V3))×Int
 | [],L,W=>((L,W),0)
 |d::r,L,W=>if(eJ p env d).2≠0 then(([], []),(eJ p env d).2)else kZ p env r (L++ [ue L p env d]) (W++ [G9 L p env d])
def jZ (ms:List Int) (p:be) (env:List aH) (ins:List (List Int)):(List T3×List (List V3))×Int:=
 if kz ms≠0 then(([], []),kz ms)else if(aV p).2≠0 then(([], []),(aV p).2)else if lZ p env≠0 then(([], []),lZ p env)else if ins.length≠p.params.length then(([], []),24)
 else if(oR p env ms (p.params.zip ins) []).2≠0 then(([], []),(oR p env ms (p.params.zip ins) []).2)else kZ p env p.defs (oR p env ms (p.params.zip ins) []).1 []
def gZ (L:List T3):List (jA×List V3)→List Tr
 | []=> []
 |(d,V)::r=>fp L d V++gZ L r
def jw (ms:List Int) (p:be) (env:List aH) (ins:List (List Int)):(List (List Int)×List Tr)×Int:=
 if(jZ ms p env ins).2≠0 then(([], []),(jZ ms p env ins).2)else(((((jZ ms p env ins).1.1.drop p.params.length).map λt=>t.2.2),gZ (jZ ms p env ins).1.1 (p.defs.zip (jZ ms p env ins).1.2)),0)
end
end Go.Proofs.YtjhkikmonejkjaaGreatDoor
