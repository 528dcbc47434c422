import Derived.Test.YtiapgekjmcjjgaaGreatDoorVEz
import Derived.Test.YtiapgekjmcjjgaaGreatDoorVCh
import Derived.Test.YtiapgekjmcjjgaaGreatDoorInY
set_option linter.unusedVariables false
set_option linter.unusedSimpArgs false
namespace Go.Proofs.YtiapgekjmcjjgaaGreatDoor
open Go.Abs Go.RowKit
theorem uO {p:bG} {fuel:Int}: ∀{X:List ww} {i:Nat} {acc l:List I5} {z:Int},pA p fuel X i acc=(l,z,0)→(∀x∈X,∃b,fS (fF p x) x.2.2.1 fuel=(b,true,0))∧ ∃r,l=acc++r∧r.map (·.1)=X∧ ∀y∈r,(fS (fF p y.1) y.1.2.2.1 fuel).1=y.2
 |[],i,acc,l,z,h=>by
  rw[pA]at h
  cases h
  exact⟨λx hx=>(by cases hx), [],by simp⟩
 |x::X,i,acc,l,z,h=>by
  rw[pA]at h
  split at h
  ·rename_i h1
   exact absurd (Prod.ext_iff.1 (Prod.ext_iff.1 h).2).2 h1
  ·rename_i h1
   split at h
   ·cases (Prod.ext_iff.1 (Prod.ext_iff.1 h).2).2
   ·rename_i h2
    obtain⟨g1,r,g2,g3,g4⟩:=uO h
    refine⟨λy hy=> ?_,(x,(fS (fF p x) x.2.2.1 fuel).1)::r,by rw[g2];simp,by rw[List.map_cons,g3],λy hy=> ?_⟩
    ·rcases List.mem_cons.1 hy with rfl|hy
     ·exact⟨_,Prod.ext rfl (Prod.ext (by simpa using h2) (Classical.not_not.1 h1))⟩
     ·exact g1 y hy
    ·rcases List.mem_cons.1 hy with rfl|hy
     ·rfl
     ·exact g4 y hy
theorem K7 {p:bG} {fuel:Int} {L:List ww} (a: ∀x∈L,BE p x): ∀{r:List I5} {i:Nat},r.map (·.1)=L.drop i→(∀y∈r,fS (fF p y.1) y.1.2.2.1 fuel=(y.2,true,0))→FU p L i (r.map Ip)=(0,0)
 |[],i,h,_=>by
  rw[List.map_nil,FU,if_neg]
  have:=congrArg List.length h
  simp at this
  omega
 |y::r,i,h,hr=>by
  have hi:i<L.length:=by
   have:=congrArg List.length h
   simp at this
   omega
  rw[List.drop_eq_getElem_cons hi,List.map_cons]at h
  obtain⟨h1,h2⟩:=List.cons.inj h
  obtain⟨_,_,q1,q2,_,_⟩:=a _ (List.getElem_mem hi)
  have hc:=xM (fuel:=fuel) (c:=L[i].2.2.1) (l:=fF p L[i]) (b:=y.2) q2 q1.1 (by rw[←h1];exact hr y List.mem_cons_self)
  rw[List.map_cons,FU,List.getElem?_eq_getElem hi]
  simp only
  rw[if_neg (not_not_intro (by rw[←h1];rfl)),if_neg (not_not_intro (by exact hc))]
  exact K7 a h2 λz hz=>hr z (List.mem_cons_of_mem _ hz)
theorem Nz {p:bG} {fuel:Int} {l:List I5} {z:Int} (a:(bn p).2=0→ ∀x∈im p,BE p x) (h:pQ p fuel=(l,z,0)):Cx p (l.map Ip)=(0,0):=by
 unfold pQ at h
 split at h
 ·rename_i h0
  exact absurd (Prod.ext_iff.1 (Prod.ext_iff.1 h).2).2 h0
 ·rename_i h0
  unfold Cx
  rw[if_neg h0]
  obtain⟨g1,r,g2,g3,g4⟩:=uO h
  obtain rfl:l=r:=by simpa using g2
  refine K7 (fuel:=fuel) (a (Classical.not_not.1 h0)) g3 λy hy=> ?_
  obtain⟨b,hb⟩:=g1 y.1 (by rw[←g3];exact List.mem_map.2 ⟨y,hy,rfl⟩)
  have:=g4 y hy
  rw[hb]at this
  simp only at this
  rw[hb,this]
set_option maxRecDepth 20000
theorem Nb {l:List aU} {c:aU} {fuel:Int} (e: ∀c∈l,br c) (hc:br c): ∀x∈(fS l c fuel).1,am x:=by
 have key: ∀{P:List aU} {acc:List Int},(∀p∈P,br p)→(∀x∈acc,am x)→ ∀x∈(iJ l fuel P acc).1,am x:=by
  intro P
  induction P with
  |nil=>intro acc _ ha x hx;rw[iJ]at hx;exact ha x hx
  |cons p P ih=>
   intro acc hP ha x hx
   rw[iJ]at hx
   split at hx
   ·cases hx
   ·split at hx
    ·cases hx
    ·refine ih (λq hq=>hP q (List.mem_cons_of_mem _ hq)) (λy hy=> ?_) x hx
     rcases List.mem_append.1 hy with hy|hy
     ·exact ha y hy
     ·exact Q5 (xf e (hP p List.mem_cons_self)) y hy
 intro x hx
 unfold fS at hx
 split at hx
 ·cases hx
 ·exact key (qH hc) (λy hy=>by cases hy) x hx
theorem Qw {p:bG} {fuel:Int} {l:List I5} {z:Int} (a:(bn p).2=0→ ∀x∈im p,BE p x) (h:pQ p fuel=(l,z,0)): ∀y∈l.map Ip,∀x∈y.2,am x:=by
 unfold pQ at h
 split at h
 ·rename_i h0
  exact absurd (Prod.ext_iff.1 (Prod.ext_iff.1 h).2).2 h0
 ·rename_i h0
  obtain⟨g1,r,g2,g3,g4⟩:=uO h
  obtain rfl:l=r:=by simpa using g2
  intro y hy x hx
  obtain⟨w,hw,rfl⟩:=List.mem_map.1 hy
  obtain⟨_,_,q1,q2,_,_⟩:=a (Classical.not_not.1 h0) w.1 (by rw[←g3];exact List.mem_map.2 ⟨w,hw,rfl⟩)
  have:x∈w.2:=hx
  rw[←g4 w hw]at this
  exact Nb q2 q1.1 x this
theorem IC (l:List I5):Fk (l.map Ip)=NF l:=by
 show AV.c (.pure (.slice _))=AV.c (.pure (.slice _))
 rw[←MV]
theorem CE.sz {p:bG} {env:List aR} (h:CE p env) (e:kI p) (hL:Cs p) (h0:(bn p).2=0):VR p:=by
 refine⟨⟨by have:=h.1.1;omega,λd hd=> ?_⟩,λd hd=>⟨by have:=h.2.2.2.2 d hd;omega,by have:=h.2.2.2.2 d hd;omega,(hL.2.2 d hd).1⟩,(jU h0).2.1,hL.1⟩
 obtain⟨k,hk,rfl⟩:=List.mem_iff_getElem.1 hd
 obtain⟨g1,g2⟩:=zR h.1.2 e hL h0 hk
 exact⟨g1,by omega⟩
