import Derived.Test.YthbcbaembicdbaaGreatDoorV12a
set_option linter.unusedVariables false
set_option linter.unusedSimpArgs false
namespace Go.Proofs.YthbcbaembicdbaaGreatDoor
open Go.Abs
noncomputable section
theorem Ab: ∀(x y:List UInt8),Op.bytesLess x y=decide (x<y)
 | [], []=>by simp[Op.bytesLess]
 | [],y::ys=>by simp[Op.bytesLess]
 |x::xs, []=>by simp[Op.bytesLess]
 |x::xs,y::ys=>by
  have ih:=Ab xs ys
  simp only[Op.bytesLess,ih,List.cons_lt_cons_iff]
  by_cases h1:x<y
  ·simp[h1]
  ·by_cases h2:x=y
   ·subst h2;simp
   ·have h3:y<x:=by
     rcases Nat.lt_trichotomy x.toNat y.toNat with h|h|h
     ·exact absurd (UInt8.lt_iff_toNat_lt.2 h) h1
     ·exact absurd (UInt8.toNat_inj.1 h) h2
     ·exact UInt8.lt_iff_toNat_lt.2 h
    simp[h1,h2,h3]
theorem wt {a b:ByteArray}:cn a b=true↔a.toList<b.toList:=by rw[cn,Ab,decide_eq_true_iff]
theorem ic (a:ByteArray): ¬cn a a=true:=by rw[wt];exact List.lt_irrefl _
theorem gK {a b c:ByteArray} (h:cn a b=true) (h':cn b c=true):cn a c=true:=by
 rw[wt]at*;exact List.lt_trans h h'
theorem CD (a b:ByteArray):cn a b=true∨a=b∨cn b a=true:=by
 rw[wt,wt]
 by_cases h1:a.toList<b.toList
 ·exact .inl h1
 ·by_cases h2:b.toList<a.toList
  ·exact .inr (.inr h2)
  ·exact .inr (.inl (nq.1 (List.le_antisymm (List.not_lt.1 h2) (List.not_lt.1 h1))))
theorem pO {a b:ByteArray} (h:cn a b=true): ¬cn b a=true:=fun h'=>ic a (gK h h')
theorem nL {a b:ByteArray} (h:cn a b=true):a≠b:=fun e=>by subst e;exact ic a h
def En (l:List bJ):Prop:=l.Pairwise fun x y=>cn x.1 y.1=true
def cf:List bJ→ByteArray→Int
 | [],_=>0
 |m::r,n=>if m.1=n then m.2 else cf r n
theorem cj {l:List bJ}:bi l↔En l∧ ∀m∈l,gc m.1∧m.2≠0:=by
 constructor
 ·intro h
  refine⟨?_,fun m hm=> ?_⟩
  ·have key: ∀i j (hi:i<j) (hj:j<l.length),cn (l[i]'(by omega)).1 l[j].1=true:=by
    intro i j
    induction j with
    |zero=>intro hi;omega
    |succ j ih=>
     intro hi hj
     have hs:=(h (j+1) hj hj).2.2 (by omega)
     simp only[Nat.add_sub_cancel]at hs
     by_cases e:i=j
     ·subst e;exact hs
     ·exact gK (ih (by omega) (by omega)) hs
   rw[En,List.pairwise_iff_getElem]
   intro i j hi hj hij
   exact key i j hij hj
  ·obtain⟨i,hi,rfl⟩:=List.mem_iff_getElem.1 hm
   exact⟨(h i hi hi).1,(h i hi hi).2.1⟩
 ·rintro⟨h1,h2⟩ i hi hi'
  refine⟨(h2 _ (List.getElem_mem hi')).1,(h2 _ (List.getElem_mem hi')).2,fun h0=> ?_⟩
  rw[En,List.pairwise_iff_getElem]at h1
  exact h1 (i-1) i (by omega) hi' (by omega)
theorem vu {l:List bJ} {n:ByteArray} (h: ∀m∈l,m.1≠n):cf l n=0:=by
 induction l with
 |nil=>rfl
 |cons m r ih=>
  rw[cf,if_neg (h m List.mem_cons_self)]
  exact ih fun m hm=>h m (List.mem_cons_of_mem _ hm)
theorem y9 {l:List bJ} (hs:En l) {m:bJ} (hm:m∈l):cf l m.1=m.2:=by
 induction l with
 |nil=>cases hm
 |cons x r ih=>
  rw[En,List.pairwise_cons]at hs
  rw[cf]
  rcases List.mem_cons.1 hm with rfl|hm
  ·rw[if_pos rfl]
  ·rw[if_neg (nL (hs.1 m hm))]
   exact ih hs.2 hm
theorem Z0 {l:List bJ} {n:ByteArray} (h:cf l n≠0): ∃m∈l,m.1=n∧m.2=cf l n:=by
 induction l with
 |nil=>exact absurd rfl h
 |cons x r ih=>
  rw[cf]at h ⊢
  by_cases e:x.1=n
  ·rw[if_pos e];exact⟨x,List.mem_cons_self,e,rfl⟩
  ·rw[if_neg e]at h ⊢
   obtain⟨m,h1,h2⟩:=ih h
   exact⟨m,List.mem_cons_of_mem _ h1,h2⟩
abbrev Tf:=ByteArray×Int×Int
def bM:List bJ→List bJ→List Tf
 | [],b=>b.map fun m=>(m.1,0,m.2)
 |x::a, []=>(x::a).map fun m=>(m.1,m.2,0)
 |x::a,y::b=>if cn x.1 y.1=true then(x.1,x.2,0)::bM a (y::b)else if cn y.1 x.1=true then(y.1,0,y.2)::bM (x::a) b else(x.1,x.2,y.2)::bM a b
termination_by a b=>a.length+b.length
theorem nX (b:List bJ):bM [] b=b.map fun m=>(m.1,0,m.2):=by rw[bM]
theorem pK (a:List bJ):bM a []=a.map fun m=>(m.1,m.2,0):=by cases a<;>rw[bM];rfl
theorem vk (x:bJ) (a:List bJ) (y:bJ) (b:List bJ):bM (x::a) (y::b)=if cn x.1 y.1=true then(x.1,x.2,0)::bM a (y::b)else if cn y.1 x.1=true then(y.1,0,y.2)::bM (x::a) b else(x.1,x.2,y.2)::bM a b:=by rw[bM]
theorem ol: ∀(a b:List bJ),(bM a b).length≤a.length+b.length
 | [],b=>by rw[nX];simp
 |x::a, []=>by rw[pK];simp
 |x::a,y::b=>by
  rw[vk]
  have h1:=ol a (y::b)
  have h2:=ol (x::a) b
  have h3:=ol a b
  simp only[List.length_cons]at*
  split
  ·simp only[List.length_cons];omega
  ·split
   ·simp only[List.length_cons];omega
   ·simp only[List.length_cons];omega
termination_by a b=>a.length+b.length
theorem fi: ∀(a b:List bJ),En a→En b→(bM a b).Pairwise (fun s t=>cn s.1 t.1=true)∧(∀t∈bM a b,t.2.1=cf a t.1∧t.2.2=cf b t.1∧((∃m∈a,m.1=t.1)∨ ∃m∈b,m.1=t.1))∧(∀m,m∈a∨m∈b→ ∃t∈bM a b,t.1=m.1)
 |[],b,sa,sb=>by
  rw[nX]
  refine⟨by rw[List.pairwise_map];exact sb,fun t ht=> ?_,fun m hm=> ?_⟩
  ·obtain⟨m,hm,rfl⟩:=List.mem_map.1 ht
   exact⟨rfl,(y9 sb hm).symm,.inr ⟨m,hm,rfl⟩⟩
  ·rcases hm with hm|hm
   ·cases hm
   ·exact⟨_,List.mem_map_of_mem hm,rfl⟩
 |x::a, [],sa,sb=>by
  rw[pK]
  refine⟨by rw[List.pairwise_map];exact sa,fun t ht=> ?_,fun m hm=> ?_⟩
  ·obtain⟨m,hm,rfl⟩:=List.mem_map.1 ht
   exact⟨(y9 sa hm).symm,rfl,.inl ⟨m,hm,rfl⟩⟩
  ·rcases hm with hm|hm
   ·exact⟨_,List.mem_map_of_mem hm,rfl⟩
   ·cases hm
 |x::a,y::b,sa,sb=>by
  have sa':=List.pairwise_cons.1 sa
  have sb':=List.pairwise_cons.1 sb
  rw[vk]
  have ne0: ∀{z:bJ} {c:List bJ} {n:ByteArray},En (z::c)→cn n z.1=true→cf (z::c) n=0:=by
   intro z c n s hl
   have s':=List.pairwise_cons.1 s
   exact vu fun m hm=>by
    rcases List.mem_cons.1 hm with rfl|hm
    ·exact fun e=>nL hl e.symm
    ·exact fun e=>nL (gK hl (s'.1 m hm)) e.symm
  have big: ∀{z:bJ} {c:List bJ} {n:ByteArray},cn z.1 n=true→cf (z::c) n=cf c n:=by
   intro z c n hl
   rw[cf,if_neg (nL hl)]
  split
  ·rename_i hl
   obtain⟨h1,h2,h3⟩:=fi a (y::b) sa'.2 sb
   have up: ∀t∈bM a (y::b),cn x.1 t.1=true:=fun t ht=>by
    rcases(h2 t ht).2.2 with⟨m,hm,e⟩|⟨m,hm,e⟩
    ·rw[←e];exact sa'.1 m hm
    ·rw[←e]
     rcases List.mem_cons.1 hm with rfl|hm
     ·exact hl
     ·exact gK hl (sb'.1 m hm)
   refine⟨List.pairwise_cons.2 ⟨up,h1⟩,fun t ht=> ?_,fun m hm=> ?_⟩
   ·rcases List.mem_cons.1 ht with rfl|ht
    ·exact⟨by rw[cf,if_pos rfl],(ne0 sb hl).symm,.inl ⟨x,List.mem_cons_self,rfl⟩⟩
    ·obtain⟨g1,g2,g3⟩:=h2 t ht
     refine⟨by rw[g1,big (up t ht)],g2, ?_⟩
     rcases g3 with⟨m,hm,e⟩|h
     ·exact .inl ⟨m,List.mem_cons_of_mem _ hm,e⟩
     ·exact .inr h
   ·by_cases e:m=x
    ·subst e;exact⟨_,List.mem_cons_self,rfl⟩
    ·obtain⟨t,ht,e2⟩:=h3 m (hm.imp (fun h=>(List.mem_cons.1 h).resolve_left e) id)
     exact⟨t,List.mem_cons_of_mem _ ht,e2⟩
  ·rename_i hnl
   split
   ·rename_i hl
    obtain⟨h1,h2,h3⟩:=fi (x::a) b sa sb'.2
    have up: ∀t∈bM (x::a) b,cn y.1 t.1=true:=fun t ht=>by
     rcases(h2 t ht).2.2 with⟨m,hm,e⟩|⟨m,hm,e⟩
     ·rw[←e]
      rcases List.mem_cons.1 hm with rfl|hm
      ·exact hl
      ·exact gK hl (sa'.1 m hm)
     ·rw[←e];exact sb'.1 m hm
    refine⟨List.pairwise_cons.2 ⟨up,h1⟩,fun t ht=> ?_,fun m hm=> ?_⟩
    ·rcases List.mem_cons.1 ht with rfl|ht
     ·exact⟨(ne0 sa hl).symm,by rw[cf,if_pos rfl],.inr ⟨y,List.mem_cons_self,rfl⟩⟩
     ·obtain⟨g1,g2,g3⟩:=h2 t ht
      refine⟨g1,by rw[g2,big (up t ht)], ?_⟩
      rcases g3 with h|⟨m,hm,e⟩
      ·exact .inl h
      ·exact .inr ⟨m,List.mem_cons_of_mem _ hm,e⟩
    ·by_cases e:m=y
     ·subst e;exact⟨_,List.mem_cons_self,rfl⟩
     ·obtain⟨t,ht,e2⟩:=h3 m (hm.imp id (fun h=>(List.mem_cons.1 h).resolve_left e))
      exact⟨t,List.mem_cons_of_mem _ ht,e2⟩
   ·rename_i hnr
    have hxy:x.1=y.1:=by
     rcases CD x.1 y.1 with h|h|h
     ·exact absurd h hnl
     ·exact h
     ·exact absurd h hnr
    obtain⟨h1,h2,h3⟩:=fi a b sa'.2 sb'.2
    have up: ∀t∈bM a b,cn x.1 t.1=true:=fun t ht=>by
     rcases(h2 t ht).2.2 with⟨m,hm,e⟩|⟨m,hm,e⟩
     ·rw[←e];exact sa'.1 m hm
     ·rw[←e,hxy];exact sb'.1 m hm
    refine⟨List.pairwise_cons.2 ⟨up,h1⟩,fun t ht=> ?_,fun m hm=> ?_⟩
    ·rcases List.mem_cons.1 ht with rfl|ht
     ·exact⟨by rw[cf,if_pos rfl],by rw[cf,if_pos hxy.symm],.inl ⟨x,List.mem_cons_self,rfl⟩⟩
     ·obtain⟨g1,g2,g3⟩:=h2 t ht
      refine⟨by rw[g1,big (up t ht)],by rw[g2,big (by rw[←hxy];exact up t ht)], ?_⟩
      rcases g3 with⟨m,hm,e⟩|⟨m,hm,e⟩
      ·exact .inl ⟨m,List.mem_cons_of_mem _ hm,e⟩
      ·exact .inr ⟨m,List.mem_cons_of_mem _ hm,e⟩
    ·by_cases e:m=x
     ·subst e;exact⟨_,List.mem_cons_self,rfl⟩
     ·by_cases e':m=y
      ·subst e';exact⟨_,List.mem_cons_self,hxy⟩
      ·obtain⟨t,ht,e2⟩:=h3 m (hm.imp (fun h=>(List.mem_cons.1 h).resolve_left e) (fun h=>(List.mem_cons.1 h).resolve_left e'))
       exact⟨t,List.mem_cons_of_mem _ ht,e2⟩
termination_by a b=>a.length+b.length
def ql (T:List Tf):List bJ:=T.filterMap fun t=>if t.2.1+t.2.2=0 then none else some (t.1,t.2.1+t.2.2)
def DB (a b:bY):Prop:=ay (a.1+b.1)∧ ∀t∈bM a.2 b.2,ay (t.2.1+t.2.2)
instance (a b:bY):Decidable (DB a b):=Classical.propDecidable _
def zd (a b:bY):bY:=(a.1+b.1,ql (bM a.2 b.2))
def gu (a b:bY):bY×Int:=if DB a b then(zd a b,0)else((0, []),3)
def iK (a:bY) (b:Int):Prop:=ay (a.1*b)∧ ∀m∈a.2,ay (m.2*b)
instance (a:bY) (b:Int):Decidable (iK a b):=Classical.propDecidable _
def dw (a:bY) (b:Int):bY:=if b=0 then(0, [])else(a.1*b,a.2.map fun m=>(m.1,m.2*b))
def kB (a:bY) (b:Int):bY×Int:=if b=0∨iK a b then(dw a b,0)else((0, []),3)
theorem wE {T:List Tf} (h:T.Pairwise fun s t=>cn s.1 t.1=true):En (ql T)∧(∀m∈ql T,m.2≠0∧ ∃t∈T,t.1=m.1)∧(∀t∈T,cf (ql T) t.1=t.2.1+t.2.2):=by
 have hmem: ∀m∈ql T,m.2≠0∧ ∃t∈T,t.1=m.1∧m.2=t.2.1+t.2.2:=by
  intro m hm
  obtain⟨t,ht,e⟩:=List.mem_filterMap.1 hm
  split at e
  ·cases e
  ·rename_i h0
   cases e
   exact⟨h0,t,ht,rfl,rfl⟩
 have hs:En (ql T):=by
  rw[En,ql,List.pairwise_filterMap]
  refine h.imp ?_
  intro s t hst x hx y hy
  split at hx
  ·cases hx
  ·cases hx
   split at hy
   ·cases hy
   ·cases hy
    exact hst
 refine⟨hs,fun m hm=>⟨(hmem m hm).1,by obtain⟨t,h1,h2,_⟩:=(hmem m hm).2;exact⟨t,h1,h2⟩⟩,fun t ht=> ?_⟩
 by_cases h0:t.2.1+t.2.2=0
 ·rw[h0]
  refine vu fun m hm e=> ?_
  obtain⟨g0,t',g1,g2,g3⟩:=hmem m hm
  have:t'=t:=by
   have hinj: ∀{T:List Tf},T.Pairwise (fun s t=>cn s.1 t.1=true)→ ∀s∈T,∀t∈T,s.1=t.1→s=t:=by
    intro T
    induction T with
    |nil=>intro _ s hs;cases hs
    |cons x r ih=>
     intro hp s hs t ht he
     rw[List.pairwise_cons]at hp
     rcases List.mem_cons.1 hs with rfl|hs'
     ·rcases List.mem_cons.1 ht with rfl|ht'
      ·rfl
      ·exact absurd he (nL (hp.1 t ht'))
     ·rcases List.mem_cons.1 ht with rfl|ht'
      ·exact absurd he.symm (nL (hp.1 s hs'))
      ·exact ih hp.2 s hs' t ht' he
   exact hinj h t' g1 t ht (g2.trans e)
  subst this
  exact g0 (g3.trans h0)
 ·have hm:(t.1,t.2.1+t.2.2)∈ql T:=List.mem_filterMap.2 ⟨t,ht,by rw[if_neg h0]⟩
  exact y9 hs hm
theorem X1 {a b:bY} (ha:En a.2) (hb:En b.2) (n:ByteArray):cf (zd a b).2 n=cf a.2 n+cf b.2 n:=by
 obtain⟨h1,h2,h3⟩:=fi a.2 b.2 ha hb
 obtain⟨k1,k2,k3⟩:=wE h1
 by_cases h: ∃t∈bM a.2 b.2,t.1=n
 ·obtain⟨t,ht,rfl⟩:=h
  rw[zd,k3 t ht,(h2 t ht).1,(h2 t ht).2.1]
 ·rw[zd,vu (l:=ql (bM a.2 b.2)),vu (l:=a.2),vu (l:=b.2)]
  ·rfl
  ·intro m hm e
   obtain⟨t,ht,e2⟩:=h3 m (.inr hm)
   exact h ⟨t,ht,e2.trans e⟩
  ·intro m hm e
   obtain⟨t,ht,e2⟩:=h3 m (.inl hm)
   exact h ⟨t,ht,e2.trans e⟩
  ·intro m hm e
   obtain⟨_,t,ht,e2⟩:=k2 m hm
   exact h ⟨t,ht,e2.trans e⟩
theorem Xf {a b:bY} (ha:En a.2) (hb:En b.2):En (zd a b).2:=(wE (fi a.2 b.2 ha hb).1).1
theorem XS {a b:bY} (ha:En a.2) (hb:En b.2): ∀m∈(zd a b).2,m.2≠0:=fun m hm=>((wE (fi a.2 b.2 ha hb).1).2.1 m hm).1
theorem PV {a b:bY} (ha:En a.2) (hb:En b.2): ∀m∈(zd a b).2,(∃x∈a.2,x.1=m.1)∨ ∃x∈b.2,x.1=m.1:=fun m hm=>by
 obtain⟨h1,h2,h3⟩:=fi a.2 b.2 ha hb
 obtain⟨_,t,ht,e⟩:=(wE h1).2.1 m hm
 rw[←e]
 exact(h2 t ht).2.2
theorem Sc {a b:bY} (ha:bi a.2) (hb:bi b.2):bi (zd a b).2:=by
 rw[cj]at*
 refine⟨Xf ha.1 hb.1,fun m hm=>⟨?_,XS ha.1 hb.1 m hm⟩⟩
 rcases PV ha.1 hb.1 m hm with⟨x,hx,e⟩|⟨x,hx,e⟩
 ·rw[←e];exact(ha.2 x hx).1
 ·rw[←e];exact(hb.2 x hx).1
theorem TU (a:bY) (b:Int) (n:ByteArray):cf (dw a b).2 n=cf a.2 n*b:=by
 rw[dw]
 split
 ·rename_i h;subst h;simp[cf]
 ·obtain⟨k,l⟩:=a
  simp only
  induction l with
  |nil=>simp[cf]
  |cons m r ih=>
   simp only[List.map_cons,cf]
   split
   ·rfl
   ·exact ih
theorem P1 (a:bY) (b:Int):(dw a b).1=a.1*b:=by
 rw[dw]
 split
 ·rename_i h;subst h;simp
 ·rfl
theorem B4 {a:bY} {b:Int} (ha:bi a.2):bi (dw a b).2:=by
 rw[dw]
 split
 ·intro i hi;simp at hi
 ·rename_i hb
  rw[cj]at*
  refine⟨?_,fun m hm=> ?_⟩
  ·simp only[En,List.pairwise_map];exact ha.1
  ·obtain⟨x,hx,rfl⟩:=List.mem_map.1 hm
   exact⟨(ha.2 x hx).1,Int.mul_ne_zero (ha.2 x hx).2 hb⟩
def zo:bt:=((0, []),false)
def jT (out:bY) (eq:Bool):List (bt×Int)→bt×Int
 | []=>((out,eq),0)
 |p::r=>if ¬(p.2=0∨iK p.1.1 p.2)∨ ¬DB out (dw p.1.1 p.2)then(zo,3)else jT (zd out (dw p.1.1 p.2)) (eq&&(p.1.2||decide (p.2=0))) r
def S6 (p:bt×Int):Prop:= ¬bi p.1.1.2∨(p.2<0∧p.1.2=false)
instance (l:List (bt×Int)):Decidable (∃p∈l,S6 p):=Classical.propDecidable _
def aX (l:List bt) (b:List Int):bt×Int:=
 if l.length≠b.length then(zo,1)else if ∃p∈l.zip b,S6 p then(zo,1)else jT (0, []) true (l.zip b)
def ZF (l:List (bt×Int)):Bool:=l.all fun p=>p.1.2||decide (p.2=0)
instance (l:List (bt×Int)):Decidable (∃p∈l,p.2<0∧p.1.2=false):=Classical.propDecidable _
theorem Fc {x:Int}:(gC x).2=true↔ay x:=by
 unfold gC;split<;>simp[*]
theorem cw:ay 0:=by unfold ay;omega
def Tm (g:Nat) (l:List bJ):Nat:=l.foldl (fun g m=>Nat.gcd g m.2.natAbs) g
def ii (l:List bJ):Nat:=Tm 0 l
theorem OA: ∀{l:List bJ} {g:Nat},Tm g l∣g∧ ∀m∈l,Tm g l∣m.2.natAbs
 | [],g=>⟨Nat.dvd_refl _,fun m hm=>by cases hm⟩
 |x::r,g=>by
  obtain⟨h1,h2⟩:=OA (l:=r) (g:=Nat.gcd g x.2.natAbs)
  refine⟨Nat.dvd_trans h1 (Nat.gcd_dvd_left _ _),fun m hm=> ?_⟩
  rcases List.mem_cons.1 hm with rfl|hm
  ·exact Nat.dvd_trans h1 (Nat.gcd_dvd_right _ _)
  ·exact h2 m hm
theorem FV {l:List bJ} {m:bJ} (h:m∈l):ii l∣m.2.natAbs:=OA.2 m h
theorem KE {l:List bJ} {m:bJ} (h:m∈l):(ii l:Int)∣m.2:=Int.ofNat_dvd_left.2 (FV h)
theorem OQ {l:List bJ} (h:l≠ []) (h0: ∀m∈l,m.2≠0):0<ii l:=by
 cases l with
 |nil=>exact absurd rfl h
 |cons m r=>
  have h1:=FV (l:=m::r) (m:=m) List.mem_cons_self
  have h2:=h0 m List.mem_cons_self
  exact Nat.pos_of_dvd_of_pos h1 (by omega)
theorem Yc {l:List bJ} (h:l≠ []) (h0: ∀m∈l,m.2≠0) (h64: ∀m∈l,ay m.2):ii l≤9223372036854775808:=by
 cases l with
 |nil=>exact absurd rfl h
 |cons m r=>
  have h1:=FV (l:=m::r) (m:=m) List.mem_cons_self
  have h2:=h0 m List.mem_cons_self
  have h3:=h64 m List.mem_cons_self
  have:=Nat.le_of_dvd (by omega) h1
  unfold ay at h3
  omega
def gT (g:Nat) (l:List bJ):List bJ:=l.map fun m=>(m.1,m.2/(g:Int))
theorem Rk {l:List bJ} (hl:bi l):bi (gT (ii l) l):=by
 obtain⟨h1,h2⟩:=cj.1 hl
 refine cj.2 ⟨?_,fun m hm=> ?_⟩
 ·simp only[En,gT,List.pairwise_map];exact h1
 ·obtain⟨x,hx,rfl⟩:=List.mem_map.1 hm
  refine⟨(h2 x hx).1,fun h=>(h2 x hx).2 ?_⟩
  have:=Int.ediv_mul_cancel (KE hx)
  simp only at h
  rw[h,Int.zero_mul]at this
  exact this.symm
theorem Im {x:Int} {g:Nat} (hx:ay x) (hg:0<g):ay (x/(g:Int)):=by
 unfold ay at*
 have h1:=Int.ediv_mul_le x (b:=(g:Int)) (by omega)
 have h2:=Int.lt_ediv_add_one_mul_self x (b:=(g:Int)) (by omega)
 generalize x/(g:Int)=q at*
 by_cases hq:0≤q
 ·have:q*1≤q*g:=Int.mul_le_mul_of_nonneg_left (by omega) hq
  omega
 ·have:(-(q+1))*1≤(-(q+1))*g:=Int.mul_le_mul_of_nonneg_left (by omega) (by omega)
  have e: -(q+1)*(g:Int)= -((q+1)*g):=Int.neg_mul _ _
  rw[e]at this
  omega
theorem Cp {x:Int} {g:Nat} (hg:0<g):x/(g:Int)=if x.tmod g<0 then x.tdiv g-1 else x.tdiv g:=by
 have h1:=Int.tmod_def x g
 have h2:(x.tmod g).natAbs<g:=by rw[Int.natAbs_tmod];exact Nat.mod_lt _ (by simpa using hg)
 by_cases h:x.tmod g<0
 ·rw[if_pos h]
  refine((Int.ediv_emod_unique (r:=x.tmod g+g) (by omega)).2 ⟨?_,by omega,by omega⟩).1
  rw[Int.mul_sub];omega
 ·rw[if_neg h]
  exact((Int.ediv_emod_unique (r:=x.tmod g) (by omega)).2 ⟨by omega,by omega,by omega⟩).1
def Ta:bt:=((-1, []),false)
def gL (c:bt):bt×Int×Int:=
 if ¬bi c.1.2 then(zo,0,1)else
 if c.1.2= []then(if c.1.1=0∨(0<c.1.1∧c.2=false)then(zo,1,0)else(Ta,2,0))else
 if c.2=true∧c.1.1.natAbs%ii c.1.2≠0 then(Ta,2,0)else
 if c.2=true∧(c.1.2.headD (.empty,0)).2<0 then
  (if ay (-(c.1.1/(ii c.1.2:Int)))∧ ∀m∈gT (ii c.1.2) c.1.2,ay (-m.2)then(((-(c.1.1/(ii c.1.2:Int)),(gT (ii c.1.2) c.1.2).map fun m=>(m.1,-m.2)),true),0,0)else(zo,0,3))else
 (((c.1.1/(ii c.1.2:Int),gT (ii c.1.2) c.1.2),c.2),0,0)
end
end Go.Proofs.YthbcbaembicdbaaGreatDoor
