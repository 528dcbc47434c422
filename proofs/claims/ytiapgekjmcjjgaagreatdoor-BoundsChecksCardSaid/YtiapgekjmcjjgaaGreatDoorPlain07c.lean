import Derived.Test.YtiapgekjmcjjgaaGreatDoorV12a
set_option linter.unusedVariables false
set_option linter.unusedSimpArgs false
namespace Go.Proofs.YtiapgekjmcjjgaaGreatDoor
open Go.Abs
noncomputable section
theorem uG: ∀(x y:List UInt8),Op.bytesLess x y=decide (x<y)
 | [], []=>by simp[Op.bytesLess]
 | [],y::ys=>by simp[Op.bytesLess]
 |x::xs, []=>by simp[Op.bytesLess]
 |x::xs,y::ys=>by
  have ih:=uG xs ys
  simp only[Op.bytesLess,ih,List.cons_lt_cons_iff]
  by_cases h1:x<y
  ·simp[h1]
  ·by_cases h2:x=y
   ·subst h2;simp
   ·have h3:y<x:=by
     rcases Nat.lt_trichotomy x.toNat y.toNat with h|h|h
     ·exact absurd (UInt8.lt_iff_toNat_lt.2 h) h1
     ·exact absurd (UInt8.toNat_inj.1 h) h2
     ·exact UInt8.lt_iff_toNat_lt.2 h
    simp[h1,h2,h3]
theorem rT {a b:ByteArray}:bC a b=true↔a.toList<b.toList:=by rw[bC,uG,decide_eq_true_iff]
theorem eh (a:ByteArray): ¬bC a a=true:=by rw[rT];exact List.lt_irrefl _
theorem eB {a b c:ByteArray} (h:bC a b=true) (h':bC b c=true):bC a c=true:=by
 rw[rT]at*;exact List.lt_trans h h'
theorem nU (a b:ByteArray):bC a b=true∨a=b∨bC b a=true:=by
 rw[rT,rT]
 by_cases h1:a.toList<b.toList
 ·exact .inl h1
 ·by_cases h2:b.toList<a.toList
  ·exact .inr (.inr h2)
  ·exact .inr (.inl (lL.1 (List.le_antisymm (List.not_lt.1 h2) (List.not_lt.1 h1))))
theorem jV {a b:ByteArray} (h:bC a b=true): ¬bC b a=true:= λh'=>eh a (eB h h')
theorem d6 {a b:ByteArray} (h:bC a b=true):a≠b:= λe=>by subst e;exact eh a h
def nL (l:List aR):Prop:=l.Pairwise λx y=>bC x.1 y.1=true
def cf:List aR→ByteArray→Int
 | [],_=>0
 |m::r,n=>if m.1=n then m.2 else cf r n
theorem bD {l:List aR}:aI l↔nL l∧ ∀m∈l,fW m.1∧m.2≠0:=by
 constructor
 ·intro h
  refine⟨?_,λm hm=> ?_⟩
  ·have key: ∀i j (hi:i<j) (hj:j<l.length),bC (l[i]'(by omega)).1 l[j].1=true:=by
    intro i j
    induction j with
    |zero=>intro hi;omega
    |succ j ih=>
     intro hi hj
     have hs:=(h (j+1) hj hj).2.2 (by omega)
     simp only[Nat.add_sub_cancel]at hs
     by_cases e:i=j
     ·subst e;exact hs
     ·exact eB (ih (by omega) (by omega)) hs
   rw[nL,List.pairwise_iff_getElem]
   intro i j hi hj J
   exact key i j J hj
  ·obtain⟨i,hi,rfl⟩:=List.mem_iff_getElem.1 hm
   exact⟨(h i hi hi).1,(h i hi hi).2.1⟩
 ·rintro⟨h1,h2⟩ i hi D
  refine⟨(h2 _ (List.getElem_mem D)).1,(h2 _ (List.getElem_mem D)).2,λh0=> ?_⟩
  rw[nL,List.pairwise_iff_getElem]at h1
  exact h1 (i-1) i (by omega) D (by omega)
theorem fB {l:List aR} {n:ByteArray} (h: ∀m∈l,m.1≠n):cf l n=0:=by
 induction l with
 |nil=>rfl
 |cons m r ih=>
  rw[cf,if_neg (h m List.mem_cons_self)]
  exact ih λm hm=>h m (List.mem_cons_of_mem _ hm)
theorem uj {l:List aR} (hs:nL l) {m:aR} (hm:m∈l):cf l m.1=m.2:=by
 induction l with
 |nil=>cases hm
 |cons x r ih=>
  rw[nL,List.pairwise_cons]at hs
  rw[cf]
  rcases List.mem_cons.1 hm with rfl|hm
  ·rw[if_pos rfl]
  ·rw[if_neg (d6 (hs.1 m hm))]
   exact ih hs.2 hm
theorem Sj {l:List aR} {n:ByteArray} (h:cf l n≠0): ∃m∈l,m.1=n∧m.2=cf l n:=by
 induction l with
 |nil=>exact absurd rfl h
 |cons x r ih=>
  rw[cf]at h ⊢
  by_cases e:x.1=n
  ·rw[if_pos e];exact⟨x,List.mem_cons_self,e,rfl⟩
  ·rw[if_neg e]at h ⊢
   obtain⟨m,h1,h2⟩:=ih h
   exact⟨m,List.mem_cons_of_mem _ h1,h2⟩
theorem Lz: ∀{a b:List aR},nL a→nL b→(∀m∈a,m.2≠0)→(∀m∈b,m.2≠0)→(∀n,cf a n=cf b n)→a=b
 | [], [],_,_,_,_,_=>rfl
 |[],y::b,_,_,_,hb,h=>by
  have:=h y.1
  rw[cf,cf,if_pos rfl]at this
  exact absurd this.symm (hb y List.mem_cons_self)
 |x::a, [],_,_,ha,_,h=>by
  have:=h x.1
  rw[cf,cf,if_pos rfl]at this
  exact absurd this (ha x List.mem_cons_self)
 |x::a,y::b,sa,sb,ha,hb,h=>by
  have sa':=List.pairwise_cons.1 sa
  have sb':=List.pairwise_cons.1 sb
  have low: ∀{z w:aR} {c d:List aR},nL (z::c)→nL (w::d)→w.2≠0→bC w.1 z.1=true→cf (z::c) w.1≠cf (w::d) w.1:=by
   intro z w c d s1 s2 h0 hl
   have s1':=List.pairwise_cons.1 s1
   rw[fB (l:=z::c) (n:=w.1) (λm hm=>by
    rcases List.mem_cons.1 hm with rfl|hm
    ·exact λe=>d6 hl e.symm
    ·exact λe=>d6 (eB hl (s1'.1 m hm)) e.symm),cf,if_pos rfl]
   exact λe=>h0 e.symm
  have hn:x.1=y.1:=by
   rcases nU x.1 y.1 with hl|e|hl
   ·exact absurd (h x.1).symm (low sb sa (ha x List.mem_cons_self) hl)
   ·exact e
   ·exact absurd (h y.1) (low sa sb (hb y List.mem_cons_self) hl)
  have hv:x.2=y.2:=by
   have:=h x.1
   rw[cf,cf,if_pos rfl,if_pos hn.symm]at this
   exact this
  have hr:a=b:=Lz sa'.2 sb'.2 (λm hm=>ha m (List.mem_cons_of_mem _ hm)) (λm hm=>hb m (List.mem_cons_of_mem _ hm)) λn=>by
   by_cases e:x.1=n
   ·rw[fB λm hm=>by rw[←e];exact λe'=>d6 (sa'.1 m hm) e'.symm,fB λm hm=>by rw[←e,hn];exact λe'=>d6 (sb'.1 m hm) e'.symm]
   ·have:=h n
    rw[cf,cf,if_neg e,if_neg (by rw[←hn];exact e)]at this
    exact this
  rw[hr,show x=y from Prod.ext hn hv]
abbrev ME:=ByteArray×Int×Int
def bQ:List aR→List aR→List ME
 | [],b=>b.map λm=>(m.1,0,m.2)
 |x::a, []=>(x::a).map λm=>(m.1,m.2,0)
 |x::a,y::b=>if bC x.1 y.1=true then(x.1,x.2,0)::bQ a (y::b)else if bC y.1 x.1=true then(y.1,0,y.2)::bQ (x::a) b else(x.1,x.2,y.2)::bQ a b
termination_by a b=>a.length+b.length
theorem bz (b:List aR):bQ [] b=b.map λm=>(m.1,0,m.2):=by rw[bQ]
theorem c9 (a:List aR):bQ a []=a.map λm=>(m.1,m.2,0):=by cases a<;>rw[bQ];rfl
theorem cM (x:aR) (a:List aR) (y:aR) (b:List aR):bQ (x::a) (y::b)=if bC x.1 y.1=true then(x.1,x.2,0)::bQ a (y::b)else if bC y.1 x.1=true then(y.1,0,y.2)::bQ (x::a) b else(x.1,x.2,y.2)::bQ a b:=by rw[bQ]
theorem lG: ∀(a b:List aR),(bQ a b).length≤a.length+b.length
 | [],b=>by rw[bz];simp
 |x::a, []=>by rw[c9];simp
 |x::a,y::b=>by
  rw[cM]
  have h1:=lG a (y::b)
  have h2:=lG (x::a) b
  have h3:=lG a b
  simp only[List.length_cons]at*
  split
  ·simp only[List.length_cons];omega
  ·split
   ·simp only[List.length_cons];omega
   ·simp only[List.length_cons];omega
termination_by a b=>a.length+b.length
theorem eA: ∀(a b:List aR),nL a→nL b→(bQ a b).Pairwise (λs t=>bC s.1 t.1=true)∧(∀t∈bQ a b,t.2.1=cf a t.1∧t.2.2=cf b t.1∧((∃m∈a,m.1=t.1)∨ ∃m∈b,m.1=t.1))∧(∀m,m∈a∨m∈b→ ∃t∈bQ a b,t.1=m.1)
 |[],b,sa,sb=>by
  rw[bz]
  refine⟨by rw[List.pairwise_map];exact sb,λt ht=> ?_,λm hm=> ?_⟩
  ·obtain⟨m,hm,rfl⟩:=List.mem_map.1 ht
   exact⟨rfl,(uj sb hm).symm,.inr ⟨m,hm,rfl⟩⟩
  ·rcases hm with hm|hm
   ·cases hm
   ·exact⟨_,List.mem_map_of_mem hm,rfl⟩
 |x::a, [],sa,sb=>by
  rw[c9]
  refine⟨by rw[List.pairwise_map];exact sa,λt ht=> ?_,λm hm=> ?_⟩
  ·obtain⟨m,hm,rfl⟩:=List.mem_map.1 ht
   exact⟨(uj sa hm).symm,rfl,.inl ⟨m,hm,rfl⟩⟩
  ·rcases hm with hm|hm
   ·exact⟨_,List.mem_map_of_mem hm,rfl⟩
   ·cases hm
 |x::a,y::b,sa,sb=>by
  have sa':=List.pairwise_cons.1 sa
  have sb':=List.pairwise_cons.1 sb
  rw[cM]
  have ne0: ∀{z:aR} {c:List aR} {n:ByteArray},nL (z::c)→bC n z.1=true→cf (z::c) n=0:=by
   intro z c n s hl
   have s':=List.pairwise_cons.1 s
   exact fB λm hm=>by
    rcases List.mem_cons.1 hm with rfl|hm
    ·exact λe=>d6 hl e.symm
    ·exact λe=>d6 (eB hl (s'.1 m hm)) e.symm
  have big: ∀{z:aR} {c:List aR} {n:ByteArray},bC z.1 n=true→cf (z::c) n=cf c n:=by
   intro z c n hl
   rw[cf,if_neg (d6 hl)]
  split
  ·rename_i hl
   obtain⟨h1,h2,h3⟩:=eA a (y::b) sa'.2 sb
   have up: ∀t∈bQ a (y::b),bC x.1 t.1=true:= λt ht=>by
    rcases(h2 t ht).2.2 with⟨m,hm,e⟩|⟨m,hm,e⟩
    ·rw[←e];exact sa'.1 m hm
    ·rw[←e]
     rcases List.mem_cons.1 hm with rfl|hm
     ·exact hl
     ·exact eB hl (sb'.1 m hm)
   refine⟨List.pairwise_cons.2 ⟨up,h1⟩,λt ht=> ?_,λm hm=> ?_⟩
   ·rcases List.mem_cons.1 ht with rfl|ht
    ·exact⟨by rw[cf,if_pos rfl],(ne0 sb hl).symm,.inl ⟨x,List.mem_cons_self,rfl⟩⟩
    ·obtain⟨g1,g2,g3⟩:=h2 t ht
     refine⟨by rw[g1,big (up t ht)],g2, ?_⟩
     rcases g3 with⟨m,hm,e⟩|h
     ·exact .inl ⟨m,List.mem_cons_of_mem _ hm,e⟩
     ·exact .inr h
   ·by_cases e:m=x
    ·subst e;exact⟨_,List.mem_cons_self,rfl⟩
    ·obtain⟨t,ht,e2⟩:=h3 m (hm.imp (λh=>(List.mem_cons.1 h).resolve_left e) id)
     exact⟨t,List.mem_cons_of_mem _ ht,e2⟩
  ·rename_i K
   split
   ·rename_i hl
    obtain⟨h1,h2,h3⟩:=eA (x::a) b sa sb'.2
    have up: ∀t∈bQ (x::a) b,bC y.1 t.1=true:= λt ht=>by
     rcases(h2 t ht).2.2 with⟨m,hm,e⟩|⟨m,hm,e⟩
     ·rw[←e]
      rcases List.mem_cons.1 hm with rfl|hm
      ·exact hl
      ·exact eB hl (sa'.1 m hm)
     ·rw[←e];exact sb'.1 m hm
    refine⟨List.pairwise_cons.2 ⟨up,h1⟩,λt ht=> ?_,λm hm=> ?_⟩
    ·rcases List.mem_cons.1 ht with rfl|ht
     ·exact⟨(ne0 sa hl).symm,by rw[cf,if_pos rfl],.inr ⟨y,List.mem_cons_self,rfl⟩⟩
     ·obtain⟨g1,g2,g3⟩:=h2 t ht
      refine⟨g1,by rw[g2,big (up t ht)], ?_⟩
      rcases g3 with h|⟨m,hm,e⟩
      ·exact .inl h
      ·exact .inr ⟨m,List.mem_cons_of_mem _ hm,e⟩
    ·by_cases e:m=y
     ·subst e;exact⟨_,List.mem_cons_self,rfl⟩
     ·obtain⟨t,ht,e2⟩:=h3 m (hm.imp id (λh=>(List.mem_cons.1 h).resolve_left e))
      exact⟨t,List.mem_cons_of_mem _ ht,e2⟩
   ·rename_i L
    have A:x.1=y.1:=by
     rcases nU x.1 y.1 with h|h|h
     ·exact absurd h K
     ·exact h
     ·exact absurd h L
    obtain⟨h1,h2,h3⟩:=eA a b sa'.2 sb'.2
    have up: ∀t∈bQ a b,bC x.1 t.1=true:= λt ht=>by
     rcases(h2 t ht).2.2 with⟨m,hm,e⟩|⟨m,hm,e⟩
     ·rw[←e];exact sa'.1 m hm
     ·rw[←e,A];exact sb'.1 m hm
    refine⟨List.pairwise_cons.2 ⟨up,h1⟩,λt ht=> ?_,λm hm=> ?_⟩
    ·rcases List.mem_cons.1 ht with rfl|ht
     ·exact⟨by rw[cf,if_pos rfl],by rw[cf,if_pos A.symm],.inl ⟨x,List.mem_cons_self,rfl⟩⟩
     ·obtain⟨g1,g2,g3⟩:=h2 t ht
      refine⟨by rw[g1,big (up t ht)],by rw[g2,big (by rw[←A];exact up t ht)], ?_⟩
      rcases g3 with⟨m,hm,e⟩|⟨m,hm,e⟩
      ·exact .inl ⟨m,List.mem_cons_of_mem _ hm,e⟩
      ·exact .inr ⟨m,List.mem_cons_of_mem _ hm,e⟩
    ·by_cases e:m=x
     ·subst e;exact⟨_,List.mem_cons_self,rfl⟩
     ·by_cases e':m=y
      ·subst e';exact⟨_,List.mem_cons_self,A⟩
      ·obtain⟨t,ht,e2⟩:=h3 m (hm.imp (λh=>(List.mem_cons.1 h).resolve_left e) (λh=>(List.mem_cons.1 h).resolve_left e'))
       exact⟨t,List.mem_cons_of_mem _ ht,e2⟩
termination_by a b=>a.length+b.length
def f7 (T:List ME):List aR:=T.filterMap λt=>if t.2.1+t.2.2=0 then none else some (t.1,t.2.1+t.2.2)
def e7 (a b:bW):Prop:=am (a.1+b.1)∧ ∀t∈bQ a.2 b.2,am (t.2.1+t.2.2)
instance (a b:bW):Decidable (e7 a b):=Classical.propDecidable _
def gz (a b:bW):bW:=(a.1+b.1,f7 (bQ a.2 b.2))
def fI (a b:bW):bW×Int:=if e7 a b then(gz a b,0)else((0, []),3)
def bY (a:bW) (b:Int):Prop:=am (a.1*b)∧ ∀m∈a.2,am (m.2*b)
instance (a:bW) (b:Int):Decidable (bY a b):=Classical.propDecidable _
def bq (a:bW) (b:Int):bW:=if b=0 then(0, [])else(a.1*b,a.2.map λm=>(m.1,m.2*b))
def iT (a:bW) (b:Int):bW×Int:=if b=0∨bY a b then(bq a b,0)else((0, []),3)
theorem rZ {T:List ME} (h:T.Pairwise λs t=>bC s.1 t.1=true):nL (f7 T)∧(∀m∈f7 T,m.2≠0∧ ∃t∈T,t.1=m.1)∧(∀t∈T,cf (f7 T) t.1=t.2.1+t.2.2):=by
 have o: ∀m∈f7 T,m.2≠0∧ ∃t∈T,t.1=m.1∧m.2=t.2.1+t.2.2:=by
  intro m hm
  obtain⟨t,ht,e⟩:=List.mem_filterMap.1 hm
  split at e
  ·cases e
  ·rename_i h0
   cases e
   exact⟨h0,t,ht,rfl,rfl⟩
 have hs:nL (f7 T):=by
  rw[nL,f7,List.pairwise_filterMap]
  refine h.imp ?_
  intro s t M x hx y hy
  split at hx
  ·cases hx
  ·cases hx
   split at hy
   ·cases hy
   ·cases hy
    exact M
 refine⟨hs,λm hm=>⟨(o m hm).1,by obtain⟨t,h1,h2,_⟩:=(o m hm).2;exact⟨t,h1,h2⟩⟩,λt ht=> ?_⟩
 by_cases h0:t.2.1+t.2.2=0
 ·rw[h0]
  refine fB λm hm e=> ?_
  obtain⟨g0,t',g1,g2,g3⟩:=o m hm
  have:t'=t:=by
   have F: ∀{T:List ME},T.Pairwise (λs t=>bC s.1 t.1=true)→ ∀s∈T,∀t∈T,s.1=t.1→s=t:=by
    intro T
    induction T with
    |nil=>intro _ s hs;cases hs
    |cons x r ih=>
     intro hp s hs t ht he
     rw[List.pairwise_cons]at hp
     rcases List.mem_cons.1 hs with rfl|f
     ·rcases List.mem_cons.1 ht with rfl|E
      ·rfl
      ·exact absurd he (d6 (hp.1 t E))
     ·rcases List.mem_cons.1 ht with rfl|E
      ·exact absurd he.symm (d6 (hp.1 s f))
      ·exact ih hp.2 s f t E he
   exact F h t' g1 t ht (g2.trans e)
  subst this
  exact g0 (g3.trans h0)
 ·have hm:(t.1,t.2.1+t.2.2)∈f7 T:=List.mem_filterMap.2 ⟨t,ht,by rw[if_neg h0]⟩
  exact uj hs hm
theorem ED {a b:bW} (ha:nL a.2) (hb:nL b.2) (n:ByteArray):cf (gz a b).2 n=cf a.2 n+cf b.2 n:=by
 obtain⟨h1,h2,h3⟩:=eA a.2 b.2 ha hb
 obtain⟨k1,k2,k3⟩:=rZ h1
 by_cases h: ∃t∈bQ a.2 b.2,t.1=n
 ·obtain⟨t,ht,rfl⟩:=h
  rw[gz,k3 t ht,(h2 t ht).1,(h2 t ht).2.1]
 ·rw[gz,fB (l:=f7 (bQ a.2 b.2)),fB (l:=a.2),fB (l:=b.2)]
  ·rfl
  ·intro m hm e
   obtain⟨t,ht,e2⟩:=h3 m (.inr hm)
   exact h ⟨t,ht,e2.trans e⟩
  ·intro m hm e
   obtain⟨t,ht,e2⟩:=h3 m (.inl hm)
   exact h ⟨t,ht,e2.trans e⟩
  ·intro m hm e
   obtain⟨_,t,ht,e2⟩:=k2 m hm
   exact h ⟨t,ht,e2.trans e⟩
theorem PD {a b:bW} (ha:nL a.2) (hb:nL b.2):nL (gz a b).2:=(rZ (eA a.2 b.2 ha hb).1).1
theorem QS {a b:bW} (ha:nL a.2) (hb:nL b.2): ∀m∈(gz a b).2,m.2≠0:= λm hm=>((rZ (eA a.2 b.2 ha hb).1).2.1 m hm).1
theorem JU {a b:bW} (ha:nL a.2) (hb:nL b.2): ∀m∈(gz a b).2,(∃x∈a.2,x.1=m.1)∨ ∃x∈b.2,x.1=m.1:= λm hm=>by
 obtain⟨h1,h2,h3⟩:=eA a.2 b.2 ha hb
 obtain⟨_,t,ht,e⟩:=(rZ h1).2.1 m hm
 rw[←e]
 exact(h2 t ht).2.2
theorem EW {a b:bW} (ha:aI a.2) (hb:aI b.2):aI (gz a b).2:=by
 rw[bD]at*
 refine⟨PD ha.1 hb.1,λm hm=>⟨?_,QS ha.1 hb.1 m hm⟩⟩
 rcases JU ha.1 hb.1 m hm with⟨x,hx,e⟩|⟨x,hx,e⟩
 ·rw[←e];exact(ha.2 x hx).1
 ·rw[←e];exact(hb.2 x hx).1
theorem Ma {a b:bW} (ha:nL a.2) (hb:nL b.2):e7 a b↔am (a.1+b.1)∧ ∀n,am (cf a.2 n+cf b.2 n):=by
 obtain⟨h1,h2,h3⟩:=eA a.2 b.2 ha hb
 constructor
 ·rintro⟨h,u⟩
  refine⟨h,λn=> ?_⟩
  by_cases hn: ∃t∈bQ a.2 b.2,t.1=n
  ·obtain⟨t,ht,rfl⟩:=hn
   rw[←(h2 t ht).1,←(h2 t ht).2.1]
   exact u t ht
  ·rw[fB (l:=a.2),fB (l:=b.2)]
   ·unfold am;omega
   ·intro m hm e
    obtain⟨t,ht,e2⟩:=h3 m (.inr hm)
    exact hn ⟨t,ht,e2.trans e⟩
   ·intro m hm e
    obtain⟨t,ht,e2⟩:=h3 m (.inl hm)
    exact hn ⟨t,ht,e2.trans e⟩
 ·rintro⟨h,u⟩
  refine⟨h,λt ht=> ?_⟩
  rw[(h2 t ht).1,(h2 t ht).2.1]
  exact u t.1
theorem sg (a:bW) (b:Int) (n:ByteArray):cf (bq a b).2 n=cf a.2 n*b:=by
 rw[bq]
 split
 ·rename_i h;subst h;simp[cf]
 ·obtain⟨k,l⟩:=a
  simp only
  induction l with
  |nil=>simp[cf]
  |cons m r ih=>
   simp only[List.map_cons,cf]
   split
   ·rfl
   ·exact ih
theorem ot (a:bW) (b:Int):(bq a b).1=a.1*b:=by
 rw[bq]
 split
 ·rename_i h;subst h;simp
 ·rfl
theorem ng {a:bW} {b:Int} (ha:aI a.2):aI (bq a b).2:=by
 rw[bq]
 split
 ·intro i hi;simp at hi
 ·rename_i hb
  rw[bD]at*
  refine⟨?_,λm hm=> ?_⟩
  ·simp only[nL,List.pairwise_map];exact ha.1
  ·obtain⟨x,hx,rfl⟩:=List.mem_map.1 hm
   exact⟨(ha.2 x hx).1,Int.mul_ne_zero (ha.2 x hx).2 hb⟩
def mM:aU:=((0, []),false)
def ep (out:bW) (eq:Bool):List (aU×Int)→aU×Int
 | []=>((out,eq),0)
 |p::r=>if ¬(p.2=0∨bY p.1.1 p.2)∨ ¬e7 out (bq p.1.1 p.2)then(mM,3)else ep (gz out (bq p.1.1 p.2)) (eq&&(p.1.2||decide (p.2=0))) r
def J6 (p:aU×Int):Prop:= ¬aI p.1.1.2∨(p.2<0∧p.1.2=false)
instance (l:List (aU×Int)):Decidable (∃p∈l,J6 p):=Classical.propDecidable _
def aD (l:List aU) (b:List Int):aU×Int:=
 if l.length≠b.length then(mM,1)else if ∃p∈l.zip b,J6 p then(mM,1)else ep (0, []) true (l.zip b)
def jk:List aR→ByteArray→Int→List aR×Bool
 | [],n,x=>([(n,x)],true)
 |m::r,n,x=>if bC m.1 n=true then(m::(jk r n x).1,(jk r n x).2)else if m.1=n then((m.1,(dg (m.2+x)).1)::r,(dg (m.2+x)).2)else((n,x)::m::r,true)
abbrev KQ:=Int×List aR×Bool
def gN (b:Int):List aR→List aR×Bool→List aR×Bool
 | [],s=>s
 |m::r,s=>gN b r ((jk s.1 m.1 (dg (m.2*b)).1).1,s.2&&(dg (m.2*b)).2&&(jk s.1 m.1 (dg (m.2*b)).1).2)
def f9 (s:KQ) (c:bW) (b:Int):KQ:=
 ((dg (s.1+(dg (c.1*b)).1)).1,gN b c.2 (s.2.1,s.2.2&&(dg (c.1*b)).2&&(dg (s.1+(dg (c.1*b)).1)).2))
def sr:List (aU×Int)→KQ→KQ
 | [],s=>s
 |p::r,s=>sr r (f9 s p.1.1 p.2)
def C3 (l:List (aU×Int)):Bool:=l.all λp=>p.1.2||decide (p.2=0)
def mu (l:List aR):List aR:=l.filter λm=>decide (m.2≠0)
instance (l:List (aU×Int)):Decidable (∃p∈l,p.2<0∧p.1.2=false):=Classical.propDecidable _
def lD (l:List aU) (b:List Int):aU×Int:=
 if l.length≠b.length then(mM,1)else if ∃p∈l.zip b,p.2<0∧p.1.2=false then(mM,1)else
 if(sr (l.zip b) (0, [],true)).2.2=false then(mM,3)else(((sr (l.zip b) (0, [],true)).1,mu (sr (l.zip b) (0, [],true)).2.1),C3 (l.zip b))|> λc=>(c,0)
theorem iA {b:Int}: ∀{c l:List aR},(gN b c (l,false)).2=false
 | [],l=>rfl
 |m::r,l=>by rw[gN];simp only[Bool.false_and];exact iA
theorem Cd {s:KQ} {c:bW} {b:Int} (h:s.2.2=false):(f9 s c b).2.2=false:=by
 rw[f9,h];simp only[Bool.false_and];exact iA
theorem Ap: ∀{l:List (aU×Int)} {s:KQ},s.2.2=false→(sr l s).2.2=false
 | [],s,h=>h
 |p::r,s,h=>by rw[sr];exact Ap (Cd h)
theorem jO {x:Int}:(dg x).2=true↔am x:=by
 unfold dg;split<;>simp[*]
theorem DZ {n:ByteArray} {x:Int} (hx:am x): ∀{l:List aR},nL l→((jk l n x).2=true↔am (cf l n+x))∧((jk l n x).2=true→nL (jk l n x).1∧(∀m,cf (jk l n x).1 m=cf l m+if n=m then x else 0)∧ ∀z∈(jk l n x).1,z.1=n∨ ∃w∈l,w.1=z.1)
 |[],_=>by
  simp only[jk,cf,Int.zero_add,true_iff]
  refine⟨hx,λ_=>⟨by simp[nL],λm=>by simp,λz hz=> ?_⟩⟩
  rw[List.mem_singleton]at hz
  exact .inl (by rw[hz])
 |m::r,hs=>by
  have f:=List.pairwise_cons.1 hs
  obtain⟨i1,i2⟩:=DZ (n:=n) hx f.2
  simp only[jk]
  by_cases h1:bC m.1 n=true
  ·rw[if_pos h1]
   have e:cf (m::r) n=cf r n:=by rw[cf,if_neg (d6 h1)]
   rw[e]
   refine⟨i1,λh=> ?_⟩
   obtain⟨j1,j2,j3⟩:=i2 h
   refine⟨List.pairwise_cons.2 ⟨λz hz=> ?_,j1⟩,λk=> ?_,λz hz=> ?_⟩
   ·rcases j3 z hz with e|⟨w,hw,e⟩
    ·rw[e];exact h1
    ·rw[←e];exact f.1 w hw
   ·simp only[cf]
    by_cases ek:m.1=k
    ·rw[if_pos ek,if_pos ek,if_neg (by rw[←ek];exact λe=>d6 h1 e.symm)];omega
    ·rw[if_neg ek,if_neg ek];exact j2 k
   ·rcases List.mem_cons.1 hz with rfl|hz
    ·exact .inr ⟨_,List.mem_cons_self,rfl⟩
    ·rcases j3 z hz with e|⟨w,hw,e⟩
     ·exact .inl e
     ·exact .inr ⟨w,List.mem_cons_of_mem _ hw,e⟩
  ·rw[if_neg h1]
   by_cases h2:m.1=n
   ·rw[if_pos h2]
    have e:cf (m::r) n=m.2:=by rw[cf,if_pos h2]
    rw[e]
    refine⟨jO,λh=> ?_⟩
    have hv:(dg (m.2+x)).1=m.2+x:=by rw[el (jO.1 h)]
    refine⟨List.pairwise_cons.2 ⟨λz hz=>f.1 z hz,f.2⟩,λk=> ?_,λz hz=> ?_⟩
    ·simp only[cf,hv]
     by_cases ek:m.1=k
     ·rw[if_pos ek,if_pos ek,if_pos (h2.symm.trans ek)]
     ·rw[if_neg ek,if_neg ek,if_neg (λe=>ek (h2.trans e))];omega
    ·rcases List.mem_cons.1 hz with rfl|hz
     ·exact .inl h2
     ·exact .inr ⟨z,List.mem_cons_of_mem _ hz,rfl⟩
   ·rw[if_neg h2]
    have hl:bC n m.1=true:=by
     rcases nU n m.1 with h|h|h
     ·exact h
     ·exact absurd h.symm h2
     ·exact absurd h h1
    have c0:cf (m::r) n=0:=fB λz hz=>by
     rcases List.mem_cons.1 hz with rfl|hz
     ·exact h2
     ·exact λe=>d6 (eB hl (f.1 z hz)) e.symm
    rw[c0,Int.zero_add]
    refine⟨⟨λ_=>hx,λ_=>rfl⟩,λ_=>⟨List.pairwise_cons.2 ⟨λz hz=> ?_,hs⟩,λk=> ?_,λz hz=> ?_⟩⟩
    ·rcases List.mem_cons.1 hz with rfl|hz
     ·exact hl
     ·exact eB hl (f.1 z hz)
    ·rw[cf]
     by_cases ek:n=k
     ·rw[if_pos ek,if_pos ek,←ek,c0];omega
     ·rw[if_neg ek,if_neg ek];omega
    ·rcases List.mem_cons.1 hz with rfl|hz
     ·exact .inl rfl
     ·exact .inr ⟨z,hz,rfl⟩
theorem bL:am 0:=by unfold am;omega
theorem zo {b:Int}: ∀{c l:List aR},nL c→nL l→(∀n,am (cf l n))→((gN b c (l,true)).2=true↔(∀m∈c,am (m.2*b))∧ ∀n,am (cf l n+cf c n*b))∧((gN b c (l,true)).2=true→nL (gN b c (l,true)).1∧ ∀n,cf (gN b c (l,true)).1 n=cf l n+cf c n*b)
 |[],l,_,hl,v=>by
  simp only[gN,cf,Int.zero_mul,Int.add_zero,true_iff]
  exact⟨⟨λm hm=>(by cases hm),v⟩,λ_=>⟨hl,λn=>trivial⟩⟩
 |m::r,l,hc,hl,v=>by
  have G:=List.pairwise_cons.1 hc
  have cr:cf r m.1=0:=fB λz hz e=>d6 (G.1 z hz) e.symm
  rw[gN]
  by_cases hp:am (m.2*b)
  ·rw[el hp]
   simp only[Bool.true_and,Bool.and_true]
   obtain⟨i1,i2⟩:=DZ (n:=m.1) hp hl
   by_cases hq:am (cf l m.1+m.2*b)
   ·have C:=i1.2 hq
    obtain⟨j1,j2,j3⟩:=i2 C
    rw[C]
    have H: ∀n,am (cf (jk l m.1 (m.2*b)).1 n):= λn=>by
     rw[j2]
     split
     ·rename_i e;rw[←e];exact hq
     ·rw[Int.add_zero];exact v n
    obtain⟨k1,k2⟩:=zo (b:=b) G.2 j1 H
    have key: ∀n,cf (jk l m.1 (m.2*b)).1 n+cf r n*b=cf l n+cf (m::r) n*b:= λn=>by
     rw[j2,cf]
     by_cases e:m.1=n
     ·rw[if_pos e,if_pos e,←e,cr];omega
     ·rw[if_neg e,if_neg e];omega
    refine⟨?_,λh=> ?_⟩
    ·rw[k1]
     constructor
     ·rintro⟨g1,g2⟩
      refine⟨λz hz=> ?_,λn=>by rw[←key];exact g2 n⟩
      rcases List.mem_cons.1 hz with rfl|hz
      ·exact hp
      ·exact g1 z hz
     ·rintro⟨g1,g2⟩
      exact⟨λz hz=>g1 z (List.mem_cons_of_mem _ hz),λn=>by rw[key];exact g2 n⟩
    ·obtain⟨g1,g2⟩:=k2 h
     exact⟨g1,λn=>by rw[g2,key]⟩
   ·have C:(jk l m.1 (m.2*b)).2=false:=by
     cases h:(jk l m.1 (m.2*b)).2 with
     |false=>rfl
     |true=>exact absurd (i1.1 h) hq
    rw[C,iA]
    refine⟨⟨λh=>(by cases h),λh=> ?_⟩,λh=>(by cases h)⟩
    have:=h.2 m.1
    rw[cf,if_pos rfl]at this
    exact absurd this hq
  ·rw[i9 hp]
   simp only[Bool.and_false,Bool.false_and]
   rw[iA]
   exact⟨⟨λh=>(by cases h),λh=>absurd (h.1 m List.mem_cons_self) hp⟩,λh=>(by cases h)⟩
def PV (out:bW) (s:KQ):Prop:=s.2.2=true∧s.1=out.1∧nL s.2.1∧(∀n,cf s.2.1 n=cf out.2 n)∧aI out.2∧am out.1∧ ∀n,am (cf out.2 n)
theorem Nd {out:bW} {s:KQ} {c:bW} {b:Int} (h:PV out s) (hc:aI c.2):
  (((b=0∨bY c b)∧e7 out (bq c b))→PV (gz out (bq c b)) (f9 s c b))∧(¬((b=0∨bY c b)∧e7 out (bq c b))→(f9 s c b).2.2=false):=by
 obtain⟨r1,r2,r3,r4,r5,r6,r7⟩:=h
 obtain⟨k,l,ok⟩:=s
 simp only at r1 r2 r3 r4
 subst r1
 subst r2
 have so:=(bD.1 r5).1
 have sc:=(bD.1 hc).1
 have ss:=(bD.1 (ng (b:=b) hc)).1
 obtain⟨f1,f2⟩:=zo (b:=b) sc r3 (λn=>by rw[r4];exact r7 n)
 rw[Ma so ss,ot]
 simp only[sg]
 have hmul:(b=0∨bY c b)↔am (c.1*b)∧ ∀m∈c.2,am (m.2*b):=by
  constructor
  ·rintro(rfl|h)
   ·simp only[Int.mul_zero];exact⟨bL,λ_ _=>bL⟩
   ·exact h
  ·exact .inr
 rw[hmul]
 constructor
 ·rintro⟨⟨g1,g2⟩,g3,g4⟩
  have hf:(gN b c.2 (l,true)).2=true:=f1.2 ⟨g2,λn=>by rw[r4];exact g4 n⟩
  obtain⟨e1,e2⟩:=f2 hf
  simp only[f9,el g1,el g3,Bool.and_self]
  refine⟨hf,by rw[gz,ot],e1,λn=>by rw[e2,r4,ED so ss,sg],EW r5 (ng hc),by rw[gz,ot];exact g3,λn=>by rw[ED so ss,sg];exact g4 n⟩
 ·intro N
  simp only[f9]
  by_cases g1:am (c.1*b)
  ·rw[el g1]
   by_cases g3:am (out.1+c.1*b)
   ·simp only[el g3,Bool.and_self]
    cases hf:(gN b c.2 (l,true)).2 with
    |false=>rfl
    |true=>
     obtain⟨g2,g4⟩:=f1.1 hf
     exact absurd ⟨⟨g1,g2⟩,g3,λn=>by rw[←r4];exact g4 n⟩ N
   ·simp only[i9 g3,Bool.and_false]
    exact iA
  ·rw[i9 g1]
   simp only[Bool.and_false,Bool.false_and]
   exact iA
theorem Oc {l:List aR}: ∀n,nL l→cf (mu l) n=cf l n:=by
 intro n hs
 induction l with
 |nil=>rfl
 |cons m r ih=>
  have f:=List.pairwise_cons.1 hs
  rw[mu,List.filter_cons]
  by_cases h:m.2=0
  ·simp only[h,ne_eq,not_true_eq_false,decide_false,Bool.false_eq_true,if_false]
   show cf (mu r) n=_
   rw[ih f.2,cf]
   by_cases e:m.1=n
   ·rw[if_pos e,h,←e,fB λz hz e=>d6 (f.1 z hz) e.symm]
   ·rw[if_neg e]
  ·simp only[h,ne_eq,not_false_eq_true,decide_true,if_true]
   rw[cf,cf]
   split
   ·rfl
   ·exact ih f.2
theorem NL {out:bW} {s:KQ} (h:PV out s):mu s.2.1=out.2:=by
 obtain⟨r1,r2,r3,r4,r5,r6,r7⟩:=h
 refine Lz ?_ (bD.1 r5).1 (λm hm=> ?_) (λm hm=>((bD.1 r5).2 m hm).2) λn=>by rw[Oc n r3,r4]
 ·exact r3.filter _
 ·have:=(List.mem_filter.1 hm).2
  simpa using this
theorem Ee: ∀{l:List (aU×Int)} {out:bW} {s:KQ} {eq:Bool},PV out s→(∀p∈l,aI p.1.1.2)→
  ep out eq l=if(sr l s).2.2=false then(mM,3)else((((sr l s).1,mu (sr l s).2.1),eq&&C3 l),0)
 |[],out,s,eq,h,_=>by
  rw[ep,sr,if_neg (by rw[h.1];simp),NL h,h.2.1]
  simp[C3]
 |p::r,out,s,eq,h,hl=>by
  obtain⟨h1,h2⟩:=Nd (b:=p.2) h (hl p List.mem_cons_self)
  rw[ep,sr]
  by_cases hk:(p.2=0∨bY p.1.1 p.2)∧e7 out (bq p.1.1 p.2)
  ·rw[if_neg (by rintro(h|h);exact h hk.1;exact h hk.2),Ee (h1 hk) λq hq=>hl q (List.mem_cons_of_mem _ hq)]
   simp[C3,Bool.and_assoc]
  ·rw[if_pos (by
    by_cases hq:p.2=0∨bY p.1.1 p.2
    ·exact .inr λh=>hk ⟨hq,h⟩
    ·exact .inl hq),if_pos (Ap (h2 hk))]
theorem Oe:PV (0, []) (0, [],true):=⟨rfl,rfl,by simp[nL],λn=>rfl,λi hi=>by simp at hi,bL,λn=>bL⟩
theorem G9 {l:List aU} {b:List Int} (h: ∀c∈l,aI c.1.2):lD l b=aD l b:=by
 rw[lD,aD]
 by_cases h1:l.length≠b.length
 ·rw[if_pos h1,if_pos h1]
 ·rw[if_neg h1,if_neg h1]
  have hz: ∀p∈l.zip b,aI p.1.1.2:= λp hp=>h p.1 (List.of_mem_zip hp).1
  have e:(∃p∈l.zip b,J6 p)↔ ∃p∈l.zip b,p.2<0∧p.1.2=false:=by
   constructor
   ·rintro⟨p,hp,hb⟩
    exact⟨p,hp,hb.resolve_left (not_not_intro (hz p hp))⟩
   ·rintro⟨p,hp,hb⟩
    exact⟨p,hp,.inr hb⟩
  by_cases h2: ∃p∈l.zip b,p.2<0∧p.1.2=false
  ·rw[if_pos h2,if_pos (e.2 h2)]
  ·rw[if_neg h2,if_neg (λh=>h2 (e.1 h)),Ee Oe hz]
   simp
def sL (g:Nat) (l:List aR):Nat:=l.foldl (λg m=>Nat.gcd g m.2.natAbs) g
def fi (l:List aR):Nat:=sL 0 l
theorem Il: ∀{l:List aR} {g:Nat},sL g l∣g∧ ∀m∈l,sL g l∣m.2.natAbs
 | [],g=>⟨Nat.dvd_refl _,λm hm=>by cases hm⟩
 |x::r,g=>by
  obtain⟨h1,h2⟩:=Il (l:=r) (g:=Nat.gcd g x.2.natAbs)
  refine⟨Nat.dvd_trans h1 (Nat.gcd_dvd_left _ _),λm hm=> ?_⟩
  rcases List.mem_cons.1 hm with rfl|hm
  ·exact Nat.dvd_trans h1 (Nat.gcd_dvd_right _ _)
  ·exact h2 m hm
theorem y4 {l:List aR} {m:aR} (h:m∈l):fi l∣m.2.natAbs:=Il.2 m h
theorem Dn {l:List aR} {m:aR} (h:m∈l):(fi l:Int)∣m.2:=Int.ofNat_dvd_left.2 (y4 h)
theorem Ac {l:List aR} (h:l≠ []) (h0: ∀m∈l,m.2≠0):0<fi l:=by
 cases l with
 |nil=>exact absurd rfl h
 |cons m r=>
  have h1:=y4 (l:=m::r) (m:=m) List.mem_cons_self
  have h2:=h0 m List.mem_cons_self
  exact Nat.pos_of_dvd_of_pos h1 (by omega)
theorem K0 {l:List aR} (h:l≠ []) (h0: ∀m∈l,m.2≠0) (v: ∀m∈l,am m.2):fi l≤9223372036854775808:=by
 cases l with
 |nil=>exact absurd rfl h
 |cons m r=>
  have h1:=y4 (l:=m::r) (m:=m) List.mem_cons_self
  have h2:=h0 m List.mem_cons_self
  have h3:=v m List.mem_cons_self
  have:=Nat.le_of_dvd (by omega) h1
  unfold am at h3
  omega
def eU (g:Nat) (l:List aR):List aR:=l.map λm=>(m.1,m.2/(g:Int))
theorem Ly {l:List aR} (hl:aI l):aI (eU (fi l) l):=by
 obtain⟨h1,h2⟩:=bD.1 hl
 refine bD.2 ⟨?_,λm hm=> ?_⟩
 ·simp only[nL,eU,List.pairwise_map];exact h1
 ·obtain⟨x,hx,rfl⟩:=List.mem_map.1 hm
  refine⟨(h2 x hx).1,λh=>(h2 x hx).2 ?_⟩
  have:=Int.ediv_mul_cancel (Dn hx)
  simp only at h
  rw[h,Int.zero_mul]at this
  exact this.symm
theorem w8 {x:Int} {g:Nat} (hx:am x) (hg:0<g):am (x/(g:Int)):=by
 unfold am at*
 have h1:=Int.ediv_mul_le x (b:=(g:Int)) (by omega)
 have h2:=Int.lt_ediv_add_one_mul_self x (b:=(g:Int)) (by omega)
 generalize x/(g:Int)=q at*
 by_cases hq:0≤q
 ·have:q*1≤q*g:=Int.mul_le_mul_of_nonneg_left (by omega) hq
  omega
 ·have:(-(q+1))*1≤(-(q+1))*g:=Int.mul_le_mul_of_nonneg_left (by omega) (by omega)
  have e: -(q+1)*(g:Int)= -((q+1)*g):=Int.neg_mul _ _
  rw[e]at this
  omega
theorem rY {x:Int} {g:Nat} (hg:0<g):x/(g:Int)=if x.tmod g<0 then x.tdiv g-1 else x.tdiv g:=by
 have h1:=Int.tmod_def x g
 have h2:(x.tmod g).natAbs<g:=by rw[Int.natAbs_tmod];exact Nat.mod_lt _ (by simpa using hg)
 by_cases h:x.tmod g<0
 ·rw[if_pos h]
  refine((Int.ediv_emod_unique (r:=x.tmod g+g) (by omega)).2 ⟨?_,by omega,by omega⟩).1
  rw[Int.mul_sub];omega
 ·rw[if_neg h]
  exact((Int.ediv_emod_unique (r:=x.tmod g) (by omega)).2 ⟨by omega,by omega,by omega⟩).1
def Kx:aU:=((-1, []),false)
def cG (c:aU):aU×Int×Int:=
 if ¬aI c.1.2 then(mM,0,1)else
 if c.1.2= []then(if c.1.1=0∨(0<c.1.1∧c.2=false)then(mM,1,0)else(Kx,2,0))else
 if c.2=true∧c.1.1.natAbs%fi c.1.2≠0 then(Kx,2,0)else
 if c.2=true∧(c.1.2.headD (.empty,0)).2<0 then
  (if am (-(c.1.1/(fi c.1.2:Int)))∧ ∀m∈eU (fi c.1.2) c.1.2,am (-m.2)then(((-(c.1.1/(fi c.1.2:Int)),(eU (fi c.1.2) c.1.2).map λm=>(m.1,-m.2)),true),0,0)else(mM,0,3))else
 (((c.1.1/(fi c.1.2:Int),eU (fi c.1.2) c.1.2),c.2),0,0)
end
end Go.Proofs.YtiapgekjmcjjgaaGreatDoor
