import Derived.Test.YthbcbaembicdbaaGreatDoorV12a
set_option linter.unusedVariables false
set_option linter.unusedSimpArgs false
namespace Go.Proofs.YthbcbaembicdbaaGreatDoor
open Go.Abs
noncomputable section
theorem zy: ∀(x y:List UInt8),Op.bytesLess x y=decide (x<y)
 | [], []=>by simp[Op.bytesLess]
 | [],y::ys=>by simp[Op.bytesLess]
 |x::xs, []=>by simp[Op.bytesLess]
 |x::xs,y::ys=>by
  have ih:=zy xs ys
  simp only[Op.bytesLess,ih,List.cons_lt_cons_iff]
  by_cases h1:x<y
  ·simp[h1]
  ·by_cases h2:x=y
   ·subst h2;simp
   ·have h3:y<x:=by
     rcases Nat.lt_trichotomy x.toNat y.toNat with h|h|h
     ·exact absurd (UInt8.lt_iff_toNat_lt.2 h) h1
     ·exact absurd (UInt8.toNat_inj.1 h) h2
     ·exact UInt8.lt_iff_toNat_lt.2 h
    simp[h1,h2,h3]
theorem vO {a b:ByteArray}:eW a b=true↔a.toList<b.toList:=by rw[eW,zy,decide_eq_true_iff]
theorem yW (a:ByteArray): ¬eW a a=true:=by rw[vO];exact List.lt_irrefl _
theorem ow {a b c:ByteArray} (h:eW a b=true) (h':eW b c=true):eW a c=true:=by
 rw[vO]at*;exact List.lt_trans h h'
theorem HO (a b:ByteArray):eW a b=true∨a=b∨eW b a=true:=by
 rw[vO,vO]
 by_cases h1:a.toList<b.toList
 ·exact .inl h1
 ·by_cases h2:b.toList<a.toList
  ·exact .inr (.inr h2)
  ·exact .inr (.inl (ry.1 (List.le_antisymm (List.not_lt.1 h2) (List.not_lt.1 h1))))
theorem nh {a b:ByteArray} (h:eW a b=true):a≠b:= λe=>by subst e;exact yW a h
def FT (l:List aD):Prop:=l.Pairwise λx y=>eW x.1 y.1=true
def cf:List aD→ByteArray→Int
 | [],_=>0
 |m::r,n=>if m.1=n then m.2 else cf r n
theorem cp {l:List aD}:bn l↔FT l∧ ∀m∈l,gk m.1∧m.2≠0:=by
 constructor
 ·intro h
  refine⟨?_,λm hm=> ?_⟩
  ·have key: ∀i j (hi:i<j) (hj:j<l.length),eW (l[i]'(by omega)).1 l[j].1=true:=by
    intro i j
    induction j with
    |zero=>intro hi;omega
    |succ j ih=>
     intro hi hj
     have hs:=(h (j+1) hj hj).2.2 (by omega)
     simp only[Nat.add_sub_cancel]at hs
     by_cases e:i=j
     ·subst e;exact hs
     ·exact ow (ih (by omega) (by omega)) hs
   rw[FT,List.pairwise_iff_getElem]
   intro i j hi hj hij
   exact key i j hij hj
  ·obtain⟨i,hi,rfl⟩:=List.mem_iff_getElem.1 hm
   exact⟨(h i hi hi).1,(h i hi hi).2.1⟩
 ·rintro⟨h1,h2⟩ i hi hi'
  refine⟨(h2 _ (List.getElem_mem hi')).1,(h2 _ (List.getElem_mem hi')).2,λh0=> ?_⟩
  rw[FT,List.pairwise_iff_getElem]at h1
  exact h1 (i-1) i (by omega) hi' (by omega)
theorem vk {l:List aD} {n:ByteArray} (h: ∀m∈l,m.1≠n):cf l n=0:=by
 induction l with
 |nil=>rfl
 |cons m r ih=>
  rw[cf,if_neg (h m List.mem_cons_self)]
  exact ih λm hm=>h m (List.mem_cons_of_mem _ hm)
theorem yc {l:List aD} (hs:FT l) {m:aD} (hm:m∈l):cf l m.1=m.2:=by
 induction l with
 |nil=>cases hm
 |cons x r ih=>
  rw[FT,List.pairwise_cons]at hs
  rw[cf]
  rcases List.mem_cons.1 hm with rfl|hm
  ·rw[if_pos rfl]
  ·rw[if_neg (nh (hs.1 m hm))]
   exact ih hs.2 hm
theorem Yz {l:List aD} {n:ByteArray} (h:cf l n≠0): ∃m∈l,m.1=n∧m.2=cf l n:=by
 induction l with
 |nil=>exact absurd rfl h
 |cons x r ih=>
  rw[cf]at h ⊢
  by_cases e:x.1=n
  ·rw[if_pos e];exact⟨x,List.mem_cons_self,e,rfl⟩
  ·rw[if_neg e]at h ⊢
   obtain⟨m,h1,h2⟩:=ih h
   exact⟨m,List.mem_cons_of_mem _ h1,h2⟩
abbrev TO:=ByteArray×Int×Int
def bJ:List aD→List aD→List TO
 | [],b=>b.map λm=>(m.1,0,m.2)
 |x::a, []=>(x::a).map λm=>(m.1,m.2,0)
 |x::a,y::b=>if eW x.1 y.1=true then(x.1,x.2,0)::bJ a (y::b)else if eW y.1 x.1=true then(y.1,0,y.2)::bJ (x::a) b else(x.1,x.2,y.2)::bJ a b
termination_by a b=>a.length+b.length
theorem kA (b:List aD):bJ [] b=b.map λm=>(m.1,0,m.2):=by rw[bJ]
theorem kV (a:List aD):bJ a []=a.map λm=>(m.1,m.2,0):=by cases a<;>rw[bJ];rfl
theorem oV (x:aD) (a:List aD) (y:aD) (b:List aD):bJ (x::a) (y::b)=if eW x.1 y.1=true then(x.1,x.2,0)::bJ a (y::b)else if eW y.1 x.1=true then(y.1,0,y.2)::bJ (x::a) b else(x.1,x.2,y.2)::bJ a b:=by rw[bJ]
theorem rH: ∀(a b:List aD),(bJ a b).length≤a.length+b.length
 | [],b=>by rw[kA];simp
 |x::a, []=>by rw[kV];simp
 |x::a,y::b=>by
  rw[oV]
  have h1:=rH a (y::b)
  have h2:=rH (x::a) b
  have h3:=rH a b
  simp only[List.length_cons]at*
  split
  ·simp only[List.length_cons];omega
  ·split
   ·simp only[List.length_cons];omega
   ·simp only[List.length_cons];omega
termination_by a b=>a.length+b.length
theorem gv: ∀(a b:List aD),FT a→FT b→(bJ a b).Pairwise (λs t=>eW s.1 t.1=true)∧(∀t∈bJ a b,t.2.1=cf a t.1∧t.2.2=cf b t.1∧((∃m∈a,m.1=t.1)∨ ∃m∈b,m.1=t.1))∧(∀m,m∈a∨m∈b→ ∃t∈bJ a b,t.1=m.1)
 |[],b,sa,sb=>by
  rw[kA]
  refine⟨by rw[List.pairwise_map];exact sb,λt ht=> ?_,λm hm=> ?_⟩
  ·obtain⟨m,hm,rfl⟩:=List.mem_map.1 ht
   exact⟨rfl,(yc sb hm).symm,.inr ⟨m,hm,rfl⟩⟩
  ·rcases hm with hm|hm
   ·cases hm
   ·exact⟨_,List.mem_map_of_mem hm,rfl⟩
 |x::a, [],sa,sb=>by
  rw[kV]
  refine⟨by rw[List.pairwise_map];exact sa,λt ht=> ?_,λm hm=> ?_⟩
  ·obtain⟨m,hm,rfl⟩:=List.mem_map.1 ht
   exact⟨(yc sa hm).symm,rfl,.inl ⟨m,hm,rfl⟩⟩
  ·rcases hm with hm|hm
   ·exact⟨_,List.mem_map_of_mem hm,rfl⟩
   ·cases hm
 |x::a,y::b,sa,sb=>by
  have sa':=List.pairwise_cons.1 sa
  have sb':=List.pairwise_cons.1 sb
  rw[oV]
  have ne0: ∀{z:aD} {c:List aD} {n:ByteArray},FT (z::c)→eW n z.1=true→cf (z::c) n=0:=by
   intro z c n s hl
   have s':=List.pairwise_cons.1 s
   exact vk λm hm=>by
    rcases List.mem_cons.1 hm with rfl|hm
    ·exact λe=>nh hl e.symm
    ·exact λe=>nh (ow hl (s'.1 m hm)) e.symm
  have big: ∀{z:aD} {c:List aD} {n:ByteArray},eW z.1 n=true→cf (z::c) n=cf c n:=by
   intro z c n hl
   rw[cf,if_neg (nh hl)]
  split
  ·rename_i hl
   obtain⟨h1,h2,h3⟩:=gv a (y::b) sa'.2 sb
   have up: ∀t∈bJ a (y::b),eW x.1 t.1=true:= λt ht=>by
    rcases(h2 t ht).2.2 with⟨m,hm,e⟩|⟨m,hm,e⟩
    ·rw[←e];exact sa'.1 m hm
    ·rw[←e]
     rcases List.mem_cons.1 hm with rfl|hm
     ·exact hl
     ·exact ow hl (sb'.1 m hm)
   refine⟨List.pairwise_cons.2 ⟨up,h1⟩,λt ht=> ?_,λm hm=> ?_⟩
   ·rcases List.mem_cons.1 ht with rfl|ht
    ·exact⟨by rw[cf,if_pos rfl],(ne0 sb hl).symm,.inl ⟨x,List.mem_cons_self,rfl⟩⟩
    ·obtain⟨g1,g2,g3⟩:=h2 t ht
     refine⟨by rw[g1,big (up t ht)],g2, ?_⟩
     rcases g3 with⟨m,hm,e⟩|h
     ·exact .inl ⟨m,List.mem_cons_of_mem _ hm,e⟩
     ·exact .inr h
   ·by_cases e:m=x
    ·subst e;exact⟨_,List.mem_cons_self,rfl⟩
    ·obtain⟨t,ht,e2⟩:=h3 m (hm.imp (λh=>(List.mem_cons.1 h).resolve_left e) id)
     exact⟨t,List.mem_cons_of_mem _ ht,e2⟩
  ·rename_i hnl
   split
   ·rename_i hl
    obtain⟨h1,h2,h3⟩:=gv (x::a) b sa sb'.2
    have up: ∀t∈bJ (x::a) b,eW y.1 t.1=true:= λt ht=>by
     rcases(h2 t ht).2.2 with⟨m,hm,e⟩|⟨m,hm,e⟩
     ·rw[←e]
      rcases List.mem_cons.1 hm with rfl|hm
      ·exact hl
      ·exact ow hl (sa'.1 m hm)
     ·rw[←e];exact sb'.1 m hm
    refine⟨List.pairwise_cons.2 ⟨up,h1⟩,λt ht=> ?_,λm hm=> ?_⟩
    ·rcases List.mem_cons.1 ht with rfl|ht
     ·exact⟨(ne0 sa hl).symm,by rw[cf,if_pos rfl],.inr ⟨y,List.mem_cons_self,rfl⟩⟩
     ·obtain⟨g1,g2,g3⟩:=h2 t ht
      refine⟨g1,by rw[g2,big (up t ht)], ?_⟩
      rcases g3 with h|⟨m,hm,e⟩
      ·exact .inl h
      ·exact .inr ⟨m,List.mem_cons_of_mem _ hm,e⟩
    ·by_cases e:m=y
     ·subst e;exact⟨_,List.mem_cons_self,rfl⟩
     ·obtain⟨t,ht,e2⟩:=h3 m (hm.imp id (λh=>(List.mem_cons.1 h).resolve_left e))
      exact⟨t,List.mem_cons_of_mem _ ht,e2⟩
   ·rename_i hnr
    have hxy:x.1=y.1:=by
     rcases HO x.1 y.1 with h|h|h
     ·exact absurd h hnl
     ·exact h
     ·exact absurd h hnr
    obtain⟨h1,h2,h3⟩:=gv a b sa'.2 sb'.2
    have up: ∀t∈bJ a b,eW x.1 t.1=true:= λt ht=>by
     rcases(h2 t ht).2.2 with⟨m,hm,e⟩|⟨m,hm,e⟩
     ·rw[←e];exact sa'.1 m hm
     ·rw[←e,hxy];exact sb'.1 m hm
    refine⟨List.pairwise_cons.2 ⟨up,h1⟩,λt ht=> ?_,λm hm=> ?_⟩
    ·rcases List.mem_cons.1 ht with rfl|ht
     ·exact⟨by rw[cf,if_pos rfl],by rw[cf,if_pos hxy.symm],.inl ⟨x,List.mem_cons_self,rfl⟩⟩
     ·obtain⟨g1,g2,g3⟩:=h2 t ht
      refine⟨by rw[g1,big (up t ht)],by rw[g2,big (by rw[←hxy];exact up t ht)], ?_⟩
      rcases g3 with⟨m,hm,e⟩|⟨m,hm,e⟩
      ·exact .inl ⟨m,List.mem_cons_of_mem _ hm,e⟩
      ·exact .inr ⟨m,List.mem_cons_of_mem _ hm,e⟩
    ·by_cases e:m=x
     ·subst e;exact⟨_,List.mem_cons_self,rfl⟩
     ·by_cases e':m=y
      ·subst e';exact⟨_,List.mem_cons_self,hxy⟩
      ·obtain⟨t,ht,e2⟩:=h3 m (hm.imp (λh=>(List.mem_cons.1 h).resolve_left e) (λh=>(List.mem_cons.1 h).resolve_left e'))
       exact⟨t,List.mem_cons_of_mem _ ht,e2⟩
termination_by a b=>a.length+b.length
def vc (T:List TO):List aD:=T.filterMap λt=>if t.2.1+t.2.2=0 then none else some (t.1,t.2.1+t.2.2)
def Fm (a b:bU):Prop:=ar (a.1+b.1)∧ ∀t∈bJ a.2 b.2,ar (t.2.1+t.2.2)
instance (a b:bU):Decidable (Fm a b):=Classical.propDecidable _
def tb (a b:bU):bU:=(a.1+b.1,vc (bJ a.2 b.2))
def ia (a b:bU):bU×Int:=if Fm a b then(tb a b,0)else((0, []),3)
def kL (a:bU) (b:Int):Prop:=ar (a.1*b)∧ ∀m∈a.2,ar (m.2*b)
instance (a:bU) (b:Int):Decidable (kL a b):=Classical.propDecidable _
def de (a:bU) (b:Int):bU:=if b=0 then(0, [])else(a.1*b,a.2.map λm=>(m.1,m.2*b))
def xW (a:bU) (b:Int):bU×Int:=if b=0∨kL a b then(de a b,0)else((0, []),3)
theorem vX {T:List TO} (h:T.Pairwise λs t=>eW s.1 t.1=true):FT (vc T)∧(∀m∈vc T,m.2≠0∧ ∃t∈T,t.1=m.1)∧(∀t∈T,cf (vc T) t.1=t.2.1+t.2.2):=by
 have hmem: ∀m∈vc T,m.2≠0∧ ∃t∈T,t.1=m.1∧m.2=t.2.1+t.2.2:=by
  intro m hm
  obtain⟨t,ht,e⟩:=List.mem_filterMap.1 hm
  split at e
  ·cases e
  ·rename_i h0
   cases e
   exact⟨h0,t,ht,rfl,rfl⟩
 have hs:FT (vc T):=by
  rw[FT,vc,List.pairwise_filterMap]
  refine h.imp ?_
  intro s t hst x hx y hy
  split at hx
  ·cases hx
  ·cases hx
   split at hy
   ·cases hy
   ·cases hy
    exact hst
 refine⟨hs,λm hm=>⟨(hmem m hm).1,by obtain⟨t,h1,h2,_⟩:=(hmem m hm).2;exact⟨t,h1,h2⟩⟩,λt ht=> ?_⟩
 by_cases h0:t.2.1+t.2.2=0
 ·rw[h0]
  refine vk λm hm e=> ?_
  obtain⟨g0,t',g1,g2,g3⟩:=hmem m hm
  have:t'=t:=by
   have hinj: ∀{T:List TO},T.Pairwise (λs t=>eW s.1 t.1=true)→ ∀s∈T,∀t∈T,s.1=t.1→s=t:=by
    intro T
    induction T with
    |nil=>intro _ s hs;cases hs
    |cons x r ih=>
     intro hp s hs t ht he
     rw[List.pairwise_cons]at hp
     rcases List.mem_cons.1 hs with rfl|hs'
     ·rcases List.mem_cons.1 ht with rfl|ht'
      ·rfl
      ·exact absurd he (nh (hp.1 t ht'))
     ·rcases List.mem_cons.1 ht with rfl|ht'
      ·exact absurd he.symm (nh (hp.1 s hs'))
      ·exact ih hp.2 s hs' t ht' he
   exact hinj h t' g1 t ht (g2.trans e)
  subst this
  exact g0 (g3.trans h0)
 ·have hm:(t.1,t.2.1+t.2.2)∈vc T:=List.mem_filterMap.2 ⟨t,ht,by rw[if_neg h0]⟩
  exact yc hs hm
theorem Wr {a b:bU} (ha:FT a.2) (hb:FT b.2) (n:ByteArray):cf (tb a b).2 n=cf a.2 n+cf b.2 n:=by
 obtain⟨h1,h2,h3⟩:=gv a.2 b.2 ha hb
 obtain⟨k1,k2,k3⟩:=vX h1
 by_cases h: ∃t∈bJ a.2 b.2,t.1=n
 ·obtain⟨t,ht,rfl⟩:=h
  rw[tb,k3 t ht,(h2 t ht).1,(h2 t ht).2.1]
 ·rw[tb,vk (l:=vc (bJ a.2 b.2)),vk (l:=a.2),vk (l:=b.2)]
  ·rfl
  ·intro m hm e
   obtain⟨t,ht,e2⟩:=h3 m (.inr hm)
   exact h ⟨t,ht,e2.trans e⟩
  ·intro m hm e
   obtain⟨t,ht,e2⟩:=h3 m (.inl hm)
   exact h ⟨t,ht,e2.trans e⟩
  ·intro m hm e
   obtain⟨_,t,ht,e2⟩:=k2 m hm
   exact h ⟨t,ht,e2.trans e⟩
theorem Uh {a b:bU} (ha:FT a.2) (hb:FT b.2):FT (tb a b).2:=(vX (gv a.2 b.2 ha hb).1).1
theorem Wi {a b:bU} (ha:FT a.2) (hb:FT b.2): ∀m∈(tb a b).2,m.2≠0:= λm hm=>((vX (gv a.2 b.2 ha hb).1).2.1 m hm).1
theorem Nk {a b:bU} (ha:FT a.2) (hb:FT b.2): ∀m∈(tb a b).2,(∃x∈a.2,x.1=m.1)∨ ∃x∈b.2,x.1=m.1:= λm hm=>by
 obtain⟨h1,h2,h3⟩:=gv a.2 b.2 ha hb
 obtain⟨_,t,ht,e⟩:=(vX h1).2.1 m hm
 rw[←e]
 exact(h2 t ht).2.2
theorem Oy {a b:bU} (ha:bn a.2) (hb:bn b.2):bn (tb a b).2:=by
 rw[cp]at*
 refine⟨Uh ha.1 hb.1,λm hm=>⟨?_,Wi ha.1 hb.1 m hm⟩⟩
 rcases Nk ha.1 hb.1 m hm with⟨x,hx,e⟩|⟨x,hx,e⟩
 ·rw[←e];exact(ha.2 x hx).1
 ·rw[←e];exact(hb.2 x hx).1
theorem RL (a:bU) (b:Int) (n:ByteArray):cf (de a b).2 n=cf a.2 n*b:=by
 rw[de]
 split
 ·rename_i h;subst h;simp[cf]
 ·obtain⟨k,l⟩:=a
  simp only
  induction l with
  |nil=>simp[cf]
  |cons m r ih=>
   simp only[List.map_cons,cf]
   split
   ·rfl
   ·exact ih
theorem Np (a:bU) (b:Int):(de a b).1=a.1*b:=by
 rw[de]
 split
 ·rename_i h;subst h;simp
 ·rfl
theorem As {a:bU} {b:Int} (ha:bn a.2):bn (de a b).2:=by
 rw[de]
 split
 ·intro i hi;simp at hi
 ·rename_i hb
  rw[cp]at*
  refine⟨?_,λm hm=> ?_⟩
  ·simp only[FT,List.pairwise_map];exact ha.1
  ·obtain⟨x,hx,rfl⟩:=List.mem_map.1 hm
   exact⟨(ha.2 x hx).1,Int.mul_ne_zero (ha.2 x hx).2 hb⟩
def wD:aR:=((0, []),false)
def gV (out:bU) (eq:Bool):List (aR×Int)→aR×Int
 | []=>((out,eq),0)
 |p::r=>if ¬(p.2=0∨kL p.1.1 p.2)∨ ¬Fm out (de p.1.1 p.2)then(wD,3)else gV (tb out (de p.1.1 p.2)) (eq&&(p.1.2||decide (p.2=0))) r
def Rc (p:aR×Int):Prop:= ¬bn p.1.1.2∨(p.2<0∧p.1.2=false)
instance (l:List (aR×Int)):Decidable (∃p∈l,Rc p):=Classical.propDecidable _
def aL (l:List aR) (b:List Int):aR×Int:=
 if l.length≠b.length then(wD,1)else if ∃p∈l.zip b,Rc p then(wD,1)else gV (0, []) true (l.zip b)
def Ud (l:List (aR×Int)):Bool:=l.all λp=>p.1.2||decide (p.2=0)
instance (l:List (aR×Int)):Decidable (∃p∈l,p.2<0∧p.1.2=false):=Classical.propDecidable _
theorem Fl {x:Int}:(vp x).2=true↔ar x:=by
 unfold vp;split<;>simp[*]
theorem b6:ar 0:=by unfold ar;omega
def QM (g:Nat) (l:List aD):Nat:=l.foldl (λg m=>Nat.gcd g m.2.natAbs) g
def gh (l:List aD):Nat:=QM 0 l
theorem Lm: ∀{l:List aD} {g:Nat},QM g l∣g∧ ∀m∈l,QM g l∣m.2.natAbs
 | [],g=>⟨Nat.dvd_refl _,λm hm=>by cases hm⟩
 |x::r,g=>by
  obtain⟨h1,h2⟩:=Lm (l:=r) (g:=Nat.gcd g x.2.natAbs)
  refine⟨Nat.dvd_trans h1 (Nat.gcd_dvd_left _ _),λm hm=> ?_⟩
  rcases List.mem_cons.1 hm with rfl|hm
  ·exact Nat.dvd_trans h1 (Nat.gcd_dvd_right _ _)
  ·exact h2 m hm
theorem EM {l:List aD} {m:aD} (h:m∈l):gh l∣m.2.natAbs:=Lm.2 m h
theorem Am {l:List aD} {m:aD} (h:m∈l):(gh l:Int)∣m.2:=Int.ofNat_dvd_left.2 (EM h)
theorem Fi {l:List aD} (h:l≠ []) (h0: ∀m∈l,m.2≠0):0<gh l:=by
 cases l with
 |nil=>exact absurd rfl h
 |cons m r=>
  have h1:=EM (l:=m::r) (m:=m) List.mem_cons_self
  have h2:=h0 m List.mem_cons_self
  exact Nat.pos_of_dvd_of_pos h1 (by omega)
theorem Xq {l:List aD} (h:l≠ []) (h0: ∀m∈l,m.2≠0) (h64: ∀m∈l,ar m.2):gh l≤9223372036854775808:=by
 cases l with
 |nil=>exact absurd rfl h
 |cons m r=>
  have h1:=EM (l:=m::r) (m:=m) List.mem_cons_self
  have h2:=h0 m List.mem_cons_self
  have h3:=h64 m List.mem_cons_self
  have:=Nat.le_of_dvd (by omega) h1
  unfold ar at h3
  omega
def fA (g:Nat) (l:List aD):List aD:=l.map λm=>(m.1,m.2/(g:Int))
theorem PI {l:List aD} (hl:bn l):bn (fA (gh l) l):=by
 obtain⟨h1,h2⟩:=cp.1 hl
 refine cp.2 ⟨?_,λm hm=> ?_⟩
 ·simp only[FT,fA,List.pairwise_map];exact h1
 ·obtain⟨x,hx,rfl⟩:=List.mem_map.1 hm
  refine⟨(h2 x hx).1,λh=>(h2 x hx).2 ?_⟩
  have:=Int.ediv_mul_cancel (Am hx)
  simp only at h
  rw[h,Int.zero_mul]at this
  exact this.symm
theorem ES {x:Int} {g:Nat} (hx:ar x) (hg:0<g):ar (x/(g:Int)):=by
 unfold ar at*
 have h1:=Int.ediv_mul_le x (b:=(g:Int)) (by omega)
 have h2:=Int.lt_ediv_add_one_mul_self x (b:=(g:Int)) (by omega)
 generalize x/(g:Int)=q at*
 by_cases hq:0≤q
 ·have:q*1≤q*g:=Int.mul_le_mul_of_nonneg_left (by omega) hq
  omega
 ·have:(-(q+1))*1≤(-(q+1))*g:=Int.mul_le_mul_of_nonneg_left (by omega) (by omega)
  have e: -(q+1)*(g:Int)= -((q+1)*g):=Int.neg_mul _ _
  rw[e]at this
  omega
theorem A3 {x:Int} {g:Nat} (hg:0<g):x/(g:Int)=if x.tmod g<0 then x.tdiv g-1 else x.tdiv g:=by
 have h1:=Int.tmod_def x g
 have h2:(x.tmod g).natAbs<g:=by rw[Int.natAbs_tmod];exact Nat.mod_lt _ (by simpa using hg)
 by_cases h:x.tmod g<0
 ·rw[if_pos h]
  refine((Int.ediv_emod_unique (r:=x.tmod g+g) (by omega)).2 ⟨?_,by omega,by omega⟩).1
  rw[Int.mul_sub];omega
 ·rw[if_neg h]
  exact((Int.ediv_emod_unique (r:=x.tmod g) (by omega)).2 ⟨by omega,by omega,by omega⟩).1
def QJ:aR:=((-1, []),false)
def fi (c:aR):aR×Int×Int:=
 if ¬bn c.1.2 then(wD,0,1)else
 if c.1.2= []then(if c.1.1=0∨(0<c.1.1∧c.2=false)then(wD,1,0)else(QJ,2,0))else
 if c.2=true∧c.1.1.natAbs%gh c.1.2≠0 then(QJ,2,0)else
 if c.2=true∧(c.1.2.headD (.empty,0)).2<0 then
  (if ar (-(c.1.1/(gh c.1.2:Int)))∧ ∀m∈fA (gh c.1.2) c.1.2,ar (-m.2)then(((-(c.1.1/(gh c.1.2:Int)),(fA (gh c.1.2) c.1.2).map λm=>(m.1,-m.2)),true),0,0)else(wD,0,3))else
 (((c.1.1/(gh c.1.2:Int),fA (gh c.1.2) c.1.2),c.2),0,0)
end
end Go.Proofs.YthbcbaembicdbaaGreatDoor
