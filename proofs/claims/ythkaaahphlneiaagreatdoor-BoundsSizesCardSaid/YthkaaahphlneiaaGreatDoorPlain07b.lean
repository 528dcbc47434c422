import Derived.Test.YthkaaahphlneiaaGreatDoorV12a
set_option linter.unusedVariables false
set_option linter.unusedSimpArgs false
namespace Go.Proofs.YthkaaahphlneiaaGreatDoor
open Go.Abs
theorem zh: ∀(x y:List UInt8),Op.bytesLess x y=decide (x<y)
 | [], []=>by simp[Op.bytesLess]
 | [],y::ys=>by simp[Op.bytesLess]
 |x::xs, []=>by simp[Op.bytesLess]
 |x::xs,y::ys=>by
  have ih:=zh xs ys
  simp only[Op.bytesLess,ih,List.cons_lt_cons_iff]
  by_cases h1:x<y
  ·simp[h1]
  ·by_cases h2:x=y
   ·subst h2;simp
   ·have h3:y<x:=by
     rcases Nat.lt_trichotomy x.toNat y.toNat with h|h|h
     ·exact absurd (UInt8.lt_iff_toNat_lt.2 h) h1
     ·exact absurd (UInt8.toNat_inj.1 h) h2
     ·exact UInt8.lt_iff_toNat_lt.2 h
    simp[h1,h2,h3]
theorem vh {a b:ByteArray}:b7 a b=true↔a.toList<b.toList:=by rw[b7,zh,decide_eq_true_iff]
theorem jD (a:ByteArray): ¬b7 a a=true:=by rw[vh];exact List.lt_irrefl _
theorem gC {a b c:ByteArray} (h:b7 a b=true) (h':b7 b c=true):b7 a c=true:=by
 rw[vh]at*;exact List.lt_trans h h'
theorem zO (a b:ByteArray):b7 a b=true∨a=b∨b7 b a=true:=by
 rw[vh,vh]
 by_cases h1:a.toList<b.toList
 ·exact .inl h1
 ·by_cases h2:b.toList<a.toList
  ·exact .inr (.inr h2)
  ·exact .inr (.inl (jA.1 (List.le_antisymm (List.not_lt.1 h2) (List.not_lt.1 h1))))
theorem oc {a b:ByteArray} (h:b7 a b=true): ¬b7 b a=true:=fun h'=>jD a (gC h h')
theorem sY {a b:ByteArray} (h:b7 a b=true):a≠b:=fun e=>by subst e;exact jD a h
def Sd (l:List aP):Prop:=l.Pairwise fun x y=>b7 x.1 y.1=true
def cf:List aP→ByteArray→Int
 | [],_=>0
 |m::r,n=>if m.1=n then m.2 else cf r n
theorem mB {l:List aP}:cd l↔Sd l∧ ∀m∈l,fp m.1∧m.2≠0:=by
 constructor
 ·intro h
  refine⟨?_,fun m hm=> ?_⟩
  ·have key: ∀i j (hi:i<j) (hj:j<l.length),b7 (l[i]'(by omega)).1 l[j].1=true:=by
    intro i j
    induction j with
    |zero=>intro hi;omega
    |succ j ih=>
     intro hi hj
     have hs:=(h (j+1) hj hj).2.2 (by omega)
     simp only[Nat.add_sub_cancel]at hs
     by_cases e:i=j
     ·subst e;exact hs
     ·exact gC (ih (by omega) (by omega)) hs
   rw[Sd,List.pairwise_iff_getElem]
   intro i j hi hj hij
   exact key i j hij hj
  ·obtain⟨i,hi,rfl⟩:=List.mem_iff_getElem.1 hm
   exact⟨(h i hi hi).1,(h i hi hi).2.1⟩
 ·rintro⟨h1,h2⟩ i hi hi'
  refine⟨(h2 _ (List.getElem_mem hi')).1,(h2 _ (List.getElem_mem hi')).2,fun h0=> ?_⟩
  rw[Sd,List.pairwise_iff_getElem]at h1
  exact h1 (i-1) i (by omega) hi' (by omega)
theorem Tn {l:List aP} {n:ByteArray} (h: ∀m∈l,m.1≠n):cf l n=0:=by
 induction l with
 |nil=>rfl
 |cons m r ih=>
  rw[cf,if_neg (h m List.mem_cons_self)]
  exact ih fun m hm=>h m (List.mem_cons_of_mem _ hm)
theorem QA {l:List aP} (hs:Sd l) {m:aP} (hm:m∈l):cf l m.1=m.2:=by
 induction l with
 |nil=>cases hm
 |cons x r ih=>
  rw[Sd,List.pairwise_cons]at hs
  rw[cf]
  rcases List.mem_cons.1 hm with rfl|hm
  ·rw[if_pos rfl]
  ·rw[if_neg (sY (hs.1 m hm))]
   exact ih hs.2 hm
theorem Xt {l:List aP} {n:ByteArray} (h:cf l n≠0): ∃m∈l,m.1=n∧m.2=cf l n:=by
 induction l with
 |nil=>exact absurd rfl h
 |cons x r ih=>
  rw[cf]at h ⊢
  by_cases e:x.1=n
  ·rw[if_pos e];exact⟨x,List.mem_cons_self,e,rfl⟩
  ·rw[if_neg e]at h ⊢
   obtain⟨m,h1,h2⟩:=ih h
   exact⟨m,List.mem_cons_of_mem _ h1,h2⟩
abbrev SI:=ByteArray×Int×Int
def bI:List aP→List aP→List SI
 | [],b=>b.map fun m=>(m.1,0,m.2)
 |x::a, []=>(x::a).map fun m=>(m.1,m.2,0)
 |x::a,y::b=>if b7 x.1 y.1=true then(x.1,x.2,0)::bI a (y::b)else if b7 y.1 x.1=true then(y.1,0,y.2)::bI (x::a) b else(x.1,x.2,y.2)::bI a b
termination_by a b=>a.length+b.length
theorem nD (b:List aP):bI [] b=b.map fun m=>(m.1,0,m.2):=by rw[bI]
theorem nV (a:List aP):bI a []=a.map fun m=>(m.1,m.2,0):=by cases a<;>rw[bI];rfl
theorem tC (x:aP) (a:List aP) (y:aP) (b:List aP):bI (x::a) (y::b)=if b7 x.1 y.1=true then(x.1,x.2,0)::bI a (y::b)else if b7 y.1 x.1=true then(y.1,0,y.2)::bI (x::a) b else(x.1,x.2,y.2)::bI a b:=by rw[bI]
theorem nj: ∀(a b:List aP),(bI a b).length≤a.length+b.length
 | [],b=>by rw[nD];simp
 |x::a, []=>by rw[nV];simp
 |x::a,y::b=>by
  rw[tC]
  have h1:=nj a (y::b)
  have h2:=nj (x::a) b
  have h3:=nj a b
  simp only[List.length_cons]at*
  split
  ·simp only[List.length_cons];omega
  ·split
   ·simp only[List.length_cons];omega
   ·simp only[List.length_cons];omega
termination_by a b=>a.length+b.length
theorem kD: ∀(a b:List aP),Sd a→Sd b→(bI a b).Pairwise (fun s t=>b7 s.1 t.1=true)∧(∀t∈bI a b,t.2.1=cf a t.1∧t.2.2=cf b t.1∧((∃m∈a,m.1=t.1)∨ ∃m∈b,m.1=t.1))∧(∀m,m∈a∨m∈b→ ∃t∈bI a b,t.1=m.1)
 |[],b,sa,sb=>by
  rw[nD]
  refine⟨by rw[List.pairwise_map];exact sb,fun t ht=> ?_,fun m hm=> ?_⟩
  ·obtain⟨m,hm,rfl⟩:=List.mem_map.1 ht
   exact⟨rfl,(QA sb hm).symm,.inr ⟨m,hm,rfl⟩⟩
  ·rcases hm with hm|hm
   ·cases hm
   ·exact⟨_,List.mem_map_of_mem hm,rfl⟩
 |x::a, [],sa,sb=>by
  rw[nV]
  refine⟨by rw[List.pairwise_map];exact sa,fun t ht=> ?_,fun m hm=> ?_⟩
  ·obtain⟨m,hm,rfl⟩:=List.mem_map.1 ht
   exact⟨(QA sa hm).symm,rfl,.inl ⟨m,hm,rfl⟩⟩
  ·rcases hm with hm|hm
   ·exact⟨_,List.mem_map_of_mem hm,rfl⟩
   ·cases hm
 |x::a,y::b,sa,sb=>by
  have sa':=List.pairwise_cons.1 sa
  have sb':=List.pairwise_cons.1 sb
  rw[tC]
  have ne0: ∀{z:aP} {c:List aP} {n:ByteArray},Sd (z::c)→b7 n z.1=true→cf (z::c) n=0:=by
   intro z c n s hl
   have s':=List.pairwise_cons.1 s
   exact Tn fun m hm=>by
    rcases List.mem_cons.1 hm with rfl|hm
    ·exact fun e=>sY hl e.symm
    ·exact fun e=>sY (gC hl (s'.1 m hm)) e.symm
  have big: ∀{z:aP} {c:List aP} {n:ByteArray},b7 z.1 n=true→cf (z::c) n=cf c n:=by
   intro z c n hl
   rw[cf,if_neg (sY hl)]
  split
  ·rename_i hl
   obtain⟨h1,h2,h3⟩:=kD a (y::b) sa'.2 sb
   have up: ∀t∈bI a (y::b),b7 x.1 t.1=true:=fun t ht=>by
    rcases(h2 t ht).2.2 with⟨m,hm,e⟩|⟨m,hm,e⟩
    ·rw[←e];exact sa'.1 m hm
    ·rw[←e]
     rcases List.mem_cons.1 hm with rfl|hm
     ·exact hl
     ·exact gC hl (sb'.1 m hm)
   refine⟨List.pairwise_cons.2 ⟨up,h1⟩,fun t ht=> ?_,fun m hm=> ?_⟩
   ·rcases List.mem_cons.1 ht with rfl|ht
    ·exact⟨by rw[cf,if_pos rfl],(ne0 sb hl).symm,.inl ⟨x,List.mem_cons_self,rfl⟩⟩
    ·obtain⟨g1,g2,g3⟩:=h2 t ht
     refine⟨by rw[g1,big (up t ht)],g2, ?_⟩
     rcases g3 with⟨m,hm,e⟩|h
     ·exact .inl ⟨m,List.mem_cons_of_mem _ hm,e⟩
     ·exact .inr h
   ·by_cases e:m=x
    ·subst e;exact⟨_,List.mem_cons_self,rfl⟩
    ·obtain⟨t,ht,e2⟩:=h3 m (hm.imp (fun h=>(List.mem_cons.1 h).resolve_left e) id)
     exact⟨t,List.mem_cons_of_mem _ ht,e2⟩
  ·rename_i hnl
   split
   ·rename_i hl
    obtain⟨h1,h2,h3⟩:=kD (x::a) b sa sb'.2
    have up: ∀t∈bI (x::a) b,b7 y.1 t.1=true:=fun t ht=>by
     rcases(h2 t ht).2.2 with⟨m,hm,e⟩|⟨m,hm,e⟩
     ·rw[←e]
      rcases List.mem_cons.1 hm with rfl|hm
      ·exact hl
      ·exact gC hl (sa'.1 m hm)
     ·rw[←e];exact sb'.1 m hm
    refine⟨List.pairwise_cons.2 ⟨up,h1⟩,fun t ht=> ?_,fun m hm=> ?_⟩
    ·rcases List.mem_cons.1 ht with rfl|ht
     ·exact⟨(ne0 sa hl).symm,by rw[cf,if_pos rfl],.inr ⟨y,List.mem_cons_self,rfl⟩⟩
     ·obtain⟨g1,g2,g3⟩:=h2 t ht
      refine⟨g1,by rw[g2,big (up t ht)], ?_⟩
      rcases g3 with h|⟨m,hm,e⟩
      ·exact .inl h
      ·exact .inr ⟨m,List.mem_cons_of_mem _ hm,e⟩
    ·by_cases e:m=y
     ·subst e;exact⟨_,List.mem_cons_self,rfl⟩
     ·obtain⟨t,ht,e2⟩:=h3 m (hm.imp id (fun h=>(List.mem_cons.1 h).resolve_left e))
      exact⟨t,List.mem_cons_of_mem _ ht,e2⟩
   ·rename_i hnr
    have hxy:x.1=y.1:=by
     rcases zO x.1 y.1 with h|h|h
     ·exact absurd h hnl
     ·exact h
     ·exact absurd h hnr
    obtain⟨h1,h2,h3⟩:=kD a b sa'.2 sb'.2
    have up: ∀t∈bI a b,b7 x.1 t.1=true:=fun t ht=>by
     rcases(h2 t ht).2.2 with⟨m,hm,e⟩|⟨m,hm,e⟩
     ·rw[←e];exact sa'.1 m hm
     ·rw[←e,hxy];exact sb'.1 m hm
    refine⟨List.pairwise_cons.2 ⟨up,h1⟩,fun t ht=> ?_,fun m hm=> ?_⟩
    ·rcases List.mem_cons.1 ht with rfl|ht
     ·exact⟨by rw[cf,if_pos rfl],by rw[cf,if_pos hxy.symm],.inl ⟨x,List.mem_cons_self,rfl⟩⟩
     ·obtain⟨g1,g2,g3⟩:=h2 t ht
      refine⟨by rw[g1,big (up t ht)],by rw[g2,big (by rw[←hxy];exact up t ht)], ?_⟩
      rcases g3 with⟨m,hm,e⟩|⟨m,hm,e⟩
      ·exact .inl ⟨m,List.mem_cons_of_mem _ hm,e⟩
      ·exact .inr ⟨m,List.mem_cons_of_mem _ hm,e⟩
    ·by_cases e:m=x
     ·subst e;exact⟨_,List.mem_cons_self,rfl⟩
     ·by_cases e':m=y
      ·subst e';exact⟨_,List.mem_cons_self,hxy⟩
      ·obtain⟨t,ht,e2⟩:=h3 m (hm.imp (fun h=>(List.mem_cons.1 h).resolve_left e) (fun h=>(List.mem_cons.1 h).resolve_left e'))
       exact⟨t,List.mem_cons_of_mem _ ht,e2⟩
termination_by a b=>a.length+b.length
def Al (T:List SI):List aP:=T.filterMap fun t=>if t.2.1+t.2.2=0 then none else some (t.1,t.2.1+t.2.2)
def Im (a b:ca):Prop:=aA (a.1+b.1)∧ ∀t∈bI a.2 b.2,aA (t.2.1+t.2.2)
noncomputable instance (a b:ca):Decidable (Im a b):=Classical.propDecidable _
def T2 (a b:ca):ca:=(a.1+b.1,Al (bI a.2 b.2))
noncomputable def gh (a b:ca):ca×Int:=if Im a b then(T2 a b,0)else((0, []),3)
def qG (a:ca) (b:Int):Prop:=aA (a.1*b)∧ ∀m∈a.2,aA (m.2*b)
noncomputable instance (a:ca) (b:Int):Decidable (qG a b):=Classical.propDecidable _
def mF (a:ca) (b:Int):ca:=if b=0 then(0, [])else(a.1*b,a.2.map fun m=>(m.1,m.2*b))
noncomputable def nn (a:ca) (b:Int):ca×Int:=if b=0∨qG a b then(mF a b,0)else((0, []),3)
def YR (p:gf×Int):Prop:= ¬cd p.1.1.2∨(p.2<0∧p.1.2=false)
noncomputable instance (l:List (gf×Int)):Decidable (∃p∈l,YR p):=Classical.propDecidable _
noncomputable instance (l:List (gf×Int)):Decidable (∃p∈l,p.2<0∧p.1.2=false):=Classical.propDecidable _
theorem Dw {x:Int}:(f9 x).2=true↔aA x:=by
 unfold f9;split<;>simp[*]
theorem dn:aA 0:=by unfold aA;omega
end Go.Proofs.YthkaaahphlneiaaGreatDoor
