import Derived.Test.YtjhkikmonejkjaaGreatDoorV12a
set_option linter.unusedVariables false
set_option linter.unusedSimpArgs false
namespace Go.Proofs.YtjhkikmonejkjaaGreatDoor
open Go.Abs
noncomputable section
theorem wI: ∀(x y:List UInt8),Op.bytesLess x y=decide (x<y)
 | [], []=>by simp[Op.bytesLess]
 | [],y::ys=>by simp[Op.bytesLess]
 |x::xs, []=>by simp[Op.bytesLess]
 |x::xs,y::ys=>by
  have ih:=wI xs ys
  simp only[Op.bytesLess,ih,List.cons_lt_cons_iff]
  by_cases h1:x<y
  ·simp[h1]
  ·by_cases h2:x=y
   ·subst h2;simp
   ·have h3:y<x:=by
     rcases Nat.lt_trichotomy x.toNat y.toNat with h|h|h
     ·exact absurd (UInt8.lt_iff_toNat_lt.2 h) h1
     ·exact absurd (UInt8.toNat_inj.1 h) h2
     ·exact UInt8.lt_iff_toNat_lt.2 h
    simp[h1,h2,h3]
theorem oV {a b:ByteArray}:cH a b=true↔a.toList<b.toList:=by rw[cH,wI,decide_eq_true_iff]
theorem kS (a:ByteArray): ¬cH a a=true:=by rw[oV];exact List.lt_irrefl _
theorem m6 {a b c:ByteArray} (h:cH a b=true) (h':cH b c=true):cH a c=true:=by
 rw[oV]at*;exact List.lt_trans h h'
theorem Ge (a b:ByteArray):cH a b=true∨a=b∨cH b a=true:=by
 rw[oV,oV]
 by_cases h1:a.toList<b.toList
 ·exact .inl h1
 ·by_cases h2:b.toList<a.toList
  ·exact .inr (.inr h2)
  ·exact .inr (.inl (aj.1 (List.le_antisymm (List.not_lt.1 h2) (List.not_lt.1 h1))))
theorem tt {a b:ByteArray} (h:cH a b=true): ¬cH b a=true:= λh'=>kS a (m6 h h')
abbrev WC:=ByteArray×Int×Int
def CU:List aH→List aH→List WC
 | [],b=>b.map λm=>(m.1,0,m.2)
 |x::a, []=>(x::a).map λm=>(m.1,m.2,0)
 |x::a,y::b=>if cH x.1 y.1=true then(x.1,x.2,0)::CU a (y::b)else if cH y.1 x.1=true then(y.1,0,y.2)::CU (x::a) b else(x.1,x.2,y.2)::CU a b
termination_by a b=>a.length+b.length
def Wj (T:List WC):List aH:=T.filterMap λt=>if t.2.1+t.2.2=0 then none else some (t.1,t.2.1+t.2.2)
def SJ (a b:fc):Prop:=aX (a.1+b.1)∧ ∀t∈CU a.2 b.2,aX (t.2.1+t.2.2)
instance (a b:fc):Decidable (SJ a b):=Classical.propDecidable _
def V5 (a b:fc):fc:=(a.1+b.1,Wj (CU a.2 b.2))
def jz (a b:fc):fc×Int:=if SJ a b then(V5 a b,0)else((0, []),3)
def RP (a:fc) (b:Int):Prop:=aX (a.1*b)∧ ∀m∈a.2,aX (m.2*b)
instance (a:fc) (b:Int):Decidable (RP a b):=Classical.propDecidable _
def Wb (p:Ey×Int):Prop:= ¬dZ p.1.1.2∨(p.2<0∧p.1.2=false)
instance (l:List (Ey×Int)):Decidable (∃p∈l,Wb p):=Classical.propDecidable _
instance (l:List (Ey×Int)):Decidable (∃p∈l,p.2<0∧p.1.2=false):=Classical.propDecidable _
end
end Go.Proofs.YtjhkikmonejkjaaGreatDoor
