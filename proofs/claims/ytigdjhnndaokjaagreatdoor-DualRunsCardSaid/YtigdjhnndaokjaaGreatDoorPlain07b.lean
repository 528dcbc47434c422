import Derived.Test.YtigdjhnndaokjaaGreatDoorV01b
set_option linter.unusedVariables false
set_option linter.unusedSimpArgs false
namespace Go.Proofs.YtigdjhnndaokjaaGreatDoor
open Go.Abs
noncomputable section
abbrev Tri:=ByteArray×Int×Int
def Lt:List aG→List aG→List Tri
 | [],b=>b.map λm=>(m.1,0,m.2)
 |x::a, []=>(x::a).map λm=>(m.1,m.2,0)
 |x::a,y::b=>if SL x.1 y.1=true then(x.1,x.2,0)::Lt a (y::b)else if SL y.1 x.1=true then(y.1,0,y.2)::Lt (x::a) b else(x.1,x.2,y.2)::Lt a b
termination_by a b=>a.length+b.length
def afE (T:List Tri):List aG:=T.filterMap λt=>if t.2.1+t.2.2=0 then none else some (t.1,t.2.1+t.2.2)
def acm (a b:iB):Prop:=aH (a.1+b.1)∧ ∀t∈Lt a.2 b.2,aH (t.2.1+t.2.2)
instance (a b:iB):Decidable (acm a b):=Classical.propDecidable _
def afc (a b:iB):iB:=(a.1+b.1,afE (Lt a.2 b.2))
def lJ (a b:iB):iB×Int:=if acm a b then(afc a b,0)else((0, []),3)
def aaY (a:iB) (b:Int):Prop:=aH (a.1*b)∧ ∀m∈a.2,aH (m.2*b)
instance (a:iB) (b:Int):Decidable (aaY a b):=Classical.propDecidable _
def afv (p:MZ×Int):Prop:= ¬gN p.1.1.2∨(p.2<0∧p.1.2=false)
instance (l:List (MZ×Int)):Decidable (∃p∈l,afv p):=Classical.propDecidable _
instance (l:List (MZ×Int)):Decidable (∃p∈l,p.2<0∧p.1.2=false):=Classical.propDecidable _
end
end Go.Proofs.YtigdjhnndaokjaaGreatDoor
