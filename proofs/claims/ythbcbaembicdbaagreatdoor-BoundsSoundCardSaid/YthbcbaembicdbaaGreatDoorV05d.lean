import Derived.Test.YthbcbaembicdbaaGreatDoorV12a
set_option linter.unusedVariables false
set_option linter.unusedSimpArgs false
set_option maxRecDepth 20000
namespace Go.Proofs.YthbcbaembicdbaaGreatDoor
open Go.Abs Go.RowKit
abbrev u64 (n:Int):AC:= .pure (.val (.int .u64 n))
def CF:List aD→ByteArray→Option Int
 | [],_=>none
 |m::r,s=>if m.1=s then some m.2 else CF r s
def uy (f:ByteArray→Int):List aD→Int
 | []=>0
 |m::r=>m.2*f m.1+uy f r
theorem Br (f:ByteArray→Int): ∀(l r:List aD),uy f (l++r)=uy f l+uy f r
 | [],r=>by simp[uy]
 |m::l,r=>by simp only[List.cons_append,uy,Br f l r,Int.add_assoc]
theorem Qy {f:ByteArray→Int} {l:List aD} {j:Nat} (h:j<l.length):uy f (l.take (j+1))=uy f (l.take j)+l[j].2*f l[j].1:=by
 rw[List.take_succ_eq_append_getElem h,Br]
 simp[uy]
def f6 (env:List aD) (s:ByteArray):Int:=(CF env s).getD 0
noncomputable def x9 (k:Int) (l:List aD) (env:List aD):Int×Int:=
 if ¬bn l then(0,1)else if ∃m∈l,CF env m.1=none then(0,9)else if ar (k+uy (f6 env) l)then(k+uy (f6 env) l,0)else(0,3)
theorem xr {a b:Int} (ha:ar a) (hb:ar b):0≤(a.natAbs:Int)*b.natAbs∧(a.natAbs:Int)*b.natAbs≤85070591730234615865843651857942052864:=by
 have h1:(a.natAbs:Int)≤9223372036854775808:=by unfold ar at ha;omega
 have h2:(b.natAbs:Int)≤9223372036854775808:=by unfold ar at hb;omega
 refine⟨Int.mul_nonneg (by omega) (by omega), ?_⟩
 have:=Int.mul_le_mul h1 h2 (by omega) (by omega)
 omega
theorem zp {a b:Int} (h:(a<0∧b<0)∨(¬a<0∧ ¬b<0)):(a.natAbs:Int)*b.natAbs=b*a:=by
 rcases h with⟨h1,h2⟩|⟨h1,h2⟩
 ·rw[show(a.natAbs:Int)= -a by omega,show(b.natAbs:Int)= -b by omega,Int.neg_mul_neg,Int.mul_comm]
 ·rw[show(a.natAbs:Int)=a by omega,show(b.natAbs:Int)=b by omega,Int.mul_comm]
theorem yB {a b:Int} (h:(a<0∧ ¬b<0)∨(¬a<0∧b<0)):(a.natAbs:Int)*b.natAbs= -(b*a):=by
 rcases h with⟨h1,h2⟩|⟨h1,h2⟩
 ·rw[show(a.natAbs:Int)= -a by omega,show(b.natAbs:Int)=b by omega,Int.neg_mul,Int.mul_comm]
 ·rw[show(a.natAbs:Int)=a by omega,show(b.natAbs:Int)= -b by omega,Int.mul_neg,Int.mul_comm]
end Go.Proofs.YthbcbaembicdbaaGreatDoor
