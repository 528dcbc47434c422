import Derived.Test.YtjhkikmonejkjaaGreatDoorV17x
set_option linter.unusedVariables false
set_option linter.unusedSimpArgs false
namespace Go.Proofs.YtjhkikmonejkjaaGreatDoor
open Go.Abs Go.RowKit
def M8 (env:List aH) (s:ByteArray):Option Int:=(env.find? λb=>decide (b.1=s∧ -1000<b.2)).map (·.2)
def LG (env:List aH):Int→List aH→Int
 |n, []=>max 1 (min n 3001)
 |n,m::r=>if 100<m.2∨m.2< -100 then 3001 else LG env (match M8 env m.1 with
  |some v=>IntKind.wrap .i64 (n+IntKind.wrap .i64 (m.2*v))
  |none=>n) r
def Sy (env:List aH) (l:fc):Int:=if 3000<l.1∨l.1< -3000 then 3001 else LG env l.1 l.2
def NN (env:List aH):Int→List eU→Int
 |n, []=>n
 |n,a::r=>NN env (min 3001 (n*Sy env a.2)) r
def BU (env:List aH) (l:List eU):Int:=NN env 1 l
theorem TZ {env:List aH} {l:List aH} {k:Nat} {n:Int} (h:k<l.length):LG env n (l.drop k)=if 100<l[k].2∨l[k].2< -100 then 3001 else LG env (match M8 env l[k].1 with
  |some v=>IntKind.wrap .i64 (n+IntKind.wrap .i64 (l[k].2*v))
  |none=>n) (l.drop (k+1)):=by
 rw[List.drop_eq_getElem_cons h,LG]
theorem R3 {env:List aH} {l:List aH} {k:Nat} {n:Int} (h:l.length≤k):LG env n (l.drop k)=max 1 (min n 3001):=by
 rw[List.drop_of_length_le h,LG]
theorem PE {env:List aH}: ∀{l:List aH} {n:Int},1≤LG env n l∧LG env n l≤3001
 | [],n=>by rw[LG];omega
 |m::r,n=>by
  rw[LG]
  split
  ·omega
  ·exact PE
theorem Po {env:List aH} {l:fc}:1≤Sy env l∧Sy env l≤3001:=by
 unfold Sy
 split
 ·omega
 ·exact PE
theorem TA {env:List aH} {l:List eU} {k:Nat} {n:Int} (h:k<l.length):NN env n (l.drop k)=NN env (min 3001 (n*Sy env l[k].2)) (l.drop (k+1)):=by
 rw[List.drop_eq_getElem_cons h,NN]
theorem QP {env:List aH} {l:List eU} {k:Nat} {n:Int} (h:l.length≤k):NN env n (l.drop k)=n:=by
 rw[List.drop_of_length_le h,NN]
theorem ON {n x:Int} (hn:1≤n∧n≤3001) (hx:1≤x∧x≤3001):1≤n*x∧n*x≤9006001:=by
 have h1:=Int.mul_le_mul hn.1 hx.1 (by omega) (by omega)
 have h2:=Int.mul_le_mul hn.2 hx.2 (by omega) (by omega)
 omega
theorem Qx {env:List aH}: ∀{l:List eU} {n:Int},1≤n∧n≤3001→1≤NN env n l∧NN env n l≤3001
 | [],n,h=>by rw[NN];exact h
 |a::r,n,h=>by
  have:=ON h (Po (env:=env) (l:=a.2))
  rw[NN]
  exact Qx (by omega)
theorem Pd {env:List aH} {l:List eU}:1≤BU env l∧BU env l≤3001:=Qx (by omega)
def NL (env:List aH):Prop:=(∀m∈env,m.1.size≤100)∧env.length≤20
def mr (p:be) (env:List aH):Prop:= ¬rD p∧p.defs.length≤12∧NL env∧(∀m∈env,m.2≤6)∧ ∀d∈p.defs,BU env d.dims*BU env d.red≤3000
noncomputable instance (env:List aH):Decidable (NL env):=Classical.propDecidable _
noncomputable instance (p:be) (env:List aH):Decidable (mr p env):=Classical.propDecidable _
end Go.Proofs.YtjhkikmonejkjaaGreatDoor
