import Derived.Test.YtiapgekjmcjjgaaGreatDoorLaw
import Derived.Lib.Hide
set_option maxHeartbeats 4000000
set_option linter.unusedVariables false
set_option linter.unusedSimpArgs false
open Go.Proofs.Tryz renaming prog→Ya
namespace Go.Proofs.YtiapgekjmcjjgaaGreatDoor
abbrev Fr:=Int×Int
def dq (a:Fr):Prop:=1≤a.2∧a.2≤2147483647∧ -2147483647≤a.1∧a.1≤2147483647∧Nat.gcd a.1.natAbs a.2.natAbs=1
def S6 (r:Rat):Prop:=r.num.natAbs≤2147483647∧r.den≤2147483647
noncomputable instance (a:Fr):Decidable (dq a):=Classical.propDecidable _
noncomputable instance (r:Rat):Decidable (S6 r):=Classical.propDecidable _
def pE (a:Fr):Prop:=am a.1∧am a.2
set_option maxRecDepth 1000000
open Go.Abs Go.RowKit
abbrev Un (a:Fr):AV:= .agg [.pure (pI a.1),.pure (pI a.2)]
theorem gZ (x y:Nat):Int.tmod (x:Int) (y:Int)=((x%y:Nat):Int):=(Int.ofNat_tmod x y).symm
theorem I1 (x y:Nat):Int.tdiv (x:Int) (y:Int)=((x/y:Nat):Int):=(Int.ofNat_tdiv x y).symm
theorem Es (a b:Nat):ac Ya 243 [U a,U b] (U (Nat.gcd a b)):=by
 refine ac.of Gi (by simp) λ_=>aa ?_
 obtain⟨R,hR⟩: ∃R,R=Nat.gcd a b:=⟨_,rfl⟩
 rw[←hR]
 conv in bh _ _=>cbv
 repeat' first|simp(disch:=omega)only[go_sem]|((with_reducible refine ab ?_ ?_)<;>intro h<;>try first|omega|simp(disch:=omega)only[go_sem, *])
 refine ai (λs:Nat×Nat=>⟨[(0,U s.1),(1,U s.2)], [],0,0⟩) (λs=>Hid (R=Nat.gcd s.1 s.2)) (λs=>s.2) ⟨(a,b), [],Lib.hid hR,by simp⟩ ?_
 clear hR
 rintro⟨x,y⟩ HR
 refine aa ?_
 by_cases h0:y=0
 ·have h1:=HR.out
  simp only[h0,Nat.gcd_zero_right]at h1
  subst h0
  subst h1
  repeat' first|simp(disch:=omega)only[go_sem,Int.natCast_zero]|((with_reducible refine ab ?_ ?_)<;>intro h<;>try first|omega|simp(disch:=omega)only[go_sem, *,Int.natCast_zero])
 ·have h1:(y:Int)≠0:=by omega
  repeat' first|simp(disch:=omega)only[go_sem,h1,ne_eq,gZ]|((with_reducible refine ab ?_ ?_)<;>intro h<;>try first|omega|simp(disch:=omega)only[go_sem, *,h1,ne_eq,gZ])
  exact⟨(y,x%y), [],Lib.hid (by rw[HR.out];simp only;rw[Nat.gcd_comm,Nat.gcd_rec,Nat.gcd_comm]),Nat.mod_lt _ (by omega),by simp⟩
theorem uo {n:Int} (hn:am n):ac Ya 244 [I n] (U n.natAbs):=by
 refine ac.of uD (by simp) λ_=>aa ?_
 obtain⟨h1,h2⟩:=hn
 conv in bh _ _=>cbv
 by_cases h0:n<0
 ·have e1:IntKind.wrap .u64 n=n+18446744073709551616:=by rw[IntKind.wrap_u64];omega
  have e2:IntKind.wrap .u64 (0-(n+18446744073709551616))=n.natAbs:=by rw[IntKind.wrap_u64];omega
  repeat' first|simp(disch:=omega)only[go_sem,e1,e2]|((with_reducible refine ab ?_ ?_)<;>intro h<;>try first|omega|simp(disch:=omega)only[go_sem, *,e1,e2])
 ·have e2:IntKind.wrap .u64 n=n.natAbs:=by rw[IntKind.wrap_u64];omega
  repeat' first|simp(disch:=omega)only[go_sem,e2]|((with_reducible refine ab ?_ ?_)<;>intro h<;>try first|omega|simp(disch:=omega)only[go_sem, *,e2])
theorem na (n:Int):ac Ya 242 [I n] (Go.Abs.B (decide (-2147483647≤n∧n≤2147483647))):=by
 refine ac.of yL (by simp) λ_=>aa ?_
 conv in bh _ _=>cbv
 repeat' first|simp(disch:=omega)only[go_sem]|((with_reducible refine ab ?_ ?_)<;>intro h<;>try first|omega|simp(disch:=omega)only[go_sem, *])
 all_goals(simp<;>omega)
theorem AQ {a:Fr} (ha:pE a):ac Ya 231 [Un a] (Go.Abs.B (decide (dq a))):=by
 refine ac.of Cg (by simp) λ_=>aa ?_
 obtain⟨n,d⟩:=a
 have p1:=uo ha.1
 have p2:=Es n.natAbs d.natAbs
 simp only at p1
 conv in bh _ _=>cbv
 by_cases h1:1≤d
 ·by_cases h2:d≤2147483647
  ·have e:IntKind.wrap .u64 d=d.natAbs:=by rw[IntKind.wrap_u64];omega
   by_cases h3: -2147483647≤n∧n≤2147483647
   ·repeat' first|simp(disch:=omega)only[go_sem,e,h3]|((with_reducible refine ab ?_ ?_)<;>intro h<;>try first|omega|simp(disch:=omega)only[go_sem, *,e,h3])|refine bA (na _) rfl (.inl rfl) ?_|refine bA p1 rfl (.inl rfl) ?_|refine bA p2 rfl (.inl rfl) ?_
    rw[show decide (((n.natAbs.gcd d.natAbs:Nat):Int)=1)=decide (dq (n,d)) by rw[decide_eq_decide];simp only[dq];omega]
   ·repeat' first|simp(disch:=omega)only[go_sem,e,h3]|((with_reducible refine ab ?_ ?_)<;>intro h<;>try first|omega|simp(disch:=omega)only[go_sem, *,e,h3])|refine bA (na _) rfl (.inl rfl) ?_|refine bA p1 rfl (.inl rfl) ?_|refine bA p2 rfl (.inl rfl) ?_
    rw[decide_eq_false]
    simp only[dq]
    omega
  ·repeat' first|simp(disch:=omega)only[go_sem]|((with_reducible refine ab ?_ ?_)<;>intro h<;>try first|omega|simp(disch:=omega)only[go_sem, *])
   rw[decide_eq_false]
   simp only[dq]
   omega
 ·repeat' first|simp(disch:=omega)only[go_sem]|((with_reducible refine ab ?_ ?_)<;>intro h<;>try first|omega|simp(disch:=omega)only[go_sem, *])
  rw[decide_eq_false]
  simp only[dq]
  omega
set_option maxRecDepth 20000
set_option maxRecDepth 1000000
theorem Fb (a b:Nat):ac Ya 256 [I a,I b] (I (Nat.gcd a b)):=by
 refine ac.of FX (by simp) λ_=>aa ?_
 obtain⟨R,hR⟩: ∃R,R=Nat.gcd a b:=⟨_,rfl⟩
 rw[←hR]
 conv in bh _ _=>cbv
 repeat' first|simp(disch:=omega)only[go_sem]|((with_reducible refine ab ?_ ?_)<;>intro h<;>try first|omega|simp(disch:=omega)only[go_sem, *])
 refine ai (λs:Nat×Nat=>⟨[(0,I s.1),(1,I s.2)], [],0,0⟩) (λs=>Hid (R=Nat.gcd s.1 s.2)) (λs=>s.2) ⟨(a,b), [],Lib.hid hR,by simp⟩ ?_
 clear hR
 rintro⟨x,y⟩ HR
 refine aa ?_
 by_cases h0:y=0
 ·have h1:=HR.out
  simp only[h0,Nat.gcd_zero_right]at h1
  subst h0
  subst h1
  repeat' first|simp(disch:=omega)only[go_sem,Int.natCast_zero]|((with_reducible refine ab ?_ ?_)<;>intro h<;>try first|omega|simp(disch:=omega)only[go_sem, *,Int.natCast_zero])
 ·have h1:(y:Int)≠0:=by omega
  repeat' first|simp(disch:=omega)only[go_sem,h1,ne_eq,gZ]|((with_reducible refine ab ?_ ?_)<;>intro h<;>try first|omega|simp(disch:=omega)only[go_sem, *,h1,ne_eq,gZ])
  exact⟨(y,x%y), [],Lib.hid (by rw[HR.out];simp only;rw[Nat.gcd_comm,Nat.gcd_rec,Nat.gcd_comm]),Nat.mod_lt _ (by omega),by simp⟩
end Go.Proofs.YtiapgekjmcjjgaaGreatDoor
