import Derived.Test.YtjhkikmonejkjaaGreatDoorLaw
import Derived.Lib.Hide
set_option linter.unusedVariables false
set_option linter.unusedSimpArgs false
open Go.Proofs.Tryz renaming prog→Ya
namespace Go.Proofs.YtjhkikmonejkjaaGreatDoor
abbrev Fr:=Int×Int
def qT (a:Fr):Prop:=1≤a.2∧a.2≤2147483647∧ -2147483647≤a.1∧a.1≤2147483647∧Nat.gcd a.1.natAbs a.2.natAbs=1
def S8 (r:Rat):Prop:=r.num.natAbs≤2147483647∧r.den≤2147483647
noncomputable instance (a:Fr):Decidable (qT a):=Classical.propDecidable _
noncomputable instance (r:Rat):Decidable (S8 r):=Classical.propDecidable _
def o9 (a:Fr):Prop:=aX a.1∧aX a.2
set_option maxRecDepth 20000
open Go.Abs Go.RowKit
abbrev UY (a:Fr):AV:= .agg [.pure (pI a.1),.pure (pI a.2)]
theorem yT (x y:Nat):Int.tmod (x:Int) (y:Int)=((x%y:Nat):Int):=(Int.ofNat_tmod x y).symm
theorem Id (a b:Nat):af Ya Es [U a,U b] (U (Nat.gcd a b)):=by
 refine af.of Kb (by simp) λ_=>aa ?_
 obtain⟨R,hR⟩: ∃R,R=Nat.gcd a b:=⟨_,rfl⟩
 rw[←hR]
 simp only[Ej]
 repeat' first|simp(disch:=omega)only[go_sem]|((with_reducible refine ab ?_ ?_)<;>intro h<;>try first|omega|simp(disch:=omega)only[go_sem, *])
 refine ai (λs:Nat×Nat=>⟨[(0,U s.1),(1,U s.2)], [],0,0⟩) (λs=>Hid (R=Nat.gcd s.1 s.2)) (λs=>s.2) ⟨(a,b), [],Lib.hid hR,by simp⟩ ?_
 clear hR
 rintro⟨x,y⟩ HR
 refine aa ?_
 by_cases h0:y=0
 ·have h1:=HR.out
  simp only[h0,Nat.gcd_zero_right]at h1
  subst h0
  subst h1
  repeat' first|simp(disch:=omega)only[go_sem,Int.natCast_zero]|((with_reducible refine ab ?_ ?_)<;>intro h<;>try first|omega|simp(disch:=omega)only[go_sem, *,Int.natCast_zero])
 ·have h1:(y:Int)≠0:=by omega
  repeat' first|simp(disch:=omega)only[go_sem,h1,ne_eq,yT]|((with_reducible refine ab ?_ ?_)<;>intro h<;>try first|omega|simp(disch:=omega)only[go_sem, *,h1,ne_eq,yT])
  exact⟨(y,x%y), [],Lib.hid (by rw[HR.out];simp only;rw[Nat.gcd_comm,Nat.gcd_rec,Nat.gcd_comm]),Nat.mod_lt _ (by omega),by simp⟩
theorem wx {n:Int} (hn:aX n):af Ya nO [I n] (U n.natAbs):=by
 refine af.of xA (by simp) λ_=>aa ?_
 obtain⟨h1,h2⟩:=hn
 simp only[oF]
 by_cases h0:n<0
 ·have e1:IntKind.wrap .u64 n=n+18446744073709551616:=by rw[IntKind.wrap_u64];omega
  have e2:IntKind.wrap .u64 (0-(n+18446744073709551616))=n.natAbs:=by rw[IntKind.wrap_u64];omega
  repeat' first|simp(disch:=omega)only[go_sem,e1,e2]|((with_reducible refine ab ?_ ?_)<;>intro h<;>try first|omega|simp(disch:=omega)only[go_sem, *,e1,e2])
 ·have e2:IntKind.wrap .u64 n=n.natAbs:=by rw[IntKind.wrap_u64];omega
  repeat' first|simp(disch:=omega)only[go_sem,e2]|((with_reducible refine ab ?_ ?_)<;>intro h<;>try first|omega|simp(disch:=omega)only[go_sem, *,e2])
theorem o4 (n:Int):af Ya rC [I n] (Go.Abs.B (decide (-2147483647≤n∧n≤2147483647))):=by
 refine af.of Bn (by simp) λ_=>aa ?_
 simp only[tc]
 repeat' first|simp(disch:=omega)only[go_sem]|((with_reducible refine ab ?_ ?_)<;>intro h<;>try first|omega|simp(disch:=omega)only[go_sem, *])
 all_goals(simp<;>omega)
theorem B1 {a:Fr} (ha:o9 a):af Ya yE [UY a] (Go.Abs.B (decide (qT a))):=by
 refine af.of EL (by simp) λ_=>aa ?_
 obtain⟨n,d⟩:=a
 have p1:=wx ha.1
 have p2:=Id n.natAbs d.natAbs
 simp only at p1
 simp only[yF]
 by_cases h1:1≤d
 ·by_cases h2:d≤2147483647
  ·have e:IntKind.wrap .u64 d=d.natAbs:=by rw[IntKind.wrap_u64];omega
   by_cases h3: -2147483647≤n∧n≤2147483647
   ·repeat' first|simp(disch:=omega)only[go_sem,e,h3]|((with_reducible refine ab ?_ ?_)<;>intro h<;>try first|omega|simp(disch:=omega)only[go_sem, *,e,h3])|refine ae (o4 _) rfl (.inl rfl) ?_|refine ae p1 rfl (.inl rfl) ?_|refine ae p2 rfl (.inl rfl) ?_
    rw[show decide (((n.natAbs.gcd d.natAbs:Nat):Int)=1)=decide (qT (n,d)) by rw[decide_eq_decide];simp only[qT];omega]
   ·repeat' first|simp(disch:=omega)only[go_sem,e,h3]|((with_reducible refine ab ?_ ?_)<;>intro h<;>try first|omega|simp(disch:=omega)only[go_sem, *,e,h3])|refine ae (o4 _) rfl (.inl rfl) ?_|refine ae p1 rfl (.inl rfl) ?_|refine ae p2 rfl (.inl rfl) ?_
    rw[decide_eq_false]
    simp only[qT]
    omega
  ·repeat' first|simp(disch:=omega)only[go_sem]|((with_reducible refine ab ?_ ?_)<;>intro h<;>try first|omega|simp(disch:=omega)only[go_sem, *])
   rw[decide_eq_false]
   simp only[qT]
   omega
 ·repeat' first|simp(disch:=omega)only[go_sem]|((with_reducible refine ab ?_ ?_)<;>intro h<;>try first|omega|simp(disch:=omega)only[go_sem, *])
  rw[decide_eq_false]
  simp only[qT]
  omega
theorem Io (a b:Nat):af Ya DP [I a,I b] (I (Nat.gcd a b)):=by
 refine af.of JO (by simp) λ_=>aa ?_
 obtain⟨R,hR⟩: ∃R,R=Nat.gcd a b:=⟨_,rfl⟩
 rw[←hR]
 simp only[CS]
 repeat' first|simp(disch:=omega)only[go_sem]|((with_reducible refine ab ?_ ?_)<;>intro h<;>try first|omega|simp(disch:=omega)only[go_sem, *])
 refine ai (λs:Nat×Nat=>⟨[(0,I s.1),(1,I s.2)], [],0,0⟩) (λs=>Hid (R=Nat.gcd s.1 s.2)) (λs=>s.2) ⟨(a,b), [],Lib.hid hR,by simp⟩ ?_
 clear hR
 rintro⟨x,y⟩ HR
 refine aa ?_
 by_cases h0:y=0
 ·have h1:=HR.out
  simp only[h0,Nat.gcd_zero_right]at h1
  subst h0
  subst h1
  repeat' first|simp(disch:=omega)only[go_sem,Int.natCast_zero]|((with_reducible refine ab ?_ ?_)<;>intro h<;>try first|omega|simp(disch:=omega)only[go_sem, *,Int.natCast_zero])
 ·have h1:(y:Int)≠0:=by omega
  repeat' first|simp(disch:=omega)only[go_sem,h1,ne_eq,yT]|((with_reducible refine ab ?_ ?_)<;>intro h<;>try first|omega|simp(disch:=omega)only[go_sem, *,h1,ne_eq,yT])
  exact⟨(y,x%y), [],Lib.hid (by rw[HR.out];simp only;rw[Nat.gcd_comm,Nat.gcd_rec,Nat.gcd_comm]),Nat.mod_lt _ (by omega),by simp⟩
end Go.Proofs.YtjhkikmonejkjaaGreatDoor
