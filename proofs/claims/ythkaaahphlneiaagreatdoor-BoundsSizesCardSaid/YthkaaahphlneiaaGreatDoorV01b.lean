import Derived.Test.YthkaaahphlneiaaGreatDoorLaw
import Derived.Lib.Hide
set_option linter.unusedVariables false
set_option linter.unusedSimpArgs false
namespace Go.Proofs.YthkaaahphlneiaaGreatDoor
abbrev Fr:=Int×Int
def dU (a:Fr):Prop:=1≤a.2∧a.2≤2147483647∧ -2147483647≤a.1∧a.1≤2147483647∧Nat.gcd a.1.natAbs a.2.natAbs=1
def We (r:Rat):Prop:=r.num.natAbs≤2147483647∧r.den≤2147483647
noncomputable instance (a:Fr):Decidable (dU a):=Classical.propDecidable _
noncomputable instance (r:Rat):Decidable (We r):=Classical.propDecidable _
def sS (a:Fr):Prop:=aA a.1∧aA a.2
set_option maxRecDepth 20000
set_option maxHeartbeats 4000000
set_option maxRecDepth 1000000
open Go.Abs Go.RowKit
abbrev Yk (a:Fr):AV:= .agg [.pure (pI a.1),.pure (pI a.2)]
theorem yn (x y:Nat):Int.tmod (x:Int) (y:Int)=((x%y:Nat):Int):=(Int.ofNat_tmod x y).symm
theorem JV (a b:Nat):ac Tryz.prog Eb [U a,U b] (U (Nat.gcd a b)):=by
 refine ac.of Kk (by simp) fun _=>aa ?_
 obtain⟨R,hR⟩: ∃R,R=Nat.gcd a b:=⟨_,rfl⟩
 rw[←hR]
 simp only[Dl]
 repeat' first|simp(disch:=omega) only[go_sem]|((with_reducible refine ab ?_ ?_)<;>intro h<;>try first|omega|simp(disch:=omega) only[go_sem, *])
 refine aj (fun s:Nat×Nat=>⟨[(0,U s.1),(1,U s.2)], [],0,0⟩) (fun s=>Hid (R=Nat.gcd s.1 s.2)) (fun s=>s.2) ⟨(a,b), [],Lib.hid hR,by simp⟩ ?_
 clear hR
 rintro⟨x,y⟩ HR
 refine aa ?_
 by_cases h0:y=0
 ·have h1:=HR.out
  simp only[h0,Nat.gcd_zero_right]at h1
  subst h0
  subst h1
  repeat' first|simp(disch:=omega) only[go_sem,Int.natCast_zero]|((with_reducible refine ab ?_ ?_)<;>intro h<;>try first|omega|simp(disch:=omega) only[go_sem, *,Int.natCast_zero])
 ·have h1:(y:Int)≠0:=by omega
  repeat' first|simp(disch:=omega) only[go_sem,h1,ne_eq,yn]|((with_reducible refine ab ?_ ?_)<;>intro h<;>try first|omega|simp(disch:=omega) only[go_sem, *,h1,ne_eq,yn])
  exact⟨(y,x%y), [],Lib.hid (by rw[HR.out];simp only;rw[Nat.gcd_comm,Nat.gcd_rec,Nat.gcd_comm]),Nat.mod_lt _ (by omega),by simp⟩
theorem xK {n:Int} (hn:aA n):ac Tryz.prog pC [I n] (U n.natAbs):=by
 refine ac.of xZ (by simp) fun _=>aa ?_
 obtain⟨h1,h2⟩:=hn
 simp only[pm]
 by_cases h0:n<0
 ·have e1:IntKind.wrap .u64 n=n+18446744073709551616:=by rw[IntKind.wrap_u64];omega
  have e2:IntKind.wrap .u64 (0-(n+18446744073709551616))=n.natAbs:=by rw[IntKind.wrap_u64];omega
  repeat' first|simp(disch:=omega) only[go_sem,e1,e2]|((with_reducible refine ab ?_ ?_)<;>intro h<;>try first|omega|simp(disch:=omega) only[go_sem, *,e1,e2])
 ·have e2:IntKind.wrap .u64 n=n.natAbs:=by rw[IntKind.wrap_u64];omega
  repeat' first|simp(disch:=omega) only[go_sem,e2]|((with_reducible refine ab ?_ ?_)<;>intro h<;>try first|omega|simp(disch:=omega) only[go_sem, *,e2])
theorem pY (n:Int):ac Tryz.prog tR [I n] (Go.Abs.B (decide (-2147483647≤n∧n≤2147483647))):=by
 refine ac.of Ci (by simp) fun _=>aa ?_
 simp only[tm]
 repeat' first|simp(disch:=omega) only[go_sem]|((with_reducible refine ab ?_ ?_)<;>intro h<;>try first|omega|simp(disch:=omega) only[go_sem, *])
 all_goals(simp<;>omega)
theorem C7 {a:Fr} (ha:sS a):ac Tryz.prog ru [Yk a] (Go.Abs.B (decide (dU a))):=by
 refine ac.of Gp (by simp) fun _=>aa ?_
 obtain⟨n,d⟩:=a
 have p1:=xK ha.1
 have p2:=JV n.natAbs d.natAbs
 simp only at p1
 conv in zB=>cbv
 by_cases h1:1≤d
 ·by_cases h2:d≤2147483647
  ·have e:IntKind.wrap .u64 d=d.natAbs:=by rw[IntKind.wrap_u64];omega
   by_cases h3: -2147483647≤n∧n≤2147483647
   ·repeat' first|simp(disch:=omega) only[go_sem,e,h3]|((with_reducible refine ab ?_ ?_)<;>intro h<;>try first|omega|simp(disch:=omega) only[go_sem, *,e,h3])|(refine ah (pY _) rfl (.inl rfl) ?_)|(refine ah p1 rfl (.inl rfl) ?_)|(refine ah p2 rfl (.inl rfl) ?_)
    rw[show decide (((n.natAbs.gcd d.natAbs:Nat):Int)=1)=decide (dU (n,d)) by rw[decide_eq_decide];simp only[dU];omega]
   ·repeat' first|simp(disch:=omega) only[go_sem,e,h3]|((with_reducible refine ab ?_ ?_)<;>intro h<;>try first|omega|simp(disch:=omega) only[go_sem, *,e,h3])|(refine ah (pY _) rfl (.inl rfl) ?_)|(refine ah p1 rfl (.inl rfl) ?_)|(refine ah p2 rfl (.inl rfl) ?_)
    rw[decide_eq_false]
    simp only[dU]
    omega
  ·repeat' first|simp(disch:=omega) only[go_sem]|((with_reducible refine ab ?_ ?_)<;>intro h<;>try first|omega|simp(disch:=omega) only[go_sem, *])
   rw[decide_eq_false]
   simp only[dU]
   omega
 ·repeat' first|simp(disch:=omega) only[go_sem]|((with_reducible refine ab ?_ ?_)<;>intro h<;>try first|omega|simp(disch:=omega) only[go_sem, *])
  rw[decide_eq_false]
  simp only[dU]
  omega
set_option maxRecDepth 20000
set_option maxRecDepth 1000000
theorem Je (a b:Nat):ac Tryz.prog xA [I a,I b] (I (Nat.gcd a b)):=by
 refine ac.of Lx (by simp) fun _=>aa ?_
 obtain⟨R,hR⟩: ∃R,R=Nat.gcd a b:=⟨_,rfl⟩
 rw[←hR]
 conv in DN=>cbv
 repeat' first|simp(disch:=omega) only[go_sem]|((with_reducible refine ab ?_ ?_)<;>intro h<;>try first|omega|simp(disch:=omega) only[go_sem, *])
 refine aj (fun s:Nat×Nat=>⟨[(0,I s.1),(1,I s.2)], [],0,0⟩) (fun s=>Hid (R=Nat.gcd s.1 s.2)) (fun s=>s.2) ⟨(a,b), [],Lib.hid hR,by simp⟩ ?_
 clear hR
 rintro⟨x,y⟩ HR
 refine aa ?_
 by_cases h0:y=0
 ·have h1:=HR.out
  simp only[h0,Nat.gcd_zero_right]at h1
  subst h0
  subst h1
  repeat' first|simp(disch:=omega) only[go_sem,Int.natCast_zero]|((with_reducible refine ab ?_ ?_)<;>intro h<;>try first|omega|simp(disch:=omega) only[go_sem, *,Int.natCast_zero])
 ·have h1:(y:Int)≠0:=by omega
  repeat' first|simp(disch:=omega) only[go_sem,h1,ne_eq,yn]|((with_reducible refine ab ?_ ?_)<;>intro h<;>try first|omega|simp(disch:=omega) only[go_sem, *,h1,ne_eq,yn])
  exact⟨(y,x%y), [],Lib.hid (by rw[HR.out];simp only;rw[Nat.gcd_comm,Nat.gcd_rec,Nat.gcd_comm]),Nat.mod_lt _ (by omega),by simp⟩
end Go.Proofs.YthkaaahphlneiaaGreatDoor
