import Derived.Test.YtiapgekjmcjjgaaGreatDoorV07f
set_option maxHeartbeats 4000000
set_option linter.unusedVariables false
set_option linter.unusedSimpArgs false
set_option maxRecDepth 1000000
open Go.Proofs.Tryz renaming prog→Ya
namespace Go.Proofs.YtiapgekjmcjjgaaGreatDoor
open Go.Abs Go.RowKit
noncomputable section
theorem xu (n:ByteArray):ac Ya 81 [S n] (da 0 (if fW n then [(n,1)]else [])):=by
 refine ac.of Jl (by simp) λ_=>aa ?_
 conv in bh _ _=>cbv
 have p:=iv n
 by_cases h:fW n
 ·rw[decide_eq_true h]at p
  rw[if_pos h]
  repeat' first|simp(disch:=omega)only[go_sem, *]|apply ab<;>intro h<;>try omega|refine aq p rfl rfl ?_
  rfl
 ·rw[decide_eq_false h]at p
  rw[if_neg h]
  repeat' first|simp(disch:=omega)only[go_sem, *]|apply ab<;>intro h<;>try omega|refine aq p rfl rfl ?_
  rfl
theorem dt (c:aU) (n:ByteArray):ac Ya 128 [iS c,S n] (I (cf c.1.2 n)):=by
 refine ac.of sw (by simp) λ_=>aa ?_
 obtain⟨⟨k,l⟩,q⟩:=c
 conv in bh _ _=>cbv
 have p:=BX k l n
 repeat' first|simp(disch:=omega)only[go_sem, *]|apply ab<;>intro h<;>try omega|refine aq p rfl rfl ?_
theorem eI {n:Int} (hn:am n):ac Ya 170 [I n] (U n.natAbs):=by
 refine ac.of vn (by simp) λ_=>aa ?_
 obtain⟨h1,h2⟩:=hn
 conv in bh _ _=>cbv
 by_cases h0:n<0
 ·have e1:IntKind.wrap .u64 n=n+18446744073709551616:=by rw[IntKind.wrap_u64];omega
  have e2:IntKind.wrap .u64 (0-(n+18446744073709551616))=n.natAbs:=by rw[IntKind.wrap_u64];omega
  repeat' first|simp(disch:=omega)only[go_sem, *,e1,e2]|apply ab<;>intro h<;>try omega
 ·have e2:IntKind.wrap .u64 n=n.natAbs:=by rw[IntKind.wrap_u64];omega
  repeat' first|simp(disch:=omega)only[go_sem, *,e2]|apply ab<;>intro h<;>try omega
theorem lF {n:Int} (hn:am n):ac Ya 186 [I n] (U n.natAbs):=by
 refine ac.of CJ (by simp) λ_=>aa ?_
 obtain⟨h1,h2⟩:=hn
 conv in bh _ _=>cbv
 by_cases h0:n<0
 ·have e0:IntKind.wrap .i64 (n+1)=n+1:=wrap_i64 (by omega)
  have e1:IntKind.wrap .i64 (0-(n+1))= -(n+1):=by rw[wrap_i64 (by omega)];omega
  have e2:IntKind.wrap .u64 (-(n+1))= -(n+1):=wrap_u64 (by omega)
  have e3:IntKind.wrap .u64 (-(n+1)+1)=n.natAbs:=by rw[wrap_u64 (by omega)];omega
  repeat' first|simp(disch:=omega)only[go_sem, *,e0,e1,e2,e3]|apply ab<;>intro h<;>try omega
 ·have e2:IntKind.wrap .u64 n=n.natAbs:=by rw[IntKind.wrap_u64];omega
  repeat' first|simp(disch:=omega)only[go_sem, *,e2]|apply ab<;>intro h<;>try omega
theorem oO (a b:Nat):ac Ya 169 [U a,U b] (U (Nat.gcd a b)):=by
 refine ac.of Hj (by simp) λ_=>aa ?_
 obtain⟨R,hR⟩: ∃R,R=Nat.gcd a b:=⟨_,rfl⟩
 rw[←hR]
 conv in bh _ _=>cbv
 repeat' first|simp(disch:=omega)only[go_sem, *]|apply ab<;>intro h<;>try omega
 refine ai (λs:Nat×Nat=>⟨[(0,U s.1),(1,U s.2)], [],0,0⟩) (λs=>Hid (R=Nat.gcd s.1 s.2)) (λs=>s.2) ⟨(a,b), [],Lib.hid hR,by simp⟩ ?_
 clear hR
 rintro⟨x,y⟩ HR
 refine aa ?_
 by_cases h0:y=0
 ·have h1:=HR.out
  simp only[h0,Nat.gcd_zero_right]at h1
  subst h0
  subst h1
  repeat' first|simp(disch:=omega)only[go_sem, *,Int.natCast_zero]|apply ab<;>intro h<;>try omega
 ·have h1:(y:Int)≠0:=by omega
  repeat' first|simp(disch:=omega)only[go_sem, *,h1,ne_eq,gZ]|apply ab<;>intro h<;>try omega
  exact⟨(y,x%y), [],Lib.hid (by rw[HR.out];simp only;rw[Nat.gcd_comm,Nat.gcd_rec,Nat.gcd_comm]),Nat.mod_lt _ (by omega),by simp⟩
theorem B8 (a b:Nat):ac Ya 185 [U a,U b] (U (Nat.gcd a b)):=by
 refine ac.of EC (by simp) λ_=>aa ?_
 obtain⟨R,hR⟩: ∃R,R=Nat.gcd a b:=⟨_,rfl⟩
 rw[←hR]
 conv in bh _ _=>cbv
 repeat' first|simp(disch:=omega)only[go_sem, *]|apply ab<;>intro h<;>try omega
 refine ai (λs:Nat×Nat=>⟨[(0,U s.1),(1,U s.2)], [],0,0⟩) (λs=>Hid (R=Nat.gcd s.1 s.2)) (λs=>s.2) ⟨(a,b), [],Lib.hid hR,by simp⟩ ?_
 clear hR
 rintro⟨x,y⟩ HR
 refine aa ?_
 by_cases h0:y=0
 ·have h1:=HR.out
  simp only[h0,Nat.gcd_zero_right]at h1
  subst h0
  subst h1
  repeat' first|simp(disch:=omega)only[go_sem, *,Int.natCast_zero]|apply ab<;>intro h<;>try omega
 ·have h1:(y:Int)≠0:=by omega
  repeat' first|simp(disch:=omega)only[go_sem, *,h1,ne_eq,gZ]|apply ab<;>intro h<;>try omega
  exact⟨(y,x%y), [],Lib.hid (by rw[HR.out];simp only;rw[Nat.gcd_comm,Nat.gcd_rec,Nat.gcd_comm]),Nat.mod_lt _ (by omega),by simp⟩
def jB (n:Nat) (s:Bool):Int×Bool:=if n>9223372036854775807 then(0,false)else(if s then-(n:Int)else n,true)
theorem ie {n:Nat} (s:Bool):ac Ya 171 [U n,Go.Abs.B s] (Ts (jB n s)):=by
 refine ac.of zf (by simp) λ_=>aa ?_
 conv in bh _ _=>cbv
 simp only[jB]
 by_cases h:n>9223372036854775807
 ·rw[if_pos h]
  repeat' first|simp(disch:=omega)only[go_sem, *]|apply ab<;>intro h<;>try omega
 ·rw[if_neg h]
  have e1:IntKind.wrap .i64 (n:Int)=n:=wrap_i64 (by omega)
  have e2:IntKind.wrap .i64 (0-(n:Int))= -(n:Int):=by rw[wrap_i64 (by omega)];omega
  cases s
  ·repeat' first|simp(disch:=omega)only[go_sem, *,e1,e2]|apply ab<;>intro h<;>try omega
  ·repeat' first|simp(disch:=omega)only[go_sem, *,e1,e2]|apply ab<;>intro h<;>try omega
def Pq (n:Nat) (s:Bool):Int×Bool:=if n=9223372036854775808∧s=true then(-9223372036854775808,true)else jB n s
theorem jF {n:Nat} (s:Bool):ac Ya 216 [U n,Go.Abs.B s] (Ts (Pq n s)):=by
 refine ac.of x7 (by simp) λ_=>aa ?_
 conv in bh _ _=>cbv
 simp only[Pq,jB]
 have e1: ¬n>9223372036854775807→IntKind.wrap .i64 (n:Int)=n:= λh=>wrap_i64 (by omega)
 have e2: ¬n>9223372036854775807→IntKind.wrap .i64 (0-(n:Int))= -(n:Int):= λh=>by rw[wrap_i64 (by omega)];omega
 by_cases h0:n=9223372036854775808
 ·subst h0
  clear e1 e2
  cases s
  ·repeat' first|simp(disch:=omega)only[go_sem, *]|apply ab<;>intro h<;>try omega
   rfl
  ·repeat' first|simp(disch:=omega)only[go_sem, *]|apply ab<;>intro h<;>try omega
 ·by_cases h:n>9223372036854775807
  ·rw[if_neg (λg=>h0 g.1),if_pos h]
   have F: ¬(n:Int)=9223372036854775808:=by omega
   clear e1 e2
   cases s
   ·repeat' first|simp(disch:=omega)only[go_sem, *,F]|apply ab<;>intro h<;>try omega
   ·repeat' first|simp(disch:=omega)only[go_sem, *,F]|apply ab<;>intro h<;>try omega
  ·rw[if_neg (λg=>h0 g.1),if_neg h]
   have F: ¬(n:Int)=9223372036854775808:=by omega
   have e1:=e1 h
   have e2:=e2 h
   cases s
   ·repeat' first|simp(disch:=omega)only[go_sem, *,F,e1,e2]|apply ab<;>intro h<;>try omega
   ·repeat' first|simp(disch:=omega)only[go_sem, *,F,e1,e2]|apply ab<;>intro h<;>try omega
theorem y0 {x:Nat} (h:x≤18446744073709551615):IntKind.wrap .u64 (x:Int)=x:=wrap_u64 (by omega)
theorem xi {p q:Int} (hp:am p) (hq:am q) (h0:p≠0):ac Ya 131 [I p,I q] (.tup [I (jB (q.natAbs/Nat.gcd p.natAbs q.natAbs) false).1,I (jB (p.natAbs/Nat.gcd p.natAbs q.natAbs) false).1,Go.Abs.B ((jB (q.natAbs/Nat.gcd p.natAbs q.natAbs) false).2&&(jB (p.natAbs/Nat.gcd p.natAbs q.natAbs) false).2)]):=by
 refine ac.of yl (by simp) λ_=>aa ?_
 conv in bh _ _=>cbv
 have p1:=eI hp
 have p2:=eI hq
 have p3:=oO p.natAbs q.natAbs
 have hd:Nat.gcd p.natAbs q.natAbs≠0:= λh=>h0 (Int.natAbs_eq_zero.1 (Nat.eq_zero_of_gcd_eq_zero_left h))
 have hP:p.natAbs≤9223372036854775808:=by unfold am at hp;omega
 have hQ:q.natAbs≤9223372036854775808:=by unfold am at hq;omega
 generalize Nat.gcd p.natAbs q.natAbs=d at*
 generalize p.natAbs=P at*
 generalize q.natAbs=Q at*
 have l1:Q/d≤Q:=Nat.div_le_self _ _
 have l2:P/d≤P:=Nat.div_le_self _ _
 have p4:=ie (n:=Q/d) false
 have p5:=ie (n:=P/d) false
 have w1:IntKind.wrap .u64 ((Q/d:Nat):Int)=(Q/d:Nat):=y0 (by omega)
 have w2:IntKind.wrap .u64 ((P/d:Nat):Int)=(P/d:Nat):=y0 (by omega)
 have hJ: ¬(d:Int)=0:=by omega
 generalize jB (Q/d) false=s1 at*
 generalize jB (P/d) false=s2 at*
 obtain⟨s1,o1⟩:=s1
 obtain⟨s2,o2⟩:=s2
 cases o1
 all_goals
  repeat' first|simp(disch:=omega)only[go_sem, *,hJ,ne_eq,I1,w1,w2]|apply ab<;>intro h<;>try omega|refine aq p1 rfl rfl ?_|refine aq p2 rfl rfl ?_|refine aq p3 rfl rfl ?_|refine aq p4 rfl rfl ?_|refine aq p5 rfl rfl ?_
  rfl
theorem DS {l:List aR} (h: ∀m∈l,am m.2) (n:ByteArray):am (cf l n):=by
 by_cases h0:cf l n=0
 ·rw[h0];exact bL
 ·obtain⟨m,h1,_,h2⟩:=Sj h0
  rw[←h2];exact h m h1
set_option maxRecDepth 20000
set_option maxRecDepth 1000000
abbrev aT (x:aU×Int×Int):AV:= .tup [iS x.1,I x.2.1,I x.2.2]
theorem qD (b:Bool):ac Ya 163 [Go.Abs.B b] (aT (if b=true then(mM,1,0)else(Kx,2,0))):=by
 refine ac.of sA (by simp) λ_=>aa ?_
 conv in bh _ _=>cbv
 cases b
 ·repeat' first|simp(disch:=omega)only[go_sem, *]|apply ab<;>intro h<;>try omega
  rfl
 ·repeat' first|simp(disch:=omega)only[go_sem, *]|apply ab<;>intro h<;>try omega
  rfl
theorem nk {n:Int} {g:Nat} (hn:am n) (hg:0<g):ac Ya 165 [I n,U g] (Go.Abs.B (decide (n.natAbs%g=0))):=by
 refine ac.of oR (by simp) λ_=>aa ?_
 obtain⟨h1,h2⟩:=hn
 conv in bh _ _=>cbv
 have v: ¬(g:Int)=0:=by omega
 have hd:(decide (((n.natAbs%g:Nat):Int)=0))=decide (n.natAbs%g=0):=by
  by_cases h:n.natAbs%g=0
  ·rw[h];rfl
  ·rw[decide_eq_false h,decide_eq_false (by omega)]
 rw[←hd]
 by_cases h0:n<0
 ·have e1:IntKind.wrap .u64 n=n+18446744073709551616:=by rw[IntKind.wrap_u64];omega
  have e2:IntKind.wrap .u64 (0-(n+18446744073709551616))=n.natAbs:=by rw[IntKind.wrap_u64];omega
  clear hd
  generalize n.natAbs=N at*
  repeat' first|simp(disch:=omega)only[go_sem, *,e1,e2,v,ne_eq,gZ]|apply ab<;>intro h<;>try omega
 ·have e2:IntKind.wrap .u64 n=n.natAbs:=by rw[IntKind.wrap_u64];omega
  clear hd
  generalize n.natAbs=N at*
  repeat' first|simp(disch:=omega)only[go_sem, *,e2,v,ne_eq,gZ]|apply ab<;>intro h<;>try omega
theorem t7 {l:List aR} (u: ∀m∈l,am m.2):ac Ya 164 [.c (.pure (ay l))] (U (fi l)):=by
 refine ac.of u6 (by simp) λhD=>aa ?_
 have H:l.length≤9223372036854775807:=by simpa[qq,gw,gT]using hD
 clear hD
 conv in bh _ _=>cbv
 obtain⟨R,hR⟩: ∃R,R=sL 0 (l.drop 0):=⟨_,rfl⟩
 have J:fi l=R:=hR.symm
 rw[J]
 have HR:=Lib.hid hR
 clear hR J
 repeat' first|simp(disch:=omega)only[go_sem, *]|apply ab<;>intro h<;>try omega
 refine ai (λs:Nat×Nat=>⟨[(3,U s.2),(7,.c (.pure (ay l))),(8,I l.length),(9,I s.1)], [],0,0⟩) (λs=>s.1≤l.length∧Hid (R=sL s.2 (l.drop s.1))) (λs=>l.length-s.1) ⟨(0,0), [],⟨Nat.zero_le _,HR⟩,by simp⟩ ?_
 clear HR
 rintro⟨k,g⟩ ⟨hk,HR⟩
 refine aa ?_
 simp only at hk HR
 by_cases o:k<l.length
 ·have g1:=ah (f:=mP) o
  have hm:=u _ (List.getElem_mem o)
  have h2:=HR.out
  rw[List.drop_eq_getElem_cons o]at h2
  have h3:R=sL (Nat.gcd g l[k].2.natAbs) (l.drop (k+1)):=h2
  have HR2:=Lib.hid h3
  clear HR h2 h3
  generalize l[k]=m at*
  obtain⟨n,x⟩:=m
  simp only[mP]at g1
  simp only at hm HR2
  obtain⟨h1,h2⟩:=hm
  obtain⟨G,hG⟩: ∃G,G=Nat.gcd g x.natAbs:=⟨_,rfl⟩
  rw[←hG]at HR2
  have HG:=Lib.hid hG
  clear hG
  have wr:IntKind.wrap .i64 ((k:Int)+1)=(k:Int)+1:=wrap_i64 (by omega)
  by_cases z:x<0
  all_goals
   first
    |have e1:IntKind.wrap .u64 x=x+18446744073709551616:=by rw[IntKind.wrap_u64];omega
     have e2:IntKind.wrap .u64 (0-(x+18446744073709551616))=x.natAbs:=by rw[IntKind.wrap_u64];omega
    |have e1:IntKind.wrap .u64 x=x.natAbs:=by rw[IntKind.wrap_u64];omega
   generalize x.natAbs=X at*
   repeat' first|simp(disch:=omega)only[go_sem, *,g1,e1]|apply ab<;>intro h<;>try omega
   refine ai (λs:Nat×Nat=>⟨[(3,U s.1),(6,U s.2),(7,.c (.pure (ay l))),(8,I l.length),(9,I k)], [],0,0⟩) (λs=>Hid (G=Nat.gcd s.1 s.2)) (λs=>s.2) ⟨(g,X), [],HG,by simp⟩ ?_
   clear HG
   rintro⟨a,b⟩ HG
   refine aa ?_
   by_cases h0:b=0
   ·have h1:=HG.out
    simp only[h0,Nat.gcd_zero_right]at h1
    subst h0
    subst h1
    repeat' first|simp(disch:=omega)only[go_sem, *,Int.natCast_zero]|apply ab<;>intro h<;>try omega
    exact⟨(k+1,_), [],⟨o,HR2⟩,by show _-_<_-_;omega,by simp[wr]⟩
   ·have h1:(b:Int)≠0:=by omega
    repeat' first|simp(disch:=omega)only[go_sem, *,h1,ne_eq,gZ]|apply ab<;>intro h<;>try omega
    exact⟨(b,a%b), [],Lib.hid (by rw[HG.out];simp only;rw[Nat.gcd_comm,Nat.gcd_rec,Nat.gcd_comm]),Nat.mod_lt _ (by omega),by simp⟩
 ·have h2:=HR.out
  rw[List.drop_eq_nil_of_le (by omega)]at h2
  have h3:R=g:=h2
  clear h2 HR
  subst h3
  repeat' first|simp(disch:=omega)only[go_sem, *]|apply ab<;>intro h<;>try omega
theorem LM {x:Int} {g:Nat} (hx:am x):am (x.tdiv g)∨x.tdiv g=9223372036854775808:=by
 have h:(x.tdiv g).natAbs≤x.natAbs:=by rw[Int.natAbs_tdiv];exact Nat.div_le_self _ _
 unfold am at*
 omega
theorem qA {x:Int} {g:Nat} (hx:am x) (hg:0<g) (w:g≤9223372036854775808):am (x.tdiv g)∧(x.tmod g<0→am (x.tdiv g-1))∧am (x.tdiv g*g)∧(x.tmod g<0↔x<x.tdiv g*g):=by
 have h1:=Int.tmod_def x g
 have e:=rY (x:=x) hg
 have h3:=w8 hx hg
 have h2:(x.tmod g).natAbs<g:=by rw[Int.natAbs_tmod];exact Nat.mod_lt _ (by simpa using hg)
 have h5:(x.tdiv g*g).natAbs≤x.natAbs:=by
  rw[Int.natAbs_mul,Int.natAbs_tdiv]
  exact Nat.div_mul_le_self _ _
 have h6:=Int.mul_comm (g:Int) (x.tdiv g)
 have h4:=LM (g:=g) hx
 rw[h6]at h1
 have z:x.tdiv g=9223372036854775808→False:= λh=>by
  rw[e,h]at h3
  unfold am at h3 hx
  rw[h]at h1 h5
  have:9223372036854775808*1≤9223372036854775808*(g:Int):=Int.mul_le_mul_of_nonneg_left (by omega) (by omega)
  split at h3<;>omega
 refine⟨h4.resolve_right z,λh=> ?_, ?_,by omega⟩
 ·rw[e,if_pos h]at h3;exact h3
 ·unfold am at*
  by_cases hm:x= -9223372036854775808
  ·omega
  ·omega
theorem nA {x:Int} {g:Nat} (hx:am x) (hg:0<g) (w:g≤9223372036854775808):ac Ya 204 [I x,I g] (I (x/(g:Int))):=by
 refine ac.of om (by simp) λ_=>aa ?_
 conv in bh _ _=>cbv
 obtain⟨f1,f2,f3,f4⟩:=qA hx hg w
 rw[rY hg]
 have v: ¬(g:Int)=0:=by omega
 unfold am at f1 f2
 have w1:IntKind.wrap .i64 (x.tdiv g)=x.tdiv g:=wrap_i64 f1
 clear f3 f4
 by_cases h:x.tmod g<0
 ·have w2:IntKind.wrap .i64 (x.tdiv g-1)=x.tdiv g-1:=wrap_i64 (f2 h)
  clear f2 f1
  repeat' first|simp(disch:=omega)only[go_sem, *,v,ne_eq,w1,w2]|apply ab<;>intro h<;>try omega
 ·clear f2 f1
  repeat' first|simp(disch:=omega)only[go_sem, *,v,ne_eq,w1]|apply ab<;>intro h<;>try omega
theorem xQ {x:Int} {g:Nat} (hx:am x) (hg:0<g) (w:g≤9223372036854775808):ac Ya 217 [I x,I g] (I (x/(g:Int))):=by
 refine ac.of zJ (by simp) λ_=>aa ?_
 conv in bh _ _=>cbv
 obtain⟨f1,f2,f3,f4⟩:=qA hx hg w
 rw[rY hg]
 have v: ¬(g:Int)=0:=by omega
 unfold am at f1 f2 f3
 have w1:IntKind.wrap .i64 (x.tdiv g)=x.tdiv g:=wrap_i64 f1
 have w3:IntKind.wrap .i64 (x.tdiv g*g)=x.tdiv g*g:=wrap_i64 f3
 clear f3
 by_cases h:x.tmod g<0
 ·have w2:IntKind.wrap .i64 (x.tdiv g-1)=x.tdiv g-1:=wrap_i64 (f2 h)
  rw[if_pos h]
  have h':=f4.1 h
  clear f2 f1 f4 h
  repeat' first|simp(disch:=omega)only[go_sem, *,v,ne_eq,w1,w2,w3]|apply ab<;>intro h<;>try omega
 ·rw[if_neg h]
  have h':= λg=>h (f4.2 g)
  clear f2 f1 f4 h
  repeat' first|simp(disch:=omega)only[go_sem, *,v,ne_eq,w1,w3]|apply ab<;>intro h<;>try omega
  all_goals exact(h' (by assumption)).elim
def mo (x:Int) (g:Nat) (s:Bool):Int×Bool:=if s then dg (-(x/(g:Int)))else(x/(g:Int),true)
theorem K5 {x:Int} (hx:am x):x/9223372036854775808=if x<0 then-1 else 0:=by
 unfold am at hx
 split<;>omega
theorem gf {x:Int} {g:Nat} (s:Bool) (hx:am x) (hg:0<g) (w:g≤9223372036854775808):ac Ya 187 [I x,U g,Go.Abs.B s] (Ts (mo x g s)):=by
 refine ac.of w6 (by simp) λ_=>aa ?_
 conv in bh _ _=>cbv
 simp only[mo]
 by_cases hb:g=9223372036854775808
 ·subst hb
  rw[show((9223372036854775808:Nat):Int)=9223372036854775808 from rfl,K5 hx]
  have p1:=jF (n:=1) false
  have p2:=jF (n:=1) true
  by_cases h:x<0
  ·rw[if_pos h]
   cases s
   ·repeat' first|simp(disch:=omega)only[go_sem, *]|apply ab<;>intro h<;>try omega|refine aq p2 rfl rfl ?_
    all_goals rfl
   ·repeat' first|simp(disch:=omega)only[go_sem, *]|apply ab<;>intro h<;>try omega|refine aq p1 rfl rfl ?_
    all_goals rfl
  ·rw[if_neg h]
   cases s
   ·repeat' first|simp(disch:=omega)only[go_sem, *]|apply ab<;>intro h<;>try omega
    all_goals rfl
   ·repeat' first|simp(disch:=omega)only[go_sem, *]|apply ab<;>intro h<;>try omega
    all_goals rfl
 ·have O: ¬(g:Int)=9223372036854775808:=by omega
  have w1:IntKind.wrap .i64 (g:Int)=g:=wrap_i64 (by omega)
  have p1:=xQ hx hg w
  have hq:=w8 hx hg
  generalize x/(g:Int)=q at*
  cases s
  ·repeat' first|simp(disch:=omega)only[go_sem, *,O,w1]|apply ab<;>intro h<;>try omega|refine aq p1 rfl rfl ?_
   all_goals rfl
  ·have p2:=lF hq
   have p3:=jF (n:=q.natAbs) (decide (q>0))
   have e:Pq q.natAbs (decide (q>0))=dg (-q):=by
    unfold am at hq
    by_cases h:q>0
    ·rw[decide_eq_true h,Pq,if_neg (by omega),jB,if_neg (by omega),if_pos rfl,el (by unfold am;omega)]
     exact Prod.ext (by simp only;omega) rfl
    ·rw[decide_eq_false h,Pq,if_neg (λh=>by cases h.2),jB]
     by_cases h2:q= -9223372036854775808
     ·subst h2;rfl
     ·rw[if_neg (by omega),el (by unfold am;omega)]
      exact Prod.ext (by simp;omega) rfl
   rw[e]at p3
   rw[if_pos rfl]
   generalize dg (-q)=R at*
   generalize q.natAbs=N at*
   repeat' first|simp(disch:=omega)only[go_sem, *,O,w1]|apply ab<;>intro h<;>try omega|refine aq p1 rfl rfl ?_|refine aq p2 rfl rfl ?_|refine aq p3 rfl rfl ?_
   all_goals rfl
theorem wa {l:List aR} {g k:Nat} (h:k<l.length):(eU g (l.take (k+1))).map mP=(eU g (l.take k)).map mP++ [[pS l[k].1,pI (l[k].2/(g:Int))]]:=by
 rw[List.take_succ_eq_append_getElem h]
 show((l.take k++ [l[k]]).map _).map mP=_
 rw[List.map_append,List.map_append]
 rfl
theorem oC {k:Int} {l:List aR} {g:Nat} (hk:am k) (u: ∀m∈l,am m.2) (h0: ∀m∈l,m.2≠0∧(g:Int)∣m.2) (hg:0<g) (w:g≤9223372036854775808) (hl:l.length≤1000000000):
  ac Ya 166 [da k l,U g] (da (k/(g:Int)) (eU g l)):=by
 refine ac.of pC (by simp) λ_=>aa ?_
 conv in bh _ _=>cbv
 by_cases hb:g=9223372036854775808
 ·have V:(g:Int)=9223372036854775808:=by omega
  have hE:k/(g:Int)=if k<0 then-1 else 0:=by rw[V];exact K5 hk
  have W: ∀i (h:i<l.length),l[i].2/(g:Int)= -1:= λi h=>by
   have h1:=u _ (List.getElem_mem h)
   obtain⟨h2,h3⟩:=h0 _ (List.getElem_mem h)
   rw[V]at h3 ⊢
   obtain⟨q,hq⟩:=h3
   unfold am at h1
   omega
  rw[hE]
  by_cases z:k<0
  all_goals
   first
    |rw[if_pos z]
    |rw[if_neg z]
   clear hE
   repeat' first|simp(disch:=omega)only[go_sem,V]|((with_reducible refine ab ?_ ?_)<;>intro h<;>try first|omega|simp(disch:=omega)only[go_sem, *,V])
   refine ci 2 1 85 2 _ rfl rfl (by decide) ?_
  ·refine ai (λj:Nat=>⟨[(2,.c (.ptr 0 0)),(4,.c (.ptr 1 0)),(5,.c (.ptr 2 0)),(19,.c (.pure (ay l))),(20,I l.length),(21,I j)],
    [(0,.var [.pure (pI k),.pure (ay l)]),(1,.var [.pure (pI 0),.nils]),(2,.var [.pure (pI (-1)),.ref 3]),(3,.arr 85 2 ((eU g (l.take j)).map mP))],4,0⟩) (λj=>j≤l.length) (λj=>l.length-j) ⟨0, [],Nat.zero_le _,by simp[eU]⟩ ?_
   intro j hj
   refine aa ?_
   by_cases o:j<l.length
   ·have e1:=wa (g:=g) o
    have g1:=ah (f:=mP) o
    have H:(eU g (l.take j)).length≤1000000000:=by simp[eU];omega
    have hm:=W j o
    rw[hm]at e1
    clear hm
    generalize l[j]=m at*
    obtain⟨n,x⟩:=m
    simp only[mP]at g1 e1
    clear W
    generalize eU g (l.take j)=D0 at*
    repeat' first|simp(disch:=omega)only[go_sem,g1,wrap_i64]|((with_reducible refine ab ?_ ?_)<;>intro h<;>try first|omega|simp(disch:=omega)only[go_sem, *,g1,wrap_i64])|refine aA rfl (by intro h;cases h) (an rfl) (by simp;omega) (by simp;omega) ?_
    exact⟨j+1, [(3,5)],o,by omega,by simp[e1]⟩
   ·obtain rfl:j=l.length:=by omega
    rw[List.take_of_length_le (Nat.le_refl _)]
    repeat' first|simp(disch:=omega)only[go_sem]|((with_reducible refine ab ?_ ?_)<;>intro h<;>try first|omega|simp(disch:=omega)only[go_sem, *])
  ·refine ai (λj:Nat=>⟨[(2,.c (.ptr 0 0)),(4,.c (.ptr 1 0)),(5,.c (.ptr 2 0)),(19,.c (.pure (ay l))),(20,I l.length),(21,I j)],
    [(0,.var [.pure (pI k),.pure (ay l)]),(1,.var [.pure (pI 0),.nils]),(2,.var [.pure (pI (0)),.ref 3]),(3,.arr 85 2 ((eU g (l.take j)).map mP))],4,0⟩) (λj=>j≤l.length) (λj=>l.length-j) ⟨0, [],Nat.zero_le _,by simp[eU]⟩ ?_
   intro j hj
   refine aa ?_
   by_cases o:j<l.length
   ·have e1:=wa (g:=g) o
    have g1:=ah (f:=mP) o
    have H:(eU g (l.take j)).length≤1000000000:=by simp[eU];omega
    have hm:=W j o
    rw[hm]at e1
    clear hm
    generalize l[j]=m at*
    obtain⟨n,x⟩:=m
    simp only[mP]at g1 e1
    clear W
    generalize eU g (l.take j)=D0 at*
    repeat' first|simp(disch:=omega)only[go_sem,g1,wrap_i64]|((with_reducible refine ab ?_ ?_)<;>intro h<;>try first|omega|simp(disch:=omega)only[go_sem, *,g1,wrap_i64])|refine aA rfl (by intro h;cases h) (an rfl) (by simp;omega) (by simp;omega) ?_
    exact⟨j+1, [(3,5)],o,by omega,by simp[e1]⟩
   ·obtain rfl:j=l.length:=by omega
    rw[List.take_of_length_le (Nat.le_refl _)]
    repeat' first|simp(disch:=omega)only[go_sem]|((with_reducible refine ab ?_ ?_)<;>intro h<;>try first|omega|simp(disch:=omega)only[go_sem, *])
 ·have O: ¬(g:Int)=9223372036854775808:=by omega
  have w1:IntKind.wrap .i64 (g:Int)=g:=wrap_i64 (by omega)
  have v: ¬(g:Int)=0:=by omega
  have p1:=nA hk hg w
  obtain⟨Q,hQ⟩: ∃Q,Q=k/(g:Int):=⟨_,rfl⟩
  rw[←hQ]at p1 ⊢
  clear hQ
  repeat' first|simp(disch:=omega)only[go_sem,O,w1]|((with_reducible refine ab ?_ ?_)<;>intro h<;>try first|omega|simp(disch:=omega)only[go_sem, *,O,w1])|refine aq p1 rfl rfl ?_
  refine ci 2 1 85 2 _ rfl rfl (by decide) ?_
  refine ai (λj:Nat=>⟨[(1,U g),(2,.c (.ptr 0 0)),(4,.c (.ptr 1 0)),(5,.c (.ptr 2 0)),(42,.c (.pure (ay l))),(43,I l.length),(44,I j)],
   [(0,.var [.pure (pI k),.pure (ay l)]),(1,.var [.pure (pI 0),.nils]),(2,.var [.pure (pI (Q)),.ref 3]),(3,.arr 85 2 ((eU g (l.take j)).map mP))],4,0⟩) (λj=>j≤l.length) (λj=>l.length-j) ⟨0, [],Nat.zero_le _,by simp[eU]⟩ ?_
  intro j hj
  refine aa ?_
  by_cases o:j<l.length
  ·have e1:=wa (g:=g) o
   have g1:=ah (f:=mP) o
   have H:(eU g (l.take j)).length≤1000000000:=by simp[eU];omega
   have hB:am (l[j].2.tdiv (g:Int)):=(qA (u _ (List.getElem_mem o)) hg w).1
   have hF:l[j].2/(g:Int)=l[j].2.tdiv (g:Int):=by
    rw[rY hg,if_neg]
    rw[Int.tmod_eq_zero_of_dvd (h0 _ (List.getElem_mem o)).2];omega
   rw[hF]at e1
   have wm:=wrap_i64 (by unfold am at hB;exact hB)
   clear hB hF
   generalize l[j]=m at*
   obtain⟨n,x⟩:=m
   simp only[mP]at g1 e1
   skip
   generalize eU g (l.take j)=D0 at*
   repeat' first|simp(disch:=omega)only[go_sem,g1,wrap_i64,w1,v,ne_eq,wm]|((with_reducible refine ab ?_ ?_)<;>intro h<;>try first|omega|simp(disch:=omega)only[go_sem, *,g1,wrap_i64,w1,v,ne_eq,wm])|refine aA rfl (by intro h;cases h) (an rfl) (by simp;omega) (by simp;omega) ?_
   exact⟨j+1, [(3,5)],o,by omega,by simp[e1]⟩
  ·obtain rfl:j=l.length:=by omega
   rw[List.take_of_length_le (Nat.le_refl _)]
   repeat' first|simp(disch:=omega)only[go_sem]|((with_reducible refine ab ?_ ?_)<;>intro h<;>try first|omega|simp(disch:=omega)only[go_sem, *])
set_option maxRecDepth 20000
set_option maxRecDepth 1000000
theorem oD {c:aU} (u:br c) (hs:c.1.2.length≤1000000000):ac Ya 126 [iS c] (aT (cG c)):=by
 refine ac.of pV (by simp) λ_=>aa ?_
 have pv:=b6 c
 have pt:=qD
 obtain⟨⟨k,l⟩,q⟩:=c
 obtain⟨hk,u⟩:=u
 simp only at hk u hs
 conv in bh _ _=>cbv
 unfold cG
 simp only at pv ⊢
 by_cases A:aI l
 ·rw[if_pos A]at pv
  rw[if_neg (not_not_intro A)]
  cases l with
  |nil=>
   rw[if_pos rfl]
   have pT:=pt true
   have pF:=pt false
   rw[if_pos rfl]at pT
   rw[if_neg (by decide)]at pF
   clear pt
   replace pT:ac Ya 163 [Go.Abs.B true] (.tup [.agg [.pure (pI 0),.pure (ay []),.pure (pB false)],I 1,I 0]):=pT
   replace pF:ac Ya 163 [Go.Abs.B false] (.tup [.agg [.pure (pI (-1)),.pure (ay []),.pure (pB false)],I 2,I 0]):=pF
   cases q
   ·by_cases h0:k=0
    ·subst h0
     rw[if_pos (.inl rfl)]
     repeat' first|simp(disch:=omega)only[go_sem, *]|apply ab<;>intro h<;>try omega|refine aq pv rfl rfl ?_|refine aW pT rfl rfl ?_|refine aW pF rfl rfl ?_
     all_goals rfl
    ·by_cases h1:0<k
     ·rw[if_pos (.inr ⟨h1,rfl⟩)]
      repeat' first|simp(disch:=omega)only[go_sem, *,h0]|apply ab<;>intro h<;>try omega|refine aq pv rfl rfl ?_|refine aW pT rfl rfl ?_|refine aW pF rfl rfl ?_
      all_goals rfl
     ·rw[if_neg (by omega)]
      repeat' first|simp(disch:=omega)only[go_sem, *,h0]|apply ab<;>intro h<;>try omega|refine aq pv rfl rfl ?_|refine aW pT rfl rfl ?_|refine aW pF rfl rfl ?_
      all_goals rfl
   ·by_cases h0:k=0
    ·subst h0
     rw[if_pos (.inl rfl)]
     repeat' first|simp(disch:=omega)only[go_sem, *]|apply ab<;>intro h<;>try omega|refine aq pv rfl rfl ?_|refine aW pT rfl rfl ?_|refine aW pF rfl rfl ?_
     all_goals rfl
    ·rw[if_neg (by rintro(h|h);exact h0 h;cases h.2)]
     repeat' first|simp(disch:=omega)only[go_sem, *,h0]|apply ab<;>intro h<;>try omega|refine aq pv rfl rfl ?_|refine aW pT rfl rfl ?_|refine aW pF rfl rfl ?_
     all_goals rfl
  |cons m r=>
   rw[if_neg (by simp)]
   have pF:=pt false
   rw[if_neg (by decide)]at pF
   clear pt
   replace pF:ac Ya 163 [Go.Abs.B false] (.tup [.agg [.pure (pI (-1)),.pure (ay []),.pure (pB false)],I 2,I 0]):=pF
   have E:=(bD.1 A).2
   have hC:(m::r)≠ []:=by simp
   have hg:=Ac hC (λx hx=>(E x hx).2)
   have w:=K0 hC (λx hx=>(E x hx).2) u
   have pg:=t7 u
   have pm:=nk hk hg
   have pd:=oC (k:=k) hk u (λx hx=>⟨(E x hx).2,Dn hx⟩) hg w hs
   have Y: ∀x∈eU (fi (m::r)) (m::r),am x.2:= λx hx=>by
    obtain⟨y,hy,rfl⟩:=List.mem_map.1 hx
    exact w8 (u y hy) hg
   have Z:=w8 hk hg
   have hA:=Ly A
   have ps:=jK (a:=(k/(fi (m::r):Int),eU (fi (m::r)) (m::r))) (b:= -1) ⟨Z,Y⟩ (by unfold am;omega) (by unfold short;simp only[eU,List.length_map];exact hs)
   rw[bM,if_neg (not_not_intro hA),iT]at ps
   have C:((-1:Int)=0∨bY (k/(fi (m::r):Int),eU (fi (m::r)) (m::r)) (-1))↔(am (-(k/(fi (m::r):Int)))∧ ∀x∈eU (fi (m::r)) (m::r),am (-x.2)):=by
    simp[bY,Int.mul_neg]
   have hH:bq (k/(fi (m::r):Int),eU (fi (m::r)) (m::r)) (-1)=(-(k/(fi (m::r):Int)),(eU (fi (m::r)) (m::r)).map λx=>(x.1,-x.2)):=by
    simp[bq,Int.mul_neg]
   rw[hH]at ps
   have t:(m.2/(fi (m::r):Int)<0)↔((m::r).headD (.empty,0)).2<0:=by
    show _↔m.2<0
    have:=Int.ediv_nonneg_iff_of_pos (a:=m.2) (b:=(fi (m::r):Int)) (by omega)
    omega
   have gD:((eU (fi (m::r)) (m::r)).map mP)[0]? =some [pS m.1,pI (m.2/(fi (m::r):Int))]:=rfl
   generalize ((m::r).headD (.empty,0)).2=hd at*
   clear hH hA Y Z E
   have e0: ¬(((m::r).length:Nat):Int)=0:=by simp;omega
   generalize eU (fi (m::r)) (m::r)=D at*
   generalize m.2/(fi (m::r):Int)=x0 at*
   generalize fi (m::r)=g at*
   generalize m.1=n0 at*
   generalize hL:m::r=L at*
   clear hL A u hs hC m r
   generalize hK:k.natAbs%g=M at*
   clear hK
   generalize k/(g:Int)=K at*
   cases q
   ·rw[if_neg (by simp),if_neg (by simp)]
    clear t C
    repeat' first|simp(disch:=omega)only[go_sem, *,e0]|apply ab<;>intro h<;>try omega|refine aq pv rfl rfl ?_|refine aq pg rfl rfl ?_|refine aq pm rfl rfl ?_|refine aW pF rfl rfl ?_|refine aW pd rfl rfl ?_|refine aW ps rfl rfl ?_
    all_goals rfl
   ·by_cases hM:M=0
    ·rw[decide_eq_true hM]at pm
     rw[if_neg (by simp[hM])]
     by_cases hx:x0<0
     ·rw[if_pos ⟨rfl,t.1 hx⟩]
      by_cases hS:(-1:Int)=0∨bY (K,D) (-1)
      ·rw[if_pos hS]at ps
       rw[if_pos (C.1 hS)]
       clear C hS t
       generalize (D.map λx=>(x.1,-x.2))=D2 at*
       repeat' first|simp(disch:=omega)only[go_sem, *,e0,gD,Int.toNat_zero]|apply ab<;>intro h<;>try omega|refine aq pv rfl rfl ?_|refine aq pg rfl rfl ?_|refine aq pm rfl rfl ?_|refine aW pF rfl rfl ?_|refine aW pd rfl rfl ?_|refine aW ps rfl rfl ?_
       all_goals rfl
      ·rw[if_neg hS]at ps
       rw[if_neg (λh=>hS (C.2 h))]
       clear C hS t
       repeat' first|simp(disch:=omega)only[go_sem, *,e0,gD,Int.toNat_zero]|apply ab<;>intro h<;>try omega|refine aq pv rfl rfl ?_|refine aq pg rfl rfl ?_|refine aq pm rfl rfl ?_|refine aW pF rfl rfl ?_|refine aW pd rfl rfl ?_|refine aW ps rfl rfl ?_
       all_goals rfl
     ·rw[if_neg (λh=>hx (t.2 h.2))]
      clear C ps t
      repeat' first|simp(disch:=omega)only[go_sem, *,e0,gD,Int.toNat_zero]|apply ab<;>intro h<;>try omega|refine aq pv rfl rfl ?_|refine aq pg rfl rfl ?_|refine aq pm rfl rfl ?_|refine aW pF rfl rfl ?_|refine aW pd rfl rfl ?_
      all_goals rfl
    ·rw[decide_eq_false hM]at pm
     rw[if_pos ⟨rfl,hM⟩]
     clear C ps t
     repeat' first|simp(disch:=omega)only[go_sem, *,e0]|apply ab<;>intro h<;>try omega|refine aq pv rfl rfl ?_|refine aq pg rfl rfl ?_|refine aq pm rfl rfl ?_|refine aW pF rfl rfl ?_|refine aW pd rfl rfl ?_
     all_goals rfl
 ·rw[if_neg A]at pv
  rw[if_pos A]
  clear pt
  repeat' first|simp(disch:=omega)only[go_sem, *]|apply ab<;>intro h<;>try omega|refine aq pv rfl rfl ?_
  all_goals rfl
def dM (c:aU):Prop:=c.1.2= []∧(c.1.1<0∨(c.2=true∧c.1.1≠0))
instance (c:aU):Decidable (dM c):=Classical.propDecidable _
theorem fH (c:aU):ac Ya 86 [iS c] (Go.Abs.B (decide (dM c))):=by
 refine ac.of pM (by simp) λ_=>aa ?_
 obtain⟨⟨k,l⟩,q⟩:=c
 conv in bh _ _=>cbv
 cases l with
 |nil=>
  have e:decide (dM ((k, []),q))=(decide (k<0)||(q&&decide (k≠0))):=by
   rw[Bool.eq_iff_iff]
   simp[dM]
  rw[e]
  by_cases h:k<0
  ·cases q
   ·repeat' first|simp(disch:=omega)only[go_sem, *]|apply ab<;>intro h<;>try omega
    all_goals simp[h]
   ·repeat' first|simp(disch:=omega)only[go_sem, *]|apply ab<;>intro h<;>try omega
    all_goals simp[h]
  ·by_cases h0:k=0
   ·subst h0
    cases q
    ·repeat' first|simp(disch:=omega)only[go_sem, *]|apply ab<;>intro h<;>try omega
     all_goals simp
    ·repeat' first|simp(disch:=omega)only[go_sem, *]|apply ab<;>intro h<;>try omega
     all_goals simp
   ·cases q
    ·repeat' first|simp(disch:=omega)only[go_sem, *,h0]|apply ab<;>intro h<;>try omega
     all_goals simp[h,h0]
    ·repeat' first|simp(disch:=omega)only[go_sem, *,h0]|apply ab<;>intro h<;>try omega
     all_goals simp[h,h0]
 |cons m r=>
  have e:decide (dM ((k,m::r),q))=false:=decide_eq_false λh=>by cases h.1
  rw[e]
  have e0: ¬(((m::r).length:Nat):Int)=0:=by simp;omega
  generalize m::r=L at*
  repeat' first|simp(disch:=omega)only[go_sem, *,e0]|apply ab<;>intro h<;>try omega
theorem nS (c:aU):ac Ya 103 [iS c] (Go.Abs.B (decide (dM c))):=by
 refine ac.of nX (by simp) λ_=>aa ?_
 obtain⟨⟨k,l⟩,q⟩:=c
 conv in bh _ _=>cbv
 cases l with
 |nil=>
  have e:decide (dM ((k, []),q))=(decide (k<0)||(q&&decide (k≠0))):=by
   rw[Bool.eq_iff_iff]
   simp[dM]
  rw[e]
  by_cases h:k<0
  ·cases q
   ·repeat' first|simp(disch:=omega)only[go_sem, *]|apply ab<;>intro h<;>try omega
    all_goals simp[h]
   ·repeat' first|simp(disch:=omega)only[go_sem, *]|apply ab<;>intro h<;>try omega
    all_goals simp[h]
  ·by_cases h0:k=0
   ·subst h0
    cases q
    ·repeat' first|simp(disch:=omega)only[go_sem, *]|apply ab<;>intro h<;>try omega
     all_goals simp
    ·repeat' first|simp(disch:=omega)only[go_sem, *]|apply ab<;>intro h<;>try omega
     all_goals simp
   ·cases q
    ·repeat' first|simp(disch:=omega)only[go_sem, *,h0]|apply ab<;>intro h<;>try omega
     all_goals simp[h,h0]
    ·repeat' first|simp(disch:=omega)only[go_sem, *,h0]|apply ab<;>intro h<;>try omega
     all_goals simp[h,h0]
 |cons m r=>
  have e:decide (dM ((k,m::r),q))=false:=decide_eq_false λh=>by cases h.1
  rw[e]
  have e0: ¬(((m::r).length:Nat):Int)=0:=by simp;omega
  generalize m::r=L at*
  repeat' first|simp(disch:=omega)only[go_sem, *,e0]|apply ab<;>intro h<;>try omega
def fD (acc:List aU):List aU→List aU×Int
 | []=>(acc,0)
 |c::r=>if(cG c).2.2≠0 then([],(cG c).2.2)else fD (acc++ [(cG c).1]) r
def be (l:List aU):List aU×Int:=if 256<l.length then([],2)else fD [] l
abbrev AN (x:List aU×Int):AV:= .tup [bB x.1,I x.2]
theorem nz {l:List aU} (u: ∀c∈l,br c) (hs: ∀c∈l,c.1.2.length≤1000000000):ac Ya 74 [bB l] (AN (be l)):=by
 refine ac.of yp (by simp) λ_=>aa ?_
 conv in bh _ _=>cbv
 unfold be
 by_cases hl:256<l.length
 ·rw[if_pos hl]
  repeat' first|simp(disch:=omega)only[go_sem, *]|apply ab<;>intro h<;>try omega
  all_goals rfl
 ·rw[if_neg hl]
  obtain⟨R,hR⟩: ∃R,R=fD [] (l.drop 0):=⟨_,rfl⟩
  have J:fD [] l=R:=hR.symm
  rw[J]
  have HR:=Lib.hid hR
  clear hR J
  repeat' first|simp(disch:=omega)only[go_sem, *]|apply ab<;>intro h<;>try omega
  refine dv 4 64 3 rfl (by decide) ?_
  refine ai (λs:Nat×List aU=>⟨[(4,.c (.ref 0)),(13,bB l),(14,I l.length),(15,I s.1)], [(0,.arr 64 3 (s.2.map cP))],1,0⟩) (λs=>s.1≤l.length∧s.2.length≤s.1∧Hid (R=fD s.2 (l.drop s.1))) (λs=>l.length-s.1) ⟨(0, []), [],⟨Nat.zero_le _,Nat.le_refl _,HR⟩,by simp⟩ ?_
  clear HR
  rintro⟨j,acc⟩ ⟨hj,hI,HR⟩
  refine aa ?_
  simp only at hj hI HR
  by_cases o:j<l.length
  ·have g1:=ah (f:=cP) o
   have pT:=oD (u _ (List.getElem_mem o)) (hs _ (List.getElem_mem o))
   have h2:=HR.out
   rw[List.drop_eq_getElem_cons o,fD]at h2
   clear HR
   generalize cG l[j]=T at*
   generalize l[j]=c at*
   obtain⟨⟨ck,cl⟩,q⟩:=c
   obtain⟨⟨⟨tk,tl⟩,tq⟩,tt,te⟩:=T
   simp only[cP]at g1
   simp only at h2
   by_cases he:te=0
   ·subst he
    rw[if_neg (by simp)]at h2
    have HR:=Lib.hid h2
    clear h2
    repeat' first|simp(disch:=omega)only[go_sem, *,g1,wrap_i64]|apply ab<;>intro h<;>try omega|refine aW pT rfl rfl ?_|refine aA rfl (by intro h;cases h) (an rfl) (by simp;omega) (by simp;omega) ?_
    exact⟨(j+1,acc++ [((tk,tl),tq)]), [(0,3)],⟨o,by simp;omega,HR⟩,by show _-_<_-_;omega,by simp[cP]⟩
   ·rw[if_pos he]at h2
    subst h2
    repeat' first|simp(disch:=omega)only[go_sem, *,g1,he,wrap_i64]|apply ab<;>intro h<;>try omega|refine aW pT rfl rfl ?_
    all_goals rfl
  ·have h2:=HR.out
   rw[List.drop_eq_nil_of_le (by omega),fD]at h2
   clear HR
   subst h2
   repeat' first|simp(disch:=omega)only[go_sem, *]|apply ab<;>intro h<;>try omega
   all_goals rfl
end
