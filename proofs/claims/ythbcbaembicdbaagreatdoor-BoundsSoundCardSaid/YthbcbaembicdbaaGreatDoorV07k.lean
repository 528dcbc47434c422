import Derived.Test.YthbcbaembicdbaaGreatDoorP17
import Derived.Test.YthbcbaembicdbaaGreatDoorV07d
set_option maxHeartbeats 4000000
set_option linter.unusedVariables false
set_option linter.unusedSimpArgs false
set_option maxRecDepth 1000000
namespace Go.Proofs.YthbcbaembicdbaaGreatDoor
open Go.Abs Go.RowKit
noncomputable section
theorem BS (n:ByteArray):af Tryz.prog H4 [S n] (dR 0 (if gk n then [(n,1)]else [])):=by
 refine af.of M4 (by simp) λ_=>aa ?_
 simp only[H6]
 have p:=iJ n
 by_cases h:gk n
 ·rw[decide_eq_true h]at p
  rw[if_pos h]
  repeat' first|simp(disch:=omega) only[go_sem, *]|((with_reducible apply ab)<;>intro h<;>try omega)|(refine aY p rfl rfl ?_)
  rfl
 ·rw[decide_eq_false h]at p
  rw[if_neg h]
  repeat' first|simp(disch:=omega) only[go_sem, *]|((with_reducible apply ab)<;>intro h<;>try omega)|(refine aY p rfl rfl ?_)
  rfl
theorem db (c:aR) (n:ByteArray):af Tryz.prog m9 [iG c,S n] (I (cf c.1.2 n)):=by
 refine af.of wg (by simp) λ_=>aa ?_
 obtain⟨⟨k,l⟩,q⟩:=c
 conv in nF=>cbv
 have p:=Gu k l n
 repeat' first|simp(disch:=omega) only[go_sem, *]|((with_reducible apply ab)<;>intro h<;>try omega)|(refine aY p rfl rfl ?_)
theorem d6 {n:Int} (hn:ar n):af Tryz.prog qN [I n] (U n.natAbs):=by
 refine af.of zL (by simp) λ_=>aa ?_
 obtain⟨h1,h2⟩:=hn
 conv in qX=>cbv
 by_cases h0:n<0
 ·have e1:IntKind.wrap .u64 n=n+18446744073709551616:=by rw[IntKind.wrap_u64];omega
  have e2:IntKind.wrap .u64 (0-(n+18446744073709551616))=n.natAbs:=by rw[IntKind.wrap_u64];omega
  repeat' first|simp(disch:=omega) only[go_sem, *,e1,e2]|((with_reducible apply ab)<;>intro h<;>try omega)
 ·have e2:IntKind.wrap .u64 n=n.natAbs:=by rw[IntKind.wrap_u64];omega
  repeat' first|simp(disch:=omega) only[go_sem, *,e2]|((with_reducible apply ab)<;>intro h<;>try omega)
theorem rN (a b:Nat):af Tryz.prog DR [U a,U b] (U (Nat.gcd a b)):=by
 refine af.of K5 (by simp) λ_=>aa ?_
 obtain⟨R,hR⟩: ∃R,R=Nat.gcd a b:=⟨_,rfl⟩
 rw[←hR]
 conv in Dr=>cbv
 repeat' first|simp(disch:=omega) only[go_sem, *]|((with_reducible apply ab)<;>intro h<;>try omega)
 refine ap (λs:Nat×Nat=>⟨[(0,U s.1),(1,U s.2)], [],0,0⟩) (λs=>Hid (R=Nat.gcd s.1 s.2)) (λs=>s.2) ⟨(a,b), [],Lib.hid hR,by simp⟩ ?_
 clear hR
 rintro⟨x,y⟩ HR
 refine aa ?_
 by_cases h0:y=0
 ·have h1:=HR.out
  simp only[h0,Nat.gcd_zero_right]at h1
  subst h0
  subst h1
  repeat' first|simp(disch:=omega) only[go_sem, *,Int.natCast_zero]|((with_reducible apply ab)<;>intro h<;>try omega)
 ·have h1:(y:Int)≠0:=by omega
  repeat' first|simp(disch:=omega) only[go_sem, *,h1,ne_eq,ix]|((with_reducible apply ab)<;>intro h<;>try omega)
  exact⟨(y,x%y), [],Lib.hid (by rw[HR.out];simp only;rw[Nat.gcd_comm,Nat.gcd_rec,Nat.gcd_comm]),Nat.mod_lt _ (by omega),by simp⟩
def nX (n:Nat) (s:Bool):Int×Bool:=if n>9223372036854775807 then(0,false)else(if s then-(n:Int)else n,true)
theorem iC {n:Nat} (s:Bool):af Tryz.prog wW [U n,Go.Abs.B s] (aOk (nX n s)):=by
 refine af.of Dw (by simp) λ_=>aa ?_
 conv in wM=>cbv
 simp only[nX]
 by_cases h:n>9223372036854775807
 ·rw[if_pos h]
  repeat' first|simp(disch:=omega) only[go_sem, *]|((with_reducible apply ab)<;>intro h<;>try omega)
 ·rw[if_neg h]
  have e1:IntKind.wrap .i64 (n:Int)=n:=wrap_i64 (by omega)
  have e2:IntKind.wrap .i64 (0-(n:Int))= -(n:Int):=by rw[wrap_i64 (by omega)];omega
  cases s
  ·repeat' first|simp(disch:=omega) only[go_sem, *,e1,e2]|((with_reducible apply ab)<;>intro h<;>try omega)
  ·repeat' first|simp(disch:=omega) only[go_sem, *,e1,e2]|((with_reducible apply ab)<;>intro h<;>try omega)
theorem Df {x:Nat} (h:x≤18446744073709551615):IntKind.wrap .u64 (x:Int)=x:=wrap_u64 (by omega)
theorem Ax {p q:Int} (hp:ar p) (hq:ar q) (h0:p≠0):af Tryz.prog m8 [I p,I q] (.tup [I (nX (q.natAbs/Nat.gcd p.natAbs q.natAbs) false).1,I (nX (p.natAbs/Nat.gcd p.natAbs q.natAbs) false).1,Go.Abs.B ((nX (q.natAbs/Nat.gcd p.natAbs q.natAbs) false).2&&(nX (p.natAbs/Nat.gcd p.natAbs q.natAbs) false).2)]):=by
 refine af.of CR (by simp) λ_=>aa ?_
 conv in uu=>cbv
 have p1:=d6 hp
 have p2:=d6 hq
 have p3:=rN p.natAbs q.natAbs
 have hd:Nat.gcd p.natAbs q.natAbs≠0:= λh=>h0 (Int.natAbs_eq_zero.1 (Nat.eq_zero_of_gcd_eq_zero_left h))
 have hP:p.natAbs≤9223372036854775808:=by unfold ar at hp;omega
 have hQ:q.natAbs≤9223372036854775808:=by unfold ar at hq;omega
 generalize Nat.gcd p.natAbs q.natAbs=d at*
 generalize p.natAbs=P at*
 generalize q.natAbs=Q at*
 have l1:Q/d≤Q:=Nat.div_le_self _ _
 have l2:P/d≤P:=Nat.div_le_self _ _
 have p4:=iC (n:=Q/d) false
 have p5:=iC (n:=P/d) false
 have w1:IntKind.wrap .u64 ((Q/d:Nat):Int)=(Q/d:Nat):=Df (by omega)
 have w2:IntKind.wrap .u64 ((P/d:Nat):Int)=(P/d:Nat):=Df (by omega)
 have hd': ¬(d:Int)=0:=by omega
 generalize nX (Q/d) false=s1 at*
 generalize nX (P/d) false=s2 at*
 obtain⟨s1,o1⟩:=s1
 obtain⟨s2,o2⟩:=s2
 cases o1
 all_goals
  repeat' first|simp(disch:=omega) only[go_sem, *,hd',ne_eq,yH,w1,w2]|((with_reducible apply ab)<;>intro h<;>try omega)|(refine aY p1 rfl rfl ?_)|(refine aY p2 rfl rfl ?_)|(refine aY p3 rfl rfl ?_)|(refine aY p4 rfl rfl ?_)|(refine aY p5 rfl rfl ?_)
  rfl
theorem PJ {l:List aD} (h: ∀m∈l,ar m.2) (n:ByteArray):ar (cf l n):=by
 by_cases h0:cf l n=0
 ·rw[h0];exact b6
 ·obtain⟨m,h1,_,h2⟩:=Yz h0
  rw[←h2];exact h m h1
set_option maxRecDepth 20000
abbrev aT (x:aR×Int×Int):AV:= .tup [iG x.1,I x.2.1,I x.2.2]
theorem vq (b:Bool):af Tryz.prog dZ [Go.Abs.B b] (aT (if b=true then(wD,1,0)else(QJ,2,0))):=by
 refine af.of wj (by simp) λ_=>aa ?_
 simp only[nc]
 cases b
 ·repeat' first|simp(disch:=omega) only[go_sem, *]|((with_reducible apply ab)<;>intro h<;>try omega)
  rfl
 ·repeat' first|simp(disch:=omega) only[go_sem, *]|((with_reducible apply ab)<;>intro h<;>try omega)
  rfl
theorem qi {n:Int} {g:Nat} (hn:ar n) (hg:0<g):af Tryz.prog kg [I n,U g] (Go.Abs.B (decide (n.natAbs%g=0))):=by
 refine af.of rq (by simp) λ_=>aa ?_
 obtain⟨h1,h2⟩:=hn
 simp only[jX]
 have hg': ¬(g:Int)=0:=by omega
 have hd:(decide (((n.natAbs%g:Nat):Int)=0))=decide (n.natAbs%g=0):=by
  by_cases h:n.natAbs%g=0
  ·rw[h];rfl
  ·rw[decide_eq_false h,decide_eq_false (by omega)]
 rw[←hd]
 by_cases h0:n<0
 ·have e1:IntKind.wrap .u64 n=n+18446744073709551616:=by rw[IntKind.wrap_u64];omega
  have e2:IntKind.wrap .u64 (0-(n+18446744073709551616))=n.natAbs:=by rw[IntKind.wrap_u64];omega
  clear hd
  generalize n.natAbs=N at*
  repeat' first|simp(disch:=omega) only[go_sem, *,e1,e2,hg',ne_eq,ix]|((with_reducible apply ab)<;>intro h<;>try omega)
 ·have e2:IntKind.wrap .u64 n=n.natAbs:=by rw[IntKind.wrap_u64];omega
  clear hd
  generalize n.natAbs=N at*
  repeat' first|simp(disch:=omega) only[go_sem, *,e2,hg',ne_eq,ix]|((with_reducible apply ab)<;>intro h<;>try omega)
theorem yu {l:List aD} (h64: ∀m∈l,ar m.2):af Tryz.prog qu [.c (.pure (aw l))] (U (gh l)):=by
 refine af.of zh (by simp) λhbd=>aa ?_
 have hlen:l.length≤9223372036854775807:=by simpa[ol,iI,jt]using hbd
 clear hbd
 simp only[qe]
 obtain⟨R,hR⟩: ∃R,R=QM 0 (l.drop 0):=⟨_,rfl⟩
 have hR0:gh l=R:=hR.symm
 rw[hR0]
 have HR:=Lib.hid hR
 clear hR hR0
 repeat' first|simp(disch:=omega) only[go_sem, *]|((with_reducible apply ab)<;>intro h<;>try omega)
 refine ap (λs:Nat×Nat=>⟨[(3,U s.2),(7,.c (.pure (aw l))),(8,I l.length),(9,I s.1)], [],0,0⟩) (λs=>s.1≤l.length∧Hid (R=QM s.2 (l.drop s.1))) (λs=>l.length-s.1) ⟨(0,0), [],⟨Nat.zero_le _,HR⟩,by simp⟩ ?_
 clear HR
 rintro⟨k,g⟩ ⟨hk,HR⟩
 refine aa ?_
 simp only at hk HR
 by_cases hlt:k<l.length
 ·have g1:=ai (f:=mP) hlt
  have hm:=h64 _ (List.getElem_mem hlt)
  have h2:=HR.out
  rw[List.drop_eq_getElem_cons hlt]at h2
  have h3:R=QM (Nat.gcd g l[k].2.natAbs) (l.drop (k+1)):=h2
  have HR2:=Lib.hid h3
  clear HR h2 h3
  generalize l[k]=m at*
  obtain⟨n,x⟩:=m
  simp only[mP]at g1
  simp only at hm HR2
  obtain⟨h1,h2⟩:=hm
  obtain⟨G,hG⟩: ∃G,G=Nat.gcd g x.natAbs:=⟨_,rfl⟩
  rw[←hG]at HR2
  have HG:=Lib.hid hG
  clear hG
  have wr:IntKind.wrap .i64 ((k:Int)+1)=(k:Int)+1:=wrap_i64 (by omega)
  by_cases hneg:x<0
  all_goals
   first
    |have e1:IntKind.wrap .u64 x=x+18446744073709551616:=by rw[IntKind.wrap_u64];omega
     have e2:IntKind.wrap .u64 (0-(x+18446744073709551616))=x.natAbs:=by rw[IntKind.wrap_u64];omega
    |have e1:IntKind.wrap .u64 x=x.natAbs:=by rw[IntKind.wrap_u64];omega
   generalize x.natAbs=X at*
   repeat' first|simp(disch:=omega) only[go_sem, *,g1,e1]|((with_reducible apply ab)<;>intro h<;>try omega)
   refine ap (λs:Nat×Nat=>⟨[(3,U s.1),(6,U s.2),(7,.c (.pure (aw l))),(8,I l.length),(9,I k)], [],0,0⟩) (λs=>Hid (G=Nat.gcd s.1 s.2)) (λs=>s.2) ⟨(g,X), [],HG,by simp⟩ ?_
   clear HG
   rintro⟨a,b⟩ HG
   refine aa ?_
   by_cases h0:b=0
   ·have h1:=HG.out
    simp only[h0,Nat.gcd_zero_right]at h1
    subst h0
    subst h1
    repeat' first|simp(disch:=omega) only[go_sem, *,Int.natCast_zero]|((with_reducible apply ab)<;>intro h<;>try omega)
    exact⟨(k+1,_), [],⟨hlt,HR2⟩,by show _-_<_-_;omega,by simp[wr]⟩
   ·have h1:(b:Int)≠0:=by omega
    repeat' first|simp(disch:=omega) only[go_sem, *,h1,ne_eq,ix]|((with_reducible apply ab)<;>intro h<;>try omega)
    exact⟨(b,a%b), [],Lib.hid (by rw[HG.out];simp only;rw[Nat.gcd_comm,Nat.gcd_rec,Nat.gcd_comm]),Nat.mod_lt _ (by omega),by simp⟩
 ·have h2:=HR.out
  rw[List.drop_eq_nil_of_le (by omega)]at h2
  have h3:R=g:=h2
  clear h2 HR
  subst h3
  repeat' first|simp(disch:=omega) only[go_sem, *]|((with_reducible apply ab)<;>intro h<;>try omega)
theorem Pp {x:Int} {g:Nat} (hx:ar x):ar (x.tdiv g)∨x.tdiv g=9223372036854775808:=by
 have h:(x.tdiv g).natAbs≤x.natAbs:=by rw[Int.natAbs_tdiv];exact Nat.div_le_self _ _
 unfold ar at*
 omega
theorem BU {x:Int} {g:Nat} (hx:ar x) (hg:0<g) (hg2:g≤9223372036854775808):ar (x.tdiv g)∧(x.tmod g<0→ar (x.tdiv g-1))∧ar (x.tdiv g*g)∧(x.tmod g<0↔x<x.tdiv g*g):=by
 have h1:=Int.tmod_def x g
 have e:=A3 (x:=x) hg
 have h3:=ES hx hg
 have h2:(x.tmod g).natAbs<g:=by rw[Int.natAbs_tmod];exact Nat.mod_lt _ (by simpa using hg)
 have h5:(x.tdiv g*g).natAbs≤x.natAbs:=by
  rw[Int.natAbs_mul,Int.natAbs_tdiv]
  exact Nat.div_mul_le_self _ _
 have h6:=Int.mul_comm (g:Int) (x.tdiv g)
 have h4:=Pp (g:=g) hx
 rw[h6]at h1
 have hneg:x.tdiv g=9223372036854775808→False:= λh=>by
  rw[e,h]at h3
  unfold ar at h3 hx
  rw[h]at h1 h5
  have:9223372036854775808*1≤9223372036854775808*(g:Int):=Int.mul_le_mul_of_nonneg_left (by omega) (by omega)
  split at h3<;>omega
 refine⟨h4.resolve_right hneg,λh=> ?_, ?_,by omega⟩
 ·rw[e,if_pos h]at h3;exact h3
 ·unfold ar at*
  by_cases hm:x= -9223372036854775808
  ·omega
  ·omega
theorem pP {x:Int} {g:Nat} (hx:ar x) (hg:0<g) (hg2:g≤9223372036854775808):af Tryz.prog kq [I x,I g] (I (x/(g:Int))):=by
 refine af.of rJ (by simp) λ_=>aa ?_
 simp only[j9]
 obtain⟨f1,f2,f3,f4⟩:=BU hx hg hg2
 rw[A3 hg]
 have hg': ¬(g:Int)=0:=by omega
 unfold ar at f1 f2
 have w1:IntKind.wrap .i64 (x.tdiv g)=x.tdiv g:=wrap_i64 f1
 clear f3 f4
 by_cases h:x.tmod g<0
 ·have w2:IntKind.wrap .i64 (x.tdiv g-1)=x.tdiv g-1:=wrap_i64 (f2 h)
  clear f2 f1
  repeat' first|simp(disch:=omega) only[go_sem, *,hg',ne_eq,w1,w2]|((with_reducible apply ab)<;>intro h<;>try omega)
 ·clear f2 f1
  repeat' first|simp(disch:=omega) only[go_sem, *,hg',ne_eq,w1]|((with_reducible apply ab)<;>intro h<;>try omega)
theorem Wn {x:Int} (hx:ar x):x/9223372036854775808=if x<0 then-1 else 0:=by
 unfold ar at hx
 split<;>omega
theorem AA {l:List aD} {g k:Nat} (h:k<l.length):(fA g (l.take (k+1))).map mP=(fA g (l.take k)).map mP++ [[pS l[k].1,pI (l[k].2/(g:Int))]]:=by
 rw[List.take_succ_eq_append_getElem h]
 show((l.take k++ [l[k]]).map _).map mP=_
 rw[List.map_append,List.map_append]
 rfl
theorem ri {k:Int} {l:List aD} {g:Nat} (hk:ar k) (h64: ∀m∈l,ar m.2) (h0: ∀m∈l,m.2≠0∧(g:Int)∣m.2) (hg:0<g) (hg2:g≤9223372036854775808) (hl:l.length≤1000000000):
  af Tryz.prog lN [dR k l,U g] (dR (k/(g:Int)) (fA g l)):=by
 refine af.of tm (by simp) λ_=>aa ?_
 simp only[lW]
 by_cases hb:g=9223372036854775808
 ·have hbi:(g:Int)=9223372036854775808:=by omega
  have hkd:k/(g:Int)=if k<0 then-1 else 0:=by rw[hbi];exact Wn hk
  have hmd: ∀i (h:i<l.length),l[i].2/(g:Int)= -1:= λi h=>by
   have h1:=h64 _ (List.getElem_mem h)
   obtain⟨h2,h3⟩:=h0 _ (List.getElem_mem h)
   rw[hbi]at h3 ⊢
   obtain⟨q,hq⟩:=h3
   unfold ar at h1
   omega
  rw[hkd]
  by_cases hneg:k<0
  all_goals
   first
    |rw[if_pos hneg]
    |rw[if_neg hneg]
   clear hkd
   repeat' first|simp(disch:=omega) only[go_sem,hbi]|((with_reducible refine ab ?_ ?_)<;>intro h<;>try first|omega|simp(disch:=omega) only[go_sem, *,hbi])
   refine dD 2 1 114 2 _ rfl rfl (by decide) ?_
  ·refine ap (λj:Nat=>⟨[(2,.c (.ptr 0 0)),(4,.c (.ptr 1 0)),(5,.c (.ptr 2 0)),(19,.c (.pure (aw l))),(20,I l.length),(21,I j)],
    [(0,.var [.pure (pI k),.pure (aw l)]),(1,.var [.pure (pI 0),.nils]),(2,.var [.pure (pI (-1)),.ref 3]),(3,.arr 114 2 ((fA g (l.take j)).map mP))],4,0⟩) (λj=>j≤l.length) (λj=>l.length-j) ⟨0, [],Nat.zero_le _,by simp[fA]⟩ ?_
   intro j hj
   refine aa ?_
   by_cases hlt:j<l.length
   ·have e1:=AA (g:=g) hlt
    have g1:=ai (f:=mP) hlt
    have hlen:(fA g (l.take j)).length≤1000000000:=by simp[fA];omega
    have hm:=hmd j hlt
    rw[hm]at e1
    clear hm
    generalize l[j]=m at*
    obtain⟨n,x⟩:=m
    simp only[mP]at g1 e1
    clear hmd
    generalize fA g (l.take j)=D0 at*
    repeat' first|simp(disch:=omega) only[go_sem,g1,wrap_i64]|((with_reducible refine ab ?_ ?_)<;>intro h<;>try first|omega|simp(disch:=omega) only[go_sem, *,g1,wrap_i64])|(refine bf rfl (by intro h;cases h) (aO rfl) (by simp;omega) (by simp;omega) ?_)
    exact⟨j+1, [(3,5)],hlt,by omega,by simp[e1]⟩
   ·obtain rfl:j=l.length:=by omega
    rw[List.take_of_length_le (Nat.le_refl _)]
    repeat' first|simp(disch:=omega) only[go_sem]|((with_reducible refine ab ?_ ?_)<;>intro h<;>try first|omega|simp(disch:=omega) only[go_sem, *])
  ·refine ap (λj:Nat=>⟨[(2,.c (.ptr 0 0)),(4,.c (.ptr 1 0)),(5,.c (.ptr 2 0)),(19,.c (.pure (aw l))),(20,I l.length),(21,I j)],
    [(0,.var [.pure (pI k),.pure (aw l)]),(1,.var [.pure (pI 0),.nils]),(2,.var [.pure (pI (0)),.ref 3]),(3,.arr 114 2 ((fA g (l.take j)).map mP))],4,0⟩) (λj=>j≤l.length) (λj=>l.length-j) ⟨0, [],Nat.zero_le _,by simp[fA]⟩ ?_
   intro j hj
   refine aa ?_
   by_cases hlt:j<l.length
   ·have e1:=AA (g:=g) hlt
    have g1:=ai (f:=mP) hlt
    have hlen:(fA g (l.take j)).length≤1000000000:=by simp[fA];omega
    have hm:=hmd j hlt
    rw[hm]at e1
    clear hm
    generalize l[j]=m at*
    obtain⟨n,x⟩:=m
    simp only[mP]at g1 e1
    clear hmd
    generalize fA g (l.take j)=D0 at*
    repeat' first|simp(disch:=omega) only[go_sem,g1,wrap_i64]|((with_reducible refine ab ?_ ?_)<;>intro h<;>try first|omega|simp(disch:=omega) only[go_sem, *,g1,wrap_i64])|(refine bf rfl (by intro h;cases h) (aO rfl) (by simp;omega) (by simp;omega) ?_)
    exact⟨j+1, [(3,5)],hlt,by omega,by simp[e1]⟩
   ·obtain rfl:j=l.length:=by omega
    rw[List.take_of_length_le (Nat.le_refl _)]
    repeat' first|simp(disch:=omega) only[go_sem]|((with_reducible refine ab ?_ ?_)<;>intro h<;>try first|omega|simp(disch:=omega) only[go_sem, *])
 ·have hb': ¬(g:Int)=9223372036854775808:=by omega
  have w1:IntKind.wrap .i64 (g:Int)=g:=wrap_i64 (by omega)
  have hg': ¬(g:Int)=0:=by omega
  have p1:=pP hk hg hg2
  obtain⟨Q,hQ⟩: ∃Q,Q=k/(g:Int):=⟨_,rfl⟩
  rw[←hQ]at p1 ⊢
  clear hQ
  repeat' first|simp(disch:=omega) only[go_sem,hb',w1]|((with_reducible refine ab ?_ ?_)<;>intro h<;>try first|omega|simp(disch:=omega) only[go_sem, *,hb',w1])|(refine aY p1 rfl rfl ?_)
  refine dD 2 1 114 2 _ rfl rfl (by decide) ?_
  refine ap (λj:Nat=>⟨[(1,U g),(2,.c (.ptr 0 0)),(4,.c (.ptr 1 0)),(5,.c (.ptr 2 0)),(42,.c (.pure (aw l))),(43,I l.length),(44,I j)],
   [(0,.var [.pure (pI k),.pure (aw l)]),(1,.var [.pure (pI 0),.nils]),(2,.var [.pure (pI (Q)),.ref 3]),(3,.arr 114 2 ((fA g (l.take j)).map mP))],4,0⟩) (λj=>j≤l.length) (λj=>l.length-j) ⟨0, [],Nat.zero_le _,by simp[fA]⟩ ?_
  intro j hj
  refine aa ?_
  by_cases hlt:j<l.length
  ·have e1:=AA (g:=g) hlt
   have g1:=ai (f:=mP) hlt
   have hlen:(fA g (l.take j)).length≤1000000000:=by simp[fA];omega
   have hm1:ar (l[j].2.tdiv (g:Int)):=(BU (h64 _ (List.getElem_mem hlt)) hg hg2).1
   have hm2:l[j].2/(g:Int)=l[j].2.tdiv (g:Int):=by
    rw[A3 hg,if_neg]
    rw[Int.tmod_eq_zero_of_dvd (h0 _ (List.getElem_mem hlt)).2];omega
   rw[hm2]at e1
   have wm:=wrap_i64 (by unfold ar at hm1;exact hm1)
   clear hm1 hm2
   generalize l[j]=m at*
   obtain⟨n,x⟩:=m
   simp only[mP]at g1 e1
   skip
   generalize fA g (l.take j)=D0 at*
   repeat' first|simp(disch:=omega) only[go_sem,g1,wrap_i64,w1,hg',ne_eq,wm]|((with_reducible refine ab ?_ ?_)<;>intro h<;>try first|omega|simp(disch:=omega) only[go_sem, *,g1,wrap_i64,w1,hg',ne_eq,wm])|(refine bf rfl (by intro h;cases h) (aO rfl) (by simp;omega) (by simp;omega) ?_)
   exact⟨j+1, [(3,5)],hlt,by omega,by simp[e1]⟩
  ·obtain rfl:j=l.length:=by omega
   rw[List.take_of_length_le (Nat.le_refl _)]
   repeat' first|simp(disch:=omega) only[go_sem]|((with_reducible refine ab ?_ ?_)<;>intro h<;>try first|omega|simp(disch:=omega) only[go_sem, *])
set_option maxRecDepth 1000000
theorem rG {c:aR} (h64:bk c) (hs:c.1.2.length≤1000000000):af Tryz.prog kU [iG c] (aT (fi c)):=by
 refine af.of tc (by simp) λ_=>aa ?_
 have pv:=bP c
 have pt:=vq
 obtain⟨⟨k,l⟩,q⟩:=c
 obtain⟨hk,h64⟩:=h64
 simp only at hk h64 hs
 simp only[lL]
 unfold fi
 simp only at pv ⊢
 by_cases hok:bn l
 ·rw[if_pos hok]at pv
  rw[if_neg (not_not_intro hok)]
  cases l with
  |nil=>
   rw[if_pos rfl]
   have pT:=pt true
   have pF:=pt false
   rw[if_pos rfl]at pT
   rw[if_neg (by decide)]at pF
   clear pt
   replace pT:af Tryz.prog dZ [Go.Abs.B true] (.tup [.agg [.pure (pI 0),.pure (aw []),.pure (pB false)],I 1,I 0]):=pT
   replace pF:af Tryz.prog dZ [Go.Abs.B false] (.tup [.agg [.pure (pI (-1)),.pure (aw []),.pure (pB false)],I 2,I 0]):=pF
   cases q
   ·by_cases h0:k=0
    ·subst h0
     rw[if_pos (.inl rfl)]
     repeat' first|simp(disch:=omega) only[go_sem, *]|((with_reducible apply ab)<;>intro h<;>try omega)|(refine aY pv rfl rfl ?_)|(refine el pT rfl rfl ?_)|(refine el pF rfl rfl ?_)
     all_goals rfl
    ·by_cases h1:0<k
     ·rw[if_pos (.inr ⟨h1,rfl⟩)]
      repeat' first|simp(disch:=omega) only[go_sem, *,h0]|((with_reducible apply ab)<;>intro h<;>try omega)|(refine aY pv rfl rfl ?_)|(refine el pT rfl rfl ?_)|(refine el pF rfl rfl ?_)
      all_goals rfl
     ·rw[if_neg (by omega)]
      repeat' first|simp(disch:=omega) only[go_sem, *,h0]|((with_reducible apply ab)<;>intro h<;>try omega)|(refine aY pv rfl rfl ?_)|(refine el pT rfl rfl ?_)|(refine el pF rfl rfl ?_)
      all_goals rfl
   ·by_cases h0:k=0
    ·subst h0
     rw[if_pos (.inl rfl)]
     repeat' first|simp(disch:=omega) only[go_sem, *]|((with_reducible apply ab)<;>intro h<;>try omega)|(refine aY pv rfl rfl ?_)|(refine el pT rfl rfl ?_)|(refine el pF rfl rfl ?_)
     all_goals rfl
    ·rw[if_neg (by rintro(h|h);exact h0 h;cases h.2)]
     repeat' first|simp(disch:=omega) only[go_sem, *,h0]|((with_reducible apply ab)<;>intro h<;>try omega)|(refine aY pv rfl rfl ?_)|(refine el pT rfl rfl ?_)|(refine el pF rfl rfl ?_)
     all_goals rfl
  |cons m r=>
   rw[if_neg (by simp)]
   have pF:=pt false
   rw[if_neg (by decide)]at pF
   clear pt
   replace pF:af Tryz.prog dZ [Go.Abs.B false] (.tup [.agg [.pure (pI (-1)),.pure (aw []),.pure (pB false)],I 2,I 0]):=pF
   have hall:=(cp.1 hok).2
   have hne:(m::r)≠ []:=by simp
   have hg:=Fi hne (λx hx=>(hall x hx).2)
   have hg2:=Xq hne (λx hx=>(hall x hx).2) h64
   have pg:=yu h64
   have pm:=qi hk hg
   have pd:=ri (k:=k) hk h64 (λx hx=>⟨(hall x hx).2,Am hx⟩) hg hg2 hs
   have hD64: ∀x∈fA (gh (m::r)) (m::r),ar x.2:= λx hx=>by
    obtain⟨y,hy,rfl⟩:=List.mem_map.1 hx
    exact ES (h64 y hy) hg
   have hK64:=ES hk hg
   have hDok:=PI hok
   have ps:=kO (a:=(k/(gh (m::r):Int),fA (gh (m::r)) (m::r))) (b:= -1) ⟨hK64,hD64⟩ (by unfold ar;omega) (by unfold short;simp only[fA,List.length_map];exact hs)
   rw[dP,if_neg (not_not_intro hDok),xW]at ps
   have hsc:((-1:Int)=0∨kL (k/(gh (m::r):Int),fA (gh (m::r)) (m::r)) (-1))↔(ar (-(k/(gh (m::r):Int)))∧ ∀x∈fA (gh (m::r)) (m::r),ar (-x.2)):=by
    simp[kL,Int.mul_neg]
   have hsv:de (k/(gh (m::r):Int),fA (gh (m::r)) (m::r)) (-1)=(-(k/(gh (m::r):Int)),(fA (gh (m::r)) (m::r)).map λx=>(x.1,-x.2)):=by
    simp[de,Int.mul_neg]
   rw[hsv]at ps
   have hfirst:(m.2/(gh (m::r):Int)<0)↔((m::r).headD (.empty,0)).2<0:=by
    show _↔m.2<0
    have:=Int.ediv_nonneg_iff_of_pos (a:=m.2) (b:=(gh (m::r):Int)) (by omega)
    omega
   have gD:((fA (gh (m::r)) (m::r)).map mP)[0]? =some [pS m.1,pI (m.2/(gh (m::r):Int))]:=rfl
   generalize ((m::r).headD (.empty,0)).2=hd at*
   clear hsv hDok hD64 hK64 hall
   have e0: ¬(((m::r).length:Nat):Int)=0:=by simp;omega
   generalize fA (gh (m::r)) (m::r)=D at*
   generalize m.2/(gh (m::r):Int)=x0 at*
   generalize gh (m::r)=g at*
   generalize m.1=n0 at*
   generalize hL:m::r=L at*
   clear hL hok h64 hs hne m r
   generalize hnm:k.natAbs%g=M at*
   clear hnm
   generalize k/(g:Int)=K at*
   cases q
   ·rw[if_neg (by simp),if_neg (by simp)]
    clear hfirst hsc
    repeat' first|simp(disch:=omega) only[go_sem, *,e0]|((with_reducible apply ab)<;>intro h<;>try omega)|(refine aY pv rfl rfl ?_)|(refine aY pg rfl rfl ?_)|(refine aY pm rfl rfl ?_)|(refine el pF rfl rfl ?_)|(refine el pd rfl rfl ?_)|(refine el ps rfl rfl ?_)
    all_goals rfl
   ·by_cases hM:M=0
    ·rw[decide_eq_true hM]at pm
     rw[if_neg (by simp[hM])]
     by_cases hx:x0<0
     ·rw[if_pos ⟨rfl,hfirst.1 hx⟩]
      by_cases hS:(-1:Int)=0∨kL (K,D) (-1)
      ·rw[if_pos hS]at ps
       rw[if_pos (hsc.1 hS)]
       clear hsc hS hfirst
       generalize (D.map λx=>(x.1,-x.2))=D2 at*
       repeat' first|simp(disch:=omega) only[go_sem, *,e0,gD,Int.toNat_zero]|((with_reducible apply ab)<;>intro h<;>try omega)|(refine aY pv rfl rfl ?_)|(refine aY pg rfl rfl ?_)|(refine aY pm rfl rfl ?_)|(refine el pF rfl rfl ?_)|(refine el pd rfl rfl ?_)|(refine el ps rfl rfl ?_)
       all_goals rfl
      ·rw[if_neg hS]at ps
       rw[if_neg (λh=>hS (hsc.2 h))]
       clear hsc hS hfirst
       repeat' first|simp(disch:=omega) only[go_sem, *,e0,gD,Int.toNat_zero]|((with_reducible apply ab)<;>intro h<;>try omega)|(refine aY pv rfl rfl ?_)|(refine aY pg rfl rfl ?_)|(refine aY pm rfl rfl ?_)|(refine el pF rfl rfl ?_)|(refine el pd rfl rfl ?_)|(refine el ps rfl rfl ?_)
       all_goals rfl
     ·rw[if_neg (λh=>hx (hfirst.2 h.2))]
      clear hsc ps hfirst
      repeat' first|simp(disch:=omega) only[go_sem, *,e0,gD,Int.toNat_zero]|((with_reducible apply ab)<;>intro h<;>try omega)|(refine aY pv rfl rfl ?_)|(refine aY pg rfl rfl ?_)|(refine aY pm rfl rfl ?_)|(refine el pF rfl rfl ?_)|(refine el pd rfl rfl ?_)
      all_goals rfl
    ·rw[decide_eq_false hM]at pm
     rw[if_pos ⟨rfl,hM⟩]
     clear hsc ps hfirst
     repeat' first|simp(disch:=omega) only[go_sem, *,e0]|((with_reducible apply ab)<;>intro h<;>try omega)|(refine aY pv rfl rfl ?_)|(refine aY pg rfl rfl ?_)|(refine aY pm rfl rfl ?_)|(refine el pF rfl rfl ?_)|(refine el pd rfl rfl ?_)
     all_goals rfl
 ·rw[if_neg hok]at pv
  rw[if_pos hok]
  clear pt
  repeat' first|simp(disch:=omega) only[go_sem, *]|((with_reducible apply ab)<;>intro h<;>try omega)|(refine aY pv rfl rfl ?_)
  all_goals rfl
def ig (c:aR):Prop:=c.1.2= []∧(c.1.1<0∨(c.2=true∧c.1.1≠0))
instance (c:aR):Decidable (ig c):=Classical.propDecidable _
theorem fw (c:aR):af Tryz.prog kT [iG c] (Go.Abs.B (decide (ig c))):=by
 refine af.of th (by simp) λ_=>aa ?_
 obtain⟨⟨k,l⟩,q⟩:=c
 conv in lz=>cbv
 cases l with
 |nil=>
  have e:decide (ig ((k, []),q))=(decide (k<0)||(q&&decide (k≠0))):=by
   rw[Bool.eq_iff_iff]
   simp[ig]
  rw[e]
  by_cases h:k<0
  ·cases q
   ·repeat' first|simp(disch:=omega) only[go_sem, *]|((with_reducible apply ab)<;>intro h<;>try omega)
    all_goals simp[h]
   ·repeat' first|simp(disch:=omega) only[go_sem, *]|((with_reducible apply ab)<;>intro h<;>try omega)
    all_goals simp[h]
  ·by_cases h0:k=0
   ·subst h0
    cases q
    ·repeat' first|simp(disch:=omega) only[go_sem, *]|((with_reducible apply ab)<;>intro h<;>try omega)
     all_goals simp
    ·repeat' first|simp(disch:=omega) only[go_sem, *]|((with_reducible apply ab)<;>intro h<;>try omega)
     all_goals simp
   ·cases q
    ·repeat' first|simp(disch:=omega) only[go_sem, *,h0]|((with_reducible apply ab)<;>intro h<;>try omega)
     all_goals simp[h,h0]
    ·repeat' first|simp(disch:=omega) only[go_sem, *,h0]|((with_reducible apply ab)<;>intro h<;>try omega)
     all_goals simp[h,h0]
 |cons m r=>
  have e:decide (ig ((k,m::r),q))=false:=decide_eq_false λh=>by cases h.1
  rw[e]
  have e0: ¬(((m::r).length:Nat):Int)=0:=by simp;omega
  generalize m::r=L at*
  repeat' first|simp(disch:=omega) only[go_sem, *,e0]|((with_reducible apply ab)<;>intro h<;>try omega)
def kD (acc:List aR):List aR→List aR×Int
 | []=>(acc,0)
 |c::r=>if(fi c).2.2≠0 then([],(fi c).2.2)else kD (acc++ [(fi c).1]) r
def bj (l:List aR):List aR×Int:=if 256<l.length then([],2)else kD [] l
abbrev ML (x:List aR×Int):AV:= .tup [bR x.1,I x.2]
theorem qt {l:List aR} (h64: ∀c∈l,bk c) (hs: ∀c∈l,c.1.2.length≤1000000000):af Tryz.prog uP [bR l] (ML (bj l)):=by
 refine af.of CS (by simp) λ_=>aa ?_
 conv in tS=>cbv
 unfold bj
 by_cases hl:256<l.length
 ·rw[if_pos hl]
  repeat' first|simp(disch:=omega) only[go_sem, *]|((with_reducible apply ab)<;>intro h<;>try omega)
  all_goals rfl
 ·rw[if_neg hl]
  obtain⟨R,hR⟩: ∃R,R=kD [] (l.drop 0):=⟨_,rfl⟩
  have hR0:kD [] l=R:=hR.symm
  rw[hR0]
  have HR:=Lib.hid hR
  clear hR hR0
  repeat' first|simp(disch:=omega) only[go_sem, *]|((with_reducible apply ab)<;>intro h<;>try omega)
  refine fj 4 46 3 rfl (by decide) ?_
  refine ap (λs:Nat×List aR=>⟨[(4,.c (.ref 0)),(13,bR l),(14,I l.length),(15,I s.1)], [(0,.arr 46 3 (s.2.map cP))],1,0⟩) (λs=>s.1≤l.length∧s.2.length≤s.1∧Hid (R=kD s.2 (l.drop s.1))) (λs=>l.length-s.1) ⟨(0, []), [],⟨Nat.zero_le _,Nat.le_refl _,HR⟩,by simp⟩ ?_
  clear HR
  rintro⟨j,acc⟩ ⟨hj,hacc,HR⟩
  refine aa ?_
  simp only at hj hacc HR
  by_cases hlt:j<l.length
  ·have g1:=ai (f:=cP) hlt
   have pT:=rG (h64 _ (List.getElem_mem hlt)) (hs _ (List.getElem_mem hlt))
   have h2:=HR.out
   rw[List.drop_eq_getElem_cons hlt,kD]at h2
   clear HR
   generalize fi l[j]=T at*
   generalize l[j]=c at*
   obtain⟨⟨ck,cl⟩,q⟩:=c
   obtain⟨⟨⟨tk,tl⟩,tq⟩,tt,te⟩:=T
   simp only[cP]at g1
   simp only at h2
   by_cases he:te=0
   ·subst he
    rw[if_neg (by simp)]at h2
    have HR:=Lib.hid h2
    clear h2
    repeat' first|simp(disch:=omega) only[go_sem, *,g1,wrap_i64]|((with_reducible apply ab)<;>intro h<;>try omega)|(refine el pT rfl rfl ?_)|(refine bf rfl (by intro h;cases h) (aO rfl) (by simp;omega) (by simp;omega) ?_)
    exact⟨(j+1,acc++ [((tk,tl),tq)]), [(0,3)],⟨hlt,by simp;omega,HR⟩,by show _-_<_-_;omega,by simp[cP]⟩
   ·rw[if_pos he]at h2
    subst h2
    repeat' first|simp(disch:=omega) only[go_sem, *,g1,he,wrap_i64]|((with_reducible apply ab)<;>intro h<;>try omega)|(refine el pT rfl rfl ?_)
    all_goals rfl
  ·have h2:=HR.out
   rw[List.drop_eq_nil_of_le (by omega),kD]at h2
   clear HR
   subst h2
   repeat' first|simp(disch:=omega) only[go_sem, *]|((with_reducible apply ab)<;>intro h<;>try omega)
   all_goals rfl
end
end Go.Proofs.YthbcbaembicdbaaGreatDoor
