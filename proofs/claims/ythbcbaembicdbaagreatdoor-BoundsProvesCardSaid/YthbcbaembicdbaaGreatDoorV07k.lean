import Derived.Test.YthbcbaembicdbaaGreatDoorP17
import Derived.Test.YthbcbaembicdbaaGreatDoorV07d
set_option linter.unusedVariables false
set_option linter.unusedSimpArgs false
set_option maxRecDepth 20000
set_option maxHeartbeats 4000000
set_option maxRecDepth 1000000
namespace Go.Proofs.YthbcbaembicdbaaGreatDoor
open Go.Abs Go.RowKit
noncomputable section
theorem Dk (n:ByteArray):ac Tryz.prog KX [S n] (dm 0 (if gc n then [(n,1)]else [])):=by
 refine ac.of Qw (by simp) fun _=>aa ?_
 conv in Jv=>cbv
 have p:=iX n
 by_cases h:gc n
 ·rw[decide_eq_true h]at p
  rw[if_pos h]
  repeat' first|simp(disch:=omega) only[go_sem, *]|((with_reducible apply ab)<;>intro h<;>try omega)|(refine aF p rfl rfl ?_)
  rfl
 ·rw[decide_eq_false h]at p
  rw[if_neg h]
  repeat' first|simp(disch:=omega) only[go_sem, *]|((with_reducible apply ab)<;>intro h<;>try omega)|(refine aF p rfl rfl ?_)
  rfl
theorem dn (c:bt) (n:ByteArray):ac Tryz.prog ot [jM c,S n] (I (cf c.1.2 n)):=by
 refine ac.of w8 (by simp) fun _=>aa ?_
 obtain⟨⟨k,l⟩,q⟩:=c
 conv in nV=>cbv
 have p:=Jq k l n
 repeat' first|simp(disch:=omega) only[go_sem, *]|((with_reducible apply ab)<;>intro h<;>try omega)|(refine aF p rfl rfl ?_)
theorem eB {n:Int} (hn:ay n):ac Tryz.prog rj [I n] (U n.natAbs):=by
 refine ac.of A1 (by simp) fun _=>aa ?_
 obtain⟨h1,h2⟩:=hn
 conv in ru=>cbv
 by_cases h0:n<0
 ·have e1:IntKind.wrap .u64 n=n+18446744073709551616:=by rw[IntKind.wrap_u64];omega
  have e2:IntKind.wrap .u64 (0-(n+18446744073709551616))=n.natAbs:=by rw[IntKind.wrap_u64];omega
  repeat' first|simp(disch:=omega) only[go_sem, *,e1,e2]|((with_reducible apply ab)<;>intro h<;>try omega)
 ·have e2:IntKind.wrap .u64 n=n.natAbs:=by rw[IntKind.wrap_u64];omega
  repeat' first|simp(disch:=omega) only[go_sem, *,e2]|((with_reducible apply ab)<;>intro h<;>try omega)
theorem sD (a b:Nat):ac Tryz.prog Hc [U a,U b] (U (Nat.gcd a b)):=by
 refine ac.of Pr (by simp) fun _=>aa ?_
 obtain⟨R,hR⟩: ∃R,R=Nat.gcd a b:=⟨_,rfl⟩
 rw[←hR]
 conv in Hi=>cbv
 repeat' first|simp(disch:=omega) only[go_sem, *]|((with_reducible apply ab)<;>intro h<;>try omega)
 refine an (fun s:Nat×Nat=>⟨[(0,U s.1),(1,U s.2)], [],0,0⟩) (fun s=>Hid (R=Nat.gcd s.1 s.2)) (fun s=>s.2) ⟨(a,b), [],Lib.hid hR,by simp⟩ ?_
 clear hR
 rintro⟨x,y⟩ HR
 refine aa ?_
 by_cases h0:y=0
 ·have h1:=HR.out
  simp only[h0,Nat.gcd_zero_right]at h1
  subst h0
  subst h1
  repeat' first|simp(disch:=omega) only[go_sem, *,Int.natCast_zero]|((with_reducible apply ab)<;>intro h<;>try omega)
 ·have h1:(y:Int)≠0:=by omega
  repeat' first|simp(disch:=omega) only[go_sem, *,h1,ne_eq,fX]|((with_reducible apply ab)<;>intro h<;>try omega)
  exact⟨(y,x%y), [],Lib.hid (by rw[HR.out];simp only;rw[Nat.gcd_comm,Nat.gcd_rec,Nat.gcd_comm]),Nat.mod_lt _ (by omega),by simp⟩
def oN (n:Nat) (s:Bool):Int×Bool:=if n>9223372036854775807 then(0,false)else(if s then-(n:Int)else n,true)
theorem iJ {n:Nat} (s:Bool):ac Tryz.prog xU [U n,Go.Abs.B s] (aOk (oN n s)):=by
 refine ac.of Gv (by simp) fun _=>aa ?_
 conv in xm=>cbv
 simp only[oN]
 by_cases h:n>9223372036854775807
 ·rw[if_pos h]
  repeat' first|simp(disch:=omega) only[go_sem, *]|((with_reducible apply ab)<;>intro h<;>try omega)
 ·rw[if_neg h]
  have e1:IntKind.wrap .i64 (n:Int)=n:=wrap_i64 (by omega)
  have e2:IntKind.wrap .i64 (0-(n:Int))= -(n:Int):=by rw[wrap_i64 (by omega)];omega
  cases s
  ·repeat' first|simp(disch:=omega) only[go_sem, *,e1,e2]|((with_reducible apply ab)<;>intro h<;>try omega)
  ·repeat' first|simp(disch:=omega) only[go_sem, *,e1,e2]|((with_reducible apply ab)<;>intro h<;>try omega)
theorem E7 {x:Nat} (h:x≤18446744073709551615):IntKind.wrap .u64 (x:Int)=x:=wrap_u64 (by omega)
theorem BW {p q:Int} (hp:ay p) (hq:ay q) (h0:p≠0):ac Tryz.prog oi [I p,I q] (.tup [I (oN (q.natAbs/Nat.gcd p.natAbs q.natAbs) false).1,I (oN (p.natAbs/Nat.gcd p.natAbs q.natAbs) false).1,Go.Abs.B ((oN (q.natAbs/Nat.gcd p.natAbs q.natAbs) false).2&&(oN (p.natAbs/Nat.gcd p.natAbs q.natAbs) false).2)]):=by
 refine ac.of Ea (by simp) fun _=>aa ?_
 conv in ue=>cbv
 have p1:=eB hp
 have p2:=eB hq
 have p3:=sD p.natAbs q.natAbs
 have hd:Nat.gcd p.natAbs q.natAbs≠0:=fun h=>h0 (Int.natAbs_eq_zero.1 (Nat.eq_zero_of_gcd_eq_zero_left h))
 have hP:p.natAbs≤9223372036854775808:=by unfold ay at hp;omega
 have hQ:q.natAbs≤9223372036854775808:=by unfold ay at hq;omega
 generalize Nat.gcd p.natAbs q.natAbs=d at*
 generalize p.natAbs=P at*
 generalize q.natAbs=Q at*
 have l1:Q/d≤Q:=Nat.div_le_self _ _
 have l2:P/d≤P:=Nat.div_le_self _ _
 have p4:=iJ (n:=Q/d) false
 have p5:=iJ (n:=P/d) false
 have w1:IntKind.wrap .u64 ((Q/d:Nat):Int)=(Q/d:Nat):=E7 (by omega)
 have w2:IntKind.wrap .u64 ((P/d:Nat):Int)=(P/d:Nat):=E7 (by omega)
 have hd': ¬(d:Int)=0:=by omega
 generalize oN (Q/d) false=s1 at*
 generalize oN (P/d) false=s2 at*
 obtain⟨s1,o1⟩:=s1
 obtain⟨s2,o2⟩:=s2
 cases o1
 all_goals
  repeat' first|simp(disch:=omega) only[go_sem, *,hd',ne_eq,Bk,w1,w2]|((with_reducible apply ab)<;>intro h<;>try omega)|(refine aF p1 rfl rfl ?_)|(refine aF p2 rfl rfl ?_)|(refine aF p3 rfl rfl ?_)|(refine aF p4 rfl rfl ?_)|(refine aF p5 rfl rfl ?_)
  rfl
theorem J2 {l:List bJ} (h: ∀m∈l,ay m.2) (n:ByteArray):ay (cf l n):=by
 by_cases h0:cf l n=0
 ·rw[h0];exact cw
 ·obtain⟨m,h1,_,h2⟩:=Z0 h0
  rw[←h2];exact h m h1
set_option maxRecDepth 20000
set_option maxRecDepth 1000000
abbrev aT (x:bt×Int×Int):AV:= .tup [jM x.1,I x.2.1,I x.2.2]
theorem uI (b:Bool):ac Tryz.prog eI [Go.Abs.B b] (aT (if b=true then(zo,1,0)else(Ta,2,0))):=by
 refine ac.of wW (by simp) fun _=>aa ?_
 conv in oC=>cbv
 cases b
 ·repeat' first|simp(disch:=omega) only[go_sem, *]|((with_reducible apply ab)<;>intro h<;>try omega)
  rfl
 ·repeat' first|simp(disch:=omega) only[go_sem, *]|((with_reducible apply ab)<;>intro h<;>try omega)
  rfl
theorem rC {n:Int} {g:Nat} (hn:ay n) (hg:0<g):ac Tryz.prog kr [I n,U g] (Go.Abs.B (decide (n.natAbs%g=0))):=by
 refine ac.of sd (by simp) fun _=>aa ?_
 obtain⟨h1,h2⟩:=hn
 conv in kn=>cbv
 have hg': ¬(g:Int)=0:=by omega
 have hd:(decide (((n.natAbs%g:Nat):Int)=0))=decide (n.natAbs%g=0):=by
  by_cases h:n.natAbs%g=0
  ·rw[h];rfl
  ·rw[decide_eq_false h,decide_eq_false (by omega)]
 rw[←hd]
 by_cases h0:n<0
 ·have e1:IntKind.wrap .u64 n=n+18446744073709551616:=by rw[IntKind.wrap_u64];omega
  have e2:IntKind.wrap .u64 (0-(n+18446744073709551616))=n.natAbs:=by rw[IntKind.wrap_u64];omega
  clear hd
  generalize n.natAbs=N at*
  repeat' first|simp(disch:=omega) only[go_sem, *,e1,e2,hg',ne_eq,fX]|((with_reducible apply ab)<;>intro h<;>try omega)
 ·have e2:IntKind.wrap .u64 n=n.natAbs:=by rw[IntKind.wrap_u64];omega
  clear hd
  generalize n.natAbs=N at*
  repeat' first|simp(disch:=omega) only[go_sem, *,e2,hg',ne_eq,fX]|((with_reducible apply ab)<;>intro h<;>try omega)
theorem zu {l:List bJ} (h64: ∀m∈l,ay m.2):ac Tryz.prog qP [.c (.pure (aw l))] (U (ii l)):=by
 refine ac.of zG (by simp) fun hbd=>aa ?_
 have hlen:l.length≤9223372036854775807:=by simpa[tp,i5,jS]using hbd
 clear hbd
 conv in rx=>cbv
 obtain⟨R,hR⟩: ∃R,R=Tm 0 (l.drop 0):=⟨_,rfl⟩
 have hR0:ii l=R:=hR.symm
 rw[hR0]
 have HR:=Lib.hid hR
 clear hR hR0
 repeat' first|simp(disch:=omega) only[go_sem, *]|((with_reducible apply ab)<;>intro h<;>try omega)
 refine an (fun s:Nat×Nat=>⟨[(3,U s.2),(7,.c (.pure (aw l))),(8,I l.length),(9,I s.1)], [],0,0⟩) (fun s=>s.1≤l.length∧Hid (R=Tm s.2 (l.drop s.1))) (fun s=>l.length-s.1) ⟨(0,0), [],⟨Nat.zero_le _,HR⟩,by simp⟩ ?_
 clear HR
 rintro⟨k,g⟩ ⟨hk,HR⟩
 refine aa ?_
 simp only at hk HR
 by_cases hlt:k<l.length
 ·have g1:=ah (f:=mP) hlt
  have hm:=h64 _ (List.getElem_mem hlt)
  have h2:=HR.out
  rw[List.drop_eq_getElem_cons hlt]at h2
  have h3:R=Tm (Nat.gcd g l[k].2.natAbs) (l.drop (k+1)):=h2
  have HR2:=Lib.hid h3
  clear HR h2 h3
  generalize l[k]=m at*
  obtain⟨n,x⟩:=m
  simp only[mP]at g1
  simp only at hm HR2
  obtain⟨h1,h2⟩:=hm
  obtain⟨G,hG⟩: ∃G,G=Nat.gcd g x.natAbs:=⟨_,rfl⟩
  rw[←hG]at HR2
  have HG:=Lib.hid hG
  clear hG
  have wr:IntKind.wrap .i64 ((k:Int)+1)=(k:Int)+1:=wrap_i64 (by omega)
  by_cases hneg:x<0
  all_goals
   first
    |have e1:IntKind.wrap .u64 x=x+18446744073709551616:=by rw[IntKind.wrap_u64];omega
     have e2:IntKind.wrap .u64 (0-(x+18446744073709551616))=x.natAbs:=by rw[IntKind.wrap_u64];omega
    |have e1:IntKind.wrap .u64 x=x.natAbs:=by rw[IntKind.wrap_u64];omega
   generalize x.natAbs=X at*
   repeat' first|simp(disch:=omega) only[go_sem, *,g1,e1]|((with_reducible apply ab)<;>intro h<;>try omega)
   refine an (fun s:Nat×Nat=>⟨[(3,U s.1),(6,U s.2),(7,.c (.pure (aw l))),(8,I l.length),(9,I k)], [],0,0⟩) (fun s=>Hid (G=Nat.gcd s.1 s.2)) (fun s=>s.2) ⟨(g,X), [],HG,by simp⟩ ?_
   clear HG
   rintro⟨a,b⟩ HG
   refine aa ?_
   by_cases h0:b=0
   ·have h1:=HG.out
    simp only[h0,Nat.gcd_zero_right]at h1
    subst h0
    subst h1
    repeat' first|simp(disch:=omega) only[go_sem, *,Int.natCast_zero]|((with_reducible apply ab)<;>intro h<;>try omega)
    exact⟨(k+1,_), [],⟨hlt,HR2⟩,by show _-_<_-_;omega,by simp[wr]⟩
   ·have h1:(b:Int)≠0:=by omega
    repeat' first|simp(disch:=omega) only[go_sem, *,h1,ne_eq,fX]|((with_reducible apply ab)<;>intro h<;>try omega)
    exact⟨(b,a%b), [],Lib.hid (by rw[HG.out];simp only;rw[Nat.gcd_comm,Nat.gcd_rec,Nat.gcd_comm]),Nat.mod_lt _ (by omega),by simp⟩
 ·have h2:=HR.out
  rw[List.drop_eq_nil_of_le (by omega)]at h2
  have h3:R=g:=h2
  clear h2 HR
  subst h3
  repeat' first|simp(disch:=omega) only[go_sem, *]|((with_reducible apply ab)<;>intro h<;>try omega)
theorem Sn {x:Int} {g:Nat} (hx:ay x):ay (x.tdiv g)∨x.tdiv g=9223372036854775808:=by
 have h:(x.tdiv g).natAbs≤x.natAbs:=by rw[Int.natAbs_tdiv];exact Nat.div_le_self _ _
 unfold ay at*
 omega
theorem Dd {x:Int} {g:Nat} (hx:ay x) (hg:0<g) (hg2:g≤9223372036854775808):ay (x.tdiv g)∧(x.tmod g<0→ay (x.tdiv g-1))∧ay (x.tdiv g*g)∧(x.tmod g<0↔x<x.tdiv g*g):=by
 have h1:=Int.tmod_def x g
 have e:=Cp (x:=x) hg
 have h3:=Im hx hg
 have h2:(x.tmod g).natAbs<g:=by rw[Int.natAbs_tmod];exact Nat.mod_lt _ (by simpa using hg)
 have h5:(x.tdiv g*g).natAbs≤x.natAbs:=by
  rw[Int.natAbs_mul,Int.natAbs_tdiv]
  exact Nat.div_mul_le_self _ _
 have h6:=Int.mul_comm (g:Int) (x.tdiv g)
 have h4:=Sn (g:=g) hx
 rw[h6]at h1
 have hneg:x.tdiv g=9223372036854775808→False:=fun h=>by
  rw[e,h]at h3
  unfold ay at h3 hx
  rw[h]at h1 h5
  have:9223372036854775808*1≤9223372036854775808*(g:Int):=Int.mul_le_mul_of_nonneg_left (by omega) (by omega)
  split at h3<;>omega
 refine⟨h4.resolve_right hneg,fun h=> ?_, ?_,by omega⟩
 ·rw[e,if_pos h]at h3;exact h3
 ·unfold ay at*
  by_cases hm:x= -9223372036854775808
  ·omega
  ·omega
theorem rE {x:Int} {g:Nat} (hx:ay x) (hg:0<g) (hg2:g≤9223372036854775808):ac Tryz.prog j7 [I x,I g] (I (x/(g:Int))):=by
 refine ac.of sv (by simp) fun _=>aa ?_
 conv in kp=>cbv
 obtain⟨f1,f2,f3,f4⟩:=Dd hx hg hg2
 rw[Cp hg]
 have hg': ¬(g:Int)=0:=by omega
 unfold ay at f1 f2
 have w1:IntKind.wrap .i64 (x.tdiv g)=x.tdiv g:=wrap_i64 f1
 clear f3 f4
 by_cases h:x.tmod g<0
 ·have w2:IntKind.wrap .i64 (x.tdiv g-1)=x.tdiv g-1:=wrap_i64 (f2 h)
  clear f2 f1
  repeat' first|simp(disch:=omega) only[go_sem, *,hg',ne_eq,w1,w2]|((with_reducible apply ab)<;>intro h<;>try omega)
 ·clear f2 f1
  repeat' first|simp(disch:=omega) only[go_sem, *,hg',ne_eq,w1]|((with_reducible apply ab)<;>intro h<;>try omega)
theorem Yo {x:Int} (hx:ay x):x/9223372036854775808=if x<0 then-1 else 0:=by
 unfold ay at hx
 split<;>omega
theorem CH {l:List bJ} {g k:Nat} (h:k<l.length):(gT g (l.take (k+1))).map mP=(gT g (l.take k)).map mP++ [[pS l[k].1,pI (l[k].2/(g:Int))]]:=by
 rw[List.take_succ_eq_append_getElem h]
 show((l.take k++ [l[k]]).map _).map mP=_
 rw[List.map_append,List.map_append]
 rfl
theorem rZ {k:Int} {l:List bJ} {g:Nat} (hk:ay k) (h64: ∀m∈l,ay m.2) (h0: ∀m∈l,m.2≠0∧(g:Int)∣m.2) (hg:0<g) (hg2:g≤9223372036854775808) (hl:l.length≤1000000000):
  ac Tryz.prog lz [dm k l,U g] (dm (k/(g:Int)) (gT g l)):=by
 refine ac.of tW (by simp) fun _=>aa ?_
 conv in lM=>cbv
 by_cases hb:g=9223372036854775808
 ·have hbi:(g:Int)=9223372036854775808:=by omega
  have hkd:k/(g:Int)=if k<0 then-1 else 0:=by rw[hbi];exact Yo hk
  have hmd: ∀i (h:i<l.length),l[i].2/(g:Int)= -1:=fun i h=>by
   have h1:=h64 _ (List.getElem_mem h)
   obtain⟨h2,h3⟩:=h0 _ (List.getElem_mem h)
   rw[hbi]at h3 ⊢
   obtain⟨q,hq⟩:=h3
   unfold ay at h1
   omega
  rw[hkd]
  by_cases hneg:k<0
  all_goals
   first
    |rw[if_pos hneg]
    |rw[if_neg hneg]
   clear hkd
   repeat' first|simp(disch:=omega) only[go_sem,hbi]|((with_reducible refine ab ?_ ?_)<;>intro h<;>try first|omega|simp(disch:=omega) only[go_sem, *,hbi])
   refine cQ 2 1 114 2 _ rfl rfl (by decide) ?_
  ·refine an (fun j:Nat=>⟨[(2,.c (.ptr 0 0)),(4,.c (.ptr 1 0)),(5,.c (.ptr 2 0)),(19,.c (.pure (aw l))),(20,I l.length),(21,I j)],
    [(0,.var [.pure (pI k),.pure (aw l)]),(1,.var [.pure (pI 0),.nils]),(2,.var [.pure (pI (-1)),.ref 3]),(3,.arr 114 2 ((gT g (l.take j)).map mP))],4,0⟩) (fun j=>j≤l.length) (fun j=>l.length-j) ⟨0, [],Nat.zero_le _,by simp[gT]⟩ ?_
   intro j hj
   refine aa ?_
   by_cases hlt:j<l.length
   ·have e1:=CH (g:=g) hlt
    have g1:=ah (f:=mP) hlt
    have hlen:(gT g (l.take j)).length≤1000000000:=by simp[gT];omega
    have hm:=hmd j hlt
    rw[hm]at e1
    clear hm
    generalize l[j]=m at*
    obtain⟨n,x⟩:=m
    simp only[mP]at g1 e1
    clear hmd
    generalize gT g (l.take j)=D0 at*
    repeat' first|simp(disch:=omega) only[go_sem,g1,wrap_i64]|((with_reducible refine ab ?_ ?_)<;>intro h<;>try first|omega|simp(disch:=omega) only[go_sem, *,g1,wrap_i64])|(refine aJ rfl (by intro h;cases h) (aB rfl) (by simp;omega) (by simp;omega) ?_)
    exact⟨j+1, [(3,5)],hlt,by omega,by simp[e1]⟩
   ·obtain rfl:j=l.length:=by omega
    rw[List.take_of_length_le (Nat.le_refl _)]
    repeat' first|simp(disch:=omega) only[go_sem]|((with_reducible refine ab ?_ ?_)<;>intro h<;>try first|omega|simp(disch:=omega) only[go_sem, *])
  ·refine an (fun j:Nat=>⟨[(2,.c (.ptr 0 0)),(4,.c (.ptr 1 0)),(5,.c (.ptr 2 0)),(19,.c (.pure (aw l))),(20,I l.length),(21,I j)],
    [(0,.var [.pure (pI k),.pure (aw l)]),(1,.var [.pure (pI 0),.nils]),(2,.var [.pure (pI (0)),.ref 3]),(3,.arr 114 2 ((gT g (l.take j)).map mP))],4,0⟩) (fun j=>j≤l.length) (fun j=>l.length-j) ⟨0, [],Nat.zero_le _,by simp[gT]⟩ ?_
   intro j hj
   refine aa ?_
   by_cases hlt:j<l.length
   ·have e1:=CH (g:=g) hlt
    have g1:=ah (f:=mP) hlt
    have hlen:(gT g (l.take j)).length≤1000000000:=by simp[gT];omega
    have hm:=hmd j hlt
    rw[hm]at e1
    clear hm
    generalize l[j]=m at*
    obtain⟨n,x⟩:=m
    simp only[mP]at g1 e1
    clear hmd
    generalize gT g (l.take j)=D0 at*
    repeat' first|simp(disch:=omega) only[go_sem,g1,wrap_i64]|((with_reducible refine ab ?_ ?_)<;>intro h<;>try first|omega|simp(disch:=omega) only[go_sem, *,g1,wrap_i64])|(refine aJ rfl (by intro h;cases h) (aB rfl) (by simp;omega) (by simp;omega) ?_)
    exact⟨j+1, [(3,5)],hlt,by omega,by simp[e1]⟩
   ·obtain rfl:j=l.length:=by omega
    rw[List.take_of_length_le (Nat.le_refl _)]
    repeat' first|simp(disch:=omega) only[go_sem]|((with_reducible refine ab ?_ ?_)<;>intro h<;>try first|omega|simp(disch:=omega) only[go_sem, *])
 ·have hb': ¬(g:Int)=9223372036854775808:=by omega
  have w1:IntKind.wrap .i64 (g:Int)=g:=wrap_i64 (by omega)
  have hg': ¬(g:Int)=0:=by omega
  have p1:=rE hk hg hg2
  obtain⟨Q,hQ⟩: ∃Q,Q=k/(g:Int):=⟨_,rfl⟩
  rw[←hQ]at p1 ⊢
  clear hQ
  repeat' first|simp(disch:=omega) only[go_sem,hb',w1]|((with_reducible refine ab ?_ ?_)<;>intro h<;>try first|omega|simp(disch:=omega) only[go_sem, *,hb',w1])|(refine aF p1 rfl rfl ?_)
  refine cQ 2 1 114 2 _ rfl rfl (by decide) ?_
  refine an (fun j:Nat=>⟨[(1,U g),(2,.c (.ptr 0 0)),(4,.c (.ptr 1 0)),(5,.c (.ptr 2 0)),(42,.c (.pure (aw l))),(43,I l.length),(44,I j)],
   [(0,.var [.pure (pI k),.pure (aw l)]),(1,.var [.pure (pI 0),.nils]),(2,.var [.pure (pI (Q)),.ref 3]),(3,.arr 114 2 ((gT g (l.take j)).map mP))],4,0⟩) (fun j=>j≤l.length) (fun j=>l.length-j) ⟨0, [],Nat.zero_le _,by simp[gT]⟩ ?_
  intro j hj
  refine aa ?_
  by_cases hlt:j<l.length
  ·have e1:=CH (g:=g) hlt
   have g1:=ah (f:=mP) hlt
   have hlen:(gT g (l.take j)).length≤1000000000:=by simp[gT];omega
   have hm1:ay (l[j].2.tdiv (g:Int)):=(Dd (h64 _ (List.getElem_mem hlt)) hg hg2).1
   have hm2:l[j].2/(g:Int)=l[j].2.tdiv (g:Int):=by
    rw[Cp hg,if_neg]
    rw[Int.tmod_eq_zero_of_dvd (h0 _ (List.getElem_mem hlt)).2];omega
   rw[hm2]at e1
   have wm:=wrap_i64 (by unfold ay at hm1;exact hm1)
   clear hm1 hm2
   generalize l[j]=m at*
   obtain⟨n,x⟩:=m
   simp only[mP]at g1 e1
   skip
   generalize gT g (l.take j)=D0 at*
   repeat' first|simp(disch:=omega) only[go_sem,g1,wrap_i64,w1,hg',ne_eq,wm]|((with_reducible refine ab ?_ ?_)<;>intro h<;>try first|omega|simp(disch:=omega) only[go_sem, *,g1,wrap_i64,w1,hg',ne_eq,wm])|(refine aJ rfl (by intro h;cases h) (aB rfl) (by simp;omega) (by simp;omega) ?_)
   exact⟨j+1, [(3,5)],hlt,by omega,by simp[e1]⟩
  ·obtain rfl:j=l.length:=by omega
   rw[List.take_of_length_le (Nat.le_refl _)]
   repeat' first|simp(disch:=omega) only[go_sem]|((with_reducible refine ab ?_ ?_)<;>intro h<;>try first|omega|simp(disch:=omega) only[go_sem, *])
set_option maxRecDepth 20000
set_option maxRecDepth 1000000
theorem sF {c:bt} (h64:bX c) (hs:c.1.2.length≤1000000000):ac Tryz.prog lR [jM c] (aT (gL c)):=by
 refine ac.of tR (by simp) fun _=>aa ?_
 have pv:=b8 c
 have pt:=uI
 obtain⟨⟨k,l⟩,q⟩:=c
 obtain⟨hk,h64⟩:=h64
 simp only at hk h64 hs
 conv in lA=>cbv
 unfold gL
 simp only at pv ⊢
 by_cases hok:bi l
 ·rw[if_pos hok]at pv
  rw[if_neg (not_not_intro hok)]
  cases l with
  |nil=>
   rw[if_pos rfl]
   have pT:=pt true
   have pF:=pt false
   rw[if_pos rfl]at pT
   rw[if_neg (by decide)]at pF
   clear pt
   replace pT:ac Tryz.prog eI [Go.Abs.B true] (.tup [.agg [.pure (pI 0),.pure (aw []),.pure (pB false)],I 1,I 0]):=pT
   replace pF:ac Tryz.prog eI [Go.Abs.B false] (.tup [.agg [.pure (pI (-1)),.pure (aw []),.pure (pB false)],I 2,I 0]):=pF
   cases q
   ·by_cases h0:k=0
    ·subst h0
     rw[if_pos (.inl rfl)]
     repeat' first|simp(disch:=omega) only[go_sem, *]|((with_reducible apply ab)<;>intro h<;>try omega)|(refine aF pv rfl rfl ?_)|(refine cg pT rfl rfl ?_)|(refine cg pF rfl rfl ?_)
     all_goals rfl
    ·by_cases h1:0<k
     ·rw[if_pos (.inr ⟨h1,rfl⟩)]
      repeat' first|simp(disch:=omega) only[go_sem, *,h0]|((with_reducible apply ab)<;>intro h<;>try omega)|(refine aF pv rfl rfl ?_)|(refine cg pT rfl rfl ?_)|(refine cg pF rfl rfl ?_)
      all_goals rfl
     ·rw[if_neg (by omega)]
      repeat' first|simp(disch:=omega) only[go_sem, *,h0]|((with_reducible apply ab)<;>intro h<;>try omega)|(refine aF pv rfl rfl ?_)|(refine cg pT rfl rfl ?_)|(refine cg pF rfl rfl ?_)
      all_goals rfl
   ·by_cases h0:k=0
    ·subst h0
     rw[if_pos (.inl rfl)]
     repeat' first|simp(disch:=omega) only[go_sem, *]|((with_reducible apply ab)<;>intro h<;>try omega)|(refine aF pv rfl rfl ?_)|(refine cg pT rfl rfl ?_)|(refine cg pF rfl rfl ?_)
     all_goals rfl
    ·rw[if_neg (by rintro(h|h);exact h0 h;cases h.2)]
     repeat' first|simp(disch:=omega) only[go_sem, *,h0]|((with_reducible apply ab)<;>intro h<;>try omega)|(refine aF pv rfl rfl ?_)|(refine cg pT rfl rfl ?_)|(refine cg pF rfl rfl ?_)
     all_goals rfl
  |cons m r=>
   rw[if_neg (by simp)]
   have pF:=pt false
   rw[if_neg (by decide)]at pF
   clear pt
   replace pF:ac Tryz.prog eI [Go.Abs.B false] (.tup [.agg [.pure (pI (-1)),.pure (aw []),.pure (pB false)],I 2,I 0]):=pF
   have hall:=(cj.1 hok).2
   have hne:(m::r)≠ []:=by simp
   have hg:=OQ hne (fun x hx=>(hall x hx).2)
   have hg2:=Yc hne (fun x hx=>(hall x hx).2) h64
   have pg:=zu h64
   have pm:=rC hk hg
   have pd:=rZ (k:=k) hk h64 (fun x hx=>⟨(hall x hx).2,KE hx⟩) hg hg2 hs
   have hD64: ∀x∈gT (ii (m::r)) (m::r),ay x.2:=fun x hx=>by
    obtain⟨y,hy,rfl⟩:=List.mem_map.1 hx
    exact Im (h64 y hy) hg
   have hK64:=Im hk hg
   have hDok:=Rk hok
   have ps:=kS (a:=(k/(ii (m::r):Int),gT (ii (m::r)) (m::r))) (b:= -1) ⟨hK64,hD64⟩ (by unfold ay;omega) (by unfold short;simp only[gT,List.length_map];exact hs)
   rw[bO,if_neg (not_not_intro hDok),kB]at ps
   have hsc:((-1:Int)=0∨iK (k/(ii (m::r):Int),gT (ii (m::r)) (m::r)) (-1))↔(ay (-(k/(ii (m::r):Int)))∧ ∀x∈gT (ii (m::r)) (m::r),ay (-x.2)):=by
    simp[iK,Int.mul_neg]
   have hsv:dw (k/(ii (m::r):Int),gT (ii (m::r)) (m::r)) (-1)=(-(k/(ii (m::r):Int)),(gT (ii (m::r)) (m::r)).map fun x=>(x.1,-x.2)):=by
    simp[dw,Int.mul_neg]
   rw[hsv]at ps
   have hfirst:(m.2/(ii (m::r):Int)<0)↔((m::r).headD (.empty,0)).2<0:=by
    show _↔m.2<0
    have:=Int.ediv_nonneg_iff_of_pos (a:=m.2) (b:=(ii (m::r):Int)) (by omega)
    omega
   have gD:((gT (ii (m::r)) (m::r)).map mP)[0]? =some [pS m.1,pI (m.2/(ii (m::r):Int))]:=rfl
   generalize ((m::r).headD (.empty,0)).2=hd at*
   clear hsv hDok hD64 hK64 hall
   have e0: ¬(((m::r).length:Nat):Int)=0:=by simp;omega
   generalize gT (ii (m::r)) (m::r)=D at*
   generalize m.2/(ii (m::r):Int)=x0 at*
   generalize ii (m::r)=g at*
   generalize m.1=n0 at*
   generalize hL:m::r=L at*
   clear hL hok h64 hs hne m r
   generalize hnm:k.natAbs%g=M at*
   clear hnm
   generalize k/(g:Int)=K at*
   cases q
   ·rw[if_neg (by simp),if_neg (by simp)]
    clear hfirst hsc
    repeat' first|simp(disch:=omega) only[go_sem, *,e0]|((with_reducible apply ab)<;>intro h<;>try omega)|(refine aF pv rfl rfl ?_)|(refine aF pg rfl rfl ?_)|(refine aF pm rfl rfl ?_)|(refine cg pF rfl rfl ?_)|(refine cg pd rfl rfl ?_)|(refine cg ps rfl rfl ?_)
    all_goals rfl
   ·by_cases hM:M=0
    ·rw[decide_eq_true hM]at pm
     rw[if_neg (by simp[hM])]
     by_cases hx:x0<0
     ·rw[if_pos ⟨rfl,hfirst.1 hx⟩]
      by_cases hS:(-1:Int)=0∨iK (K,D) (-1)
      ·rw[if_pos hS]at ps
       rw[if_pos (hsc.1 hS)]
       clear hsc hS hfirst
       generalize (D.map fun x=>(x.1,-x.2))=D2 at*
       repeat' first|simp(disch:=omega) only[go_sem, *,e0,gD,Int.toNat_zero]|((with_reducible apply ab)<;>intro h<;>try omega)|(refine aF pv rfl rfl ?_)|(refine aF pg rfl rfl ?_)|(refine aF pm rfl rfl ?_)|(refine cg pF rfl rfl ?_)|(refine cg pd rfl rfl ?_)|(refine cg ps rfl rfl ?_)
       all_goals rfl
      ·rw[if_neg hS]at ps
       rw[if_neg (fun h=>hS (hsc.2 h))]
       clear hsc hS hfirst
       repeat' first|simp(disch:=omega) only[go_sem, *,e0,gD,Int.toNat_zero]|((with_reducible apply ab)<;>intro h<;>try omega)|(refine aF pv rfl rfl ?_)|(refine aF pg rfl rfl ?_)|(refine aF pm rfl rfl ?_)|(refine cg pF rfl rfl ?_)|(refine cg pd rfl rfl ?_)|(refine cg ps rfl rfl ?_)
       all_goals rfl
     ·rw[if_neg (fun h=>hx (hfirst.2 h.2))]
      clear hsc ps hfirst
      repeat' first|simp(disch:=omega) only[go_sem, *,e0,gD,Int.toNat_zero]|((with_reducible apply ab)<;>intro h<;>try omega)|(refine aF pv rfl rfl ?_)|(refine aF pg rfl rfl ?_)|(refine aF pm rfl rfl ?_)|(refine cg pF rfl rfl ?_)|(refine cg pd rfl rfl ?_)
      all_goals rfl
    ·rw[decide_eq_false hM]at pm
     rw[if_pos ⟨rfl,hM⟩]
     clear hsc ps hfirst
     repeat' first|simp(disch:=omega) only[go_sem, *,e0]|((with_reducible apply ab)<;>intro h<;>try omega)|(refine aF pv rfl rfl ?_)|(refine aF pg rfl rfl ?_)|(refine aF pm rfl rfl ?_)|(refine cg pF rfl rfl ?_)|(refine cg pd rfl rfl ?_)
     all_goals rfl
 ·rw[if_neg hok]at pv
  rw[if_pos hok]
  clear pt
  repeat' first|simp(disch:=omega) only[go_sem, *]|((with_reducible apply ab)<;>intro h<;>try omega)|(refine aF pv rfl rfl ?_)
  all_goals rfl
def iZ (c:bt):Prop:=c.1.2= []∧(c.1.1<0∨(c.2=true∧c.1.1≠0))
instance (c:bt):Decidable (iZ c):=Classical.propDecidable _
theorem fU (c:bt):ac Tryz.prog lB [jM c] (Go.Abs.B (decide (iZ c))):=by
 refine ac.of tD (by simp) fun _=>aa ?_
 obtain⟨⟨k,l⟩,q⟩:=c
 conv in lT=>cbv
 cases l with
 |nil=>
  have e:decide (iZ ((k, []),q))=(decide (k<0)||(q&&decide (k≠0))):=by
   rw[Bool.eq_iff_iff]
   simp[iZ]
  rw[e]
  by_cases h:k<0
  ·cases q
   ·repeat' first|simp(disch:=omega) only[go_sem, *]|((with_reducible apply ab)<;>intro h<;>try omega)
    all_goals simp[h]
   ·repeat' first|simp(disch:=omega) only[go_sem, *]|((with_reducible apply ab)<;>intro h<;>try omega)
    all_goals simp[h]
  ·by_cases h0:k=0
   ·subst h0
    cases q
    ·repeat' first|simp(disch:=omega) only[go_sem, *]|((with_reducible apply ab)<;>intro h<;>try omega)
     all_goals simp
    ·repeat' first|simp(disch:=omega) only[go_sem, *]|((with_reducible apply ab)<;>intro h<;>try omega)
     all_goals simp
   ·cases q
    ·repeat' first|simp(disch:=omega) only[go_sem, *,h0]|((with_reducible apply ab)<;>intro h<;>try omega)
     all_goals simp[h,h0]
    ·repeat' first|simp(disch:=omega) only[go_sem, *,h0]|((with_reducible apply ab)<;>intro h<;>try omega)
     all_goals simp[h,h0]
 |cons m r=>
  have e:decide (iZ ((k,m::r),q))=false:=decide_eq_false fun h=>by cases h.1
  rw[e]
  have e0: ¬(((m::r).length:Nat):Int)=0:=by simp;omega
  generalize m::r=L at*
  repeat' first|simp(disch:=omega) only[go_sem, *,e0]|((with_reducible apply ab)<;>intro h<;>try omega)
def kN (acc:List bt):List bt→List bt×Int
 | []=>(acc,0)
 |c::r=>if(gL c).2.2≠0 then([],(gL c).2.2)else kN (acc++ [(gL c).1]) r
def bL (l:List bt):List bt×Int:=if 256<l.length then([],2)else kN [] l
abbrev Mp (x:List bt×Int):AV:= .tup [bT x.1,I x.2]
theorem qH {l:List bt} (h64: ∀c∈l,bX c) (hs: ∀c∈l,c.1.2.length≤1000000000):ac Tryz.prog uP [bT l] (Mp (bL l)):=by
 refine ac.of EO (by simp) fun _=>aa ?_
 conv in wc=>cbv
 unfold bL
 by_cases hl:256<l.length
 ·rw[if_pos hl]
  repeat' first|simp(disch:=omega) only[go_sem, *]|((with_reducible apply ab)<;>intro h<;>try omega)
  all_goals rfl
 ·rw[if_neg hl]
  obtain⟨R,hR⟩: ∃R,R=kN [] (l.drop 0):=⟨_,rfl⟩
  have hR0:kN [] l=R:=hR.symm
  rw[hR0]
  have HR:=Lib.hid hR
  clear hR hR0
  repeat' first|simp(disch:=omega) only[go_sem, *]|((with_reducible apply ab)<;>intro h<;>try omega)
  refine dR 4 46 3 rfl (by decide) ?_
  refine an (fun s:Nat×List bt=>⟨[(4,.c (.ref 0)),(13,bT l),(14,I l.length),(15,I s.1)], [(0,.arr 46 3 (s.2.map cP))],1,0⟩) (fun s=>s.1≤l.length∧s.2.length≤s.1∧Hid (R=kN s.2 (l.drop s.1))) (fun s=>l.length-s.1) ⟨(0, []), [],⟨Nat.zero_le _,Nat.le_refl _,HR⟩,by simp⟩ ?_
  clear HR
  rintro⟨j,acc⟩ ⟨hj,hacc,HR⟩
  refine aa ?_
  simp only at hj hacc HR
  by_cases hlt:j<l.length
  ·have g1:=ah (f:=cP) hlt
   have pT:=sF (h64 _ (List.getElem_mem hlt)) (hs _ (List.getElem_mem hlt))
   have h2:=HR.out
   rw[List.drop_eq_getElem_cons hlt,kN]at h2
   clear HR
   generalize gL l[j]=T at*
   generalize l[j]=c at*
   obtain⟨⟨ck,cl⟩,q⟩:=c
   obtain⟨⟨⟨tk,tl⟩,tq⟩,tt,te⟩:=T
   simp only[cP]at g1
   simp only at h2
   by_cases he:te=0
   ·subst he
    rw[if_neg (by simp)]at h2
    have HR:=Lib.hid h2
    clear h2
    repeat' first|simp(disch:=omega) only[go_sem, *,g1,wrap_i64]|((with_reducible apply ab)<;>intro h<;>try omega)|(refine cg pT rfl rfl ?_)|(refine aJ rfl (by intro h;cases h) (aB rfl) (by simp;omega) (by simp;omega) ?_)
    exact⟨(j+1,acc++ [((tk,tl),tq)]), [(0,3)],⟨hlt,by simp;omega,HR⟩,by show _-_<_-_;omega,by simp[cP]⟩
   ·rw[if_pos he]at h2
    subst h2
    repeat' first|simp(disch:=omega) only[go_sem, *,g1,he,wrap_i64]|((with_reducible apply ab)<;>intro h<;>try omega)|(refine cg pT rfl rfl ?_)
    all_goals rfl
  ·have h2:=HR.out
   rw[List.drop_eq_nil_of_le (by omega),kN]at h2
   clear HR
   subst h2
   repeat' first|simp(disch:=omega) only[go_sem, *]|((with_reducible apply ab)<;>intro h<;>try omega)
   all_goals rfl
end
end Go.Proofs.YthbcbaembicdbaaGreatDoor
