import Derived.Test.YthbcbaembicdbaaGreatDoorVPq
set_option linter.unusedVariables false
set_option linter.unusedSimpArgs false
set_option maxRecDepth 20000
namespace Go.Proofs.YthbcbaembicdbaaGreatDoor
open Go.Abs Go.RowKit
abbrev Pf:=(Int×Int×aR)×List Int
abbrev pfP (y:Pf):List PC:= [pI y.1.1,pI y.1.2.1,pI y.1.2.2.1.1,aw y.1.2.2.1.2,pB y.1.2.2.2,mz y.2]
abbrev Xa (l:List Pf):AV:=gG pfP l
def XK (x:yA):Int×Int×aR:=(x.1,x.2.1,x.2.2.1)
def Up (y:MB):Pf:=(XK y.1,y.2)
theorem RB (l:List MB):l.map ZS=(l.map Up).map pfP:=by
 rw[List.map_map]
 rfl
noncomputable def Nm (p:bz) (L:List yA):Nat→List Pf→Int×Int
 |i, []=>if i<L.length then((i:Int),17)else(0,0)
 |i,y::r=>match L[i]? with
  |none=>((i:Int),17)
  |some x=>if y.1≠XK x then((i:Int),17)else if IM (iq p x) x.2.2.1 y.2≠0 then((i:Int),IM (iq p x) x.2.2.1 y.2)else Nm p L (i+1) r
noncomputable def Sq (p:bz) (l:List Pf):Int×Int:=if(bB p).2≠0 then bB p else Nm p (lG p) 0 l
theorem XQ {p:bz} {L:List yA} {l:List Pf} {i:Nat} (h:l.length≤i):Nm p L i (l.drop i)=if i<L.length then((i:Int),17)else(0,0):=by
 rw[List.drop_of_length_le h,Nm]
theorem Xp {p:bz} {L:List yA} {l:List Pf} {i:Nat} (h:i<l.length) (hL:L.length≤i):Nm p L i (l.drop i)=((i:Int),17):=by
 rw[List.drop_eq_getElem_cons h,Nm,List.getElem?_eq_none hL]
theorem YF {p:bz} {L:List yA} {l:List Pf} {i:Nat} {e:Int} (h:i<l.length) (hL:i<L.length) (hr:IM (iq p L[i]) L[i].2.2.1 l[i].2=e):Nm p L i (l.drop i)=if l[i].1≠XK L[i]then((i:Int),17)else if e≠0 then((i:Int),e)else Nm p L (i+1) (l.drop (i+1)):=by
 rw[List.drop_eq_getElem_cons h,Nm,List.getElem?_eq_getElem hL]
 simp only
 rw[hr]
theorem JU (a b:bU):af Tryz.prog D9 [dR a.1 a.2,dR b.1 b.2] (Go.Abs.B (decide (a=b))):=by
 refine af.of KE (by simp) λ_=>aa ?_
 simp only[F9]
 have pe:=nE a.2 b.2
 by_cases h1:a.1=b.1
 ·by_cases h2:a.2=b.2
  ·rw[decide_eq_true h2]at pe
   rw[decide_eq_true (Prod.ext h1 h2)]
   repeat' first|simp(disch:=omega) only[go_sem,h1]|((with_reducible refine ab ?_ ?_)<;>intro h<;>try first|omega|simp(disch:=omega) only[go_sem, *,h1])|(with_reducible apply ah)|(with_reducible refine aj (λh=> ?_) ?_)|(refine aY pe rfl rfl ?_)
   all_goals rfl
  ·rw[decide_eq_false h2]at pe
   rw[decide_eq_false (λh=>h2 (by rw[h]))]
   clear h2
   repeat' first|simp(disch:=omega) only[go_sem,h1]|((with_reducible refine ab ?_ ?_)<;>intro h<;>try first|omega|simp(disch:=omega) only[go_sem, *,h1])|(with_reducible apply ah)|(with_reducible refine aj (λh=> ?_) ?_)|(refine aY pe rfl rfl ?_)
   all_goals rfl
 ·rw[decide_eq_false (λh=>h1 (by rw[h]))]
  repeat' first|simp(disch:=omega) only[go_sem,h1]|((with_reducible refine ab ?_ ?_)<;>intro h<;>try first|omega|simp(disch:=omega) only[go_sem, *,h1])|(with_reducible apply ah)|(with_reducible refine aj (λh=> ?_) ?_)|(refine aY pe rfl rfl ?_)
  all_goals rfl
theorem wd (a b:aR):af Tryz.prog oN [iG a,iG b] (Go.Abs.B (decide (a=b))):=by
 refine af.of xE (by simp) λ_=>aa ?_
 simp only[oi]
 have pe:=JU a.1 b.1
 obtain⟨x,q⟩:=a
 obtain⟨y,r⟩:=b
 simp only at pe ⊢
 by_cases h2:x=y
 ·rw[decide_eq_true h2]at pe
  subst h2
  cases q<;>cases r
  all_goals
   first|rw[decide_eq_true (by rfl)]|rw[decide_eq_false (by simp)]
   repeat' first|simp(disch:=omega) only[go_sem, *]|((with_reducible apply ab)<;>intro h<;>try omega)|(with_reducible apply ah)|(with_reducible refine aj (λh=> ?_) ?_)|(refine aY pe rfl rfl ?_)
   all_goals rfl
 ·rw[decide_eq_false h2]at pe
  rw[decide_eq_false (λh=>h2 (Prod.ext_iff.1 h).1)]
  clear h2
  cases q<;>cases r
  all_goals
   repeat' first|simp(disch:=omega) only[go_sem, *]|((with_reducible apply ab)<;>intro h<;>try omega)|(with_reducible apply ah)|(with_reducible refine aj (λh=> ?_) ?_)|(refine aY pe rfl rfl ?_)
   all_goals rfl
set_option maxHeartbeats 4000000 in
theorem rR {p:bz} {l:List Pf} (hf:rI p) (h64:tP p) (hal:(bB p).2=0→Qm p) (hpr:(bB p).2=0→ ∀x∈lG p,GO p x) (hb64: ∀y∈l,∀x∈y.2,ar x):
  af Tryz.prog kQ [jE p,Xa l] (.tup [I (Sq p l).1,I (Sq p l).2]):=by
 refine af.of sU (by simp) λhb=>aa ?_
 have hll:l.length≤9223372036854775807:=by
  have:=hb.2.1
  simpa[iI,jt]using this
 simp only[lj]
 clear hb
 have pv:=eJ hf h64
 unfold Sq
 by_cases h0:(bB p).2=0
 ·have pa:=nO hf (hal h0)
  have hlen:=FC (hal h0)
  have hp:=hpr h0
  have pm: ∀x∈lG p,af Tryz.prog f8 [jE p,Z6 x.1 x.2.1 x.2.2] (bR (iq p x)):= λx hx=>ml (hp x hx)
  have pk: ∀x∈lG p,∀y∈l,af Tryz.prog eB [bR (iq p x),iG x.2.2.1,dc y.2] (I (IM (iq p x) x.2.2.1 y.2)):= λx hx y hy=>by
   obtain⟨_,_,q1,q2,q3,q4⟩:=hp x hx
   exact mX q2 q1.1 q3 q4 (hb64 y hy)
  rw[if_neg (not_not_intro h0)]
  rw[h0]at pv
  clear h0 hal hpr hp h64
  generalize lG p=L at*
  obtain⟨R,hR⟩: ∃R,R=Nm p L 0 l:=⟨_,rfl⟩
  rw[←hR]
  have HR:Hid (Nm p L 0 (l.drop 0)=R):=Lib.hid hR.symm
  clear hR
  repeat' first|simp(disch:=omega) only[go_sem, *]|((with_reducible apply ab)<;>intro h<;>try omega)|(with_reducible apply ah)|(with_reducible refine aj (λh=> ?_) ?_)|(refine aY pv rfl rfl ?_)|(refine el pa rfl rfl ?_)
  refine ap (λi:Nat=>⟨[(1,Xa l),(2,.c (.ptr 0 0)),(8,gG a6 L),(23,Xa l),(24,I l.length),(25,I i)], [(0,kx p)],1,0⟩) (λi=>i≤l.length∧Hid (Nm p L i (l.drop i)=R)) (λi=>l.length-i) ⟨0, [],⟨by omega,HR⟩,by simp⟩ ?_
  clear pv pa HR
  rintro i ⟨hi,hr⟩
  refine aa ?_
  have hd:=hr.out
  clear hr
  by_cases hlt:i<l.length
  ·have g1:(l.map pfP)[i]? =some (pfP l[i]):=ai (f:=pfP) hlt
   by_cases hltL:i<L.length
   ·have g2:(L.map a6)[i]? =some (rw6 L[i]):=ai (f:=a6) hltL
    have p1:=pm _ (List.getElem_mem hltL)
    have p2:=pk _ (List.getElem_mem hltL) _ (List.getElem_mem hlt)
    have p3:=wd l[i].1.2.2 L[i].2.2.1
    obtain⟨e,he⟩: ∃e,e=IM (iq p L[i]) L[i].2.2.1 l[i].2:=⟨_,rfl⟩
    rw[YF hlt hltL he.symm]at hd
    rw[←he]at p2
    clear he pm pk
    by_cases hk:l[i].1=XK L[i]
    ·have k1:l[i].1.1=L[i].1:=by rw[hk];rfl
     have k2:l[i].1.2.1=L[i].2.1:=by rw[hk];rfl
     have k3:l[i].1.2.2=L[i].2.2.1:=by rw[hk];rfl
     rw[if_neg (not_not_intro hk)]at hd
     rw[decide_eq_true k3]at p3
     clear hk k3
     by_cases h0:e=0
     ·subst h0
      rw[if_neg (by simp)]at hd
      have HD:=Lib.hid hd
      clear hd
      repeat' first|simp(disch:=omega) only[go_sem, *,g1,g2,k1,k2,wrap_i64]|((with_reducible apply ab)<;>intro h<;>try omega)|(with_reducible apply ah)|(with_reducible refine aj (λh=> ?_) ?_)|(refine aY p3 rfl rfl ?_)|(refine el p1 rfl rfl ?_)|(refine aY p2 rfl rfl ?_)
      all_goals exact⟨i+1, [],⟨by omega,HD⟩,by omega,by simp⟩
     ·rw[if_pos h0]at hd
      subst hd
      repeat' first|simp(disch:=omega) only[go_sem, *,g1,g2,k1,k2,h0]|((with_reducible apply ab)<;>intro h<;>try omega)|(with_reducible apply ah)|(with_reducible refine aj (λh=> ?_) ?_)|(refine aY p3 rfl rfl ?_)|(refine el p1 rfl rfl ?_)|(refine aY p2 rfl rfl ?_)
      all_goals rfl
    ·rw[if_pos hk]at hd
     subst hd
     by_cases k1:l[i].1.1=L[i].1
     ·by_cases k2:l[i].1.2.1=L[i].2.1
      ·have k3: ¬l[i].1.2.2=L[i].2.2.1:= λh=>hk (Prod.ext k1 (Prod.ext k2 h))
       rw[decide_eq_false k3]at p3
       clear hk k3
       repeat' first|simp(disch:=omega) only[go_sem, *,g1,g2,k1,k2]|((with_reducible apply ab)<;>intro h<;>try omega)|(with_reducible apply ah)|(with_reducible refine aj (λh=> ?_) ?_)|(refine aY p3 rfl rfl ?_)
       all_goals rfl
      ·clear hk
       repeat' first|simp(disch:=omega) only[go_sem, *,g1,g2,k1,k2]|((with_reducible apply ab)<;>intro h<;>try omega)|(with_reducible apply ah)|(with_reducible refine aj (λh=> ?_) ?_)|(refine aY p3 rfl rfl ?_)
       all_goals rfl
     ·clear hk
      repeat' first|simp(disch:=omega) only[go_sem, *,g1,g2,k1]|((with_reducible apply ab)<;>intro h<;>try omega)|(with_reducible apply ah)|(with_reducible refine aj (λh=> ?_) ?_)|(refine aY p3 rfl rfl ?_)
      all_goals rfl
   ·rw[Xp hlt (by omega)]at hd
    subst hd
    clear pm pk
    repeat' first|simp(disch:=omega) only[go_sem, *,g1]|((with_reducible apply ab)<;>intro h<;>try omega)|(with_reducible apply ah)|(with_reducible refine aj (λh=> ?_) ?_)
    all_goals rfl
  ·obtain rfl:i=l.length:=by omega
   rw[XQ (Nat.le_refl _)]at hd
   by_cases hlL:l.length<L.length
   ·rw[if_pos hlL]at hd
    subst hd
    repeat' first|simp(disch:=omega) only[go_sem, *]|((with_reducible apply ab)<;>intro h<;>try omega)
    all_goals rfl
   ·rw[if_neg hlL]at hd
    subst hd
    repeat' first|simp(disch:=omega) only[go_sem, *]|((with_reducible apply ab)<;>intro h<;>try omega)
    all_goals rfl
 ·rw[if_pos h0]
  clear hal hpr
  repeat' first|simp(disch:=omega) only[go_sem, *,h0]|((with_reducible apply ab)<;>intro h<;>try omega)|(refine aY pv rfl rfl ?_)
  all_goals rfl
end Go.Proofs.YthbcbaembicdbaaGreatDoor
