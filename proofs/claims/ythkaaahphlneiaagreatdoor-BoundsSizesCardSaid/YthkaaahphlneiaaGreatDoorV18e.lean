import Derived.Test.YthkaaahphlneiaaGreatDoorV18m
import Derived.Test.YthkaaahphlneiaaGreatDoorP18w
import Derived.Test.YthkaaahphlneiaaGreatDoorAbs28
import Derived.Test.YthkaaahphlneiaaGreatDoorV17a
set_option linter.unusedVariables false
set_option linter.unusedSimpArgs false
set_option maxRecDepth 20000
set_option maxHeartbeats 4000000
set_option maxRecDepth 1000000
namespace Go.Proofs.YthkaaahphlneiaaGreatDoor
open Go.Abs Go.RowKit
abbrev Sm (x:List gf×Int):AV:= .tup [ej x.1,I x.2]
def wt (f:ca):gf:=((-1-f.1,f.2.map fun m=>(m.1,-m.2)),false)
def X4 (f:ca):gf:=((f.1-1,f.2),false)
def mJ (l:List aP):Prop:= ∃m∈l,m.2= -9223372036854775808
noncomputable instance (l:List aP):Decidable (mJ l):=Classical.propDecidable _
noncomputable def gO (c:gf):List gf×Int:=
 if ¬cd c.1.2 then([],1)else if mJ c.1.2 then([],3)else if c.2=false then([wt c.1],0)
 else if c.1.1= -9223372036854775808 then([],3)else([X4 c.1,wt c.1],0)
theorem Tj {f:ca} (h:bj f) (hm: ¬mJ f.2):fR (wt f):=by
 refine⟨?_,fun m hm'=> ?_⟩
 ·have:=h.1
  show aA (-1-f.1)
  unfold aA at*
  omega
 ·obtain⟨z,hz,rfl⟩:=List.mem_map.1 hm'
  have h1:=h.2 z hz
  have h2:z.2≠ -9223372036854775808:=fun e=>hm ⟨z,hz,e⟩
  show aA (-z.2)
  unfold aA at*
  omega
def tN (l:List aP):List aP:=l.map fun m=>(m.1,-m.2)
noncomputable def y5 (f:ca):ca×Int:=if mJ f.2 then((0, []),3)else((-1-f.1,tN f.2),0)
theorem Id {l:List aP} {k:Nat} (h:k<l.length):(tN (l.take (k+1))).map mP=(tN (l.take k)).map mP++ [[pS l[k].1,pI (-l[k].2)]]:=by
 rw[List.take_succ_eq_append_getElem h]
 show((l.take k++ [l[k]]).map _).map mP=_
 rw[List.map_append,List.map_append]
 rfl
theorem DK {l:List aP} {k:Nat} (h:k<l.length) (h0: ¬mJ (l.take k)) (h1:l[k].2≠ -9223372036854775808): ¬mJ (l.take (k+1)):=by
 rw[List.take_succ_eq_append_getElem h]
 rintro⟨m,hm,e⟩
 rcases List.mem_append.1 hm with hm|hm
 ·exact h0 ⟨m,hm,e⟩
 ·rw[List.mem_singleton.1 hm]at e;exact h1 e
theorem iR {f:ca} (h64:bj f) (hs:ft f.2):ac Tryz.prog jL [dj f.1 f.2] (KA (y5 f)):=by
 refine ac.of qU (by simp) fun _=>aa ?_
 simp only[jN]
 obtain⟨K,l⟩:=f
 obtain⟨hK,hl⟩:=h64
 unfold ft at hs
 simp only at hK hl hs ⊢
 have wk:IntKind.wrap .i64 (-1-K)= -1-K:=wrap_i64 (by unfold aA at hK;omega)
 obtain⟨R,hR⟩: ∃R,R=y5 (K,l):=⟨_,rfl⟩
 rw[←hR]
 have HR:=Lib.hid hR
 clear hR hK
 repeat' first|simp(disch:=omega) only[go_sem, *,wk]|((with_reducible refine ab ?_ ?_)<;>intro h<;>try omega)
 refine fc 2 1 89 2 _ rfl rfl (by decide) ?_
 refine aj (fun j:Nat=>⟨[(2,.c (.ptr 1 0)),(4,.c (.ptr 2 0)),(12,.c (.pure (aE l))),(13,I l.length),(14,I j)],
  [(0,.var [.pure (pI K),.pure (aE l)]),(1,.var [.pure (pI 0),.nils]),(2,.var [.pure (pI (-1-K)),.ref 3]),(3,.arr 89 2 ((tN (l.take j)).map mP))],4,0⟩) (fun j=>j≤l.length∧Hid (¬mJ (l.take j))) (fun j=>l.length-j) ⟨0, [],⟨Nat.zero_le _,Lib.hid (by simp[mJ])⟩,by simp[tN]⟩ ?_
 rintro j ⟨hj,HM⟩
 refine aa ?_
 by_cases hlt:j<l.length
 ·have e1:=Id hlt
  have g1:=ae (f:=mP) hlt
  have hlen:(tN (l.take j)).length≤1000000000:=by simp[tN];omega
  have hx:=hl _ (List.getElem_mem hlt)
  by_cases hm:l[j].2= -9223372036854775808
  ·have h2:R=((0, []),3):=by rw[HR.out,y5,if_pos ⟨_,List.getElem_mem hlt,hm⟩]
   subst h2
   clear HR HM
   generalize l[j]=m at*
   obtain⟨n,x⟩:=m
   simp only[mP]at g1 e1
   simp only at hm hx
   subst hm
   repeat' first|simp(disch:=omega) only[go_sem, *,g1,wrap_i64]|((with_reducible refine ab ?_ ?_)<;>intro h<;>try omega)
   all_goals rfl
  ·have HM':Hid (¬mJ (l.take (j+1))):=Lib.hid (DK hlt HM.out hm)
   clear HM
   generalize l[j]=m at*
   obtain⟨n,x⟩:=m
   simp only[mP]at g1 e1
   simp only at hm hx
   have wx:IntKind.wrap .i64 (-x)= -x:=wrap_i64 (by unfold aA at hx;omega)
   generalize tN (l.take j)=D0 at*
   repeat' first|simp(disch:=omega) only[go_sem, *,g1,wrap_i64,hm,wx]|((with_reducible refine ab ?_ ?_)<;>intro h<;>try omega)|(refine aN rfl (by intro h;cases h) (aI rfl) (by simp;omega) (by simp;omega) ?_)
   exact⟨j+1, [(3,5)],⟨hlt,HM'⟩,by omega,by simp[e1,wx]⟩
 ·obtain rfl:j=l.length:=by omega
  have hM:=HM.out
  rw[List.take_of_length_le (Nat.le_refl _)]at hM
  have h2:R=((-1-K,tN l),0):=by rw[HR.out,y5,if_neg hM]
  subst h2
  clear HR HM hM
  rw[List.take_of_length_le (Nat.le_refl _)]
  repeat' first|simp(disch:=omega) only[go_sem, *]|((with_reducible refine ab ?_ ?_)<;>intro h<;>try omega)
  all_goals rfl
theorem K0 {c:gf} (hok:cd c.1.2):gO c=if(y5 c.1).2≠0 then([],(y5 c.1).2)else if c.2=false then([((y5 c.1).1,false)],0)else if c.1.1= -9223372036854775808 then([],3)else([((c.1.1-1,c.1.2),false),((y5 c.1).1,false)],0):=by
 unfold gO y5
 rw[if_neg (not_not_intro hok)]
 by_cases h:mJ c.1.2
 ·rw[if_pos h,if_pos h,if_pos (by decide)]
 ·rw[if_neg h,if_neg h]
  simp only[ne_eq,not_true_eq_false,if_false]
  rfl
theorem sR {c:gf} (h64:fR c) (hs:ft c.1.2):ac Tryz.prog gX [nI c] (Sm (gO c)):=by
 refine ac.of kE (by simp) fun _=>aa ?_
 simp only[gW]
 have pv:=ff c
 by_cases hok:cd c.1.2
 ·have po:=iR (f:=c.1) h64 hs
  rw[K0 hok]
  rw[if_pos hok]at pv
  have hK:=h64.1
  generalize y5 c.1=O at*
  obtain⟨⟨OK,OL⟩,oe⟩:=O
  obtain⟨⟨K,l⟩,q⟩:=c
  unfold ft at hs
  try simp only at po pv hs hK ⊢
  clear hok h64
  unfold aA at hK
  by_cases h0:oe=0
  ·subst h0
   rw[if_neg (by simp)]
   cases q
   ·rw[if_pos rfl]
    repeat' first|simp(disch:=omega) only[go_sem, *]|((with_reducible refine ab ?_ ?_)<;>intro h<;>try omega)|(refine av pv rfl rfl ?_)|(refine bS po rfl rfl ?_)
    all_goals rfl
   ·rw[if_neg (by simp)]
    by_cases h1:K= -9223372036854775808
    ·rw[if_pos h1]
     subst h1
     repeat' first|simp(disch:=omega) only[go_sem, *]|((with_reducible refine ab ?_ ?_)<;>intro h<;>try omega)|(refine av pv rfl rfl ?_)|(refine bS po rfl rfl ?_)
     all_goals rfl
    ·rw[if_neg h1]
     have wk:IntKind.wrap .i64 (K-1)=K-1:=wrap_i64 (by omega)
     have hro:bl 2 (l.map mP):=ar fun _=>rfl
     repeat' first|simp(disch:=omega) only[go_sem, *,h1,wk]|((with_reducible refine ab ?_ ?_)<;>intro h<;>try omega)|(with_reducible refine af ?_ ?_)|(with_reducible refine ag (fun h=> ?_) ?_)|(refine av pv rfl rfl ?_)|(refine bS po rfl rfl ?_)|(refine El hro (by simp;omega) (by simp;omega) ?_)
     all_goals rfl
  ·rw[if_pos h0]
   repeat' first|simp(disch:=omega) only[go_sem, *,h0]|((with_reducible refine ab ?_ ?_)<;>intro h<;>try omega)|(refine av pv rfl rfl ?_)|(refine bS po rfl rfl ?_)
   all_goals rfl
 ·rw[if_neg hok]at pv
  rw[gO,if_pos hok]
  obtain⟨⟨K,l⟩,q⟩:=c
  try simp only at pv ⊢
  clear hok
  repeat' first|simp(disch:=omega) only[go_sem, *]|((with_reducible refine ab ?_ ?_)<;>intro h<;>try omega)|(refine av pv rfl rfl ?_)
  all_goals rfl
theorem xl (c:gf):ac Tryz.prog ki [nI c] (I (if cd c.1.2 then 0 else 1)):=by
 refine ac.of yV (by simp) fun _=>aa ?_
 conv in qr=>cbv
 have pv:=dT c.1.1 c.1.2
 obtain⟨⟨k,l⟩,q⟩:=c
 try simp only at pv ⊢
 by_cases h:cd l
 ·rw[decide_eq_true h]at pv
  rw[if_pos h]
  clear h
  repeat' first|simp(disch:=omega) only[go_sem, *]|((with_reducible refine ab ?_ ?_)<;>intro h<;>try omega)|(refine av pv rfl rfl ?_)
  all_goals rfl
 ·rw[decide_eq_false h]at pv
  rw[if_neg h]
  clear h
  repeat' first|simp(disch:=omega) only[go_sem, *]|((with_reducible refine ab ?_ ?_)<;>intro h<;>try omega)|(refine av pv rfl rfl ?_)
  all_goals rfl
theorem SM {K:Int} (h:aA K):IntKind.wrap .i64 (((BitVec.ofInt 64 (if IntKind.signed .i64=true then-1 else 9223372036854775807)^^^BitVec.ofInt 64 K).toNat:Nat):Int)= -1-K:=by
 have e:BitVec.ofInt 64 (if IntKind.signed .i64=true then(-1)else 9223372036854775807)=BitVec.allOnes 64:=by decide
 rw[e,BitVec.allOnes_xor,BitVec.toNat_not,BitVec.toNat_ofInt,IntKind.wrap_i64]
 unfold aA at h
 have h1:((2^64:Nat):Int)=18446744073709551616:=by decide
 have h2:(2^64:Nat)=18446744073709551616:=by decide
 rw[h1,h2]
 omega
set_option maxHeartbeats 2000000 in
theorem AM {c:gf} (h64:fR c) (hs:ft c.1.2):ac Tryz.prog uT [nI c] (Sm (gO c)):=by
 refine ac.of BX (by simp) fun _=>aa ?_
 simp only[ul]
 have pv:=xl c
 by_cases hok:cd c.1.2
 ·rw[K0 hok]
  rw[if_pos hok]at pv
  obtain⟨hK,hl⟩:=h64
  obtain⟨⟨K,l⟩,q⟩:=c
  unfold ft at hs
  try simp only at pv hs hK hl ⊢
  clear hok
  have wk:=SM hK
  obtain⟨R,hR⟩: ∃R,R=y5 (K,l):=⟨_,rfl⟩
  rw[←hR]
  have HR:=Lib.hid hR
  clear hR
  repeat' first|simp(disch:=omega) only[go_sem, *,wk]|((with_reducible refine ab ?_ ?_)<;>intro h<;>try omega)|(refine av pv rfl rfl ?_)
  refine fc 1 1 89 2 _ rfl rfl (by decide) ?_
  refine aj (fun j:Nat=>⟨[(1,.c (.ptr 0 0)),(5,.c (.ptr 1 0)),(6,I j)],
   [(0,.var [.pure (pI K),.pure (aE l),.pure (pB q)]),(1,.var [.pure (pI (-1-K)),.ref 2,.pure (pB false)]),(2,.arr 89 2 ((tN (l.take j)).map mP))],3,0⟩) (fun j=>j≤l.length∧Hid (¬mJ (l.take j))) (fun j=>l.length-j) ⟨0, [],⟨Nat.zero_le _,Lib.hid (by simp[mJ])⟩,by(simp[tN];exact wk)⟩ ?_
  rintro j ⟨hj,HM⟩
  refine aa ?_
  by_cases hlt:j<l.length
  ·have e1:=Id hlt
   have g1:=ae (f:=mP) hlt
   have hlen:(tN (l.take j)).length≤1000000000:=by simp[tN];omega
   have hx:=hl _ (List.getElem_mem hlt)
   by_cases hm:l[j].2= -9223372036854775808
   ·have h2:R=((0, []),3):=by rw[HR.out,y5,if_pos ⟨_,List.getElem_mem hlt,hm⟩]
    subst h2
    rw[if_pos (by decide)]
    clear HR HM
    generalize l[j]=m at*
    obtain⟨n,x⟩:=m
    simp only[mP]at g1 e1
    simp only at hm hx
    subst hm
    repeat' first|simp(disch:=omega) only[go_sem, *,g1,wrap_i64]|((with_reducible refine ab ?_ ?_)<;>intro h<;>try omega)
    all_goals rfl
   ·have HM':Hid (¬mJ (l.take (j+1))):=Lib.hid (DK hlt HM.out hm)
    clear HM
    generalize l[j]=m at*
    obtain⟨n,x⟩:=m
    simp only[mP]at g1 e1
    simp only at hm hx
    have wx:IntKind.wrap .i64 (-x)= -x:=wrap_i64 (by unfold aA at hx;omega)
    generalize tN (l.take j)=D0 at*
    repeat' first|simp(disch:=omega) only[go_sem, *,g1,wrap_i64,hm,wx]|((with_reducible refine ab ?_ ?_)<;>intro h<;>try omega)|(refine aN rfl (by intro h;cases h) (aI rfl) (by simp;omega) (by simp;omega) ?_)
    exact⟨j+1, [(2,3)],⟨hlt,HM'⟩,by omega,by simp[e1,wx]⟩
  ·obtain rfl:j=l.length:=by omega
   have hM:=HM.out
   rw[List.take_of_length_le (Nat.le_refl _)]at hM
   have h2:R=((-1-K,tN l),0):=by rw[HR.out,y5,if_neg hM]
   subst h2
   rw[if_neg (by simp)]
   clear HR HM hM
   rw[List.take_of_length_le (Nat.le_refl _)]
   cases q
   ·rw[if_pos rfl]
    repeat' first|simp(disch:=omega) only[go_sem, *]|((with_reducible refine ab ?_ ?_)<;>intro h<;>try omega)
    all_goals rfl
   ·rw[if_neg (by simp)]
    by_cases h1:K= -9223372036854775808
    ·rw[if_pos h1]
     subst h1
     repeat' first|simp(disch:=omega) only[go_sem, *]|((with_reducible refine ab ?_ ?_)<;>intro h<;>try omega)
     all_goals rfl
    ·rw[if_neg h1]
     have wk2:IntKind.wrap .i64 (K-1)=K-1:=wrap_i64 (by unfold aA at hK;omega)
     repeat' first|simp(disch:=omega) only[go_sem, *,h1,wk2]|((with_reducible refine ab ?_ ?_)<;>intro h<;>try omega)
     refine fc 3 1 89 2 _ rfl rfl (by decide) ?_
     refine aj (fun j:Nat=>⟨[(1,.c (.ptr 0 0)),(5,.c (.ptr 1 0)),(7,.c (.ptr 3 0)),(8,I j)],
      [(0,.var [.pure (pI K),.pure (aE l),.pure (pB true)]),(1,.var [.pure (pI (-1-K)),.ref 2,.pure (pB false)]),(2,.arr 89 2 ((tN l).map mP)),(3,.var [.pure (pI (K-1)),.ref 4,.pure (pB false)]),(4,.arr 89 2 ((l.take j).map mP))],5,0⟩) (fun j=>j≤l.length) (fun j=>l.length-j) ⟨0, [],Nat.zero_le _,by simp⟩ ?_
     intro j hj
     refine aa ?_
     by_cases hlt:j<l.length
     ·have g1:=ae (f:=mP) hlt
      have e1:(l.take (j+1)).map mP=(l.take j).map mP++ [mP l[j]]:=by rw[List.take_succ_eq_append_getElem hlt,List.map_append];rfl
      have hlen:(l.take j).length≤1000000000:=by simp;omega
      generalize l[j]=m at*
      obtain⟨n,x⟩:=m
      simp only[mP]at g1 e1
      generalize l.take j=D0 at*
      repeat' first|simp(disch:=omega) only[go_sem, *,g1,wrap_i64]|((with_reducible refine ab ?_ ?_)<;>intro h<;>try omega)|(refine aN rfl (by intro h;cases h) (aI rfl) (by simp;omega) (by simp;omega) ?_)
      exact⟨j+1, [(4,5)],hlt,by omega,by simp[e1]⟩
     ·obtain rfl:j=l.length:=by omega
      rw[List.take_of_length_le (Nat.le_refl _)]
      repeat' first|simp(disch:=omega) only[go_sem, *]|((with_reducible refine ab ?_ ?_)<;>intro h<;>try omega)
      all_goals rfl
 ·rw[if_neg hok]at pv
  rw[gO,if_pos hok]
  obtain⟨⟨K,l⟩,q⟩:=c
  try simp only at pv ⊢
  clear hok
  repeat' first|simp(disch:=omega) only[go_sem, *]|((with_reducible refine ab ?_ ?_)<;>intro h<;>try omega)|(refine av pv rfl rfl ?_)
  all_goals rfl
abbrev LB:=ca×Bool
abbrev CB:=List gf×Bool
abbrev lq:LB:=((0, []),false)
noncomputable def UF (x:ca×Int):LB:=(x.1,decide (x.2=0))
noncomputable def yP (op:Int) (val:Fr) (ty:Ty) (l:ca) (az:List LB):LB:=
 if op=2 then(l,true)else if op=1 then((val.1, []),decide (ty.1=3))
 else if op=8 then(if(az.getD 0 lq).2=true then UF (bJ (az.getD 0 lq).1 (-1))else lq)
 else if op=4∨op=5 then(if(az.getD 0 lq).2=true∧(az.getD 1 lq).2=true then UF (if op=5 then kH (az.getD 1 lq).1 (az.getD 0 lq).1 else fV (az.getD 0 lq).1 (az.getD 1 lq).1)else lq)
 else lq
noncomputable def lN (op:Int) (val:Fr) (ty:Ty) (l:ca) (az:List LB):LB:=
 if op=2 then(l,true)else if op=1 then((val.1, []),decide (ty.1=3))
 else if op=8 then((bJ (az.getD 0 lq).1 (-1)).1,(az.getD 0 lq).2&&decide ((bJ (az.getD 0 lq).1 (-1)).2=0))
 else if op=5 then((fV (az.getD 0 lq).1 (bJ (az.getD 1 lq).1 (-1)).1).1,(az.getD 0 lq).2&&(az.getD 1 lq).2&&decide ((bJ (az.getD 1 lq).1 (-1)).2=0)&&decide ((fV (az.getD 0 lq).1 (bJ (az.getD 1 lq).1 (-1)).1).2=0))
 else if op=4 then((fV (az.getD 0 lq).1 (az.getD 1 lq).1).1,(az.getD 0 lq).2&&(az.getD 1 lq).2&&true&&decide ((fV (az.getD 0 lq).1 (az.getD 1 lq).1).2=0))
 else lq
mutual
noncomputable def dH:Ex→LB
 | .mk op _ val ty lin _ args=>yP op val ty lin (Ht args)
noncomputable def Ht:List Ex→List LB
 | []=> []
 |e::r=>dH e::Ht r
end
mutual
noncomputable def dP:Ex→LB
 | .mk op _ val ty lin _ args=>lN op val ty lin (Ko args)
noncomputable def Ko:List Ex→List LB
 | []=> []
 |e::r=>dP e::Ko r
end
theorem DM: ∀l:List Ex,Ht l=l.map dH
 | []=>by rw[Ht];rfl
 |e::r=>by rw[Ht,DM r];rfl
theorem LN: ∀l:List Ex,Ko l=l.map dP
 | []=>by rw[Ko];rfl
 |e::r=>by rw[Ko,LN r];rfl
theorem IY (e:Ex):dH e=yP e.op e.val e.ty e.lin (e.args.map dH):=by
 obtain⟨op,name,val,ty,lin,idx,args⟩:=e
 rw[dH,DM]
 rfl
theorem Jg (e:Ex):dP e=lN e.op e.val e.ty e.lin (e.args.map dP):=by
 obtain⟨op,name,val,ty,lin,idx,args⟩:=e
 rw[dP,LN]
 rfl
def OJ (a b:LB):Prop:=a.2=b.2∧(a.2=true→a.1=b.1)
theorem Lh {l:List Ex} {f:Ex→LB} {k:Nat}:((l.map f).getD k lq)=match l[k]? with|some a=>f a|none=>lq:=by
 rw[List.getD_eq_getElem?_getD,List.getElem?_map]
 cases l[k]? <;>rfl
theorem HJ {l:List Ex} (h: ∀a∈l,OJ (dH a) (dP a)) (k:Nat):OJ ((l.map dH).getD k lq) ((l.map dP).getD k lq):=by
 rw[Lh,Lh]
 cases hk:l[k]? with
 |none=>exact⟨rfl,fun _=>rfl⟩
 |some a=>exact h a (List.mem_of_getElem? hk)
theorem Vy (e:Ex):OJ (dH e) (dP e):=by
 refine Ex.ind (p:=fun e=>OJ (dH e) (dP e)) (fun e ih=> ?_) e
 have h0:=HJ ih 0
 have h1:=HJ ih 1
 rw[IY,Jg]
 unfold yP lN
 generalize (e.args.map dH).getD 0 lq=a at*
 generalize (e.args.map dP).getD 0 lq=a' at*
 generalize (e.args.map dH).getD 1 lq=b at*
 generalize (e.args.map dP).getD 1 lq=b' at*
 obtain⟨a1,a2⟩:=a
 obtain⟨b1,b2⟩:=b
 obtain⟨a1',a2'⟩:=a'
 obtain⟨b1',b2'⟩:=b'
 obtain⟨h0,h0'⟩:=h0
 obtain⟨h1,h1'⟩:=h1
 simp only at h0 h0' h1 h1'
 subst h0
 subst h1
 by_cases k2:e.op=2
 ·simp only[k2,if_pos];exact⟨rfl,fun _=>rfl⟩
 by_cases k1:e.op=1
 ·simp only[k2,k1,if_pos,if_neg,not_false_eq_true];exact⟨rfl,fun _=>rfl⟩
 by_cases k8:e.op=8
 ·rw[if_neg k2,if_neg k1,if_pos k8,if_neg k2,if_neg k1,if_pos k8]
  cases a2
  ·exact⟨by simp,by simp⟩
  ·obtain rfl:=h0' rfl
   rw[if_pos rfl]
   exact⟨by simp[UF],fun _=>rfl⟩
 by_cases k5:e.op=5
 ·simp only[k5,show ¬(5:Int)=2 by decide,show ¬(5:Int)=1 by decide,show ¬(5:Int)=8 by decide,if_false,or_true,if_true]
  cases a2
  ·exact⟨by simp,by simp⟩
  ·cases b2
   ·exact⟨by simp,by simp⟩
   ·obtain rfl:=h0' rfl
    obtain rfl:=h1' rfl
    rw[if_pos ⟨rfl,rfl⟩]
    unfold UF kH
    by_cases hs:(bJ b1 (-1)).2=0
    ·rw[if_neg (not_not_intro hs)]
     exact⟨by simp[hs],fun _=>rfl⟩
    ·rw[if_pos hs]
     exact⟨by simp[hs],fun h=>by simp[hs]at h⟩
 by_cases k4:e.op=4
 ·simp only[k4,show ¬(4:Int)=2 by decide,show ¬(4:Int)=1 by decide,show ¬(4:Int)=8 by decide,show ¬(4:Int)=5 by decide,if_false,or_false,if_true]
  cases a2
  ·exact⟨by simp,by simp⟩
  ·cases b2
   ·exact⟨by simp,by simp⟩
   ·obtain rfl:=h0' rfl
    obtain rfl:=h1' rfl
    rw[if_pos ⟨rfl,rfl⟩]
    exact⟨by simp[UF],fun _=>rfl⟩
 ·simp only[k2,k1,k8,k5,k4,if_false,or_false]
  exact⟨rfl,fun _=>rfl⟩
noncomputable def sF (op:Int) (a b:ca):ca×Int:=if op=13 then nJ a b else kH a b
noncomputable def Xm (x:ca×Int) (q:Bool):CB:=if x.2=0 then([(x.1,q)],true)else([],false)
theorem UL (op:Int) (a b:ca):bj (sF op a b).1∧(sF op a b).1.2.length≤a.2.length+b.2.length:=by
 unfold sF
 split
 ·exact⟨OM _ _,S9 _ _⟩
 ·exact⟨JC _ _,xX _ _⟩
noncomputable def zQ (r:CB):CB:=match r with
 |([c],true)=>if(gO c).2=0∧(gO c).1.length=1 then((gO c).1,true)else([],false)
 |_=>([],false)
theorem OD {r:CB} (h: ¬(r.1.length=1∧r.2=true)):zQ r=([],false):=by
 unfold zQ
 split
 ·exact absurd ⟨rfl,rfl⟩ h
 ·rfl
noncomputable def ML (op:Int) (ls:List LB) (fs:List CB):CB:=
 if 13≤op∧op≤15 then(if(ls.getD 0 lq).2=true∧(ls.getD 1 lq).2=true then
   Xm (sF op (ls.getD 0 lq).1 (ls.getD 1 lq).1) (decide (op=15))
  else([],false))
 else if op=16 then((fs.getD 0 ([],false)).1++(fs.getD 1 ([],false)).1,(fs.getD 0 ([],false)).2&&(fs.getD 1 ([],false)).2)
 else if op=18 then zQ (fs.getD 0 ([],false))
 else([],false)
mutual
noncomputable def bw:Ex→CB
 | .mk op _ _ _ _ _ args=>ML op (Ht args) (Km args)
noncomputable def Km:List Ex→List CB
 | []=> []
 |e::r=>bw e::Km r
end
theorem Kl: ∀l:List Ex,Km l=l.map bw
 | []=>by rw[Km];rfl
 |e::r=>by rw[Km,Kl r];rfl
theorem yC (e:Ex):bw e=ML e.op (e.args.map dH) (e.args.map bw):=by
 obtain⟨op,name,val,ty,lin,idx,args⟩:=e
 rw[bw,DM,Kl]
 rfl
def gl (a:Ex):Ex:= .mk 18 ⟨⟨[]⟩⟩ (0,0) iU (0, []) [] [a]
noncomputable def eN (f x:ca):List gf:= [(f,false),(if(nJ f x).2=0 then(nJ f x).1 else(-1, []),false)]
def yX (p:bK) (s:ByteArray):List ca:=match c8 p s with
 |some x=>x.2
 |none=> []
noncomputable def Ar (p:bK) (x:Ix) (d:ca):List gf:=if x.2.1=⟨⟨[]⟩⟩then eN x.1 d else(x.2.2.zip (yX p x.2.1)).flatMap fun q=>eN q.1 q.2
noncomputable def Ft (p:bK) (idx:List Ix) (s:ByteArray):List gf:=(idx.zip (yX p s)).flatMap fun q=>Ar p q.1 q.2
abbrev Ob:=gf×List gf
mutual
noncomputable def ns (p:bK):Ex→List gf→List Ob
 | .mk op name _ _ _ idx args,cs=>(if op=3 then(Ft p idx name).map (fun c=>(c,cs))else [])++(if op=11 then Vo p args cs else vC p args cs)
noncomputable def vC (p:bK):List Ex→List gf→List Ob
 | [],_=> []
 |e::r,cs=>ns p e cs++vC p r cs
noncomputable def Vo (p:bK):List Ex→List gf→List Ob
 | [],_=> []
 | [a],cs=> []
 | [a,b],cs=> []
 |a::b::c::r,cs=>ns p a cs++ns p b (cs++(bw a).1)++ns p c (cs++(bw (gl a)).1)
end
theorem ur (p:bK) (e:Ex) (cs:List gf):ns p e cs=(if e.op=3 then(Ft p e.idx e.name).map (fun c=>(c,cs))else [])++(if e.op=11 then Vo p e.args cs else vC p e.args cs):=by
 obtain⟨op,name,val,ty,lin,idx,args⟩:=e
 rw[ns]
 rfl
theorem Fj (p:bK) (cs:List gf): ∀l r:List Ex,vC p (l++r) cs=vC p l cs++vC p r cs
 | [],r=>by simp[vC]
 |e::l,r=>by simp only[List.cons_append,vC,Fj p cs l r,List.append_assoc]
theorem LQ (p:bK) (cs:List gf) {l:List Ex} {k:Nat} (h:k<l.length):vC p (l.take (k+1)) cs=vC p (l.take k) cs++ns p l[k] cs:=by
 rw[List.take_succ_eq_append_getElem h,Fj]
 simp[vC]
theorem S8 {e a b:Ex} (ha:a∈e.args) (hb:b∈a.pre):b∈e.pre:=by
 rw[Ex.pre_eq]
 refine List.mem_cons_of_mem _ ?_
 generalize e.args=l at ha
 induction l with
 |nil=>cases ha
 |cons x r ihr=>
  rw[Ex.pres]
  rcases List.mem_cons.1 ha with rfl|ha
  ·exact List.mem_append_left _ hb
  ·exact List.mem_append_right _ (ihr ha)
theorem nr (e:Ex):e∈e.pre:=by rw[Ex.pre_eq];exact List.mem_cons_self
def Y4 (e:Ex):Prop:= ∀a∈e.pre,aA a.val.1∧ ∀l∈a.forms,bj l∧l.2.length≤1000
def lG (e:Ex):Prop:=iE e∧Y4 e
theorem aX {e a:Ex} (h:lG e) (ha:a∈e.args):lG a:=⟨iJ h.1 ha,fun b hb=>h.2 b (S8 ha hb)⟩
theorem Lm {e:Ex} (h:lG e):bj e.lin∧e.lin.2.length≤1000:=(h.2 e (nr e)).2 _ List.mem_cons_self
theorem Ms {e:Ex} (h:lG e):aA e.val.1:=(h.2 e (nr e)).1
theorem Fx {a:Ex} (h:lG a):lG (gl a):=by
 have hp: ∀b∈(gl a).pre,b=gl a∨b∈a.pre:=fun b hb=>by
  rw[Ex.pre_eq]at hb
  rcases List.mem_cons.1 hb with rfl|hb
  ·exact .inl rfl
  ·exact .inr (by simpa[gl,Ex.args,Ex.pres]using hb)
 refine⟨fun b hb=> ?_,fun b hb=> ?_⟩
 ·rcases hp b hb with rfl|hb
  ·exact⟨rfl,by show(1:Int)≤18;decide,by show(18:Int)≤18;decide,by show(0:Nat)≤6;decide,fun x hx=>by cases hx⟩
  ·exact h.1 b hb
 ·rcases hp b hb with rfl|hb
  ·refine⟨by show aA 0;decide,fun l hl=> ?_⟩
   simp only[gl,Ex.forms,Ex.lin,Ex.idx,List.flatMap_nil,List.mem_singleton]at hl
   subst hl
   exact⟨⟨by decide,fun m hm=>by cases hm⟩,by simp⟩
  ·exact h.2 b hb
theorem XD:bj (0, []):=⟨by decide,fun m hm=>by cases hm⟩
def VC (n:Nat) (x:LB):Prop:=bj x.1∧x.1.2.length≤1000*n
theorem JW {f:Ex→LB}: ∀{l:List Ex},(∀a∈l,VC a.sz (f a))→ ∃m n,m+n≤Ex.szs l∧VC m ((l.map f).getD 0 lq)∧VC n ((l.map f).getD 1 lq)
 | [],_=>⟨0,0,by simp,⟨XD,by simp⟩,⟨XD,by simp⟩⟩
 | [a],h=>⟨a.sz,0,by simp[Ex.szs],h a List.mem_cons_self,⟨XD,by simp⟩⟩
 |a::b::r,h=>⟨a.sz,b.sz,by simp[Ex.szs,←Nat.add_assoc],h a List.mem_cons_self,h b (List.mem_cons_of_mem _ List.mem_cons_self)⟩
theorem z6 (e:Ex):lG e→VC e.sz (dH e):=by
 refine Ex.ind (p:=fun e=>lG e→VC e.sz (dH e)) (fun e ih h=> ?_) e
 obtain⟨m,n,hmn,⟨a1,a2⟩,⟨b1,b2⟩⟩:=JW (f:=dH) fun a ha=>ih a ha (aX h ha)
 have hz:=Ex.sz_eq e
 have hl:=Lm h
 rw[IY]
 unfold yP
 generalize (e.args.map dH).getD 0 lq=a at*
 generalize (e.args.map dH).getD 1 lq=b at*
 repeat' split
 all_goals first
  |exact⟨XD,by simp⟩
  |exact⟨hl.1,by show e.lin.2.length≤_;omega⟩
  |exact⟨⟨Ms h,fun m hm=>by cases hm⟩,by simp⟩
  |exact⟨ql,by have:=iF a.1 (-1);show(bJ a.1 (-1)).1.2.length≤_;omega⟩
  |exact⟨JC _ _,by have:=xX b.1 a.1;show(kH b.1 a.1).1.2.length≤_;omega⟩
  |exact⟨ve _ _,by have:=qq a.1 b.1;show(fV a.1 b.1).1.2.length≤_;omega⟩
theorem yq (e:Ex):lG e→VC e.sz (dP e):=by
 refine Ex.ind (p:=fun e=>lG e→VC e.sz (dP e)) (fun e ih h=> ?_) e
 obtain⟨m,n,hmn,⟨a1,a2⟩,⟨b1,b2⟩⟩:=JW (f:=dP) fun a ha=>ih a ha (aX h ha)
 have hz:=Ex.sz_eq e
 have hl:=Lm h
 rw[Jg]
 unfold lN
 generalize (e.args.map dP).getD 0 lq=a at*
 generalize (e.args.map dP).getD 1 lq=b at*
 repeat' split
 all_goals first
  |exact⟨XD,by simp⟩
  |exact⟨hl.1,by show e.lin.2.length≤_;omega⟩
  |exact⟨⟨Ms h,fun m hm=>by cases hm⟩,by simp⟩
  |exact⟨ql,by have:=iF a.1 (-1);show(bJ a.1 (-1)).1.2.length≤_;omega⟩
  |exact⟨ve _ _,by have:=qq a.1 (bJ b.1 (-1)).1;have:=iF b.1 (-1);show(fV a.1 (bJ b.1 (-1)).1).1.2.length≤_;omega⟩
  |exact⟨ve _ _,by have:=qq a.1 b.1;show(fV a.1 b.1).1.2.length≤_;omega⟩
theorem TV {c:gf} (h:fR c): ∀x∈(gO c).1,fR x∧x.1.2.length≤c.1.2.length:=by
 intro x hx
 unfold gO at hx
 split at hx
 ·cases hx
 split at hx
 ·cases hx
 rename_i hm
 have h1:fR (wt c.1)∧(wt c.1).1.2.length≤c.1.2.length:=⟨Tj h hm,by simp[wt]⟩
 split at hx
 ·rw[List.mem_singleton.1 hx];exact h1
 split at hx
 ·cases hx
 rename_i hk
 rcases List.mem_cons.1 hx with rfl|hx
 ·refine⟨⟨?_,h.2⟩,Nat.le_refl _⟩
  have:=h.1
  show aA (c.1.1-1)
  unfold aA at*
  omega
 ·rw[List.mem_singleton.1 hx];exact h1
def TN (n:Nat) (l:List gf):Prop:=l.length≤n∧ ∀c∈l,fR c∧c.1.2.length≤1000*n
theorem nP (n:Nat):TN n []:=⟨by simp,fun c h=>by cases h⟩
theorem KD {n m:Nat} {l:List gf} (h:TN n l) (hm:n≤m):TN m l:=⟨by have:=h.1;omega,fun c hc=>⟨(h.2 c hc).1,by have:=(h.2 c hc).2;omega⟩⟩
theorem UK: ∀{l:List Ex},(∀a∈l,TN a.sz (bw a).1)→ ∃m n,m+n≤Ex.szs l∧TN m ((l.map bw).getD 0 ([],false)).1∧TN n ((l.map bw).getD 1 ([],false)).1
 | [],_=>⟨0,0,by simp,nP _,nP _⟩
 | [a],h=>⟨a.sz,0,by simp[Ex.szs],h a List.mem_cons_self,nP _⟩
 |a::b::r,h=>⟨a.sz,b.sz,by simp[Ex.szs,←Nat.add_assoc],h a List.mem_cons_self,h b (List.mem_cons_of_mem _ List.mem_cons_self)⟩
theorem oQ (e:Ex):lG e→TN e.sz (bw e).1:=by
 refine Ex.ind (p:=fun e=>lG e→TN e.sz (bw e).1) (fun e ih h=> ?_) e
 obtain⟨m,n,hmn,⟨a1,a2⟩,⟨b1,b2⟩⟩:=JW (f:=dH) fun a ha=>z6 a (aX h ha)
 obtain⟨m',n',hmn',c0,c1⟩:=UK fun a ha=>ih a ha (aX h ha)
 have hz:=Ex.sz_eq e
 rw[yC]
 unfold ML
 generalize (e.args.map dH).getD 0 lq=a at*
 generalize (e.args.map dH).getD 1 lq=b at*
 generalize (e.args.map bw).getD 0 ([],false)=c at*
 generalize (e.args.map bw).getD 1 ([],false)=d at*
 split
 ·split
  ·obtain⟨g1,g2⟩:=UL e.op a.1 b.1
   unfold Xm
   split
   ·refine⟨by simp;omega,fun x hx=> ?_⟩
    rw[List.mem_singleton.1 hx]
    exact⟨g1,by show(sF e.op a.1 b.1).1.2.length≤_;omega⟩
   ·exact nP _
  ·exact nP _
 split
 ·refine⟨by have:=c0.1;have:=c1.1;simp only[List.length_append];omega,fun x hx=> ?_⟩
  rcases List.mem_append.1 hx with hx|hx
  ·exact⟨(c0.2 x hx).1,by have:=(c0.2 x hx).2;omega⟩
  ·exact⟨(c1.2 x hx).1,by have:=(c1.2 x hx).2;omega⟩
 split
 ·unfold zQ
  split
  ·rename_i x
   obtain⟨h64,hlen⟩:=c0.2 x List.mem_cons_self
   split
   ·rename_i hh
    refine⟨by show(gO x).1.length≤_;omega,fun y hy=> ?_⟩
    obtain⟨g1,g2⟩:=TV h64 y hy
    exact⟨g1,by omega⟩
   ·exact nP _
  ·exact nP _
 ·exact nP _
open Go.Abs Go.RowKit
def QF (l:ca):Prop:=bj l∧l.2.length≤1000
def XQ (p:bK) (a:Ex):Prop:= ∃t ds,c8 p a.name=some (t,ds)∧a.idx.length=ds.length∧(∀l∈ds,QF l)∧
 ∀x∈a.idx,x.2.1≠⟨⟨[]⟩⟩→ ∃t' ds',c8 p x.2.1=some (t',ds')∧x.2.2.length=ds'.length∧ ∀l∈ds',QF l
def xL (p:bK) (e:Ex):Prop:=lG e∧ ∀a∈e.pre,a.op=3→XQ p a
theorem ii {p:bK} {e a:Ex} (h:xL p e) (ha:a∈e.args):xL p a:=⟨aX h.1 ha,fun b hb=>h.2 b (S8 ha hb)⟩
theorem SX {q:bK} {vars:List ByteArray} (e:Ex):(d9 q vars e).2=0→ ∀a∈e.pre,a.op=3→(f7 q vars a).2=0:=by
 refine Ex.ind (p:=fun e=>(d9 q vars e).2=0→ ∀a∈e.pre,a.op=3→(f7 q vars a).2=0) (fun e ih h a ha h3=> ?_) e
 obtain⟨h1,l,h2⟩:=Hx h
 rw[Ex.pre_eq]at ha
 rcases List.mem_cons.1 ha with rfl|ha
 ·unfold aR at h2
  rw[if_neg (by omega),if_neg (by omega),if_pos h3]at h2
  exact h2
 ·have key: ∀l:List Ex,a∈Ex.pres l→ ∃b∈l,a∈b.pre:=by
   intro l
   induction l with
   |nil=>intro h;simp[Ex.pres]at h
   |cons b r ihr=>
    intro h
    rw[Ex.pres]at h
    rcases List.mem_append.1 h with h|h
    ·exact⟨b,List.mem_cons_self,h⟩
    ·obtain⟨c,hc,h⟩:=ihr h
     exact⟨c,List.mem_cons_of_mem _ hc,h⟩
  obtain⟨b,hb,hab⟩:=key _ ha
  exact ih b hb (h1 b hb) a hab h3
theorem ye {p:bK} {k:Nat} {s:ByteArray} {x:Ty×List ca} (h:c8 (ce p k) s=some x):c8 p s=some x:=by
 unfold c8 ce at*
 simp only at h
 split
 ·rename_i y hy
  rw[hy]at h
  exact h
 ·rename_i hy
  rw[hy]at h
  simp only at h
  split at h
  ·rename_i d hd
   have:p.defs.find? (fun d=>decide (d.name=s))=some d:=by
    rw[←List.take_append_drop k p.defs,List.find?_append,hd]
    rfl
   rw[this]
   exact h
  ·cases h
theorem Dx {p:bK} (hf:j8 p) (hL:PS p) {s:ByteArray} {t:Ty} {ds:List ca} (h:c8 p s=some (t,ds)): ∀l∈ds,QF l:=by
 unfold c8 at h
 split at h
 ·rename_i x hx
  have hm:=List.mem_of_find?_eq_some hx
  have e:x.2.2=ds:=by rw[Option.some.inj h]
  subst e
  exact fun l hl=>⟨hL.2.1 x hm l hl,by have:=(hf.1 x hm).2 l hl;omega⟩
 ·split at h
  ·rename_i d hd
   have hm:=List.mem_of_find?_eq_some hd
   cases h
   intro l hl
   obtain⟨a,ha,rfl⟩:=List.mem_map.1 hl
   exact⟨(hL.2.2 d hm).1 a (List.mem_append_left _ ha),by have:=(hf.2 d hm).2.2.1 a ha;omega⟩
  ·cases h
theorem Yv {p:bK} {k:Nat} {vars:List ByteArray} {a:Ex} (hf:j8 p) (hL:PS p) (h:(f7 (ce p k) vars a).2=0):XQ p a:=by
 unfold f7 at h
 split at h
 ·cases h
 ·rename_i t ds hfd
  split at h
  ·cases h
  ·rename_i hlen
   split at h
   ·contradiction
   ·rename_i hz
    have hb:=ye hfd
    refine⟨t,ds,hb,Classical.not_not.1 hlen,Dx hf hL hb,fun x hx hn=> ?_⟩
    have hix:=kn (Classical.not_not.1 hz) _ (List.mem_map.2 ⟨x,hx,rfl⟩)
    unfold gD at hix
    rw[if_neg hn]at hix
    split at hix
    ·cases hix
    ·rename_i t' ds' hfd'
     have hb':=ye hfd'
     split at hix
     ·cases hix
     ·split at hix
      ·cases hix
      ·rename_i hl2
       exact⟨t',ds',hb',Classical.not_not.1 hl2,Dx hf hL hb'⟩
theorem RD {p:bK} (hl: ¬lR p) (h64:sd p) (hL:PS p) (h:(c7 p).2=0) {k:Nat} (hk:k<p.defs.length):xL p p.defs[k].body∧p.defs[k].body.sz≤2000:=by
 obtain⟨⟨c1,c2,c3,c4,c5⟩,hs,hp,hd⟩:=uM h
 have hf:=Aq hl
 obtain⟨f1,f2,f3,f4⟩:=hf.2 _ (List.getElem_mem hk)
 obtain⟨_,ht⟩:=HZ hk (hd k hk)
 obtain⟨t1,t2⟩:=Iy ht
 have hr:=vj t1
 have hz: ∀a∈p.defs[k].body.pre,ba a=0:=by
  intro a ha
  unfold gT at t1
  split at t1
  ·cases t1
  ·split at t1
   ·cases t1
   ·exact kn t1 _ (List.mem_map.2 ⟨a,ha,rfl⟩)
 have hkn:=BH _ hr (fun a ha=>(m4 (hz a ha)).1) t2
 have hszb:p.defs[k].body.sz≤2000:=by
  unfold gT at t1
  split at t1
  ·cases t1
  ·split at t1
   ·cases t1
   ·omega
 refine⟨⟨⟨hr,fun a ha=>⟨(h64 _ (List.getElem_mem hk) a ha).1,fun l hlm=>⟨(hL.2.2 _ (List.getElem_mem hk)).2 a ha l hlm, ?_⟩⟩⟩,fun a ha h3=>Yv hf hL (SX _ t2 a ha h3)⟩,hszb⟩
 have hsr:=(mB.1 ((m4 (hz a ha)).2.2.2.2.2 l hlm)).1
 have:=Oi hsr (L:=aT p.defs[k]++p.sizes) fun m hm=>by
  rcases hkn a ha l hlm m hm with h|h
  ·exact List.mem_append_left _ h
  ·exact List.mem_append_right _ h
 have hln:(aT p.defs[k]).length≤24:=by unfold aT;simp;omega
 simp only[List.length_append]at this
 omega
theorem Ps (f x:ca):(eN f x).length=2:=rfl
theorem Jq {l:List (ca×ca)}:(l.flatMap fun q=>eN q.1 q.2).length=2*l.length:=by
 induction l with
 |nil=>rfl
 |cons a r ih=>simp only[List.flatMap_cons,List.length_append,ih,Ps,List.length_cons];omega
theorem CP {p:bK} {x:Ix} {d:ca} (h:x.2.2.length≤6):(Ar p x d).length≤12:=by
 unfold Ar
 split
 ·simp[eN]
 ·rw[Jq]
  have:(x.2.2.zip (yX p x.2.1)).length≤x.2.2.length:=by simp;omega
  omega
theorem Iq {p:bK}: ∀{l:List (Ix×ca)},(∀x∈l,x.1.2.2.length≤6)→(l.flatMap fun q=>Ar p q.1 q.2).length≤12*l.length
 | [],_=>by simp
 |a::r,h=>by
  have h1:=CP (p:=p) (d:=a.2) (h a List.mem_cons_self)
  have h2:=Iq (p:=p) (l:=r) fun x hx=>h x (List.mem_cons_of_mem _ hx)
  simp only[List.flatMap_cons,List.length_append,List.length_cons]
  omega
theorem w9 (p:bK) (e:Ex):iE e→ ∀cs,(ns p e cs).length≤72*e.sz:=by
 refine Ex.ind (p:=fun e=>iE e→ ∀cs,(ns p e cs).length≤72*e.sz) (fun e ih h cs=> ?_) e
 obtain⟨_,_,_,h4,h5⟩:=dO h
 have hz:=Ex.sz_eq e
 rw[ur,List.length_append]
 have h1:(if e.op=3 then(Ft p e.idx e.name).map (fun c=>(c,cs))else []).length≤72:=by
  split
  ·rw[List.length_map]
   have:=Iq (p:=p) (l:=e.idx.zip (yX p e.name)) fun x hx=>h5 _ (List.of_mem_zip hx).1
   have h6:(e.idx.zip (yX p e.name)).length≤e.idx.length:=by simp;omega
   unfold Ft
   omega
  ·simp
 have ih': ∀a∈e.args,∀cs,(ns p a cs).length≤72*a.sz:=fun a ha=>ih a ha (iJ h ha)
 have h2:(vC p e.args cs).length≤72*Ex.szs e.args:=by
  generalize e.args=l at ih'
  clear hz ih h1 h h4 h5
  induction l with
  |nil=>simp[vC]
  |cons a r ihr=>
   have:=ih' a List.mem_cons_self cs
   have:=ihr fun b hb=>ih' b (List.mem_cons_of_mem _ hb)
   simp only[vC,List.length_append,Ex.szs]
   omega
 have h3:(Vo p e.args cs).length≤72*Ex.szs e.args:=by
  match hm:e.args with
  | []=>simp[Vo]
  | [a]=>simp[Vo]
  | [a,b]=>simp[Vo]
  |a::b::c::r=>
   have:=ih' a (by rw[hm];simp) cs
   have:=ih' b (by rw[hm];simp) (cs++(bw a).1)
   have:=ih' c (by rw[hm];simp) (cs++(bw (gl a)).1)
   simp only[Vo,List.length_append,Ex.szs]
   omega
 by_cases h11:e.op=11
 ·rw[if_pos h11];omega
 ·rw[if_neg h11];omega
set_option maxRecDepth 20000
set_option maxHeartbeats 4000000
set_option maxRecDepth 1000000
abbrev YF (x:LB):AV:= .tup [dj x.1.1 x.1.2,Go.Abs.B x.2]
abbrev YE (x:CB):AV:= .tup [ej x.1,Go.Abs.B x.2]
theorem GW {l:List Ex} (h:(l.length:Int)=1): ∃a,l= [a]:=by match l,h with| [a],_=>exact⟨a,rfl⟩
theorem G0 {l:List Ex} (h:(l.length:Int)=2): ∃a b,l= [a,b]:=by match l,h with| [a,b],_=>exact⟨a,b,rfl⟩
theorem VM {l:List Ex} (h:(l.length:Int)=3): ∃a b c,l= [a,b,c]:=by match l,h with| [a,b,c],_=>exact⟨a,b,c,rfl⟩
theorem cj {e a:Ex} (h:a∈e.args):a.sz<e.sz:=by
 rw[Ex.sz_eq e]
 generalize e.args=l at h
 induction l with
 |nil=>cases h
 |cons b r ih=>
  rw[Ex.szs]
  rcases List.mem_cons.1 h with rfl|h
  ·omega
  ·have:=ih h;omega
theorem fU {n:Nat} {x:LB} (h:VC n x) (hn:n≤20000):bj x.1∧ft x.1.2∧x.1.2.length≤40000000:=⟨h.1,by have:=h.2;unfold ft;omega,by have:=h.2;omega⟩
set_option maxHeartbeats 2000000 in
theorem og (e:Ex):lG e→e.sz≤20000→ac Tryz.prog ix [fm e] (YF (dH e)):=by
 refine Ex.ind (p:=fun e=>lG e→e.sz≤20000→ac Tryz.prog ix [fm e] (YF (dH e))) (fun e ih h hs=> ?_) e
 refine ac.of Ap (by simp) fun hb=>aa ?_
 clear hb
 have ha:=(dO h.1).1
 rw[IY]
 conv in rW=>cbv
 by_cases k2:e.op=2
 ·rw[show yP e.op e.val e.ty e.lin (e.args.map dH)=(e.lin,true) by simp[yP,k2]]
  clear ih ha h
  repeat' first|simp(disch:=omega) only[go_sem, *,k2]|((with_reducible refine ab ?_ ?_)<;>intro h<;>try omega)|(with_reducible refine af ?_ ?_)|(with_reducible refine ag (fun h=> ?_) ?_)
  all_goals rfl
 by_cases k1:e.op=1
 ·rw[show yP e.op e.val e.ty e.lin (e.args.map dH)=((e.val.1, []),decide (e.ty.1=3)) by simp[yP,k1]]
  have pc:=ov e.val.1
  clear ih ha h k2
  repeat' first|simp(disch:=omega) only[go_sem, *,k1]|((with_reducible refine ab ?_ ?_)<;>intro h<;>try omega)|(with_reducible refine af ?_ ?_)|(with_reducible refine ag (fun h=> ?_) ?_)|(refine bS pc rfl rfl ?_)
  all_goals rfl
 by_cases k8:e.op=8
 ·rw[k8]at ha
  obtain⟨a,hargs⟩:=GW (l:=e.args) ha
  have hm:a∈e.args:=by rw[hargs];exact List.mem_cons_self
  have hN:yP e.op e.val e.ty e.lin (e.args.map dH)=if(dH a).2=true then UF (bJ (dH a).1 (-1))else lq:=by rw[hargs,k8];simp[yP]
  rw[hN]
  have pa:=ih a hm (aX h hm) (by have:=cj hm;omega)
  obtain⟨q1,q2,_⟩:=fU (z6 a (aX h hm)) (by have:=cj hm;omega)
  have hg:(e.args.map Ex.row)[0]? =some a.row:=by rw[hargs];rfl
  have hl:e.args.length=1:=by rw[hargs];rfl
  clear ih ha h k2 k1 hN hm hargs hs
  generalize dH a=r at*
  obtain⟨⟨K,l⟩,b⟩:=r
  cases b
  ·rw[if_neg (by simp)]
   repeat' first|simp(disch:=omega) only[go_sem, *,k8,hl,hg,Ex.row_eq,Int.toNat_zero]|((with_reducible refine ab ?_ ?_)<;>intro h<;>try omega)|(with_reducible refine af ?_ ?_)|(with_reducible refine ag (fun h=> ?_) ?_)|(refine bS pa rfl rfl ?_)
   all_goals rfl
  ·rw[if_pos rfl]
   have ps:=w7 (a:=(K,l)) (b:= -1) q1 (by decide) q2
   clear q1 q2
   unfold UF
   generalize bJ (K,l) (-1)=s at*
   obtain⟨⟨K',l'⟩,er⟩:=s
   try simp only at ps
   repeat' first|simp(disch:=omega) only[go_sem, *,k8,hl,hg,Ex.row_eq,Int.toNat_zero]|((with_reducible refine ab ?_ ?_)<;>intro h<;>try omega)|(with_reducible refine af ?_ ?_)|(with_reducible refine ag (fun h=> ?_) ?_)|(refine bS pa rfl rfl ?_)|(refine bS ps rfl rfl ?_)
   all_goals rfl
 by_cases k45:e.op=4∨e.op=5
 ·have ha2:(e.args.length:Int)=2:=by rw[ha];unfold jn;rcases k45 with k|k<;>rw[k]<;>rfl
  obtain⟨a,b,hargs⟩:=G0 ha2
  have hm:a∈e.args:=by rw[hargs];exact List.mem_cons_self
  have hm':b∈e.args:=by rw[hargs];exact List.mem_cons_of_mem _ List.mem_cons_self
  have hN:yP e.op e.val e.ty e.lin (e.args.map dH)=if(dH a).2=true∧(dH b).2=true then UF (if e.op=5 then kH (dH b).1 (dH a).1 else fV (dH a).1 (dH b).1)else lq:=by
   rw[hargs]
   unfold yP
   rw[if_neg k2,if_neg k1,if_neg k8,if_pos k45]
   rfl
  rw[hN]
  have pa:=ih a hm (aX h hm) (by have:=cj hm;omega)
  have pb:=ih b hm' (aX h hm') (by have:=cj hm';omega)
  obtain⟨q1,q2,q3⟩:=fU (z6 a (aX h hm)) (by have:=cj hm;omega)
  obtain⟨r1,r2,r3⟩:=fU (z6 b (aX h hm')) (by have:=cj hm';omega)
  have hg:(e.args.map Ex.row)[0]? =some a.row:=by rw[hargs];rfl
  have hg1:(e.args.map Ex.row)[1]? =some b.row:=by rw[hargs];rfl
  have hl:e.args.length=2:=by rw[hargs];rfl
  clear ih ha ha2 h k2 k1 k8 hN hm hm' hargs hs
  generalize dH a=r at*
  obtain⟨⟨K,l⟩,x⟩:=r
  generalize dH b=r at*
  obtain⟨⟨K',l'⟩,y⟩:=r
  by_cases hxy:x=true∧y=true
  ·obtain⟨rfl,rfl⟩:=hxy
   rw[if_pos ⟨rfl,rfl⟩]
   unfold UF
   rcases k45 with k|k
   ·have ps:=uK q1 r1 q2 r2
    rw[if_neg (by omega)]
    clear q1 q2 r1 r2 q3 r3
    simp only at ps ⊢
    generalize fV (K,l) (K',l')=s at*
    obtain⟨⟨K2,l2⟩,er⟩:=s
    try simp only at ps
    repeat' first|simp(disch:=omega) only[go_sem, *,k,hl,hg,hg1,Ex.row_eq,Int.toNat_zero,Int.toNat_one]|((with_reducible refine ab ?_ ?_)<;>intro h<;>try omega)|(with_reducible refine af ?_ ?_)|(with_reducible refine ag (fun h=> ?_) ?_)|(refine bS pa rfl rfl ?_)|(refine bS pb rfl rfl ?_)|(refine bS ps rfl rfl ?_)
    all_goals rfl
   ·have ps:=j0 q1 r1 (by omega) (by omega)
    rw[if_pos k]
    clear q1 q2 r1 r2 q3 r3
    simp only at ps ⊢
    generalize kH (K',l') (K,l)=s at*
    obtain⟨⟨K2,l2⟩,er⟩:=s
    try simp only at ps
    repeat' first|simp(disch:=omega) only[go_sem, *,k,hl,hg,hg1,Ex.row_eq,Int.toNat_zero,Int.toNat_one]|((with_reducible refine ab ?_ ?_)<;>intro h<;>try omega)|(with_reducible refine af ?_ ?_)|(with_reducible refine ag (fun h=> ?_) ?_)|(refine bS pa rfl rfl ?_)|(refine bS pb rfl rfl ?_)|(refine bS ps rfl rfl ?_)
    all_goals rfl
  ·rw[if_neg hxy]
   clear q1 q2 r1 r2 q3 r3
   rcases k45 with k|k
   all_goals
    cases x<;>cases y
    all_goals first
     |(exact absurd ⟨rfl,rfl⟩ hxy;done)
     |skip
    all_goals
     clear hxy
     repeat' first|simp(disch:=omega) only[go_sem, *,k,hl,hg,hg1,Ex.row_eq,Int.toNat_zero,Int.toNat_one]|((with_reducible refine ab ?_ ?_)<;>intro h<;>try omega)|(with_reducible refine af ?_ ?_)|(with_reducible refine ag (fun h=> ?_) ?_)|(refine bS pa rfl rfl ?_)|(refine bS pb rfl rfl ?_)
    all_goals rfl
 ·have hN:yP e.op e.val e.ty e.lin (e.args.map dH)=lq:=by
   unfold yP
   rw[if_neg k2,if_neg k1,if_neg k8,if_neg k45]
  rw[hN]
  have k4: ¬e.op=4:=fun h=>k45 (.inl h)
  have k5: ¬e.op=5:=fun h=>k45 (.inr h)
  clear ih ha h hN k45
  repeat' first|simp(disch:=omega) only[go_sem, *,k2,k1,k8,k4,k5]|((with_reducible refine ab ?_ ?_)<;>intro h<;>try omega)|(with_reducible refine af ?_ ?_)|(with_reducible refine ag (fun h=> ?_) ?_)
  all_goals rfl
theorem vr {e a b:Ex} (h:lG e) (hs:e.sz≤20000) (hargs:e.args= [a,b]):ac Tryz.prog js [fm e] (if(dH a).2=true∧(dH b).2=true then .tup [nI ((sF e.op (dH a).1 (dH b).1).1,decide (e.op=15)),Go.Abs.B (decide ((sF e.op (dH a).1 (dH b).1).2=0))]else .tup [nI ((0, []),false),Go.Abs.B false]):=by
 refine ac.of xO (by simp) fun hb=>aa ?_
 clear hb
 conv in nW=>cbv
 have hm:a∈e.args:=by rw[hargs];exact List.mem_cons_self
 have hm':b∈e.args:=by rw[hargs];exact List.mem_cons_of_mem _ List.mem_cons_self
 have pa:=og a (aX h hm) (by have:=cj hm;omega)
 have pb:=og b (aX h hm') (by have:=cj hm';omega)
 obtain⟨q1,q2,q3⟩:=fU (z6 a (aX h hm)) (by have:=cj hm;omega)
 obtain⟨r1,r2,r3⟩:=fU (z6 b (aX h hm')) (by have:=cj hm';omega)
 have hg:(e.args.map Ex.row)[0]? =some a.row:=by rw[hargs];rfl
 have hg1:(e.args.map Ex.row)[1]? =some b.row:=by rw[hargs];rfl
 have hl:e.args.length=2:=by rw[hargs];rfl
 clear h hm hm' hargs hs
 generalize dH a=r at*
 obtain⟨⟨K,l⟩,x⟩:=r
 generalize dH b=r at*
 obtain⟨⟨K',l'⟩,y⟩:=r
 by_cases hxy:x=true∧y=true
 ·obtain⟨rfl,rfl⟩:=hxy
  rw[if_pos ⟨rfl,rfl⟩]
  have p1:=j0 r1 q1 (by omega) (by omega)
  have p2:=qv q1 r1 (by omega) (by omega)
  clear q1 q2 r1 r2 q3 r3
  simp only at p1 p2 ⊢
  by_cases k:e.op=13
  ·rw[show sF e.op (K,l) (K',l')=nJ (K,l) (K',l') by rw[sF,if_pos k]]
   generalize kH (K,l) (K',l')=s at*
   obtain⟨⟨K1,l1⟩,e1⟩:=s
   generalize nJ (K,l) (K',l')=s at*
   obtain⟨⟨K2,l2⟩,er⟩:=s
   try simp only at p1 p2
   repeat' first|simp(disch:=omega) only[go_sem, *,k,hl,hg,hg1,Ex.row_eq,Int.toNat_zero,Int.toNat_one]|((with_reducible refine ab ?_ ?_)<;>intro h<;>try omega)|(with_reducible refine af ?_ ?_)|(with_reducible refine ag (fun h=> ?_) ?_)|(refine bS pa rfl rfl ?_)|(refine bS pb rfl rfl ?_)|(refine bS p1 rfl rfl ?_)|(refine bS p2 rfl rfl ?_)
   all_goals rfl
  ·rw[show sF e.op (K,l) (K',l')=kH (K,l) (K',l') by rw[sF,if_neg k]]
   generalize kH (K,l) (K',l')=s at*
   obtain⟨⟨K1,l1⟩,e1⟩:=s
   try simp only at p1
   clear p2
   repeat' first|simp(disch:=omega) only[go_sem, *,k,hl,hg,hg1,Ex.row_eq,Int.toNat_zero,Int.toNat_one]|((with_reducible refine ab ?_ ?_)<;>intro h<;>try omega)|(with_reducible refine af ?_ ?_)|(with_reducible refine ag (fun h=> ?_) ?_)|(refine bS pa rfl rfl ?_)|(refine bS pb rfl rfl ?_)|(refine bS p1 rfl rfl ?_)
   all_goals rfl
 ·rw[if_neg hxy]
  clear q1 q2 r1 r2 q3 r3
  cases x<;>cases y
  all_goals first
   |(exact absurd ⟨rfl,rfl⟩ hxy;done)
   |skip
  all_goals
   clear hxy
   repeat' first|simp(disch:=omega) only[go_sem, *,hl,hg,hg1,Ex.row_eq,Int.toNat_zero,Int.toNat_one]|((with_reducible refine ab ?_ ?_)<;>intro h<;>try omega)|(with_reducible refine af ?_ ?_)|(with_reducible refine ag (fun h=> ?_) ?_)|(refine bS pa rfl rfl ?_)|(refine bS pb rfl rfl ?_)
  all_goals rfl
theorem Mp {e a b:Ex} (hk:13≤e.op∧e.op≤15) (hargs:e.args= [a,b]):bw e=if(dH a).2=true∧(dH b).2=true then Xm (sF e.op (dH a).1 (dH b).1) (decide (e.op=15))else([],false):=by
 rw[yC,hargs,ML,if_pos hk]
 rfl
theorem Kh {e a b:Ex} (hk:e.op=16) (hargs:e.args= [a,b]):bw e=((bw a).1++(bw b).1,(bw a).2&&(bw b).2):=by
 rw[yC,hargs,ML,if_neg (by omega),if_pos hk]
 rfl
theorem yk {e a:Ex} (hk:e.op=18) (hargs:e.args= [a]):bw e=zQ (bw a):=by
 rw[yC,hargs,ML,if_neg (by omega),if_neg (by omega),if_pos hk]
 rfl
theorem Om {e:Ex} (h1: ¬(13≤e.op∧e.op≤15)) (h2:e.op≠16) (h3:e.op≠18):bw e=([],false):=by
 rw[yC,ML,if_neg h1,if_neg h2,if_neg h3]
set_option maxRecDepth 20000
set_option maxRecDepth 1000000
theorem K7 {c:gf} (h0:(gO c).2=0) (h1:(gO c).1.length=1):cd c.1.2∧ ¬mJ c.1.2∧c.2=false∧gO c=([wt c.1],0):=by
 by_cases a:cd c.1.2
 ·by_cases b:mJ c.1.2
  ·unfold gO at h0
   rw[if_neg (not_not_intro a),if_pos b]at h0
   cases h0
  ·by_cases d:c.2=false
   ·exact⟨a,b,d,by unfold gO;rw[if_neg (not_not_intro a),if_neg b,if_pos d]⟩
   ·unfold gO at h0 h1
    rw[if_neg (not_not_intro a),if_neg b,if_neg d]at h0 h1
    by_cases e:c.1.1= -9223372036854775808
    ·rw[if_pos e]at h0;cases h0
    ·rw[if_neg e]at h1;cases h1
 ·unfold gO at h0
  rw[if_pos a]at h0
  cases h0
theorem sA {c:gf} (h64:fR c) (hs:ft c.1.2) (h0:(gO c).2=0) (h1:(gO c).1.length=1):am Tryz.prog gX [nI c] [] 0 (.tup [.c (.tsl ((gO c).1.map cP)),I 0]) [] 0:=by
 obtain⟨hok,hm,hq,hN⟩:=K7 h0 h1
 have pv:=ff c
 have po:=iR (f:=c.1) h64 hs
 rw[y5,if_neg hm]at po
 rw[if_pos hok]at pv
 rw[hN]
 clear hN h0 h1 hok hm h64 hs
 obtain⟨⟨K,l⟩,q⟩:=c
 simp only at hq
 subst hq
 refine am.ofZ (ress:= [.c (.tsl ([wt (K,l)].map cP)),I 0]) kE (by simp) fun _=>aa ?_
 simp only[gW]
 try simp only at po pv
 repeat' first|simp(disch:=omega) only[go_sem, *]|((with_reducible refine ab ?_ ?_)<;>intro h<;>try omega)|(with_reducible refine af ?_ ?_)|(with_reducible refine ag (fun h=> ?_) ?_)|(refine av pv rfl rfl ?_)|(refine bS po rfl rfl ?_)
 refine⟨[], [], ?_⟩
 simp(disch:=omega) only[go_sem,bo]
 simp[bT,dS,wt,tN,cP]
def TF (e:Ex):Prop:=
 (am Tryz.prog fk [fm e] [] 0 (.tup [.c .nils,Go.Abs.B (bw e).2]) [] 0∧(bw e).1= [])∨
 (am Tryz.prog fk [fm e] [] 0 (.tup [.c (.tsl ((bw e).1.map cP)),Go.Abs.B (bw e).2]) [] 0∧(bw e).1≠ [])∨
 am Tryz.prog fk [fm e] [] 0 (.tup [.c (.ref 0),Go.Abs.B (bw e).2]) [(0,.arr 60 3 ((bw e).1.map cP))] 1
set_option maxHeartbeats 4000000 in
theorem DI (e:Ex):lG e→e.sz≤20000→TF e:=by
 refine Ex.ind (p:=fun e=>lG e→e.sz≤20000→TF e) (fun e ih h hs=> ?_) e
 have ha:=(dO h.1).1
 unfold TF
 by_cases k:13≤e.op∧e.op≤15
 ·have ha2:(e.args.length:Int)=2:=by
   rw[ha]
   have:e.op=13∨e.op=14∨e.op=15:=by omega
   rcases this with k|k|k<;>rw[k]<;>rfl
  obtain⟨a,b,hargs⟩:=G0 ha2
  have pc:=vr h hs hargs
  rw[Mp k hargs]
  clear ih ha ha2 h hs hargs
  have hd:e.op=13∨e.op=14∨e.op=15:=by omega
  clear k
  by_cases hxy:(dH a).2=true∧(dH b).2=true
  ·rw[if_pos hxy]at pc ⊢
   clear hxy
   unfold Xm
   generalize sF e.op (dH a).1 (dH b).1=s at*
   obtain⟨⟨K2,l2⟩,er⟩:=s
   by_cases h0:er=0
   ·subst h0
    rw[if_pos rfl]
    try simp only at pc
    refine .inr (.inl ⟨am.ofZ (ress:= [.c (.tsl ([((K2,l2),decide (e.op=15))].map cP)),Go.Abs.B true]) bc (by simp) fun _=>aa ?_,by simp⟩)
    conv in bf=>cbv
    rcases hd with hd|hd|hd
    all_goals
     simp only[fm,hd]at pc
     repeat' first|simp(disch:=omega) only[go_sem, *,hd]|((with_reducible refine ab ?_ ?_)<;>intro h<;>try omega)|(with_reducible refine af ?_ ?_)|(with_reducible refine ag (fun h=> ?_) ?_)|(refine bS pc rfl rfl ?_)
     refine⟨[], [], ?_⟩
     simp(disch:=omega) only[go_sem,bo]
     simp[bT,dS,cP,hd]
   ·rw[if_neg h0]
    try simp only at pc
    refine .inl ⟨am.ofZ (ress:= [.c .nils,Go.Abs.B false]) bc (by simp) fun _=>aa ?_,rfl⟩
    conv in bf=>cbv
    rcases hd with hd|hd|hd
    all_goals
     simp only[fm,hd]at pc
     repeat' first|simp(disch:=omega) only[go_sem, *,h0,hd]|((with_reducible refine ab ?_ ?_)<;>intro h<;>try omega)|(with_reducible refine af ?_ ?_)|(with_reducible refine ag (fun h=> ?_) ?_)|(refine bS pc rfl rfl ?_)
     refine⟨[], [], ?_⟩
     simp(disch:=omega) only[go_sem,bo]
     simp[bT,dS,cP]
  ·rw[if_neg hxy]at pc ⊢
   clear hxy
   refine .inl ⟨am.ofZ (ress:= [.c .nils,Go.Abs.B false]) bc (by simp) fun _=>aa ?_,rfl⟩
   conv in bf=>cbv
   rcases hd with hd|hd|hd
   all_goals
    simp only[fm,hd]at pc
    repeat' first|simp(disch:=omega) only[go_sem, *,hd]|((with_reducible refine ab ?_ ?_)<;>intro h<;>try omega)|(with_reducible refine af ?_ ?_)|(with_reducible refine ag (fun h=> ?_) ?_)|(refine bS pc rfl rfl ?_)
    refine⟨[], [], ?_⟩
    simp(disch:=omega) only[go_sem,bo]
    simp[bT,dS,cP]
 by_cases k16:e.op=16
 ·have ha2:(e.args.length:Int)=2:=by rw[ha,k16];rfl
  obtain⟨a,b,hargs⟩:=G0 ha2
  rw[Kh k16 hargs]
  have hm:a∈e.args:=by rw[hargs];exact List.mem_cons_self
  have hm':b∈e.args:=by rw[hargs];exact List.mem_cons_of_mem _ List.mem_cons_self
  have hA:=ih a hm (aX h hm) (by have:=cj hm;omega)
  have hB:=ih b hm' (aX h hm') (by have:=cj hm';omega)
  have q1:=(oQ a (aX h hm)).1
  have q2:=(oQ b (aX h hm')).1
  have s1:=cj hm
  have s2:=cj hm'
  have hg:(e.args.map Ex.row)[0]? =some a.row:=by rw[hargs];rfl
  have hg1:(e.args.map Ex.row)[1]? =some b.row:=by rw[hargs];rfl
  have hl:e.args.length=2:=by rw[hargs];rfl
  clear ih ha ha2 h k hm hm' hargs
  have l1:(bw a).1.length≤20000:=by omega
  have l2:(bw b).1.length≤20000:=by omega
  clear q1 q2 s1 s2 hs
  unfold TF at hA hB
  generalize bw a=r at*
  obtain⟨x,y⟩:=r
  generalize bw b=r at*
  obtain⟨x',y'⟩:=r
  have ok':bl 3 (x'.map cP):=ar fun _=>rfl
  have ok:bl 3 (x.map cP):=ar fun _=>rfl
  simp only at l1 l2 hA hB ⊢
  rcases hA with⟨pa,ea⟩|⟨pa,ea⟩|pa<;>rcases hB with⟨pb,eb⟩|⟨pb,eb⟩|pb
  ·subst ea
   subst eb
   cases y
   all_goals
    refine .inr (.inr (am.ofZ (ress:= [.c (.ref 0),_]) bc (by simp) fun _=>aa ?_))
    conv in bf=>cbv
    repeat' first|simp(disch:=omega) only[go_sem, *,k16,hl,hg,hg1,Ex.row_eq,Int.toNat_zero,Int.toNat_one]|((with_reducible refine ab ?_ ?_)<;>intro h<;>try omega)|(with_reducible refine af ?_ ?_)|(with_reducible refine ag (fun h=> ?_) ?_)|(refine aq (pa.lift0 rfl rfl) ?_)|(refine aq (pb.lift0 rfl rfl) ?_)|(refine nN ok' (by simp;try omega) (by simp;try omega) ?_)
    refine⟨[], [(0,1)], ?_⟩
    simp(disch:=omega) only[go_sem,bo]
    simp[bT,dS]
  ·subst ea
   cases y
   all_goals
    refine .inr (.inr (am.ofZ (ress:= [.c (.ref 0),_]) bc (by simp) fun _=>aa ?_))
    conv in bf=>cbv
    repeat' first|simp(disch:=omega) only[go_sem, *,k16,hl,hg,hg1,Ex.row_eq,Int.toNat_zero,Int.toNat_one]|((with_reducible refine ab ?_ ?_)<;>intro h<;>try omega)|(with_reducible refine af ?_ ?_)|(with_reducible refine ag (fun h=> ?_) ?_)|(refine aq (pa.lift0 rfl rfl) ?_)|(refine aq (pb.lift0 rfl rfl) ?_)|(refine nN ok' (by simp;try omega) (by simp;try omega) ?_)
    refine⟨[], [(0,1)], ?_⟩
    simp(disch:=omega) only[go_sem,bo]
    simp[bT,dS]
  ·subst ea
   cases y
   all_goals
    refine .inr (.inr (am.ofZ (ress:= [.c (.ref 0),_]) bc (by simp) fun _=>aa ?_))
    conv in bf=>cbv
    repeat' first|simp(disch:=omega) only[go_sem, *,k16,hl,hg,hg1,Ex.row_eq,Int.toNat_zero,Int.toNat_one]|((with_reducible refine ab ?_ ?_)<;>intro h<;>try omega)|(with_reducible refine af ?_ ?_)|(with_reducible refine ag (fun h=> ?_) ?_)|(refine aq (pa.lift0 rfl rfl) ?_)|(refine aq (pb.lift1 rfl rfl rfl) ?_)|(refine nN ok' (by simp;try omega) (by simp;try omega) ?_)
    refine⟨[], [(0,2)], ?_⟩
    simp(disch:=omega) only[go_sem,bo]
    simp[bT,dS]
  ·subst eb
   rw[show x++([]:List gf)=x from List.append_nil x]
   cases y
   all_goals
    refine .inr (.inl ⟨am.ofZ (ress:= [.c (.tsl (x.map cP)),_]) bc (by simp) fun _=>aa ?_,ea⟩)
    conv in bf=>cbv
    repeat' first|simp(disch:=omega) only[go_sem, *,k16,hl,hg,hg1,Ex.row_eq,Int.toNat_zero,Int.toNat_one]|((with_reducible refine ab ?_ ?_)<;>intro h<;>try omega)|(with_reducible refine af ?_ ?_)|(with_reducible refine ag (fun h=> ?_) ?_)|(refine aq (pa.lift0 rfl rfl) ?_)|(refine aq (pb.lift0 rfl rfl) ?_)|(refine dN ok ?_)
    refine⟨[], [], ?_⟩
    simp(disch:=omega) only[go_sem,bo]
    simp[bT,dS]
  ·cases y
   all_goals
    refine .inr (.inr (am.ofZ (ress:= [.c (.ref 0),_]) bc (by simp) fun _=>aa ?_))
    conv in bf=>cbv
    repeat' first|simp(disch:=omega) only[go_sem, *,k16,hl,hg,hg1,Ex.row_eq,Int.toNat_zero,Int.toNat_one]|((with_reducible refine ab ?_ ?_)<;>intro h<;>try omega)|(with_reducible refine af ?_ ?_)|(with_reducible refine ag (fun h=> ?_) ?_)|(refine aq (pa.lift0 rfl rfl) ?_)|(refine aq (pb.lift0 rfl rfl) ?_)|(refine dI ok ok' (by simpa using eb) (by simp;try omega) (by simp;try omega) ?_)
    refine⟨[], [(0,1)], ?_⟩
    simp(disch:=omega) only[go_sem,bo]
    simp[bT,dS]
  ·by_cases eb:x'= []
   ·subst eb
    rw[show x++([]:List gf)=x from List.append_nil x]
    cases y
    all_goals
     refine .inr (.inl ⟨am.ofZ (ress:= [.c (.tsl (x.map cP)),_]) bc (by simp) fun _=>aa ?_,ea⟩)
     conv in bf=>cbv
     repeat' first|simp(disch:=omega) only[go_sem, *,k16,hl,hg,hg1,Ex.row_eq,Int.toNat_zero,Int.toNat_one]|((with_reducible refine ab ?_ ?_)<;>intro h<;>try omega)|(with_reducible refine af ?_ ?_)|(with_reducible refine ag (fun h=> ?_) ?_)|(refine aq (pa.lift0 rfl rfl) ?_)|(refine aq (pb.lift1 rfl rfl rfl) ?_)|(refine dN ok ?_)
     refine⟨[], [], ?_⟩
     simp(disch:=omega) only[go_sem,bo]
     simp[bT,dS]
   ·cases y
    all_goals
     refine .inr (.inr (am.ofZ (ress:= [.c (.ref 0),_]) bc (by simp) fun _=>aa ?_))
     conv in bf=>cbv
     repeat' first|simp(disch:=omega) only[go_sem, *,k16,hl,hg,hg1,Ex.row_eq,Int.toNat_zero,Int.toNat_one]|((with_reducible refine ab ?_ ?_)<;>intro h<;>try omega)|(with_reducible refine af ?_ ?_)|(with_reducible refine ag (fun h=> ?_) ?_)|(refine aq (pa.lift0 rfl rfl) ?_)|(refine aq (pb.lift1 rfl rfl rfl) ?_)|(refine dI ok ok' (by simpa using eb) (by simp;try omega) (by simp;try omega) ?_)
     refine⟨[], [(0,2)], ?_⟩
     simp(disch:=omega) only[go_sem,bo]
     simp[bT,dS]
  ·subst eb
   cases y
   all_goals
    refine .inr (.inr (am.ofZ (ress:= [.c (.ref 0),_]) bc (by simp) fun _=>aa ?_))
    conv in bf=>cbv
    repeat' first|simp(disch:=omega) only[go_sem, *,k16,hl,hg,hg1,Ex.row_eq,Int.toNat_zero,Int.toNat_one]|((with_reducible refine ab ?_ ?_)<;>intro h<;>try omega)|(with_reducible refine af ?_ ?_)|(with_reducible refine ag (fun h=> ?_) ?_)|(refine aq (pa.lift1 rfl rfl rfl) ?_)|(refine aq (pb.lift0 rfl rfl) ?_)|(refine aN rfl (by intro h;cases h) ok' (by simp;try omega) (by simp;try omega) ?_)
    refine⟨[], [(0,2)], ?_⟩
    simp(disch:=omega) only[go_sem,bo]
    simp[bT,dS]
  ·cases y
   all_goals
    refine .inr (.inr (am.ofZ (ress:= [.c (.ref 0),_]) bc (by simp) fun _=>aa ?_))
    conv in bf=>cbv
    repeat' first|simp(disch:=omega) only[go_sem, *,k16,hl,hg,hg1,Ex.row_eq,Int.toNat_zero,Int.toNat_one]|((with_reducible refine ab ?_ ?_)<;>intro h<;>try omega)|(with_reducible refine af ?_ ?_)|(with_reducible refine ag (fun h=> ?_) ?_)|(refine aq (pa.lift1 rfl rfl rfl) ?_)|(refine aq (pb.lift0 rfl rfl) ?_)|(refine aN rfl (by intro h;cases h) ok' (by simp;try omega) (by simp;try omega) ?_)
    refine⟨[], [(0,2)], ?_⟩
    simp(disch:=omega) only[go_sem,bo]
    simp[bT,dS]
  ·cases y
   all_goals
    refine .inr (.inr (am.ofZ (ress:= [.c (.ref 0),_]) bc (by simp) fun _=>aa ?_))
    conv in bf=>cbv
    repeat' first|simp(disch:=omega) only[go_sem, *,k16,hl,hg,hg1,Ex.row_eq,Int.toNat_zero,Int.toNat_one]|((with_reducible refine ab ?_ ?_)<;>intro h<;>try omega)|(with_reducible refine af ?_ ?_)|(with_reducible refine ag (fun h=> ?_) ?_)|(refine aq (pa.lift1 rfl rfl rfl) ?_)|(refine aq (pb.lift1 rfl rfl rfl) ?_)|(refine aN rfl (by intro h;cases h) ok' (by simp;try omega) (by simp;try omega) ?_)
    refine⟨[], [(0,3)], ?_⟩
    simp(disch:=omega) only[go_sem,bo]
    simp[bT,dS]
 by_cases k18:e.op=18
 ·have ha2:(e.args.length:Int)=1:=by rw[ha,k18];rfl
  obtain⟨a,hargs⟩:=GW ha2
  rw[yk k18 hargs]
  have hm:a∈e.args:=by rw[hargs];exact List.mem_cons_self
  have hA:=ih a hm (aX h hm) (by have:=cj hm;omega)
  have q1:=oQ a (aX h hm)
  have s1:=cj hm
  have hg:(e.args.map Ex.row)[0]? =some a.row:=by rw[hargs];rfl
  have hl:e.args.length=1:=by rw[hargs];rfl
  clear ih ha ha2 h k k16 hm hargs
  unfold TF at hA
  have hq:TN 20000 (bw a).1:=KD q1 (by omega)
  clear q1 s1 hs
  generalize bw a=r at*
  obtain⟨x,y⟩:=r
  simp only at hA hq ⊢
  by_cases hxy:x.length=1∧y=true
  ·obtain⟨hx,rfl⟩:=hxy
   obtain⟨c,rfl⟩: ∃c,x= [c]:=by match x,hx with| [c],_=>exact⟨c,rfl⟩
   obtain⟨h64,hlen⟩:=hq.2 c List.mem_cons_self
   have hsh:ft c.1.2:=by unfold ft;omega
   have pn:=sR h64 hsh
   rw[show zQ ([c],true)=if(gO c).2=0∧(gO c).1.length=1 then((gO c).1,true)else([],false)from rfl]
   try simp only at hA ⊢
   by_cases hn:(gO c).2=0∧(gO c).1.length=1
   ·rw[if_pos hn]
    have pl:=sA h64 hsh hn.1 hn.2
    have hN:=(K7 hn.1 hn.2).2.2.2
    rw[hN]at pl ⊢
    clear pn hN hn h64 hlen hq hsh
    refine .inr (.inl ⟨am.ofZ (ress:= [.c (.tsl ([wt c.1].map cP)),Go.Abs.B true]) bc (by simp) fun _=>aa ?_,by simp⟩)
    conv in bf=>cbv
    rcases hA with⟨pa,ea⟩|⟨pa,ea⟩|pa
    ·cases ea
    ·repeat' first|simp(disch:=omega) only[go_sem, *,k18,hl,hg,Ex.row_eq,Int.toNat_zero,cP]|((with_reducible refine ab ?_ ?_)<;>intro h<;>try omega)|(with_reducible refine af ?_ ?_)|(with_reducible refine ag (fun h=> ?_) ?_)|(refine aq (pa.lift0 rfl rfl) ?_)|(refine aq (pl.lift0 rfl rfl) ?_)
     refine⟨[], [], ?_⟩
     simp(disch:=omega) only[go_sem,bo]
     simp[bT,dS,cP]
    ·repeat' first|simp(disch:=omega) only[go_sem, *,k18,hl,hg,Ex.row_eq,Int.toNat_zero,cP]|((with_reducible refine ab ?_ ?_)<;>intro h<;>try omega)|(with_reducible refine af ?_ ?_)|(with_reducible refine ag (fun h=> ?_) ?_)|(refine aq (pa.lift1 rfl rfl rfl) ?_)|(refine aq (pl.lift0 rfl rfl) ?_)
     refine⟨[], [], ?_⟩
     simp(disch:=omega) only[go_sem,bo]
     simp[bT,dS,cP]
   ·rw[if_neg hn]
    clear h64 hlen hq hsh
    generalize gO c=X at*
    obtain⟨xs,er⟩:=X
    try simp only at pn hn
    have hn':er≠0∨(er=0∧ ¬((xs.length:Nat):Int)=1):=by
     by_cases h:er=0
     ·exact .inr ⟨h,fun h1=>hn ⟨h,by omega⟩⟩
     ·exact .inl h
    clear hn
    refine .inl ⟨am.ofZ (ress:= [.c .nils,Go.Abs.B false]) bc (by simp) fun _=>aa ?_,rfl⟩
    conv in bf=>cbv
    rcases hA with⟨pa,ea⟩|⟨pa,ea⟩|pa
    ·cases ea
    ·rcases hn' with h1|⟨rfl,h1⟩
     all_goals
      repeat' first|simp(disch:=omega) only[go_sem, *,k18,hl,hg,Ex.row_eq,Int.toNat_zero,cP,h1]|((with_reducible refine ab ?_ ?_)<;>intro h<;>try omega)|(with_reducible refine af ?_ ?_)|(with_reducible refine ag (fun h=> ?_) ?_)|(refine aq (pa.lift0 rfl rfl) ?_)|(refine bS pn rfl rfl ?_)
      refine⟨[], [], ?_⟩
      simp(disch:=omega) only[go_sem,bo]
      simp[bT,dS,cP]
    ·rcases hn' with h1|⟨rfl,h1⟩
     all_goals
      repeat' first|simp(disch:=omega) only[go_sem, *,k18,hl,hg,Ex.row_eq,Int.toNat_zero,cP,h1]|((with_reducible refine ab ?_ ?_)<;>intro h<;>try omega)|(with_reducible refine af ?_ ?_)|(with_reducible refine ag (fun h=> ?_) ?_)|(refine aq (pa.lift1 rfl rfl rfl) ?_)|(refine bS pn rfl rfl ?_)
      refine⟨[], [], ?_⟩
      simp(disch:=omega) only[go_sem,bo]
      simp[bT,dS,cP]
  ·have hR:zQ (x,y)=(([],false):CB):=OD hxy
   rw[hR]
   have hy:y=false∨(y=true∧ ¬((x.length:Nat):Int)=1):=by
    cases y
    ·exact .inl rfl
    ·exact .inr ⟨rfl,fun h1=>hxy ⟨by omega,rfl⟩⟩
   clear hR hxy hq
   refine .inl ⟨am.ofZ (ress:= [.c .nils,Go.Abs.B false]) bc (by simp) fun _=>aa ?_,rfl⟩
   conv in bf=>cbv
   rcases hA with⟨pa,ea⟩|⟨pa,ea⟩|pa
   ·subst ea
    rcases hy with rfl|⟨rfl,h1⟩
    all_goals
     repeat' first|simp(disch:=omega) only[go_sem, *,k18,hl,hg,Ex.row_eq,Int.toNat_zero,cP]|((with_reducible refine ab ?_ ?_)<;>intro h<;>try omega)|(with_reducible refine af ?_ ?_)|(with_reducible refine ag (fun h=> ?_) ?_)|(refine aq (pa.lift0 rfl rfl) ?_)
     refine⟨[], [], ?_⟩
     simp(disch:=omega) only[go_sem,bo]
     simp[bT,dS,cP]
   ·rcases hy with rfl|⟨rfl,h1⟩
    ·repeat' first|simp(disch:=omega) only[go_sem, *,k18,hl,hg,Ex.row_eq,Int.toNat_zero,cP]|((with_reducible refine ab ?_ ?_)<;>intro h<;>try omega)|(with_reducible refine af ?_ ?_)|(with_reducible refine ag (fun h=> ?_) ?_)|(refine aq (pa.lift0 rfl rfl) ?_)
     refine⟨[], [], ?_⟩
     simp(disch:=omega) only[go_sem,bo]
     simp[bT,dS,cP]
    ·repeat' first|simp(disch:=omega) only[go_sem, *,k18,hl,hg,Ex.row_eq,Int.toNat_zero,cP,h1]|((with_reducible refine ab ?_ ?_)<;>intro h<;>try omega)|(with_reducible refine af ?_ ?_)|(with_reducible refine ag (fun h=> ?_) ?_)|(refine aq (pa.lift0 rfl rfl) ?_)
     refine⟨[], [], ?_⟩
     simp(disch:=omega) only[go_sem,bo]
     simp[bT,dS,cP]
   ·rcases hy with rfl|⟨rfl,h1⟩
    ·repeat' first|simp(disch:=omega) only[go_sem, *,k18,hl,hg,Ex.row_eq,Int.toNat_zero,cP]|((with_reducible refine ab ?_ ?_)<;>intro h<;>try omega)|(with_reducible refine af ?_ ?_)|(with_reducible refine ag (fun h=> ?_) ?_)|(refine aq (pa.lift1 rfl rfl rfl) ?_)
     refine⟨[], [], ?_⟩
     simp(disch:=omega) only[go_sem,bo]
     simp[bT,dS,cP]
    ·repeat' first|simp(disch:=omega) only[go_sem, *,k18,hl,hg,Ex.row_eq,Int.toNat_zero,cP,h1]|((with_reducible refine ab ?_ ?_)<;>intro h<;>try omega)|(with_reducible refine af ?_ ?_)|(with_reducible refine ag (fun h=> ?_) ?_)|(refine aq (pa.lift1 rfl rfl rfl) ?_)
     refine⟨[], [], ?_⟩
     simp(disch:=omega) only[go_sem,bo]
     simp[bT,dS,cP]
 ·rw[Om k k16 k18]
  have d1: ¬e.op=13:=by omega
  have d2: ¬e.op=14:=by omega
  have d3: ¬e.op=15:=by omega
  clear ih ha h k
  refine .inl ⟨am.ofZ (ress:= [.c .nils,Go.Abs.B false]) bc (by simp) fun _=>aa ?_,rfl⟩
  conv in bf=>cbv
  repeat' first|simp(disch:=omega) only[go_sem, *,d1,d2,d3,k16,k18]|((with_reducible refine ab ?_ ?_)<;>intro h<;>try omega)|(with_reducible refine af ?_ ?_)|(with_reducible refine ag (fun h=> ?_) ?_)
  refine⟨[], [], ?_⟩
  simp(disch:=omega) only[go_sem,bo]
  simp[bT,dS,cP]
set_option maxRecDepth 20000
set_option maxRecDepth 1000000
theorem tX {e:Ex} (h:lG e) (hs:e.sz≤20000):ac Tryz.prog fk [fm e] (YE (bw e)):=by
 rcases DI e h hs with⟨c,h0⟩|⟨c,_⟩|c
 ·exact c.toP (by show _=some (AV.tup [ej (bw e).1,Go.Abs.B (bw e).2]);rw[h0];rfl)
 ·exact c.toP rfl
 ·exact c.toP rfl
theorem ol {q N N' a r r':Nat} {b:aS} {F:List (Nat×aS)} (h:Go.Abs.dU N [q,r] F) (h0:q<a) (ha:N≤a) (ha':a<N') (hb:wS b=true) (hr:r'=r∨N≤r') (hne:a≠r'):Go.Abs.dU N' [q,r'] ((a,b)::F):=by
 refine⟨ha',hb,eK.2 fun m hm=> ?_,h.mono (by omega) fun n hn h'=>eK.2 fun m hm=> ?_⟩
 ·simp only[List.mem_cons,List.not_mem_nil,or_false]at hm
  omega
 ·have h1:=eK.1 h' q (by simp)
  have h2:=eK.1 h' r (by simp)
  simp only[List.mem_cons,List.not_mem_nil,or_false]at hm
  omega
theorem pO {N n:Nat}: ∀{F:List (Nat×aS)} {s:List Nat},Go.Abs.dU N s F→N≤n→ak F n=none
 | [],s,_,_=>rfl
 |(nm,b)::r,s,h,hn=>by
  rw[ak,if_neg (by have:=h.1;omega)]
  exact pO h.2.2.2 hn
def Y3 (d k:Nat) (o:Ob):List PC:= [pI d,pI k,pI o.1.1.1,aE o.1.1.2,pB o.1.2,c9 cP o.2]
def ji (d:Nat) (l:List Ob):List (List PC):=l.zipIdx.map fun x=>Y3 d x.2 x.1
theorem IB (d:Nat) (l:List Ob) (o:Ob):ji d (l++ [o])=ji d l++ [[pI d,pI l.length,pI o.1.1.1,aE o.1.1.2,pB o.1.2,c9 cP o.2]]:=by simp[ji,List.zipIdx_append,Y3]
theorem Ig (d:Nat) (l:List Ob):(ji d l).length=l.length:=by simp[ji]
abbrev Zp (p:bK) (d:Nat) (c:AC) (n:Int):aS:= .var [.pure (cH p.sizes),.pure (c9 cP p.wher),.pure (c9 gV p.params),.pure (c9 cr p.defs),.pure (cH p.outs),.pure (pI d),c,.pure (pI n)]
abbrev Uu (q r:Nat) (p:bK) (d:Nat) (l:List Ob) (F:List (Nat×aS)):List (Nat×aS):=(r,.arr 64 6 (ji d l))::(q,Zp p d (.ref r) l.length)::F
def rv (cs:List gf) (l:List gf):List Ob:=l.map fun c=>(c,cs)
theorem Tq (f x:ca): ∃T:ca,eN f x= [(f,false),(T,false)]∧((nJ f x).2=0→T=(nJ f x).1)∧((nJ f x).2≠0→T=(-1, [])):=⟨if(nJ f x).2=0 then(nJ f x).1 else(-1, []),rfl,fun h=>if_pos h,fun h=>if_neg h⟩
set_option maxHeartbeats 2000000 in
theorem rO {p:bK} {d:Nat} {f x:ca} {cs:List gf} {l:List Ob} {q r nx:Nat} {F:List (Nat×aS)} (hf:bj f) (hx:bj x) (lf:f.2.length≤40000000) (lx:x.2.length≤40000000) (hl:l.length≤100000000) (hr:q<r) (hrn:r<nx) (hF:Go.Abs.dU nx [q,r] F):
  am Tryz.prog gG [.c (.ptr q 0),dj f.1 f.2,dj x.1 x.2,ej cs] (Uu q r p d l F) nx (gE []) (Uu q nx p d (l++rv cs (eN f x)) F) (nx+1):=by
 refine am.ofZ sK (by simp) fun _=>aa ?_
 have pb:=qv hf hx lf lx
 have pc:=ov (-1)
 have hdl:=hF.del (n:=r) (.inl (by simp))
 have hqk: ∀k,q<nx+k:=fun k=>by omega
 obtain⟨T,hT,h1,h2⟩:=Tq f x
 rw[hT]
 clear hT lf lx hf hx
 obtain⟨K,L⟩:=f
 conv in lj=>cbv
 have key:T=(-1, [])∨True:= .inr trivial
 obtain⟨os,hos⟩: ∃os:List gf,os= [((K,L),false),(T,false)]:=⟨_,rfl⟩
 have hol:os.length=2:=by rw[hos];rfl
 have hoq: ∀c∈os,c.2=false:=by rw[hos];simp
 have hor:os.map (fun c=>bQ c.1)= [[pI K,aE L], [pI T.1,aE T.2]]:=by rw[hos];rfl
 rw[←hos]
 generalize nJ (K,L) x=s at*
 obtain⟨⟨K3,L3⟩,er⟩:=s
 try simp only at pb h1 h2
 have hd:(er=0∧T=(K3,L3))∨(er≠0∧T=(-1, [])):=by
  by_cases h:er=0
  ·exact .inl ⟨h,h1 h⟩
  ·exact .inr ⟨h,h2 h⟩
 clear h1 h2 key
 rcases hd with⟨h0,rfl⟩|⟨h0,rfl⟩
 all_goals
  repeat' first|simp(disch:=omega) only[go_sem, *,dm,eG,h0]|((with_reducible refine ab ?_ ?_)<;>intro h<;>try omega)|(refine bS pb rfl rfl ?_)|(refine bS pc rfl rfl ?_)
  refine aj (fun k:Nat=>⟨[(0,.c (.ptr q 0)),(3,ej cs),(23,.c (.tsl (os.map fun c=>bQ c.1))),(24,I 2),(25,I k)],Uu q nx p d (l++rv cs (os.take k)) F,nx+1,nx⟩) (fun k=>k≤2) (fun k=>2-k) ⟨0, [(nx,r)],by omega, ?_⟩ ?_
  ·rw[hor]
   simp only[List.take_zero,rv,List.map_nil,List.append_nil]
   refine bz (by simp(disch:=omega) [dm,hqk]) ?_ rfl (by simp;try omega) (by simp[qS];try omega)
   repeat' first|exact hF.wkA|refine bB ?_ ?_ ?_ ?_ ?_|(simp(disch:=omega) [dm,hqk]<;>omega)|omega
  clear hor hdl pb pc
  intro k hk
  refine aa ?_
  have h0n:q<nx:=by omega
  have hdn:=hF.del (n:=nx) (.inr (Nat.le_refl _))
  by_cases hlt:k<2
  ·have hlt':k<os.length:=by omega
   have g1:=ae (f:=fun c:gf=>bQ c.1) hlt'
   have hq:=hoq _ (List.getElem_mem hlt')
   have hlo:(l++rv cs (os.take k)).length≤100000002:=by simp[rv];omega
   have ho:l++rv cs (os.take (k+1))=l++rv cs (os.take k)++ [(os[k],cs)]:=by
    rw[List.take_succ_eq_append_getElem hlt',rv,List.map_append,List.append_assoc]
    rfl
   have hr1:=IB d (l++rv cs (os.take k)) (os[k],cs)
   rw[←ho]at hr1
   have hn1:((l++rv cs (os.take (k+1))).length:Int)=(l++rv cs (os.take k)).length+1:=by rw[ho];simp only[List.length_append,List.length_cons,List.length_nil];omega
   have hro:=Ig d (l++rv cs (os.take k))
   have HR:=Lib.hid hr1
   have HN:=Lib.hid hn1
   clear hr1 hn1 ho hos
   obtain⟨l2,hl2⟩: ∃l2,l2=l++rv cs (os.take (k+1)):=⟨_,rfl⟩
   rw[←hl2]at HR HN
   have HL:=Lib.hid hl2
   clear hl2
   generalize l++rv cs (os.take k)=l1 at*
   generalize os[k]=c at*
   obtain⟨⟨Kc,Lc⟩,q⟩:=c
   simp only at hq
   subst hq
   have g2:(os.map fun c:gf=>bQ c.1)[k]? =some [pI Kc,aE Lc]:=g1
   clear g1 hoq hol h0
   simp only at HR
   repeat' first|simp(disch:=omega) only[go_sem, *,g2,dm,eG,wrap_i64]|((with_reducible refine ab ?_ ?_)<;>intro h<;>try omega)|(refine aN (by simp(disch:=omega) only[ak,aB,dm,eq_self,↓reduceIte,Option.map_some]<;>rfl) (by intro h;cases h) (aI rfl) (by simp only[List.length_append,List.length_cons,List.length_nil];omega) (by simp only[List.length_append,List.length_cons,List.length_nil];omega) ?_)
   rw[←HR.out,←HN.out]
   try rw[hdn]
   refine⟨k+1, [(nx,nx+2)],by omega,by omega, ?_⟩
   rw[←HL.out]
   refine bz (by simp(disch:=omega) [dm,hqk,h0n]) ?_ rfl (by simp;try omega) (by simp[qS];try omega)
   repeat' first|exact hF.wkA|refine bB ?_ ?_ ?_ ?_ ?_|(simp(disch:=omega) [dm,hqk,h0n]<;>omega)|omega
  ·obtain rfl:k=2:=by omega
   rw[List.take_of_length_le (by omega)]
   repeat' first|simp(disch:=omega) only[go_sem, *,dm,eG]|((with_reducible refine ab ?_ ?_)<;>intro h<;>try omega)
   refine⟨[], [], ?_⟩
   simp(disch:=omega) only[go_sem,bo,dm,eG]
   refine bz (by simp(disch:=omega) [dm,hqk]) ?_ rfl (by simp;try omega) (by simp[qS];try omega)
   repeat' first|exact hF.wkA|refine bB ?_ ?_ ?_ ?_ ?_|(simp(disch:=omega) [dm,hqk]<;>omega)|omega
end Go.Proofs.YthkaaahphlneiaaGreatDoor
