import Derived.Test.YthbcbaembicdbaaGreatDoorV07k
set_option maxHeartbeats 4000000
set_option linter.unusedVariables false
set_option linter.unusedSimpArgs false
namespace Go.Proofs.YthbcbaembicdbaaGreatDoor
open Go.Abs Go.RowKit
noncomputable section
theorem KA: ∀{l:List (aR×Int)} {out:bU} {eq:Bool},br out→bk (gV out eq l).1
 | [],out,eq,h=>h
 |p::r,out,eq,h=>by
  rw[gV]
  split
  ·exact⟨b6,λm hm=>by cases hm⟩
  ·rename_i hn
   exact KA (Jp (Classical.byContradiction λh'=>hn (.inr h')))
theorem Jm:bk wD:=⟨b6,λm hm=>by cases hm⟩
theorem xv (l:List aR) (b:List Int):bk (aL l b).1:=by
 rw[aL]
 split
 ·exact Jm
 ·split
  ·exact Jm
  ·exact KA ⟨b6,λm hm=>by cases hm⟩
def Xv:List (aR×Int)→Nat
 | []=>0
 |p::r=>p.1.1.2.length+Xv r
theorem Ig: ∀{l:List (aR×Int)} {out:bU} {eq:Bool},(gV out eq l).1.1.2.length≤out.2.length+Xv l
 | [],out,eq=>Nat.le_refl _
 |p::r,out,eq=>by
  rw[gV]
  split
  ·exact Nat.zero_le _
  ·have h1:=Ig (l:=r) (out:=tb out (de p.1.1 p.2)) (eq:=eq&&(p.1.2||decide (p.2=0)))
   have h2:=Ea out (de p.1.1 p.2)
   have h3:=xB p.1.1 p.2
   show _≤out.2.length+(p.1.1.2.length+Xv r)
   omega
theorem Cu (a b:aR) (x y:Int):(aL [a,b] [x,y]).1.1.2.length≤a.1.2.length+b.1.2.length:=by
 rw[aL]
 split
 ·exact Nat.zero_le _
 ·split
  ·exact Nat.zero_le _
  ·refine Nat.le_trans Ig ?_
   simp[Xv]
abbrev dh:=aR×List Int
def Ok:dh:=(wD, [])
def wA (g:Nat) (l:List Int):Nat:=l.foldl (λg n=>Nat.gcd g n.natAbs) g
def Xm (g:Nat) (l:List aD):List aD:=l.map λm=>(m.1,m.2.tdiv (g:Int))
def WN (g:Nat) (l:List Int):List Int:=l.map λn=>n.tdiv (g:Int)
def uf (d:dh):dh:=
 if wA 0 d.2<2∨4611686018427387904<wA 0 d.2 then d else
 (((d.1.1.1.tdiv (wA 0 d.2:Int),Xm (wA 0 d.2) d.1.1.2),d.1.2),WN (wA 0 d.2) d.2)
def FH (x y:Int) (p:Int×Int):Bool:=decide (ar (p.1*x))&&(decide (ar (p.2*y))&&decide (ar (p.1*x+p.2*y)))
def jI (x y:Int):List (Int×Int)→Option (List Int)
 | []=>some []
 |p::r=>if FH x y p=true then(jI x y r).map ((p.1*x+p.2*y):: ·)else none
def fX (fuel:Int) (a b:dh) (x y:Int):dh×Int:=
 if fuel≤0 then(Ok,14)else
 if(aL [a.1,b.1] [x,y]).2≠0 then(Ok,(aL [a.1,b.1] [x,y]).2)else
 match jI x y (a.2.zip b.2)with
 |none=>(Ok,3)
 |some l=>(uf ((aL [a.1,b.1] [x,y]).1,l),0)
def Jc (r d:dh):Prop:=r.1.2=d.1.2∧r.1.1.2=d.1.1.2∧(d.1.2=false∨r.1.1.1=d.1.1.1)
instance (r d:dh):Decidable (Jc r d):=Classical.propDecidable _
def xL (d:dh):List dh→Option (List dh)
 | []=>none
 |r::l=>if Jc r d then some ((if d.1.1.1<r.1.1.1 then d else r)::l)else(xL d l).map (r:: ·)
def dN (rows:List dh) (d:dh):List dh×Int:=
 if d.1.1.2= []∧ ¬ig d.1 then(rows,0)else
 match xL d rows with
 |some l=>(l,0)
 |none=>if 256≤rows.length then(rows,2)else(rows++ [d],0)
def tZ (n:ByteArray):Nat→List dh→Option Nat
 |_, []=>none
 |k,r::l=>if cf r.1.1.2 n≠0∧r.1.2=true then some k else tZ n (k+1) l
def Bf (n:ByteArray) (l:List dh):Nat:=(l.filter λr=>decide (0<cf r.1.1.2 n)).length
def Rd (n:ByteArray) (l:List dh):Nat:=(l.filter λr=>decide (cf r.1.1.2 n<0)).length
def dj (rows:List dh):List ByteArray→Int→ByteArray→ByteArray×Int×Bool
 | [],best,name=>(name,-1,decide (0≤best))
 |v::vs,best,name=>match tZ v 0 rows with
  |some k=>(v,k,true)
  |none=>if best<0∨((Bf v rows*Rd v rows:Nat):Int)<best then dj rows vs ((Bf v rows*Rd v rows:Nat):Int) v else dj rows vs best name
def fg (rows:List dh):List ByteArray:=rows.flatMap λr=>r.1.1.2.map (·.1)
def fy (c d:Int):Int×Int×Bool:=
 ((nX (c.natAbs/Nat.gcd c.natAbs d.natAbs) false).1,(nX (d.natAbs/Nat.gcd c.natAbs d.natAbs) (decide (0<c)==decide (0<d))).1,
  (nX (c.natAbs/Nat.gcd c.natAbs d.natAbs) false).2&&(nX (d.natAbs/Nat.gcd c.natAbs d.natAbs) (decide (0<c)==decide (0<d))).2)
def fK (p q:Int):Int×Int×Bool:=
 ((nX (q.natAbs/Nat.gcd p.natAbs q.natAbs) false).1,(nX (p.natAbs/Nat.gcd p.natAbs q.natAbs) false).1,(nX (q.natAbs/Nat.gcd p.natAbs q.natAbs) false).2&&(nX (p.natAbs/Nat.gcd p.natAbs q.natAbs) false).2)
abbrev R6:=List dh×Int×Int
def kS (a b:dh) (x y:Int) (acc:List dh) (fuel:Int):R6:=
 if(fX fuel a b x y).2≠0 then(acc,fuel-1,(fX fuel a b x y).2)else((dN acc (fX fuel a b x y).1).1,fuel-1,(dN acc (fX fuel a b x y).1).2)
def gL {α:Type} (step:α→List dh→Int→R6):List α→List dh→Int→R6
 | [],acc,fuel=>(acc,fuel,0)
 |x::l,acc,fuel=>if(step x acc fuel).2.2≠0 then step x acc fuel else gL step l (step x acc fuel).1 (step x acc fuel).2.1
def sj (n:ByteArray) (q:dh) (e:Nat) (r:Nat×dh) (acc:List dh) (fuel:Int):R6:=
 if r.1=e then(acc,fuel,0)else
 if cf r.2.1.1.2 n=0 then((dN acc r.2).1,fuel,(dN acc r.2).2)else
 if(fy (cf q.1.1.2 n) (cf r.2.1.1.2 n)).2.2=false then(acc,fuel,3)else
 kS r.2 q (fy (cf q.1.1.2 n) (cf r.2.1.1.2 n)).1 (fy (cf q.1.1.2 n) (cf r.2.1.1.2 n)).2.1 acc fuel
def mp (n:ByteArray) (r:dh) (acc:List dh) (fuel:Int):R6:=
 if cf r.1.1.2 n=0 then((dN acc r).1,fuel,(dN acc r).2)else(acc,fuel,0)
def sv (n:ByteArray) (a b:dh) (acc:List dh) (fuel:Int):R6:=
 if cf a.1.1.2 n≤0∨0≤cf b.1.1.2 n then(acc,fuel,0)else
 if(fK (cf a.1.1.2 n) (cf b.1.1.2 n)).2.2=false then(acc,fuel,3)else
 kS a b (fK (cf a.1.1.2 n) (cf b.1.1.2 n)).1 (fK (cf a.1.1.2 n) (cf b.1.1.2 n)).2.1 acc fuel
def xQ {α:Type}:Nat→List α→List (Nat×α)
 |_, []=> []
 |k,x::l=>(k,x)::xQ (k+1) l
def xZ (n:ByteArray) (e:Nat) (rows:List dh) (fuel:Int):R6:=gL (sj n (rows.getD e Ok) e) (xQ 0 rows) [] fuel
def vA (n:ByteArray) (rows:List dh) (fuel:Int):R6:=
 if(gL (mp n) rows [] fuel).2.2≠0 then gL (mp n) rows [] fuel else gL (λa=>gL (sv n a) rows) rows (gL (mp n) rows [] fuel).1 (gL (mp n) rows [] fuel).2.1
set_option maxRecDepth 1000000
theorem qY {a b:Int} (ha:ar a) (hb:ar b):af Tryz.prog uM [I a,I b] (.tup [I (IntKind.wrap .i64 (a*b)),Go.Abs.B (decide (ar (a*b)))]):=by
 refine af.of Ck (by simp) λ_=>aa ?_
 conv in t6=>cbv
 by_cases h0:a=0
 ·subst h0
  have e:decide (ar (0*b))=true:=decide_eq_true (by rw[Int.zero_mul];exact b6)
  rw[e]
  repeat' first|simp(disch:=omega) only[go_sem, *]|((with_reducible apply ab)<;>intro h<;>try omega)
 ·have hc:IntKind.wrap .i64 (b*a)=IntKind.wrap .i64 (a*b):=by rw[Int.mul_comm]
  by_cases hm:a= -1∧b= -9223372036854775808
  ·obtain⟨rfl,rfl⟩:=hm
   have e:decide (ar (-1* -9223372036854775808))=false:=decide_eq_false (by unfold ar;omega)
   rw[e]
   have e1:IntKind.wrap .i64 (-1* -9223372036854775808)= -9223372036854775808:=by decide
   have e2:IntKind.wrap .i64 (Int.tdiv (-9223372036854775808) (-1))= -9223372036854775808:=by decide
   repeat' first|simp(disch:=omega) only[go_sem, *,e1,e2]|((with_reducible apply ab)<;>intro h<;>try omega)
   all_goals rfl
  ·have hw:=RP hb ha h0 hm
   rw[hc]at hw
   have hcm:ar (b*a)↔ar (a*b):=by rw[Int.mul_comm]
   rw[hcm]at hw
   by_cases hx:a= -1
   ·subst hx
    have hr:ar (-1*b):=by unfold ar at*;omega
    rw[decide_eq_true hr]
    have e1:IntKind.wrap .i64 (-1*b)= -b:=by rw[wrap_i64 (by unfold ar at hr;omega)];omega
    have e2:IntKind.wrap .i64 ((-b).tdiv (-1))=b:=by rw[Int.tdiv_neg,Int.tdiv_one,Int.neg_neg];exact wrap_i64 hb
    clear hw hc hcm hr
    by_cases hb0:b<0
    ·have hb1: ¬b= -b:=by omega
     repeat' first|simp(disch:=omega) only[go_sem, *,e1,e2,hb1]|((with_reducible apply ab)<;>intro h<;>try omega)
     all_goals rfl
    ·by_cases hz:b=0
     ·subst hz
      repeat' first|simp(disch:=omega) only[go_sem, *,e1,e2]|((with_reducible apply ab)<;>intro h<;>try omega)
      all_goals rfl
     ·have hb1: ¬b= -b:=by omega
      repeat' first|simp(disch:=omega) only[go_sem, *,e1,e2,hb1]|((with_reducible apply ab)<;>intro h<;>try omega)
      all_goals rfl
   ·clear hc hcm hm
    by_cases hin:ar (a*b)
    ·rw[decide_eq_true hin]
     have hq:=hw.2 hin
     clear hw hin
     repeat' first|simp(disch:=omega) only[go_sem, *,h0,ne_eq,hq,hx]|((with_reducible apply ab)<;>intro h<;>try omega)
     all_goals rfl
    ·rw[decide_eq_false hin]
     have hq: ¬IntKind.wrap .i64 ((IntKind.wrap .i64 (a*b)).tdiv a)=b:= λh=>hin (hw.1 h)
     clear hw hin
     repeat' first|simp(disch:=omega) only[go_sem, *,h0,ne_eq,hq,hx]|((with_reducible apply ab)<;>intro h<;>try omega)
     all_goals rfl
abbrev dv (d:dh):List PC:= [pI d.1.1.1,aw d.1.1.2,pB d.1.2,mz d.2]
abbrev RT (d:dh):AV:= .agg [.pure (pI d.1.1.1),.pure (aw d.1.1.2),.pure (pB d.1.2),.pure (mz d.2)]
def Lg (d:dh):Prop:=bk d.1∧ ∀n∈d.2,ar n
theorem w8 {α β:Type} {f:α→β} {l:List α} {k:Nat} (h:k<l.length):(l.take (k+1)).map f=(l.take k).map f++ [f l[k]]:=by
 rw[List.take_succ_eq_append_getElem h,List.map_append]
 rfl
theorem v6 {x:Int} {g:Nat} (hx:ar x) (hg:2≤g):ar (x.tdiv g):=by
 rcases Pp (g:=g) hx with h|h
 ·exact h
 ·have h1:(x.tdiv g).natAbs=x.natAbs/g:=by rw[Int.natAbs_tdiv,Int.natAbs_natCast];rfl
  have h2:x.natAbs/g≤x.natAbs/2:=Nat.div_le_div_left hg (by omega)
  unfold ar at hx
  omega
theorem Xj {g:Nat} {l:List aD}:(Xm g l).map mP=l.map λm=> [pS m.1,pI (m.2.tdiv (g:Int))]:=by
 rw[Xm,List.map_map]
 rfl
theorem WX {g:Nat} {l:List Int}:(WN g l).map (λn=> [pI n])=l.map λn=> [pI (n.tdiv (g:Int))]:=by
 rw[WN,List.map_map]
 rfl
theorem Qo {g k:Nat} {l:List Int} (h:k<l.length):wA g (l.drop k)=wA (Nat.gcd g l[k].natAbs) (l.drop (k+1)):=by
 rw[List.drop_eq_getElem_cons h]
 rfl
theorem TW {g k:Nat} {l:List Int} (h:l.length≤k):wA g (l.drop k)=g:=by
 rw[List.drop_eq_nil_of_le h]
 rfl
theorem Au {d:dh} (h64:Lg d) (hl:d.1.1.2.length≤1000000000) (hb:d.2.length≤1000000000):af Tryz.prog u6 [RT d] (RT (uf d)):=by
 refine af.of C3 (by simp) λ_=>aa ?_
 obtain⟨⟨⟨K,l⟩,q⟩,by'⟩:=d
 obtain⟨⟨hK,h64⟩,hby⟩:=h64
 simp only at hK h64 hby hl hb
 conv in uJ=>cbv
 obtain⟨G,hG⟩: ∃G,G=wA 0 (by'.drop 0):=⟨_,rfl⟩
 have hG0:wA 0 by'=G:=hG.symm
 unfold uf
 simp only
 rw[hG0]
 have HG:=Lib.hid hG
 clear hG hG0
 repeat' first|simp(disch:=omega) only[go_sem, *]|((with_reducible apply ab)<;>intro h<;>try omega)
 refine ap (λs:Nat×Nat=>⟨[(1,.c (.ptr 0 0)),(2,.c (.ptr 1 0)),(3,U s.2),(12,dc by'),(13,I by'.length),(14,I s.1)],
  [(0,.var [.pure (pI K),.pure (aw l),.pure (pB q),.pure (mz by')]),(1,.var [.pure (pI 0),.nils,.pure (pB false),.nils])],2,0⟩) (λs=>s.1≤by'.length∧Hid (G=wA s.2 (by'.drop s.1))) (λs=>by'.length-s.1) ⟨(0,0), [],⟨Nat.zero_le _,HG⟩,by simp⟩ ?_
 clear HG
 rintro⟨j,g⟩ ⟨hj,HG⟩
 simp only at hj HG
 refine aa ?_
 by_cases hlt:j<by'.length
 ·have g1:=ai (f:= λn=> [pI n]) hlt
  have h2:=HG.out
  rw[Qo hlt]at h2
  have pm:=d6 (hby _ (List.getElem_mem hlt))
  generalize by'[j]=x at*
  have pg:=rN g x.natAbs
  have HG:=Lib.hid h2
  clear h2
  repeat' first|simp(disch:=omega) only[go_sem, *,g1,wrap_i64]|((with_reducible apply ab)<;>intro h<;>try omega)|(refine aY pm rfl rfl ?_)|(refine aY pg rfl rfl ?_)
  exact⟨(j+1,Nat.gcd g x.natAbs), [],⟨hlt,HG⟩,by show _-_<_-_;omega,by simp⟩
 ·have h2:=HG.out
  rw[TW (by omega)]at h2
  clear HG
  subst h2
  by_cases hs:G<2∨4611686018427387904<G
  ·rw[if_pos hs]
   rcases hs with hs|hs
   ·repeat' first|simp(disch:=omega) only[go_sem, *]|((with_reducible apply ab)<;>intro h<;>try omega)
    all_goals rfl
   ·repeat' first|simp(disch:=omega) only[go_sem, *]|((with_reducible apply ab)<;>intro h<;>try omega)
    all_goals rfl
  ·rw[if_neg hs]
   have hs1:2≤G:=by omega
   have eG:IntKind.wrap .i64 (G:Int)=G:=wrap_i64 (by omega)
   have eK:IntKind.wrap .i64 (K.tdiv G)=K.tdiv G:=wrap_i64 (v6 hK hs1)
   have hG0: ¬(G:Int)=0:=by omega
   repeat' first|simp(disch:=omega) only[go_sem, *,eG,eK,hG0,ne_eq]|((with_reducible apply ab)<;>intro h<;>try omega)
   refine dD 2 1 114 2 _ rfl rfl (by decide) ?_
   refine ap (λj:Nat=>⟨[(1,.c (.ptr 0 0)),(2,.c (.ptr 1 0)),(3,U G),(6,.c (.ptr 2 0)),(48,.c (.pure (aw l))),(49,I l.length),(50,I j)],
    [(0,.var [.pure (pI K),.pure (aw l),.pure (pB q),.pure (mz by')]),(1,.var [.pure (pI 0),.nils,.pure (pB false),.nils]),(2,.var [.pure (pI (K.tdiv G)),.ref 3,.pure (pB q),.nils]),
     (3,.arr 114 2 ((l.take j).map λm=> [pS m.1,pI (m.2.tdiv (G:Int))]))],4,0⟩) (λj=>j≤l.length) (λj=>l.length-j) ⟨0, [],Nat.zero_le _,by simp⟩ ?_
   intro j hj
   refine aa ?_
   by_cases hlt:j<l.length
   ·have e1:=w8 (f:= λm:aD=> [pS m.1,pI (m.2.tdiv (G:Int))]) hlt
    have g1:=ai (f:=mP) hlt
    have hlen:((l.take j).map λm=> [pS m.1,pI (m.2.tdiv (G:Int))]).length≤1000000000:=by simp;omega
    have ex:IntKind.wrap .i64 ((l[j].2).tdiv G)=(l[j].2).tdiv G:=wrap_i64 (v6 (h64 _ (List.getElem_mem hlt)) hs1)
    generalize l[j]=m at*
    obtain⟨n,x⟩:=m
    simp only[mP]at g1 e1 ex
    generalize ((l.take j).map λm=> [pS m.1,pI (m.2.tdiv (G:Int))])=D0 at*
    repeat' first|simp(disch:=omega) only[go_sem, *,g1,eG,ex,hG0,ne_eq,wrap_i64]|((with_reducible apply ab)<;>intro h<;>try omega)|(refine bf rfl (by intro h;cases h) (aO rfl) (by simp;omega) (by simp;omega) ?_)
    exact⟨j+1, [(3,5)],hlt,by omega,by simp[e1]⟩
   ·obtain rfl:j=l.length:=by omega
    rw[List.take_of_length_le (Nat.le_refl _)]
    repeat' first|simp(disch:=omega) only[go_sem, *]|((with_reducible apply ab)<;>intro h<;>try omega)
    refine dD 2 3 2 1 _ rfl rfl (by decide) ?_
    refine ap (λj:Nat=>⟨[(2,.c (.ptr 1 0)),(3,U G),(6,.c (.ptr 2 0)),(73,dc by'),(74,I by'.length),(75,I j)],
     [(1,.var [.pure (pI 0),.nils,.pure (pB false),.nils]),(2,.var [.pure (pI (K.tdiv G)),.ref 3,.pure (pB q),.ref 4]),
      (3,.arr 114 2 (l.map λm=> [pS m.1,pI (m.2.tdiv (G:Int))])),(4,.arr 2 1 ((by'.take j).map λn=> [pI (n.tdiv (G:Int))]))],5,0⟩) (λj=>j≤by'.length) (λj=>by'.length-j) ⟨0, [],Nat.zero_le _,by simp⟩ ?_
    intro j hj
    refine aa ?_
    by_cases hlt:j<by'.length
    ·have e1:=w8 (f:= λn:Int=> [pI (n.tdiv (G:Int))]) hlt
     have g1:=ai (f:= λn=> [pI n]) hlt
     have hlen:((by'.take j).map λn=> [pI (n.tdiv (G:Int))]).length≤1000000000:=by simp;omega
     have ex:IntKind.wrap .i64 ((by'[j]).tdiv G)=(by'[j]).tdiv G:=wrap_i64 (v6 (hby _ (List.getElem_mem hlt)) hs1)
     generalize by'[j]=x at*
     generalize ((by'.take j).map λn=> [pI (n.tdiv (G:Int))])=D0 at*
     repeat' first|simp(disch:=omega) only[go_sem, *,g1,eG,ex,hG0,ne_eq,wrap_i64]|((with_reducible apply ab)<;>intro h<;>try omega)|(refine bf rfl (by intro h;cases h) (aO rfl) (by simp;omega) (by simp;omega) ?_)
     exact⟨j+1, [(4,5)],hlt,by omega,by simp[e1]⟩
    ·obtain rfl:j=by'.length:=by omega
     rw[List.take_of_length_le (Nat.le_refl _)]
     repeat' first|simp(disch:=omega) only[go_sem, *]|((with_reducible apply ab)<;>intro h<;>try omega)
     show _=AV.agg [_,.pure (.slice ((Xm G l).map mP)),_,.pure (.slice ((WN G by').map λn=> [pI n]))]
     rw[Xj,WX]
end
end Go.Proofs.YthbcbaembicdbaaGreatDoor
