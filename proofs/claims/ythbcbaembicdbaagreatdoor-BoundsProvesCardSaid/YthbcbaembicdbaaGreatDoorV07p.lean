import Derived.Test.YthbcbaembicdbaaGreatDoorV07k
set_option linter.unusedVariables false
set_option linter.unusedSimpArgs false
namespace Go.Proofs.YthbcbaembicdbaaGreatDoor
open Go.Abs Go.RowKit
noncomputable section
theorem Nj: ∀{l:List (bt×Int)} {out:bY} {eq:Bool},bq out→bX (jT out eq l).1
 | [],out,eq,h=>h
 |p::r,out,eq,h=>by
  rw[jT]
  split
  ·exact⟨cw,fun m hm=>by cases hm⟩
  ·rename_i hn
   exact Nj (Mf (Classical.byContradiction fun h'=>hn (.inr h')))
theorem LV:bX zo:=⟨cw,fun m hm=>by cases hm⟩
theorem xd (l:List bt) (b:List Int):bX (aX l b).1:=by
 rw[aX]
 split
 ·exact LV
 ·split
  ·exact LV
  ·exact Nj ⟨cw,fun m hm=>by cases hm⟩
def YF:List (bt×Int)→Nat
 | []=>0
 |p::r=>p.1.1.2.length+YF r
theorem KG: ∀{l:List (bt×Int)} {out:bY} {eq:Bool},(jT out eq l).1.1.2.length≤out.2.length+YF l
 | [],out,eq=>Nat.le_refl _
 |p::r,out,eq=>by
  rw[jT]
  split
  ·exact Nat.zero_le _
  ·have h1:=KG (l:=r) (out:=zd out (dw p.1.1 p.2)) (eq:=eq&&(p.1.2||decide (p.2=0)))
   have h2:=F4 out (dw p.1.1 p.2)
   have h3:=zk p.1.1 p.2
   show _≤out.2.length+(p.1.1.2.length+YF r)
   omega
theorem Ew (a b:bt) (x y:Int):(aX [a,b] [x,y]).1.1.2.length≤a.1.2.length+b.1.2.length:=by
 rw[aX]
 split
 ·exact Nat.zero_le _
 ·split
  ·exact Nat.zero_le _
  ·refine Nat.le_trans KG ?_
   simp[YF]
abbrev dq:=bt×List Int
def QT:dq:=(zo, [])
def xa (g:Nat) (l:List Int):Nat:=l.foldl (fun g n=>Nat.gcd g n.natAbs) g
def Zf (g:Nat) (l:List bJ):List bJ:=l.map fun m=>(m.1,m.2.tdiv (g:Int))
def Y3 (g:Nat) (l:List Int):List Int:=l.map fun n=>n.tdiv (g:Int)
def uV (d:dq):dq:=
 if xa 0 d.2<2∨4611686018427387904<xa 0 d.2 then d else
 (((d.1.1.1.tdiv (xa 0 d.2:Int),Zf (xa 0 d.2) d.1.1.2),d.1.2),Y3 (xa 0 d.2) d.2)
def GX (x y:Int) (p:Int×Int):Bool:=decide (ay (p.1*x))&&(decide (ay (p.2*y))&&decide (ay (p.1*x+p.2*y)))
def jL (x y:Int):List (Int×Int)→Option (List Int)
 | []=>some []
 |p::r=>if GX x y p=true then(jL x y r).map ((p.1*x+p.2*y):: ·)else none
def gq (fuel:Int) (a b:dq) (x y:Int):dq×Int:=
 if fuel≤0 then(QT,14)else
 if(aX [a.1,b.1] [x,y]).2≠0 then(QT,(aX [a.1,b.1] [x,y]).2)else
 match jL x y (a.2.zip b.2)with
 |none=>(QT,3)
 |some l=>(uV ((aX [a.1,b.1] [x,y]).1,l),0)
def K8 (r d:dq):Prop:=r.1.2=d.1.2∧r.1.1.2=d.1.1.2∧(d.1.2=false∨r.1.1.1=d.1.1.1)
instance (r d:dq):Decidable (K8 r d):=Classical.propDecidable _
def yS (d:dq):List dq→Option (List dq)
 | []=>none
 |r::l=>if K8 r d then some ((if d.1.1.1<r.1.1.1 then d else r)::l)else(yS d l).map (r:: ·)
def d8 (rows:List dq) (d:dq):List dq×Int:=
 if d.1.1.2= []∧ ¬iZ d.1 then(rows,0)else
 match yS d rows with
 |some l=>(l,0)
 |none=>if 256≤rows.length then(rows,2)else(rows++ [d],0)
def v7 (n:ByteArray):Nat→List dq→Option Nat
 |_, []=>none
 |k,r::l=>if cf r.1.1.2 n≠0∧r.1.2=true then some k else v7 n (k+1) l
def BV (n:ByteArray) (l:List dq):Nat:=(l.filter fun r=>decide (0<cf r.1.1.2 n)).length
def Ua (n:ByteArray) (l:List dq):Nat:=(l.filter fun r=>decide (cf r.1.1.2 n<0)).length
def dy (rows:List dq):List ByteArray→Int→ByteArray→ByteArray×Int×Bool
 | [],best,name=>(name,-1,decide (0≤best))
 |v::vs,best,name=>match v7 v 0 rows with
  |some k=>(v,k,true)
  |none=>if best<0∨((BV v rows*Ua v rows:Nat):Int)<best then dy rows vs ((BV v rows*Ua v rows:Nat):Int) v else dy rows vs best name
def fG (rows:List dq):List ByteArray:=rows.flatMap fun r=>r.1.1.2.map (·.1)
def fR (c d:Int):Int×Int×Bool:=
 ((oN (c.natAbs/Nat.gcd c.natAbs d.natAbs) false).1,(oN (d.natAbs/Nat.gcd c.natAbs d.natAbs) (decide (0<c)==decide (0<d))).1,
  (oN (c.natAbs/Nat.gcd c.natAbs d.natAbs) false).2&&(oN (d.natAbs/Nat.gcd c.natAbs d.natAbs) (decide (0<c)==decide (0<d))).2)
def gk (p q:Int):Int×Int×Bool:=
 ((oN (q.natAbs/Nat.gcd p.natAbs q.natAbs) false).1,(oN (p.natAbs/Nat.gcd p.natAbs q.natAbs) false).1,(oN (q.natAbs/Nat.gcd p.natAbs q.natAbs) false).2&&(oN (p.natAbs/Nat.gcd p.natAbs q.natAbs) false).2)
abbrev Uk:=List dq×Int×Int
def lD (a b:dq) (x y:Int) (acc:List dq) (fuel:Int):Uk:=
 if(gq fuel a b x y).2≠0 then(acc,fuel-1,(gq fuel a b x y).2)else((d8 acc (gq fuel a b x y).1).1,fuel-1,(d8 acc (gq fuel a b x y).1).2)
def gE {α:Type} (step:α→List dq→Int→Uk):List α→List dq→Int→Uk
 | [],acc,fuel=>(acc,fuel,0)
 |x::l,acc,fuel=>if(step x acc fuel).2.2≠0 then step x acc fuel else gE step l (step x acc fuel).1 (step x acc fuel).2.1
def s8 (n:ByteArray) (q:dq) (e:Nat) (r:Nat×dq) (acc:List dq) (fuel:Int):Uk:=
 if r.1=e then(acc,fuel,0)else
 if cf r.2.1.1.2 n=0 then((d8 acc r.2).1,fuel,(d8 acc r.2).2)else
 if(fR (cf q.1.1.2 n) (cf r.2.1.1.2 n)).2.2=false then(acc,fuel,3)else
 lD r.2 q (fR (cf q.1.1.2 n) (cf r.2.1.1.2 n)).1 (fR (cf q.1.1.2 n) (cf r.2.1.1.2 n)).2.1 acc fuel
def mC (n:ByteArray) (r:dq) (acc:List dq) (fuel:Int):Uk:=
 if cf r.1.1.2 n=0 then((d8 acc r).1,fuel,(d8 acc r).2)else(acc,fuel,0)
def ti (n:ByteArray) (a b:dq) (acc:List dq) (fuel:Int):Uk:=
 if cf a.1.1.2 n≤0∨0≤cf b.1.1.2 n then(acc,fuel,0)else
 if(gk (cf a.1.1.2 n) (cf b.1.1.2 n)).2.2=false then(acc,fuel,3)else
 lD a b (gk (cf a.1.1.2 n) (cf b.1.1.2 n)).1 (gk (cf a.1.1.2 n) (cf b.1.1.2 n)).2.1 acc fuel
def yN {α:Type}:Nat→List α→List (Nat×α)
 |_, []=> []
 |k,x::l=>(k,x)::yN (k+1) l
def yJ (n:ByteArray) (e:Nat) (rows:List dq) (fuel:Int):Uk:=gE (s8 n (rows.getD e QT) e) (yN 0 rows) [] fuel
def uR (n:ByteArray) (rows:List dq) (fuel:Int):Uk:=
 if(gE (mC n) rows [] fuel).2.2≠0 then gE (mC n) rows [] fuel else gE (fun a=>gE (ti n a) rows) rows (gE (mC n) rows [] fuel).1 (gE (mC n) rows [] fuel).2.1
set_option maxRecDepth 20000
set_option maxHeartbeats 4000000
set_option maxRecDepth 1000000
theorem rM {a b:Int} (ha:ay a) (hb:ay b):ac Tryz.prog uZ [I a,I b] (.tup [I (IntKind.wrap .i64 (a*b)),Go.Abs.B (decide (ay (a*b)))]):=by
 refine ac.of D4 (by simp) fun _=>aa ?_
 conv in uv=>cbv
 by_cases h0:a=0
 ·subst h0
  have e:decide (ay (0*b))=true:=decide_eq_true (by rw[Int.zero_mul];exact cw)
  rw[e]
  repeat' first|simp(disch:=omega) only[go_sem, *]|((with_reducible apply ab)<;>intro h<;>try omega)
 ·have hc:IntKind.wrap .i64 (b*a)=IntKind.wrap .i64 (a*b):=by rw[Int.mul_comm]
  by_cases hm:a= -1∧b= -9223372036854775808
  ·obtain⟨rfl,rfl⟩:=hm
   have e:decide (ay (-1* -9223372036854775808))=false:=decide_eq_false (by unfold ay;omega)
   rw[e]
   have e1:IntKind.wrap .i64 (-1* -9223372036854775808)= -9223372036854775808:=by decide
   have e2:IntKind.wrap .i64 (Int.tdiv (-9223372036854775808) (-1))= -9223372036854775808:=by decide
   repeat' first|simp(disch:=omega) only[go_sem, *,e1,e2]|((with_reducible apply ab)<;>intro h<;>try omega)
   all_goals rfl
  ·have hw:=Cq hb ha h0 hm
   rw[hc]at hw
   have hcm:ay (b*a)↔ay (a*b):=by rw[Int.mul_comm]
   rw[hcm]at hw
   by_cases hx:a= -1
   ·subst hx
    have hr:ay (-1*b):=by unfold ay at*;omega
    rw[decide_eq_true hr]
    have e1:IntKind.wrap .i64 (-1*b)= -b:=by rw[wrap_i64 (by unfold ay at hr;omega)];omega
    have e2:IntKind.wrap .i64 ((-b).tdiv (-1))=b:=by rw[Int.tdiv_neg,Int.tdiv_one,Int.neg_neg];exact wrap_i64 hb
    clear hw hc hcm hr
    by_cases hb0:b<0
    ·have hb1: ¬b= -b:=by omega
     repeat' first|simp(disch:=omega) only[go_sem, *,e1,e2,hb1]|((with_reducible apply ab)<;>intro h<;>try omega)
     all_goals rfl
    ·by_cases hz:b=0
     ·subst hz
      repeat' first|simp(disch:=omega) only[go_sem, *,e1,e2]|((with_reducible apply ab)<;>intro h<;>try omega)
      all_goals rfl
     ·have hb1: ¬b= -b:=by omega
      repeat' first|simp(disch:=omega) only[go_sem, *,e1,e2,hb1]|((with_reducible apply ab)<;>intro h<;>try omega)
      all_goals rfl
   ·clear hc hcm hm
    by_cases hin:ay (a*b)
    ·rw[decide_eq_true hin]
     have hq:=hw.2 hin
     clear hw hin
     repeat' first|simp(disch:=omega) only[go_sem, *,h0,ne_eq,hq,hx]|((with_reducible apply ab)<;>intro h<;>try omega)
     all_goals rfl
    ·rw[decide_eq_false hin]
     have hq: ¬IntKind.wrap .i64 ((IntKind.wrap .i64 (a*b)).tdiv a)=b:=fun h=>hin (hw.1 h)
     clear hw hin
     repeat' first|simp(disch:=omega) only[go_sem, *,h0,ne_eq,hq,hx]|((with_reducible apply ab)<;>intro h<;>try omega)
     all_goals rfl
abbrev dF (d:dq):List PC:= [pI d.1.1.1,aw d.1.1.2,pB d.1.2,yy d.2]
abbrev SX (d:dq):AV:= .agg [.pure (pI d.1.1.1),.pure (aw d.1.1.2),.pure (pB d.1.2),.pure (yy d.2)]
def PK (d:dq):Prop:=bX d.1∧ ∀n∈d.2,ay n
theorem xQ {α β:Type} {f:α→β} {l:List α} {k:Nat} (h:k<l.length):(l.take (k+1)).map f=(l.take k).map f++ [f l[k]]:=by
 rw[List.take_succ_eq_append_getElem h,List.map_append]
 rfl
theorem wy {x:Int} {g:Nat} (hx:ay x) (hg:2≤g):ay (x.tdiv g):=by
 rcases Sn (g:=g) hx with h|h
 ·exact h
 ·have h1:(x.tdiv g).natAbs=x.natAbs/g:=by rw[Int.natAbs_tdiv,Int.natAbs_natCast];rfl
  have h2:x.natAbs/g≤x.natAbs/2:=Nat.div_le_div_left hg (by omega)
  unfold ay at hx
  omega
theorem Yf {g:Nat} {l:List bJ}:(Zf g l).map mP=l.map fun m=> [pS m.1,pI (m.2.tdiv (g:Int))]:=by
 rw[Zf,List.map_map]
 rfl
theorem Yg {g:Nat} {l:List Int}:(Y3 g l).map (fun n=> [pI n])=l.map fun n=> [pI (n.tdiv (g:Int))]:=by
 rw[Y3,List.map_map]
 rfl
theorem Tc {g k:Nat} {l:List Int} (h:k<l.length):xa g (l.drop k)=xa (Nat.gcd g l[k].natAbs) (l.drop (k+1)):=by
 rw[List.drop_eq_getElem_cons h]
 rfl
theorem WQ {g k:Nat} {l:List Int} (h:l.length≤k):xa g (l.drop k)=g:=by
 rw[List.drop_eq_nil_of_le h]
 rfl
theorem CF {d:dq} (h64:PK d) (hl:d.1.1.2.length≤1000000000) (hb:d.2.length≤1000000000):ac Tryz.prog uz [SX d] (SX (uV d)):=by
 refine ac.of Eg (by simp) fun _=>aa ?_
 obtain⟨⟨⟨K,l⟩,q⟩,by'⟩:=d
 obtain⟨⟨hK,h64⟩,hby⟩:=h64
 simp only at hK h64 hby hl hb
 conv in ua=>cbv
 obtain⟨G,hG⟩: ∃G,G=xa 0 (by'.drop 0):=⟨_,rfl⟩
 have hG0:xa 0 by'=G:=hG.symm
 unfold uV
 simp only
 rw[hG0]
 have HG:=Lib.hid hG
 clear hG hG0
 repeat' first|simp(disch:=omega) only[go_sem, *]|((with_reducible apply ab)<;>intro h<;>try omega)
 refine an (fun s:Nat×Nat=>⟨[(1,.c (.ptr 0 0)),(2,.c (.ptr 1 0)),(3,U s.2),(12,pG by'),(13,I by'.length),(14,I s.1)],
  [(0,.var [.pure (pI K),.pure (aw l),.pure (pB q),.pure (yy by')]),(1,.var [.pure (pI 0),.nils,.pure (pB false),.nils])],2,0⟩) (fun s=>s.1≤by'.length∧Hid (G=xa s.2 (by'.drop s.1))) (fun s=>by'.length-s.1) ⟨(0,0), [],⟨Nat.zero_le _,HG⟩,by simp⟩ ?_
 clear HG
 rintro⟨j,g⟩ ⟨hj,HG⟩
 simp only at hj HG
 refine aa ?_
 by_cases hlt:j<by'.length
 ·have g1:=ah (f:=fun n=> [pI n]) hlt
  have h2:=HG.out
  rw[Tc hlt]at h2
  have pm:=eB (hby _ (List.getElem_mem hlt))
  generalize by'[j]=x at*
  have pg:=sD g x.natAbs
  have HG:=Lib.hid h2
  clear h2
  repeat' first|simp(disch:=omega) only[go_sem, *,g1,wrap_i64]|((with_reducible apply ab)<;>intro h<;>try omega)|(refine aF pm rfl rfl ?_)|(refine aF pg rfl rfl ?_)
  exact⟨(j+1,Nat.gcd g x.natAbs), [],⟨hlt,HG⟩,by show _-_<_-_;omega,by simp⟩
 ·have h2:=HG.out
  rw[WQ (by omega)]at h2
  clear HG
  subst h2
  by_cases hs:G<2∨4611686018427387904<G
  ·rw[if_pos hs]
   rcases hs with hs|hs
   ·repeat' first|simp(disch:=omega) only[go_sem, *]|((with_reducible apply ab)<;>intro h<;>try omega)
    all_goals rfl
   ·repeat' first|simp(disch:=omega) only[go_sem, *]|((with_reducible apply ab)<;>intro h<;>try omega)
    all_goals rfl
  ·rw[if_neg hs]
   have hs1:2≤G:=by omega
   have eG:IntKind.wrap .i64 (G:Int)=G:=wrap_i64 (by omega)
   have eK:IntKind.wrap .i64 (K.tdiv G)=K.tdiv G:=wrap_i64 (wy hK hs1)
   have hG0: ¬(G:Int)=0:=by omega
   repeat' first|simp(disch:=omega) only[go_sem, *,eG,eK,hG0,ne_eq]|((with_reducible apply ab)<;>intro h<;>try omega)
   refine cQ 2 1 114 2 _ rfl rfl (by decide) ?_
   refine an (fun j:Nat=>⟨[(1,.c (.ptr 0 0)),(2,.c (.ptr 1 0)),(3,U G),(6,.c (.ptr 2 0)),(48,.c (.pure (aw l))),(49,I l.length),(50,I j)],
    [(0,.var [.pure (pI K),.pure (aw l),.pure (pB q),.pure (yy by')]),(1,.var [.pure (pI 0),.nils,.pure (pB false),.nils]),(2,.var [.pure (pI (K.tdiv G)),.ref 3,.pure (pB q),.nils]),
     (3,.arr 114 2 ((l.take j).map fun m=> [pS m.1,pI (m.2.tdiv (G:Int))]))],4,0⟩) (fun j=>j≤l.length) (fun j=>l.length-j) ⟨0, [],Nat.zero_le _,by simp⟩ ?_
   intro j hj
   refine aa ?_
   by_cases hlt:j<l.length
   ·have e1:=xQ (f:=fun m:bJ=> [pS m.1,pI (m.2.tdiv (G:Int))]) hlt
    have g1:=ah (f:=mP) hlt
    have hlen:((l.take j).map fun m=> [pS m.1,pI (m.2.tdiv (G:Int))]).length≤1000000000:=by simp;omega
    have ex:IntKind.wrap .i64 ((l[j].2).tdiv G)=(l[j].2).tdiv G:=wrap_i64 (wy (h64 _ (List.getElem_mem hlt)) hs1)
    generalize l[j]=m at*
    obtain⟨n,x⟩:=m
    simp only[mP]at g1 e1 ex
    generalize ((l.take j).map fun m=> [pS m.1,pI (m.2.tdiv (G:Int))])=D0 at*
    repeat' first|simp(disch:=omega) only[go_sem, *,g1,eG,ex,hG0,ne_eq,wrap_i64]|((with_reducible apply ab)<;>intro h<;>try omega)|(refine aJ rfl (by intro h;cases h) (aB rfl) (by simp;omega) (by simp;omega) ?_)
    exact⟨j+1, [(3,5)],hlt,by omega,by simp[e1]⟩
   ·obtain rfl:j=l.length:=by omega
    rw[List.take_of_length_le (Nat.le_refl _)]
    repeat' first|simp(disch:=omega) only[go_sem, *]|((with_reducible apply ab)<;>intro h<;>try omega)
    refine cQ 2 3 2 1 _ rfl rfl (by decide) ?_
    refine an (fun j:Nat=>⟨[(2,.c (.ptr 1 0)),(3,U G),(6,.c (.ptr 2 0)),(73,pG by'),(74,I by'.length),(75,I j)],
     [(1,.var [.pure (pI 0),.nils,.pure (pB false),.nils]),(2,.var [.pure (pI (K.tdiv G)),.ref 3,.pure (pB q),.ref 4]),
      (3,.arr 114 2 (l.map fun m=> [pS m.1,pI (m.2.tdiv (G:Int))])),(4,.arr 2 1 ((by'.take j).map fun n=> [pI (n.tdiv (G:Int))]))],5,0⟩) (fun j=>j≤by'.length) (fun j=>by'.length-j) ⟨0, [],Nat.zero_le _,by simp⟩ ?_
    intro j hj
    refine aa ?_
    by_cases hlt:j<by'.length
    ·have e1:=xQ (f:=fun n:Int=> [pI (n.tdiv (G:Int))]) hlt
     have g1:=ah (f:=fun n=> [pI n]) hlt
     have hlen:((by'.take j).map fun n=> [pI (n.tdiv (G:Int))]).length≤1000000000:=by simp;omega
     have ex:IntKind.wrap .i64 ((by'[j]).tdiv G)=(by'[j]).tdiv G:=wrap_i64 (wy (hby _ (List.getElem_mem hlt)) hs1)
     generalize by'[j]=x at*
     generalize ((by'.take j).map fun n=> [pI (n.tdiv (G:Int))])=D0 at*
     repeat' first|simp(disch:=omega) only[go_sem, *,g1,eG,ex,hG0,ne_eq,wrap_i64]|((with_reducible apply ab)<;>intro h<;>try omega)|(refine aJ rfl (by intro h;cases h) (aB rfl) (by simp;omega) (by simp;omega) ?_)
     exact⟨j+1, [(4,5)],hlt,by omega,by simp[e1]⟩
    ·obtain rfl:j=by'.length:=by omega
     rw[List.take_of_length_le (Nat.le_refl _)]
     repeat' first|simp(disch:=omega) only[go_sem, *]|((with_reducible apply ab)<;>intro h<;>try omega)
     show _=AV.agg [_,.pure (.slice ((Zf G l).map mP)),_,.pure (.slice ((Y3 G by').map fun n=> [pI n]))]
     rw[Yf,Yg]
end
end Go.Proofs.YthbcbaembicdbaaGreatDoor
