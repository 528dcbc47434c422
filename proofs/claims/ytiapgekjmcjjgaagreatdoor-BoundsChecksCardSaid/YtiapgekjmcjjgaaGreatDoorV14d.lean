import Derived.Test.YtiapgekjmcjjgaaGreatDoorV14b
import Derived.Test.YtiapgekjmcjjgaaGreatDoorVLex
set_option maxHeartbeats 4000000
set_option linter.unusedVariables false
set_option linter.unusedSimpArgs false
set_option maxRecDepth 1000000
open Go.Proofs.Tryz renaming prog→Ya
namespace Go.Proofs.YtiapgekjmcjjgaaGreatDoor
open Go.Abs Go.RowKit
abbrev R3 (e:Ex):AV:= .c (.cptr [pI e.op,pS e.name,pI e.val.1,pI e.val.2,pI e.ty.1,pI e.ty.2.1,pI e.ty.2.2.1,pI e.ty.2.2.2.1,pI e.ty.2.2.2.2,pI e.lin.1,ay e.lin.2,dp eR e.idx,.slice (e.args.map Ex.row)])
def UG (k n:Nat) (res:AV) (k':Option Nat):Prop:=(res=Go.Abs.B true∧k'=some (k+n))∨(res=Go.Abs.B false∧k'=none)
def At (xs:List (List AV)) (k:Nat) (l:List Ex):Prop:= ∀(i:Nat) a,l[i]? =some a→xs[k+i]? =some [fE a]
theorem Su {xs:List (List AV)} {k:Nat} {e:Ex} (h:At xs k e.pre) {i:Nat} (hi:i<e.args.length):At xs (k+1+Ex.szs (e.args.take i)) e.args[i].pre:=by
 intro j a hj
 have e1:Ex.pres e.args=Ex.pres (e.args.take i)++(e.args[i].pre++Ex.pres (e.args.drop (i+1))):=by
  have e2:e.args=e.args.take i++(e.args[i]::e.args.drop (i+1)):=by rw[←List.drop_eq_getElem_cons hi,List.take_append_drop]
  have e3:Ex.pres (e.args.take i++(e.args[i]::e.args.drop (i+1)))=Ex.pres (e.args.take i)++(e.args[i].pre++Ex.pres (e.args.drop (i+1))):=by rw[Ex.pres_append,Ex.pres]
  rw[←e2]at e3
  exact e3
 have hl:(Ex.pres (e.args.take i)).length=Ex.szs (e.args.take i):=Ex.pres_length λa _=>Ex.pre_length a
 have:=h (1+Ex.szs (e.args.take i)+j) a (by
  rw[Ex.pre_eq,show 1+Ex.szs (e.args.take i)+j=(Ex.szs (e.args.take i)+j)+1 by omega,List.getElem?_cons_succ,e1,List.getElem?_append_right (by omega),hl,Nat.add_sub_cancel_left,List.getElem?_append_left (List.getElem?_eq_some_iff.1 hj).1]
  exact hj)
 rw[←this]
 congr 1
 omega
theorem Ax {P:Program} {l:Nat} {w:World} {xs:List (List AV)} {J:Option Nat→(Nat→Prop)→World→Prop} (h:CS P l w xs J): ∀k S W,J k S W→(∀b,S b→b<W.heap.size)∧qf W:= λk S W hj=>⟨(h.old k S W hj).1,(h.old k S W hj).2.2⟩
theorem tT {P:Program} {l:Nat} {w:World} {xs:List (List AV)} {J:Option Nat→(Nat→Prop)→World→Prop} (h:CS P l w xs J): ∀k S W W',J k S W→Below W.heap.size W W'→J k (λb=>S b∨W.heap.size≤b∧b<W'.heap.size) W':= λk S W W' hj hb=>h.grow k S W W' hj (.of_below hb)
theorem FJ {l:Nat} {w:World} {xs:List (List AV)} {J:Option Nat→(Nat→Prop)→World→Prop} (hY:CS Ya l w xs J) (e:Ex): ∀k:Nat,At xs k e.pre→kX Ya J 196 [fE e,yv l] (some k) (UG k e.sz):=by
 refine Ex.ind (p:= λe=> ∀k:Nat,At xs k e.pre→kX Ya J 196 [fE e,yv l] (some k) (UG k e.sz)) (λe ih k hx=> ?_) e
 have d:=Ax hY
 have g:=tT hY
 refine kX.of d FG (by simp) λhb=> ?_
 have hl:=(ed hb).1
 conv in bh _ _=>cbv
 refine dG (dD d g ?_)
 simp(disch:=omega)only[go_sem]
 refine⟨[(1,yv l),(2,R3 e)],(by simp[kR,kY,eF,dE,fk,rn,yv,dQ,bN,ee,dX,cJ,eE,dS,aJ,al,mj,j8,dV]), ?_⟩
 have h0:xs[k]? =some [fE e]:=hx 0 e (by rw[Ex.pre_eq];rfl)
 refine dG (dG (DL 2 rfl d g ?_))
 simp only[List.take,List.drop]
 simp(disch:=omega)only[go_sem]
 refine⟨[(8,fE e),(7,yv l),(1,yv l),(2,R3 e)],(by simp[kR,kY,eF,dE,fk,rn,yv,dQ,bN,ee,dX,cJ,eE,dS,aJ,al,mj,j8,dV]),_,mA hY h0, ?_⟩
 rintro res k' ⟨b,rfl,rfl⟩
 simp(disch:=omega)only[go_sem]
 refine⟨[(10,Go.Abs.B !b),(1,yv l),(2,R3 e)],(by simp[kR,kY,eF,dE,fk,rn,yv,dQ,bN,ee,dX,cJ,eE,dS,aJ,al,mj,j8,dV]), ?_⟩
 refine kP (t:= !b) rfl (λq=> ?_) (λq=> ?_) d
 ·obtain rfl:b=false:=by simpa using q
  refine dG (dD d g ?_)
  simp(disch:=omega)only[go_sem]
  refine⟨[(4,Go.Abs.B false)],(by simp[kR,kY,eF,dE,fk,rn,yv,dQ,bN,ee,dX,cJ,eE,dS,aJ,al,mj,j8,dV]),vU ?_⟩
  show kV _ _ _ _
  simp(disch:=omega)only[go_sem]
  exact .inr ⟨rfl,rfl⟩
 ·obtain rfl:b=true:=by simpa using q
  refine mC ?_
  simp only[↓reduceIte]
  refine dG (dG (dD d g ?_))
  simp(disch:=omega)only[go_sem]
  refine⟨[(14,I 0),(13,I e.args.length),(12,.c (.pure (.slice (e.args.map Ex.row)))),(1,yv l)],(by simp[kR,kY,eF,dE,fk,rn,yv,dQ,bN,ee,dX,cJ,eE,dS,aJ,al,mj,j8,dV]), ?_⟩
  refine nw (Ev (λi:Nat=>(some (k+1+Ex.szs (e.args.take i)), [(14,I i),(13,I e.args.length),(12,.c (.pure (.slice (e.args.map Ex.row)))),(1,yv l)])) (λi=>i≤e.args.length) (λi=>e.args.length-i) ⟨0,by omega,by simp[Ex.szs],(by simp[kR,kY,eF,dE,fk,rn,yv,dQ,bN,ee,dX,cJ,eE,dS,aJ,al,mj,j8,dV])⟩ ?_)
  intro i hi
  refine dG (dD d g ?_)
  simp(disch:=omega)only[go_sem]
  refine⟨[(15,Go.Abs.B (decide ((i:Int)<e.args.length))),(14,I i),(13,I e.args.length),(12,.c (.pure (.slice (e.args.map Ex.row)))),(1,yv l)],(by simp[kR,kY,eF,dE,fk,rn,yv,dQ,bN,ee,dX,cJ,eE,dS,aJ,al,mj,j8,dV]), ?_⟩
  refine dG (kP rfl (λz=> ?_) (λz=> ?_) d)
  ·have o:i<e.args.length:=by simpa using z
   refine mC (dG (nw (dG (dD d g ?_))))
   simp(disch:=omega)only[go_sem,ah o,Ex.row_eq]
   refine⟨[(6,R3 e.args[i]),(14,I i),(13,I e.args.length),(12,.c (.pure (.slice (e.args.map Ex.row)))),(1,yv l)],(by simp[kR,kY,eF,dE,fk,rn,yv,dQ,bN,ee,dX,cJ,eE,dS,aJ,al,mj,j8,dV]), ?_⟩
   refine dG (DL 2 rfl d g ?_)
   simp only[List.take,List.drop]
   simp(disch:=omega)only[go_sem]
   refine⟨[(18,fE e.args[i]),(19,yv l),(14,I i),(13,I e.args.length),(12,.c (.pure (.slice (e.args.map Ex.row)))),(1,yv l)],(by simp[kR,kY,eF,dE,fk,rn,yv,dQ,bN,ee,dX,cJ,eE,dS,aJ,al,mj,j8,dV]),_,Bc (ih _ (List.getElem_mem o) _ (Su hx o)), ?_⟩
   rintro res k' (⟨rfl,rfl⟩|⟨rfl,rfl⟩)
   ·simp(disch:=omega)only[go_sem]
    refine⟨[(21,Go.Abs.B false),(14,I i),(13,I e.args.length),(12,.c (.pure (.slice (e.args.map Ex.row)))),(1,yv l)],(by simp[kR,kY,eF,dE,fk,rn,yv,dQ,bN,ee,dX,cJ,eE,dS,aJ,al,mj,j8,dV]), ?_⟩
    refine kP (t:=false) rfl (λh=>(by cases h)) (λ_=>mC ?_) d
    refine dD d g ?_
    simp(disch:=omega)only[go_sem,wrap_i64]
    refine⟨[(14,I ((i:Int)+1)),(13,I e.args.length),(12,.c (.pure (.slice (e.args.map Ex.row)))),(1,yv l)],(by simp[kR,kY,eF,dE,fk,rn,yv,dQ,bN,ee,dX,cJ,eE,dS,aJ,al,mj,j8,dV]),i+1,o,by show _-_<_-_;omega, ?_,(by simp[kR,kY,eF,dE,fk,rn,yv,dQ,bN,ee,dX,cJ,eE,dS,aJ,al,mj,j8,dV])⟩
    show some _=some _
    rw[Ex.szs_take o]
    congr 1
    omega
   ·simp(disch:=omega)only[go_sem]
    refine⟨[(21,Go.Abs.B true)],(by simp[kR,kY,eF,dE,fk,rn,yv,dQ,bN,ee,dX,cJ,eE,dS,aJ,al,mj,j8,dV]), ?_⟩
    refine kP (t:=true) rfl (λ_=>dG (dD d g ?_)) (λh=>(by cases h)) d
    simp(disch:=omega)only[go_sem]
    refine⟨[(4,Go.Abs.B false)],(by simp[kR,kY,eF,dE,fk,rn,yv,dQ,bN,ee,dX,cJ,eE,dS,aJ,al,mj,j8,dV]),vU ?_⟩
    show kV _ _ _ _
    simp(disch:=omega)only[go_sem]
    exact .inr ⟨rfl,rfl⟩
  ·have hn: ¬i<e.args.length:=by simpa using z
   refine Eu ?_
   show R4 _ _ _ _ _ _ _ _
   refine dG (dD d g ?_)
   simp(disch:=omega)only[go_sem]
   refine⟨[(4,Go.Abs.B true)],(by simp[kR,kY,eF,dE,fk,rn,yv,dQ,bN,ee,dX,cJ,eE,dS,aJ,al,mj,j8,dV]),vU ?_⟩
   show kV _ _ _ _
   simp(disch:=omega)only[go_sem]
   refine .inl ⟨rfl, ?_⟩
   rw[List.take_of_length_le (by omega),Ex.sz_eq e]
   congr 1
   omega
theorem SP (e:Ex):At (e.pre.map λa=> [fE a]) 0 e.pre:= λi a h=>by rw[Nat.zero_add,List.getElem?_map,h];rfl
theorem sY (e:Ex):ri Ya 195 [R3 e] (e.pre.map λa=> [fE a]):=by
 refine ri.of ⟨_,Tryz.func195,rfl,by kernel_rfl⟩ λl w J hY=> ?_
 have d:=Ax hY
 have g:=tT hY
 refine kX.of d Ay (by simp) λhb=> ?_
 conv in bh _ _=>cbv
 refine DL 2 rfl d g ?_
 simp only[List.take,List.drop]
 simp(disch:=omega)only[go_sem]
 refine⟨[(3,fE e),(4,yv l)],(by simp[kR,kY,eF,dE,fk,rn,yv,dQ,bN,ee,dX,cJ,eE,dS,aJ,al,mj,j8,dV]),_,Bc (FJ hY e 0 (SP e)), ?_⟩
 rintro res k' hk
 refine⟨[],(by simp[kR,kY,eF,dE,fk,rn,yv,dQ,bN,ee,dX,cJ,eE,dS,aJ,al,mj,j8,dV]), ?_⟩
 show _∨_
 rcases hk with⟨_,rfl⟩|⟨_,rfl⟩
 ·left
  rw[Ex.pre_length,Nat.zero_add]
 ·exact .inr rfl
def S4 (xs:List (List AV)) (k:Nat) (l:List bW):Prop:= ∀(i:Nat) a,l[i]? =some a→xs[k+i]? =some [da a.1 a.2]
theorem s8 (e:Ex):ac Ya 154 [fE e] (.c (.clo 195 [.cptr [pI e.op,pS e.name,pI e.val.1,pI e.val.2,pI e.ty.1,pI e.ty.2.1,pI e.ty.2.2.1,pI e.ty.2.2.2.1,pI e.ty.2.2.2.2,pI e.lin.1,ay e.lin.2,dp eR e.idx,.slice (e.args.map Ex.row)]])):=by
 refine ac.of FM (by simp) λhb=>aa ?_
 conv in bh _ _=>cbv
 repeat' first|simp(disch:=omega)only[go_sem, *]|apply ab<;>intro h<;>try omega
theorem zY (e:Ex):ac Ya 202 [fE e] (.c (.clo 232 [.cptr [pI e.op,pS e.name,pI e.val.1,pI e.val.2,pI e.ty.1,pI e.ty.2.1,pI e.ty.2.2.1,pI e.ty.2.2.2.1,pI e.ty.2.2.2.2,pI e.lin.1,ay e.lin.2,dp eR e.idx,.slice (e.args.map Ex.row)]])):=by
 refine ac.of Cv (by simp) λhb=>aa ?_
 conv in bh _ _=>cbv
 repeat' first|simp(disch:=omega)only[go_sem, *]|apply ab<;>intro h<;>try omega
theorem S4.app {xs:List (List AV)} {k:Nat} {l r:List bW} (h:S4 xs k (l++r)):S4 xs (k+l.length) r:= λi a hi=>by
 have:=h (l.length+i) a (by rw[List.getElem?_append_right (by omega),Nat.add_sub_cancel_left];exact hi)
 rw[←this,Nat.add_assoc]
def sK (x:Ix):List bW:=x.1::x.2.2
theorem H8 {e:Ex} {i:Nat} (hi:i<e.idx.length):e.forms=(e.lin::(e.idx.take i).flatMap sK)++(sK e.idx[i]++(e.idx.drop (i+1)).flatMap sK):=by
 have e1:(e.idx.take i++e.idx[i]::e.idx.drop (i+1)).flatMap sK=(e.idx.take i).flatMap sK++(sK e.idx[i]++(e.idx.drop (i+1)).flatMap sK):=by
  rw[List.flatMap_append,List.flatMap_cons]
 rw[←List.drop_eq_getElem_cons hi,List.take_append_drop]at e1
 show e.lin::e.idx.flatMap sK=_
 rw[e1]
 rfl
def yi (e:Ex) (i:Nat):Nat:=(e.lin::(e.idx.take i).flatMap sK).length
theorem Mn (e:Ex):yi e 0=1:=by simp[yi]
theorem L9 {e:Ex} {i:Nat} (hi:i<e.idx.length):yi e (i+1)=yi e i+1+e.idx[i].2.2.length:=by
 unfold yi
 rw[List.take_succ_eq_append_getElem hi,List.flatMap_append]
 simp[sK]
 omega
theorem MU {e:Ex}:yi e e.idx.length=e.forms.length:=by
 unfold yi
 rw[List.take_of_length_le (Nat.le_refl _)]
 rfl
theorem QO {e:Ex} {xs:List (List AV)} (hx:S4 xs 0 e.forms) {i:Nat} (hi:i<e.idx.length):S4 xs (yi e i) (sK e.idx[i]++(e.idx.drop (i+1)).flatMap sK):=by
 have:=(show S4 xs 0 ((e.lin::(e.idx.take i).flatMap sK)++(sK e.idx[i]++(e.idx.drop (i+1)).flatMap sK)) by rw[←H8 hi];exact hx).app
 rw[Nat.zero_add]at this
 exact this
theorem BJ (e:Ex) (h6: ∀x∈e.idx,x.2.2.length≤6) (hl:e.idx.length≤6):ri Ya 232 [R3 e] (e.forms.map λa=> [da a.1 a.2]):=by
 refine ri.of ⟨_,Tryz.func232,rfl,by kernel_rfl⟩ λl w J hY=> ?_
 have d:=Ax hY
 have g:=tT hY
 have hx:S4 (e.forms.map λa=> [da a.1 a.2]) 0 e.forms:= λi a h=>by rw[Nat.zero_add,List.getElem?_map,h];rfl
 have f:(e.forms.map λa:bW=> [da a.1 a.2]).length=e.forms.length:=by simp
 generalize (e.forms.map λa:bW=> [da a.1 a.2])=xs at*
 have h0:xs[0]? =some [da e.lin.1 e.lin.2]:=hx 0 e.lin rfl
 refine kX.of d yA (by simp) λhb=> ?_
 conv in bh _ _=>cbv
 refine dG (dG (DL 3 rfl d g ?_))
 simp only[List.take,List.drop]
 simp(disch:=omega)only[go_sem]
 refine⟨[(9,da e.lin.1 e.lin.2),(7,yv l),(0,yv l),(1,R3 e)],(by simp[kR,kY,eF,dE,fk,rn,yv,dQ,bN,ee,dX,cJ,eE,dS,aJ,al,mj,j8,dV]),_,mA hY h0, ?_⟩
 rintro res k' ⟨b,rfl,rfl⟩
 simp(disch:=omega)only[go_sem]
 refine⟨[(11,Go.Abs.B !b),(0,yv l),(1,R3 e)],(by simp[kR,kY,eF,dE,fk,rn,yv,dQ,bN,ee,dX,cJ,eE,dS,aJ,al,mj,j8,dV]), ?_⟩
 refine kP (t:= !b) rfl (λq=> ?_) (λq=> ?_) d
 ·obtain rfl:b=false:=by simpa using q
  exact vU (.inr rfl)
 ·obtain rfl:b=true:=by simpa using q
  refine mC ?_
  simp only[↓reduceIte]
  refine dG (dD d g ?_)
  simp(disch:=omega)only[go_sem]
  refine⟨[(15,I 0),(14,I e.idx.length),(13,.c (.pure (dp eR e.idx))),(0,yv l)],(by simp[kR,kY,eF,dE,fk,rn,yv,dQ,bN,ee,dX,cJ,eE,dS,aJ,al,mj,j8,dV]), ?_⟩
  refine nw (Ev (λi:Nat=>(some (yi e i), [(15,I i),(14,I e.idx.length),(13,.c (.pure (dp eR e.idx))),(0,yv l)])) (λi=>i≤e.idx.length) (λi=>e.idx.length-i) ⟨0,by omega,by simp[Mn],(by simp[kR,kY,eF,dE,fk,rn,yv,dQ,bN,ee,dX,cJ,eE,dS,aJ,al,mj,j8,dV])⟩ ?_)
  intro i hi
  refine dG (dD d g ?_)
  simp(disch:=omega)only[go_sem]
  refine⟨[(16,Go.Abs.B (decide ((i:Int)<e.idx.length))),(15,I i),(14,I e.idx.length),(13,.c (.pure (dp eR e.idx))),(0,yv l)],(by simp[kR,kY,eF,dE,fk,rn,yv,dQ,bN,ee,dX,cJ,eE,dS,aJ,al,mj,j8,dV]), ?_⟩
  refine dG (kP rfl (λz=> ?_) (λz=> ?_) d)
  ·have o:i<e.idx.length:=by simpa using z
   have K:=QO hx o
   have hm:=L9 o
   have Y:=h6 _ (List.getElem_mem o)
   have O:xs[yi e i]? =some [da e.idx[i].1.1 e.idx[i].1.2]:=K 0 e.idx[i].1 rfl
   have Q: ∀(j:Nat) (hj:j<e.idx[i].2.2.length),xs[yi e i+1+j]? =some [da e.idx[i].2.2[j].1 e.idx[i].2.2[j].2]:= λj hj=>by
    have:=K (j+1) e.idx[i].2.2[j] (by simp[sK,List.getElem?_append,hj])
    rw[←this];congr 1;omega
   refine mC (dG (nw (dG (dD d g ?_))))
   simp(disch:=omega)only[go_sem,ah o,eR]
   refine⟨[(4,.c (.cptr [pI e.idx[i].1.1,ay e.idx[i].1.2,pS e.idx[i].2.1,dp b9 e.idx[i].2.2])),(15,I i),(14,I e.idx.length),(13,.c (.pure (dp eR e.idx))),(0,yv l)],(by simp[kR,kY,eF,dE,fk,rn,yv,dQ,bN,ee,dX,cJ,eE,dS,aJ,al,mj,j8,dV]), ?_⟩
   refine dG (dG (DL 3 rfl d g ?_))
   simp only[List.take,List.drop]
   simp(disch:=omega)only[go_sem]
   refine⟨[(21,da e.idx[i].1.1 e.idx[i].1.2),(19,yv l),(4,.c (.cptr [pI e.idx[i].1.1,ay e.idx[i].1.2,pS e.idx[i].2.1,dp b9 e.idx[i].2.2])),(15,I i),(14,I e.idx.length),(13,.c (.pure (dp eR e.idx))),(0,yv l)],(by simp[kR,kY,eF,dE,fk,rn,yv,dQ,bN,ee,dX,cJ,eE,dS,aJ,al,mj,j8,dV]),_,mA hY O, ?_⟩
   rintro res k' ⟨b,rfl,rfl⟩
   simp(disch:=omega)only[go_sem]
   refine⟨[(23,Go.Abs.B !b),(4,.c (.cptr [pI e.idx[i].1.1,ay e.idx[i].1.2,pS e.idx[i].2.1,dp b9 e.idx[i].2.2])),(15,I i),(14,I e.idx.length),(13,.c (.pure (dp eR e.idx))),(0,yv l)],(by simp[kR,kY,eF,dE,fk,rn,yv,dQ,bN,ee,dX,cJ,eE,dS,aJ,al,mj,j8,dV]), ?_⟩
   refine kP (t:= !b) rfl (λq=> ?_) (λq=> ?_) d
   ·obtain rfl:b=false:=by simpa using q
    exact vU (.inr rfl)
   ·obtain rfl:b=true:=by simpa using q
    refine mC ?_
    simp only[↓reduceIte]
    refine dG (dD d g ?_)
    simp(disch:=omega)only[go_sem]
    refine⟨[(27,I 0),(26,I e.idx[i].2.2.length),(25,.c (.pure (dp b9 e.idx[i].2.2))),(15,I i),(14,I e.idx.length),(13,.c (.pure (dp eR e.idx))),(0,yv l)],(by simp[kR,kY,eF,dE,fk,rn,yv,dQ,bN,ee,dX,cJ,eE,dS,aJ,al,mj,j8,dV]), ?_⟩
    refine nw (Ev (λj:Nat=>(some (yi e i+1+j), [(27,I j),(26,I e.idx[i].2.2.length),(25,.c (.pure (dp b9 e.idx[i].2.2))),(15,I i),(14,I e.idx.length),(13,.c (.pure (dp eR e.idx))),(0,yv l)])) (λj=>j≤e.idx[i].2.2.length) (λj=>e.idx[i].2.2.length-j) ⟨0,by omega,by simp,(by simp[kR,kY,eF,dE,fk,rn,yv,dQ,bN,ee,dX,cJ,eE,dS,aJ,al,mj,j8,dV])⟩ ?_)
    intro j hj
    refine dG (dD d g ?_)
    simp(disch:=omega)only[go_sem]
    refine⟨[(28,Go.Abs.B (decide ((j:Int)<e.idx[i].2.2.length))),(27,I j),(26,I e.idx[i].2.2.length),(25,.c (.pure (dp b9 e.idx[i].2.2))),(15,I i),(14,I e.idx.length),(13,.c (.pure (dp eR e.idx))),(0,yv l)],(by simp[kR,kY,eF,dE,fk,rn,yv,dQ,bN,ee,dX,cJ,eE,dS,aJ,al,mj,j8,dV]), ?_⟩
    refine dG (kP rfl (λG=> ?_) (λG=> ?_) d)
    ·have A:j<e.idx[i].2.2.length:=by simpa using G
     refine mC (dG (nw (dG (dD d g ?_))))
     simp(disch:=omega)only[go_sem,ah A,b9]
     refine⟨[(6,.c (.cptr [pI e.idx[i].2.2[j].1,ay e.idx[i].2.2[j].2])),(27,I j),(26,I e.idx[i].2.2.length),(25,.c (.pure (dp b9 e.idx[i].2.2))),(15,I i),(14,I e.idx.length),(13,.c (.pure (dp eR e.idx))),(0,yv l)],(by simp[kR,kY,eF,dE,fk,rn,yv,dQ,bN,ee,dX,cJ,eE,dS,aJ,al,mj,j8,dV]), ?_⟩
     refine dG (DL 2 rfl d g ?_)
     simp only[List.take,List.drop]
     simp(disch:=omega)only[go_sem]
     refine⟨[(32,da e.idx[i].2.2[j].1 e.idx[i].2.2[j].2),(31,yv l),(27,I j),(26,I e.idx[i].2.2.length),(25,.c (.pure (dp b9 e.idx[i].2.2))),(15,I i),(14,I e.idx.length),(13,.c (.pure (dp eR e.idx))),(0,yv l)],(by simp[kR,kY,eF,dE,fk,rn,yv,dQ,bN,ee,dX,cJ,eE,dS,aJ,al,mj,j8,dV]),_,mA hY (Q j A), ?_⟩
     rintro res k' ⟨b,rfl,rfl⟩
     simp(disch:=omega)only[go_sem]
     refine⟨[(34,Go.Abs.B !b),(27,I j),(26,I e.idx[i].2.2.length),(25,.c (.pure (dp b9 e.idx[i].2.2))),(15,I i),(14,I e.idx.length),(13,.c (.pure (dp eR e.idx))),(0,yv l)],(by simp[kR,kY,eF,dE,fk,rn,yv,dQ,bN,ee,dX,cJ,eE,dS,aJ,al,mj,j8,dV]), ?_⟩
     refine kP (t:= !b) rfl (λq=> ?_) (λq=> ?_) d
     ·obtain rfl:b=false:=by simpa using q
      exact vU (.inr rfl)
     ·obtain rfl:b=true:=by simpa using q
      refine mC ?_
      simp only[↓reduceIte]
      refine dD d g ?_
      simp(disch:=omega)only[go_sem,wrap_i64]
      exact⟨[(27,I ((j:Int)+1)),(26,I e.idx[i].2.2.length),(25,.c (.pure (dp b9 e.idx[i].2.2))),(15,I i),(14,I e.idx.length),(13,.c (.pure (dp eR e.idx))),(0,yv l)],(by simp[kR,kY,eF,dE,fk,rn,yv,dQ,bN,ee,dX,cJ,eE,dS,aJ,al,mj,j8,dV]),j+1,A,by show _-_<_-_;omega,rfl,(by simp[kR,kY,eF,dE,fk,rn,yv,dQ,bN,ee,dX,cJ,eE,dS,aJ,al,mj,j8,dV])⟩
    ·have hn:j=e.idx[i].2.2.length:=by
      have: ¬j<e.idx[i].2.2.length:=by simpa using G
      omega
     refine Eu ?_
     show AY _ _ _ _ _ _ _
     refine dD d g ?_
     simp(disch:=omega)only[go_sem,wrap_i64]
     refine⟨[(15,I ((i:Int)+1)),(14,I e.idx.length),(13,.c (.pure (dp eR e.idx))),(0,yv l)],(by simp[kR,kY,eF,dE,fk,rn,yv,dQ,bN,ee,dX,cJ,eE,dS,aJ,al,mj,j8,dV]),i+1,o,by show _-_<_-_;omega, ?_,(by simp[kR,kY,eF,dE,fk,rn,yv,dQ,bN,ee,dX,cJ,eE,dS,aJ,al,mj,j8,dV])⟩
     show some _=some _
     rw[hm,hn]
  ·have hn:i=e.idx.length:=by
    have: ¬i<e.idx.length:=by simpa using z
    omega
   refine Eu ?_
   show _∨_
   left
   rw[f,hn,MU]
set_option maxRecDepth 20000
set_option maxRecDepth 1000000
theorem zN (e:Ex): ∀n:Nat,1≤n→n≤1000000→ac Ya 194 [fE e,I n] (I (min e.dep n:Nat)):=by
 refine Ex.ind (p:= λe=> ∀n:Nat,1≤n→n≤1000000→ac Ya 194 [fE e,I n] (I (min e.dep n:Nat))) (λe ih n h1 h2=> ?_) e
 refine ac.of Cq (by simp) λhb=>aa ?_
 have hl:=(ed hb).1
 conv in bh _ _=>cbv
 have R:=Ex.dep_pos e
 by_cases hn:n=1
 ·subst hn
  repeat' first|simp(disch:=omega)only[go_sem, *]|apply ab<;>intro h<;>try omega
  rw[Nat.min_eq_right R]
 ·rw[Ex.dep_eq]
  have T: ¬(n:Int)≤1:=by omega
  repeat' first|simp(disch:=omega)only[go_sem, *,T]|apply ab<;>intro h<;>try omega
  refine ai (λk:Nat=>⟨[(14,I k),(13,I e.args.length),(12,.c (.pure (.slice (e.args.map Ex.row)))),(5,I (min (1+Ex.deps (e.args.take k)) n:Nat)),(1,I n)], [],0,0⟩) (λk=>k≤e.args.length) (λk=>e.args.length-k) ⟨0, [],by omega,by simp[Ex.deps,Nat.min_eq_left h1]⟩ ?_
  rintro k hk
  refine aa ?_
  by_cases d:k<e.args.length
  ·have L:=ih _ (List.getElem_mem d) (n-1) (by omega) (by omega)
   rw[show((n-1:Nat):Int)=(n:Int)-1 by omega]at L
   have hd:=Ex.deps_take d
   clear ih
   repeat' first|simp(disch:=omega)only[go_sem, *,ah d,Ex.row_eq,wrap_i64]|apply ab<;>intro h<;>try omega|refine aq L rfl rfl ?_
   have he:max ((min (1+Ex.deps (e.args.take k)) n:Nat):Int) (1+((min e.args[k].dep (n-1):Nat):Int))=((min (1+Ex.deps (e.args.take (k+1))) n:Nat):Int):=by rw[hd];omega
   rw[he]
   exact⟨k+1, [],by omega,by omega,by simp⟩
  ·repeat' first|simp(disch:=omega)only[go_sem, *]|apply ab<;>intro h<;>try omega
   rw[List.take_of_length_le (by omega)]
theorem l8 (e:Ex):ac Ya 152 [fE e] (I (min e.dep 41:Nat)):=by
 refine ac.of B3 (by simp) λhb=>aa ?_
 conv in bh _ _=>cbv
 repeat' first|simp(disch:=omega)only[go_sem, *]|apply ab<;>intro h<;>try omega|refine aq (zN e 41 (by omega) (by omega)) rfl rfl ?_
theorem tm (e:Ex):ac Ya 153 [fE e] (I (min e.sz 2001:Nat)):=by
 refine ac.of E4 (by simp) λhb=>aa ?_
 conv in bh _ _=>cbv
 repeat' first|simp(disch:=omega)only[go_sem, *]|apply ab<;>intro h<;>try omega|refine aW (s8 e) rfl rfl ?_
 have f:(e.pre.map λa=> [fE a]).length=e.sz:=by rw[List.length_map,Ex.pre_length]
 refine rU 2 [(3,.c (.ptr 1 0))] (λk (_:Unit)=>([(1,.var [.pure (pI k)]),(0,zB e)],2)) (λk _=>k≤2000) rfl rfl rfl (sY e) ?_ ⟨by simp,by simp⟩ (by simp[kR,kY,eF,dE,fk,rn,yv,dQ,bN,ee,dX,cJ,eE,dS,aJ,al,mj,j8,dV]) ⟨(), [],by omega,by simp⟩ ?_ ?_
 ·intro x hx
  obtain⟨a,_,rfl⟩:=List.mem_map.1 hx
  rfl
 ·intro k x t hx hk
  obtain⟨a,ha,rfl⟩: ∃a,e.pre[k]? =some a∧ [fE a]=x:=by
   rw[List.getElem?_map]at hx
   exact Option.map_eq_some_iff.1 hx
  have Z:k<e.sz:=by rw[←Ex.pre_length];exact(List.getElem?_eq_some_iff.1 ha).1
  clear hx ha
  repeat' first|simp(disch:=omega)only[go_sem, *,wrap_i64]|apply ab<;>intro h<;>try omega
  ·rw[show(k:Int)+1=((min e.sz 2001:Nat):Int) by omega]
  ·exact⟨(), [],by omega,by simp⟩
 ·intro t hk
  rw[f]at hk ⊢
  repeat' first|simp(disch:=omega)only[go_sem, *]|apply ab<;>intro h<;>try omega
  rw[Nat.min_eq_left (by omega)]
theorem wG:Og 225 (λx=> ¬(x.2.1≠⟨⟨[]⟩⟩→fW x.2.1)):=by
 intro x
 refine ac.of yx (by simp) λhb=>aa ?_
 conv in bh _ _=>cbv
 repeat' first|simp(disch:=omega)only[go_sem, *]|apply ab<;>intro h<;>try omega|refine aq (bK _) rfl rfl ?_
 all_goals(refine BC ?_;clear hb;simp only[Bool.not_eq_true',xP,yB,reduceCtorEq,false_iff,true_iff,not_exists,not_and,Classical.not_not,decide_eq_true_iff,decide_eq_false_iff_not];first|done|grind [])
theorem gn (e:Ex):ac Ya 198 [fE e] (Go.Abs.B (decide (rv e))):=by
 refine ac.of CD (by simp) λhb=>aa ?_
 conv in bh _ _=>cbv
 repeat' first|simp(disch:=omega)only[go_sem, *]|apply ab<;>intro h<;>try omega|refine aq (bK _) rfl rfl ?_|refine aq (eH wG e.idx) rfl rfl ?_
 all_goals(refine BD ?_;clear hb;simp only[Bool.not_eq_true',xP,yB,reduceCtorEq,false_iff,true_iff,not_exists,not_and,Classical.not_not,decide_eq_true_iff,decide_eq_false_iff_not];first|done|grind [rv])
theorem Ch {e:Ex} (h1:nK e) (h2:rv e) (h3:rt e) (h4:lB e) (h5:e.op=1→fR e.ty e.val):((∀l∈e.forms,aI l.2)→bf e=0)∧((¬ ∀l∈e.forms,aI l.2)→bf e=1):=by
 unfold bf
 rw[if_neg (not_not_intro h1),if_neg (not_not_intro h2),if_neg (not_not_intro h3),if_neg (not_not_intro h4)]
 exact⟨λhf=>if_neg (not_not_intro ⟨h5,hf⟩),λhf=>if_pos λh=>hf h.2⟩
theorem tB {e:Ex} (hv:pE e.val):ac Ya 155 [fE e] (I (bf e)):=by
 refine ac.of vv (by simp) λhb=>aa ?_
 conv in bh _ _=>cbv
 by_cases h1:nK e
 ·by_cases h2:rv e
  ·by_cases h3:rt e
   ·by_cases h4:lB e
    ·have C:= λh=>Bt (h4.1 (.inl h)) hv
     by_cases h5:e.op=1→fR e.ty e.val
     ·obtain⟨n0,n1⟩:=Ch h1 h2 h3 h4 h5
      have hY:=BJ e h3.2.2 h3.2.1
      have c1:=eY e
      have c2:=gn e
      have c3:=jN e
      have c4:=lN e
      have c5:=zY e
      have f:(e.forms.map λa:bW=> [da a.1 a.2]).length=e.forms.length:=List.length_map _
      have m: ∀(k:Nat) x,(e.forms.map λa:bW=> [da a.1 a.2])[k]? =some x→ ∃h:k<e.forms.length,x= [da e.forms[k].1 e.forms[k].2]:= λk x hx=>by
       rw[List.getElem?_map]at hx
       obtain⟨a,ha,rfl⟩:=Option.map_eq_some_iff.1 hx
       obtain⟨hk,rfl⟩:=List.getElem?_eq_some_iff.1 ha
       exact⟨hk,rfl⟩
      have s: ∀x∈e.forms.map λa:bW=> [da a.1 a.2],x.length=1:= λx hx=>by
       obtain⟨a,_,rfl⟩:=List.mem_map.1 hx
       rfl
      have F: ∀k (h:k<e.forms.length),e.forms[k]∈e.forms:= λk h=>List.getElem_mem h
      generalize bf e=E at*
      by_cases u:e.op=1
      ·have y:=C u
       have V:=h5 u
       obtain⟨op,name,val,ty,lin,idx,args⟩:=e
       simp only[Ex.op]at u
       subst u
       generalize (Ex.mk 1 name val ty lin idx args).forms=fs at*
       have N0:=Lib.hid n0
       have N1:=Lib.hid n1
       have HY:=Lib.hid hY
       have HG:=Lib.hid m
       have HL:=Lib.hid f
       have HD:=Lib.hid s
       clear n0 n1 C h5 hb F m f s hY
       repeat' first|simp(disch:=omega)only[go_sem, *,h1,h2,h3,h4,V,Ex.op]|apply ab<;>intro h<;>try omega|refine aq c1 rfl rfl ?_|refine aq c2 rfl rfl ?_|refine aq c3 rfl rfl ?_|refine aq c4 rfl rfl ?_|refine aq y rfl rfl ?_|refine aW c5 rfl rfl ?_
       have n0:=N0.out
       have n1:=N1.out
       have hY:=HY.out
       have m:=HG.out
       have f:=HL.out
       have s:=HD.out
       clear N0 N1 HY HG HL HD
       refine rU 2 [(2,.c (.ptr 1 0))] (λk (_:Unit)=>([(1,.var [.pure (pI 0)]),(0,zB (Ex.mk 1 name val ty lin idx args))],2)) (λk _=>dZ (λi=> ∀h:i<fs.length,aI fs[i].2) k) rfl rfl rfl hY s ⟨by simp,by simp⟩ (by simp[kR,kY,eF,dE,fk,rn,yv,dQ,bN,ee,dX,cJ,eE,dS,aJ,al,mj,j8,dV]) ⟨(), [],.zero,by simp[Ex.op]⟩ ?_ ?_
       ·intro k x t hx hk
        obtain⟨d,rfl⟩:=m k x hx
        clear hx f m s hY
        by_cases v:aI fs[k].2
        ·clear n1
         repeat' first|simp(disch:=omega)only[go_sem, *,v,Ex.op]|apply ab<;>intro h<;>try omega|refine aq (cw _ _) rfl rfl ?_
         exact⟨(), [],hk.succ λ_=>v,by simp[Ex.op]⟩
        ·have hE:=n1 λh=>v (h _ (List.getElem_mem d))
         subst hE
         clear n0 n1 hk
         repeat' first|simp(disch:=omega)only[go_sem, *,v,Ex.op]|apply ab<;>intro h<;>try omega|refine aq (cw _ _) rfl rfl ?_
       ·intro t hk
        rw[f]at hk
        have hE:=n0 λl hl=>by
         obtain⟨i,hi,rfl⟩:=List.mem_iff_getElem.1 hl
         exact hk i hi hi
        subst hE
        clear n0 n1 hk f m s hY
        repeat' first|simp(disch:=omega)only[go_sem, *,Ex.op]|apply ab<;>intro h<;>try omega
      ·have y:=trivial
       generalize e.forms=fs at*
       have N0:=Lib.hid n0
       have N1:=Lib.hid n1
       have HY:=Lib.hid hY
       have HG:=Lib.hid m
       have HL:=Lib.hid f
       have HD:=Lib.hid s
       clear n0 n1 C h5 hb F m f s hY
       repeat' first|simp(disch:=omega)only[go_sem, *,h1,h2,h3,h4,u]|apply ab<;>intro h<;>try omega|refine aq c1 rfl rfl ?_|refine aq c2 rfl rfl ?_|refine aq c3 rfl rfl ?_|refine aq c4 rfl rfl ?_|refine aq y rfl rfl ?_|refine aW c5 rfl rfl ?_
       have n0:=N0.out
       have n1:=N1.out
       have hY:=HY.out
       have m:=HG.out
       have f:=HL.out
       have s:=HD.out
       clear N0 N1 HY HG HL HD
       refine rU 2 [(2,.c (.ptr 1 0))] (λk (_:Unit)=>([(1,.var [.pure (pI 0)]),(0,zB e)],2)) (λk _=>dZ (λi=> ∀h:i<fs.length,aI fs[i].2) k) rfl rfl rfl hY s ⟨by simp,by simp⟩ (by simp[kR,kY,eF,dE,fk,rn,yv,dQ,bN,ee,dX,cJ,eE,dS,aJ,al,mj,j8,dV]) ⟨(), [],.zero,by simp[Ex.op]⟩ ?_ ?_
       ·intro k x t hx hk
        obtain⟨d,rfl⟩:=m k x hx
        clear hx f m s hY
        by_cases v:aI fs[k].2
        ·clear n1
         repeat' first|simp(disch:=omega)only[go_sem, *,v,Ex.op]|apply ab<;>intro h<;>try omega|refine aq (cw _ _) rfl rfl ?_
         exact⟨(), [],hk.succ λ_=>v,by simp[Ex.op]⟩
        ·have hE:=n1 λh=>v (h _ (List.getElem_mem d))
         subst hE
         clear n0 n1 hk
         repeat' first|simp(disch:=omega)only[go_sem, *,v,Ex.op]|apply ab<;>intro h<;>try omega|refine aq (cw _ _) rfl rfl ?_
       ·intro t hk
        rw[f]at hk
        have hE:=n0 λl hl=>by
         obtain⟨i,hi,rfl⟩:=List.mem_iff_getElem.1 hl
         exact hk i hi hi
        subst hE
        clear n0 n1 hk f m s hY
        repeat' first|simp(disch:=omega)only[go_sem, *,Ex.op]|apply ab<;>intro h<;>try omega
     ·have u:e.op=1:=Classical.byContradiction λh=>h5 λh'=>absurd h' h
      have X: ¬fR e.ty e.val:= λh=>h5 λ_=>h
      have hE:bf e=1:=by
       unfold bf
       rw[if_neg (not_not_intro h1),if_neg (not_not_intro h2),if_neg (not_not_intro h3),if_neg (not_not_intro h4)]
       exact if_pos λh=>h5 h.1
      have y:=C u
      have c1:=eY e
      have c2:=gn e
      have c3:=jN e
      have c4:=lN e
      rw[hE]
      clear hE h5 C
      obtain⟨op,name,val,ty,lin,idx,args⟩:=e
      simp only[Ex.op]at u
      subst u
      repeat' first|simp(disch:=omega)only[go_sem, *,h1,h2,h3,h4,X,Ex.op]|apply ab<;>intro h<;>try omega|refine aq c1 rfl rfl ?_|refine aq c2 rfl rfl ?_|refine aq c3 rfl rfl ?_|refine aq c4 rfl rfl ?_|refine aq y rfl rfl ?_
    ·have hn:bf e=10:=by simp[bf,h1,h2,h3,h4]
     rw[hn]
     clear hn
     repeat' first|simp(disch:=omega)only[go_sem, *,h1,h2,h3,h4]|apply ab<;>intro h<;>try omega|refine aq (eY e) rfl rfl ?_|refine aq (gn e) rfl rfl ?_|refine aq (jN e) rfl rfl ?_|refine aq (lN e) rfl rfl ?_
   ·have hn:bf e=11:=by simp[bf,h1,h2,h3]
    rw[hn]
    clear hn
    repeat' first|simp(disch:=omega)only[go_sem, *,h1,h2,h3]|apply ab<;>intro h<;>try omega|refine aq (eY e) rfl rfl ?_|refine aq (gn e) rfl rfl ?_|refine aq (jN e) rfl rfl ?_
  ·have hn:bf e=7:=by simp[bf,h1,h2]
   rw[hn]
   clear hn
   repeat' first|simp(disch:=omega)only[go_sem, *,h1,h2]|apply ab<;>intro h<;>try omega|refine aq (eY e) rfl rfl ?_|refine aq (gn e) rfl rfl ?_
 ·have hn:bf e=5:=by simp[bf,h1]
  rw[hn]
  clear hn
  repeat' first|simp(disch:=omega)only[go_sem, *,h1]|apply ab<;>intro h<;>try omega|refine aq (eY e) rfl rfl ?_
theorem vl {e:Ex} (D: ∀a∈e.pre,pE a.val):ac Ya 114 [fE e] (I (gG e)):=by
 refine ac.of wZ (by simp) λhb=>aa ?_
 conv in bh _ _=>cbv
 by_cases h1:40<e.dep
 ·have hE:gG e=13:=if_pos h1
  rw[hE]
  clear hE D
  repeat' first|simp(disch:=omega)only[go_sem,show((min e.dep 41:Nat):Int)=41 by omega]|((with_reducible refine ab ?_ ?_)<;>intro h<;>try first|omega|simp(disch:=omega)only[go_sem, *,show((min e.dep 41:Nat):Int)=41 by omega])|refine aq (l8 e) rfl rfl ?_
 ·by_cases h2:2000<e.sz
  ·have hE:gG e=2:=by unfold gG;rw[if_neg h1,if_pos h2]
   rw[hE]
   clear hE D
   repeat' first|simp(disch:=omega)only[go_sem,show((min e.dep 41:Nat):Int)=e.dep by omega,show((min e.sz 2001:Nat):Int)=2001 by omega,show ¬(e.dep:Int)>40 by omega]|((with_reducible refine ab ?_ ?_)<;>intro h<;>try first|omega|simp(disch:=omega)only[go_sem, *,show((min e.dep 41:Nat):Int)=e.dep by omega,show((min e.sz 2001:Nat):Int)=2001 by omega,show ¬(e.dep:Int)>40 by omega])|refine aq (l8 e) rfl rfl ?_|refine aq (tm e) rfl rfl ?_
  ·have hE:gG e=de (e.pre.map bf):=by unfold gG;rw[if_neg h1,if_neg h2];rfl
   rw[hE]
   have hY:=sY e
   have f:(e.pre.map λa=> [fE a]).length=e.pre.length:=List.length_map _
   have m: ∀(k:Nat) x,(e.pre.map λa=> [fE a])[k]? =some x→ ∃h:k<e.pre.length,x= [fE e.pre[k]]:= λk x hx=>by
    rw[List.getElem?_map]at hx
    obtain⟨a,ha,rfl⟩:=Option.map_eq_some_iff.1 hx
    obtain⟨hk,rfl⟩:=List.getElem?_eq_some_iff.1 ha
    exact⟨hk,rfl⟩
   have s: ∀x∈e.pre.map λa=> [fE a],x.length=1:= λx hx=>by
    obtain⟨a,_,rfl⟩:=List.mem_map.1 hx
    rfl
   generalize e.pre=fs at*
   have HY:=Lib.hid hY
   have HG:=Lib.hid m
   have HL:=Lib.hid f
   have HD:=Lib.hid s
   have H64:=Lib.hid D
   clear m f s hY D hE
   repeat' first|simp(disch:=omega)only[go_sem,show((min e.dep 41:Nat):Int)=e.dep by omega,show((min e.sz 2001:Nat):Int)=e.sz by omega,show ¬(e.dep:Int)>40 by omega,show ¬(e.sz:Int)>2000 by omega]|((with_reducible refine ab ?_ ?_)<;>intro h<;>try first|omega|simp(disch:=omega)only[go_sem, *,show((min e.dep 41:Nat):Int)=e.dep by omega,show((min e.sz 2001:Nat):Int)=e.sz by omega,show ¬(e.dep:Int)>40 by omega,show ¬(e.sz:Int)>2000 by omega])|refine aq (l8 e) rfl rfl ?_|refine aq (tm e) rfl rfl ?_|refine aW (s8 e) rfl rfl ?_
   refine rU 2 [(2,.c (.ptr 1 0))] (λk (_:Unit)=>([(1,.var [.pure (pI 0)]),(0,zB e)],2)) (λk _=>Hid (de ((fs.map bf).take k)=0)) rfl rfl rfl HY.out HD.out ⟨by simp,by simp⟩ (by simp[kR,kY,eF,dE,fk,rn,yv,dQ,bN,ee,dX,cJ,eE,dS,aJ,al,mj,j8,dV]) ⟨(), [],by show _=_;simp[de],by simp⟩ ?_ ?_
   ·intro k x t hx hk
    obtain⟨d,rfl⟩:=HG.out k x hx
    have M:=tB (H64.out _ (List.getElem_mem d))
    have N:k<(fs.map bf).length:=by simpa using d
    have h3:=ix N hk.out
    have h4:=lY N hk.out
    rw[List.getElem_map]at h3 h4
    clear hx HG HL HD HY H64 hk
    by_cases hp:bf fs[k]=0
    ·have H3:=Lib.hid (h3.trans hp)
     clear h3 h4
     repeat' first|simp(disch:=omega)only[go_sem,hp]|((with_reducible refine ab ?_ ?_)<;>intro h<;>try first|omega|simp(disch:=omega)only[go_sem, *,hp])|refine aq M rfl rfl ?_
     exact⟨(), [],H3,by simp⟩
    ·have h5:=h4 hp
     rw[h5]
     clear h3 h4 h5
     repeat' first|simp(disch:=omega)only[go_sem,hp]|((with_reducible refine ab ?_ ?_)<;>intro h<;>try first|omega|simp(disch:=omega)only[go_sem, *,hp])|refine aq M rfl rfl ?_
   ·intro t hk
    have H:=hk.out
    rw[HL.out,List.take_of_length_le (by simp)]at H
    rw[H]
    clear hk H HG HL HD HY H64
    repeat' first|simp(disch:=omega)only[go_sem]|((with_reducible refine ab ?_ ?_)<;>intro h<;>try first|omega|simp(disch:=omega)only[go_sem, *])
end Go.Proofs.YtiapgekjmcjjgaaGreatDoor
