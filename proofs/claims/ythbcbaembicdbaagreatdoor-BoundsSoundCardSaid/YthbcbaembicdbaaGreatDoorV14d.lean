import Derived.Test.YthbcbaembicdbaaGreatDoorV14a
import Derived.Test.YthbcbaembicdbaaGreatDoorVLex
set_option maxHeartbeats 4000000
set_option linter.unusedVariables false
set_option linter.unusedSimpArgs false
set_option maxRecDepth 1000000
namespace Go.Proofs.YthbcbaembicdbaaGreatDoor
open Go.Abs Go.RowKit
abbrev Yx (e:Ex):AV:= .c (.cptr [pI e.op,pS e.name,pI e.val.1,pI e.val.2,pI e.ty.1,pI e.ty.2.1,pI e.ty.2.2.1,pI e.ty.2.2.2.1,pI e.ty.2.2.2.2,pI e.lin.1,aw e.lin.2,dg fQ e.idx,.slice (e.args.map Ex.row)])
def abn (k n:Nat) (res:AV) (k':Option Nat):Prop:=(res=Go.Abs.B true∧k'=some (k+n))∨(res=Go.Abs.B false∧k'=none)
def At (xs:List (List AV)) (k:Nat) (l:List Ex):Prop:= ∀(i:Nat) a,l[i]? =some a→xs[k+i]? =some [j5 a]
theorem Zm {xs:List (List AV)} {k:Nat} {e:Ex} (h:At xs k e.pre) {i:Nat} (hi:i<e.args.length):At xs (k+1+Ex.szs (e.args.take i)) e.args[i].pre:=by
 intro j a hj
 have e1:Ex.pres e.args=Ex.pres (e.args.take i)++(e.args[i].pre++Ex.pres (e.args.drop (i+1))):=by
  have e2:e.args=e.args.take i++(e.args[i]::e.args.drop (i+1)):=by rw[←List.drop_eq_getElem_cons hi,List.take_append_drop]
  have e3:Ex.pres (e.args.take i++(e.args[i]::e.args.drop (i+1)))=Ex.pres (e.args.take i)++(e.args[i].pre++Ex.pres (e.args.drop (i+1))):=by rw[Ex.pres_append,Ex.pres]
  rw[←e2]at e3
  exact e3
 have hl:(Ex.pres (e.args.take i)).length=Ex.szs (e.args.take i):=Ex.pres_length λa _=>Ex.pre_length a
 have:=h (1+Ex.szs (e.args.take i)+j) a (by
  rw[Ex.pre_eq,show 1+Ex.szs (e.args.take i)+j=(Ex.szs (e.args.take i)+j)+1 by omega,List.getElem?_cons_succ,e1,List.getElem?_append_right (by omega),hl,Nat.add_sub_cancel_left,List.getElem?_append_left (List.getElem?_eq_some_iff.1 hj).1]
  exact hj)
 rw[←this]
 congr 1
 omega
theorem ER {P:Program} {l:Nat} {w:World} {xs:List (List AV)} {J:Option Nat→(Nat→Prop)→World→Prop} (h:w9 P l w xs J): ∀k S W,J k S W→(∀b,S b→b<W.heap.size)∧mN W:= λk S W hj=>⟨(h.old k S W hj).1,(h.old k S W hj).2.2⟩
theorem ya {P:Program} {l:Nat} {w:World} {xs:List (List AV)} {J:Option Nat→(Nat→Prop)→World→Prop} (h:w9 P l w xs J): ∀k S W W',J k S W→Below W.heap.size W W'→J k (λb=>S b∨W.heap.size≤b∧b<W'.heap.size) W':= λk S W W' hj hb=>h.grow k S W W' hj (.of_below hb)
theorem IG {l:Nat} {w:World} {xs:List (List AV)} {J:Option Nat→(Nat→Prop)→World→Prop} (hY:w9 Tryz.prog l w xs J) (e:Ex): ∀k:Nat,At xs k e.pre→kP Tryz.prog J vv [j5 e,yv l] (some k) (abn k e.sz):=by
 refine Ex.ind (p:= λe=> ∀k:Nat,At xs k e.pre→kP Tryz.prog J vv [j5 e,yv l] (some k) (abn k e.sz)) (λe ih k hx=> ?_) e
 have hlt:=ER hY
 have hgr:=ya hY
 refine kP.of hlt Ju (by simp) λhb=> ?_
 have hl:=(qr hb).1
 simp only[BP]
 refine cE (cg hlt hgr ?_)
 simp(disch:=omega) only[go_sem]
 refine⟨[(1,yv l),(2,Yx e)],(by simp[gi,ij,c7,b8,dp,rn,yv,ct,aV,cU,cG,bv,c9,cz,aA,al,ja,gQ,cw]), ?_⟩
 have h0:xs[k]? =some [j5 e]:=hx 0 e (by rw[Ex.pre_eq];rfl)
 refine cE (cE (FE 2 rfl hlt hgr ?_))
 simp only[List.take,List.drop]
 simp(disch:=omega) only[go_sem]
 refine⟨[(8,j5 e),(7,yv l),(1,yv l),(2,Yx e)],(by simp[gi,ij,c7,b8,dp,rn,yv,ct,aV,cU,cG,bv,c9,cz,aA,al,ja,gQ,cw]),_,lD hY h0, ?_⟩
 rintro res k' ⟨b,rfl,rfl⟩
 simp(disch:=omega) only[go_sem]
 refine⟨[(10,Go.Abs.B !b),(1,yv l),(2,Yx e)],(by simp[gi,ij,c7,b8,dp,rn,yv,ct,aV,cU,cG,bv,c9,cz,aA,al,ja,gQ,cw]), ?_⟩
 refine jP (t:= !b) rfl (λhb0=> ?_) (λhb0=> ?_) hlt
 ·obtain rfl:b=false:=by simpa using hb0
  refine cE (cg hlt hgr ?_)
  simp(disch:=omega) only[go_sem]
  refine⟨[(4,Go.Abs.B false)],(by simp[gi,ij,c7,b8,dp,rn,yv,ct,aV,cU,cG,bv,c9,cz,aA,al,ja,gQ,cw]),xT ?_⟩
  show jU _ _ _ _
  simp(disch:=omega) only[go_sem]
  exact .inr ⟨rfl,rfl⟩
 ·obtain rfl:b=true:=by simpa using hb0
  refine kN ?_
  simp only[↓reduceIte]
  refine cE (cE (cg hlt hgr ?_))
  simp(disch:=omega) only[go_sem]
  refine⟨[(14,I 0),(13,I e.args.length),(12,.c (.pure (.slice (e.args.map Ex.row)))),(1,yv l)],(by simp[gi,ij,c7,b8,dp,rn,yv,ct,aV,cU,cG,bv,c9,cz,aA,al,ja,gQ,cw]), ?_⟩
  refine ll (Di (λi:Nat=>(some (k+1+Ex.szs (e.args.take i)), [(14,I i),(13,I e.args.length),(12,.c (.pure (.slice (e.args.map Ex.row)))),(1,yv l)])) (λi=>i≤e.args.length) (λi=>e.args.length-i) ⟨0,by omega,by simp[Ex.szs],(by simp[gi,ij,c7,b8,dp,rn,yv,ct,aV,cU,cG,bv,c9,cz,aA,al,ja,gQ,cw])⟩ ?_)
  intro i hi
  refine cE (cg hlt hgr ?_)
  simp(disch:=omega) only[go_sem]
  refine⟨[(15,Go.Abs.B (decide ((i:Int)<e.args.length))),(14,I i),(13,I e.args.length),(12,.c (.pure (.slice (e.args.map Ex.row)))),(1,yv l)],(by simp[gi,ij,c7,b8,dp,rn,yv,ct,aV,cU,cG,bv,c9,cz,aA,al,ja,gQ,cw]), ?_⟩
  refine cE (jP rfl (λhi1=> ?_) (λhi1=> ?_) hlt)
  ·have hlt1:i<e.args.length:=by simpa using hi1
   refine kN (cE (ll (cE (cg hlt hgr ?_))))
   simp(disch:=omega) only[go_sem,ai hlt1,Ex.row_eq]
   refine⟨[(6,Yx e.args[i]),(14,I i),(13,I e.args.length),(12,.c (.pure (.slice (e.args.map Ex.row)))),(1,yv l)],(by simp[gi,ij,c7,b8,dp,rn,yv,ct,aV,cU,cG,bv,c9,cz,aA,al,ja,gQ,cw]), ?_⟩
   refine cE (FE 2 rfl hlt hgr ?_)
   simp only[List.take,List.drop]
   simp(disch:=omega) only[go_sem]
   refine⟨[(18,j5 e.args[i]),(19,yv l),(14,I i),(13,I e.args.length),(12,.c (.pure (.slice (e.args.map Ex.row)))),(1,yv l)],(by simp[gi,ij,c7,b8,dp,rn,yv,ct,aV,cU,cG,bv,c9,cz,aA,al,ja,gQ,cw]),_,DY (ih _ (List.getElem_mem hlt1) _ (Zm hx hlt1)), ?_⟩
   rintro res k' (⟨rfl,rfl⟩|⟨rfl,rfl⟩)
   ·simp(disch:=omega) only[go_sem]
    refine⟨[(21,Go.Abs.B false),(14,I i),(13,I e.args.length),(12,.c (.pure (.slice (e.args.map Ex.row)))),(1,yv l)],(by simp[gi,ij,c7,b8,dp,rn,yv,ct,aV,cU,cG,bv,c9,cz,aA,al,ja,gQ,cw]), ?_⟩
    refine jP (t:=false) rfl (λh=>(by cases h)) (λ_=>kN ?_) hlt
    refine cg hlt hgr ?_
    simp(disch:=omega) only[go_sem,wrap_i64]
    refine⟨[(14,I ((i:Int)+1)),(13,I e.args.length),(12,.c (.pure (.slice (e.args.map Ex.row)))),(1,yv l)],(by simp[gi,ij,c7,b8,dp,rn,yv,ct,aV,cU,cG,bv,c9,cz,aA,al,ja,gQ,cw]),i+1,hlt1,by show _-_<_-_;omega, ?_,(by simp[gi,ij,c7,b8,dp,rn,yv,ct,aV,cU,cG,bv,c9,cz,aA,al,ja,gQ,cw])⟩
    show some _=some _
    rw[Ex.szs_take hlt1]
    congr 1
    omega
   ·simp(disch:=omega) only[go_sem]
    refine⟨[(21,Go.Abs.B true)],(by simp[gi,ij,c7,b8,dp,rn,yv,ct,aV,cU,cG,bv,c9,cz,aA,al,ja,gQ,cw]), ?_⟩
    refine jP (t:=true) rfl (λ_=>cE (cg hlt hgr ?_)) (λh=>(by cases h)) hlt
    simp(disch:=omega) only[go_sem]
    refine⟨[(4,Go.Abs.B false)],(by simp[gi,ij,c7,b8,dp,rn,yv,ct,aV,cU,cG,bv,c9,cz,aA,al,ja,gQ,cw]),xT ?_⟩
    show jU _ _ _ _
    simp(disch:=omega) only[go_sem]
    exact .inr ⟨rfl,rfl⟩
  ·have hn: ¬i<e.args.length:=by simpa using hi1
   refine C8 ?_
   show Yi _ _ _ _ _ _ _ _
   refine cE (cg hlt hgr ?_)
   simp(disch:=omega) only[go_sem]
   refine⟨[(4,Go.Abs.B true)],(by simp[gi,ij,c7,b8,dp,rn,yv,ct,aV,cU,cG,bv,c9,cz,aA,al,ja,gQ,cw]),xT ?_⟩
   show jU _ _ _ _
   simp(disch:=omega) only[go_sem]
   refine .inl ⟨rfl, ?_⟩
   rw[List.take_of_length_le (by omega),Ex.sz_eq e]
   congr 1
   omega
theorem YL (e:Ex):At (e.pre.map λa=> [j5 a]) 0 e.pre:= λi a h=>by rw[Nat.zero_add,List.getElem?_map,h];rfl
theorem wJ (e:Ex):iS Tryz.prog pM [Yx e] (e.pre.map λa=> [j5 a]):=by
 refine iS.of ⟨_,Tryz.func229,rfl,by kernel_rfl⟩ λl w J hY=> ?_
 have hlt:=ER hY
 have hgr:=ya hY
 refine kP.of hlt Eo (by simp) λhb=> ?_
 simp only[w4]
 refine FE 2 rfl hlt hgr ?_
 simp only[List.take,List.drop]
 simp(disch:=omega) only[go_sem]
 refine⟨[(3,j5 e),(4,yv l)],(by simp[gi,ij,c7,b8,dp,rn,yv,ct,aV,cU,cG,bv,c9,cz,aA,al,ja,gQ,cw]),_,DY (IG hY e 0 (YL e)), ?_⟩
 rintro res k' hk
 refine⟨[],(by simp[gi,ij,c7,b8,dp,rn,yv,ct,aV,cU,cG,bv,c9,cz,aA,al,ja,gQ,cw]), ?_⟩
 show _∨_
 rcases hk with⟨_,rfl⟩|⟨_,rfl⟩
 ·left
  rw[Ex.pre_length,Nat.zero_add]
 ·exact .inr rfl
def Zj (xs:List (List AV)) (k:Nat) (l:List bU):Prop:= ∀(i:Nat) a,l[i]? =some a→xs[k+i]? =some [dR a.1 a.2]
theorem wE (e:Ex):af Tryz.prog BV [j5 e] (.c (.clo pM [.cptr [pI e.op,pS e.name,pI e.val.1,pI e.val.2,pI e.ty.1,pI e.ty.2.1,pI e.ty.2.2.1,pI e.ty.2.2.2.1,pI e.ty.2.2.2.2,pI e.lin.1,aw e.lin.2,dg fQ e.idx,.slice (e.args.map Ex.row)]])):=by
 refine af.of IX (by simp) λhb=>aa ?_
 simp only[Bq]
 repeat' first|simp(disch:=omega) only[go_sem, *]|((with_reducible apply ab)<;>intro h<;>try omega)
theorem Fx (e:Ex):af Tryz.prog y0 [j5 e] (.c (.clo nI [.cptr [pI e.op,pS e.name,pI e.val.1,pI e.val.2,pI e.ty.1,pI e.ty.2.1,pI e.ty.2.2.1,pI e.ty.2.2.2.1,pI e.ty.2.2.2.2,pI e.lin.1,aw e.lin.2,dg fQ e.idx,.slice (e.args.map Ex.row)]])):=by
 refine af.of Gf (by simp) λhb=>aa ?_
 simp only[y8]
 repeat' first|simp(disch:=omega) only[go_sem, *]|((with_reducible apply ab)<;>intro h<;>try omega)
theorem Zj.app {xs:List (List AV)} {k:Nat} {l r:List bU} (h:Zj xs k (l++r)):Zj xs (k+l.length) r:= λi a hi=>by
 have:=h (l.length+i) a (by rw[List.getElem?_append_right (by omega),Nat.add_sub_cancel_left];exact hi)
 rw[←this,Nat.add_assoc]
def wo (x:Ix):List bU:=x.1::x.2.2
theorem KQ {e:Ex} {i:Nat} (hi:i<e.idx.length):e.forms=(e.lin::(e.idx.take i).flatMap wo)++(wo e.idx[i]++(e.idx.drop (i+1)).flatMap wo):=by
 have e1:(e.idx.take i++e.idx[i]::e.idx.drop (i+1)).flatMap wo=(e.idx.take i).flatMap wo++(wo e.idx[i]++(e.idx.drop (i+1)).flatMap wo):=by
  rw[List.flatMap_append,List.flatMap_cons]
 rw[←List.drop_eq_getElem_cons hi,List.take_append_drop]at e1
 show e.lin::e.idx.flatMap wo=_
 rw[e1]
 rfl
def C1 (e:Ex) (i:Nat):Nat:=(e.lin::(e.idx.take i).flatMap wo).length
theorem Qg (e:Ex):C1 e 0=1:=by simp[C1]
theorem Rm {e:Ex} {i:Nat} (hi:i<e.idx.length):C1 e (i+1)=C1 e i+1+e.idx[i].2.2.length:=by
 unfold C1
 rw[List.take_succ_eq_append_getElem hi,List.flatMap_append]
 simp[wo]
 omega
theorem Qz {e:Ex}:C1 e e.idx.length=e.forms.length:=by
 unfold C1
 rw[List.take_of_length_le (Nat.le_refl _)]
 rfl
theorem XE {e:Ex} {xs:List (List AV)} (hx:Zj xs 0 e.forms) {i:Nat} (hi:i<e.idx.length):Zj xs (C1 e i) (wo e.idx[i]++(e.idx.drop (i+1)).flatMap wo):=by
 have:=(show Zj xs 0 ((e.lin::(e.idx.take i).flatMap wo)++(wo e.idx[i]++(e.idx.drop (i+1)).flatMap wo)) by rw[←KQ hi];exact hx).app
 rw[Nat.zero_add]at this
 exact this
theorem Fn (e:Ex) (h6: ∀x∈e.idx,x.2.2.length≤6) (hl:e.idx.length≤6):iS Tryz.prog nI [Yx e] (e.forms.map λa=> [dR a.1 a.2]):=by
 refine iS.of ⟨_,Tryz.func258,rfl,by kernel_rfl⟩ λl w J hY=> ?_
 have hlt:=ER hY
 have hgr:=ya hY
 have hx:Zj (e.forms.map λa=> [dR a.1 a.2]) 0 e.forms:= λi a h=>by rw[Nat.zero_add,List.getElem?_map,h];rfl
 have hlen:(e.forms.map λa:bU=> [dR a.1 a.2]).length=e.forms.length:=by simp
 generalize (e.forms.map λa:bU=> [dR a.1 a.2])=xs at*
 have h0:xs[0]? =some [dR e.lin.1 e.lin.2]:=hx 0 e.lin rfl
 refine kP.of hlt Cw (by simp) λhb=> ?_
 conv in uR=>cbv
 refine cE (cE (FE 3 rfl hlt hgr ?_))
 simp only[List.take,List.drop]
 simp(disch:=omega) only[go_sem]
 refine⟨[(9,dR e.lin.1 e.lin.2),(7,yv l),(0,yv l),(1,Yx e)],(by simp[gi,ij,c7,b8,dp,rn,yv,ct,aV,cU,cG,bv,c9,cz,aA,al,ja,gQ,cw]),_,lD hY h0, ?_⟩
 rintro res k' ⟨b,rfl,rfl⟩
 simp(disch:=omega) only[go_sem]
 refine⟨[(11,Go.Abs.B !b),(0,yv l),(1,Yx e)],(by simp[gi,ij,c7,b8,dp,rn,yv,ct,aV,cU,cG,bv,c9,cz,aA,al,ja,gQ,cw]), ?_⟩
 refine jP (t:= !b) rfl (λhb0=> ?_) (λhb0=> ?_) hlt
 ·obtain rfl:b=false:=by simpa using hb0
  exact xT (.inr rfl)
 ·obtain rfl:b=true:=by simpa using hb0
  refine kN ?_
  simp only[↓reduceIte]
  refine cE (cg hlt hgr ?_)
  simp(disch:=omega) only[go_sem]
  refine⟨[(15,I 0),(14,I e.idx.length),(13,.c (.pure (dg fQ e.idx))),(0,yv l)],(by simp[gi,ij,c7,b8,dp,rn,yv,ct,aV,cU,cG,bv,c9,cz,aA,al,ja,gQ,cw]), ?_⟩
  refine ll (Di (λi:Nat=>(some (C1 e i), [(15,I i),(14,I e.idx.length),(13,.c (.pure (dg fQ e.idx))),(0,yv l)])) (λi=>i≤e.idx.length) (λi=>e.idx.length-i) ⟨0,by omega,by simp[Qg],(by simp[gi,ij,c7,b8,dp,rn,yv,ct,aV,cU,cG,bv,c9,cz,aA,al,ja,gQ,cw])⟩ ?_)
  intro i hi
  refine cE (cg hlt hgr ?_)
  simp(disch:=omega) only[go_sem]
  refine⟨[(16,Go.Abs.B (decide ((i:Int)<e.idx.length))),(15,I i),(14,I e.idx.length),(13,.c (.pure (dg fQ e.idx))),(0,yv l)],(by simp[gi,ij,c7,b8,dp,rn,yv,ct,aV,cU,cG,bv,c9,cz,aA,al,ja,gQ,cw]), ?_⟩
  refine cE (jP rfl (λhi1=> ?_) (λhi1=> ?_) hlt)
  ·have hlt1:i<e.idx.length:=by simpa using hi1
   have hx1:=XE hx hlt1
   have hm:=Rm hlt1
   have h6':=h6 _ (List.getElem_mem hlt1)
   have hr0:xs[C1 e i]? =some [dR e.idx[i].1.1 e.idx[i].1.2]:=hx1 0 e.idx[i].1 rfl
   have hrj: ∀(j:Nat) (hj:j<e.idx[i].2.2.length),xs[C1 e i+1+j]? =some [dR e.idx[i].2.2[j].1 e.idx[i].2.2[j].2]:= λj hj=>by
    have:=hx1 (j+1) e.idx[i].2.2[j] (by simp[wo,List.getElem?_append,hj])
    rw[←this];congr 1;omega
   refine kN (cE (ll (cE (cg hlt hgr ?_))))
   simp(disch:=omega) only[go_sem,ai hlt1,fQ]
   refine⟨[(4,.c (.cptr [pI e.idx[i].1.1,aw e.idx[i].1.2,pS e.idx[i].2.1,dg cR e.idx[i].2.2])),(15,I i),(14,I e.idx.length),(13,.c (.pure (dg fQ e.idx))),(0,yv l)],(by simp[gi,ij,c7,b8,dp,rn,yv,ct,aV,cU,cG,bv,c9,cz,aA,al,ja,gQ,cw]), ?_⟩
   refine cE (cE (FE 3 rfl hlt hgr ?_))
   simp only[List.take,List.drop]
   simp(disch:=omega) only[go_sem]
   refine⟨[(21,dR e.idx[i].1.1 e.idx[i].1.2),(19,yv l),(4,.c (.cptr [pI e.idx[i].1.1,aw e.idx[i].1.2,pS e.idx[i].2.1,dg cR e.idx[i].2.2])),(15,I i),(14,I e.idx.length),(13,.c (.pure (dg fQ e.idx))),(0,yv l)],(by simp[gi,ij,c7,b8,dp,rn,yv,ct,aV,cU,cG,bv,c9,cz,aA,al,ja,gQ,cw]),_,lD hY hr0, ?_⟩
   rintro res k' ⟨b,rfl,rfl⟩
   simp(disch:=omega) only[go_sem]
   refine⟨[(23,Go.Abs.B !b),(4,.c (.cptr [pI e.idx[i].1.1,aw e.idx[i].1.2,pS e.idx[i].2.1,dg cR e.idx[i].2.2])),(15,I i),(14,I e.idx.length),(13,.c (.pure (dg fQ e.idx))),(0,yv l)],(by simp[gi,ij,c7,b8,dp,rn,yv,ct,aV,cU,cG,bv,c9,cz,aA,al,ja,gQ,cw]), ?_⟩
   refine jP (t:= !b) rfl (λhb0=> ?_) (λhb0=> ?_) hlt
   ·obtain rfl:b=false:=by simpa using hb0
    exact xT (.inr rfl)
   ·obtain rfl:b=true:=by simpa using hb0
    refine kN ?_
    simp only[↓reduceIte]
    refine cE (cg hlt hgr ?_)
    simp(disch:=omega) only[go_sem]
    refine⟨[(27,I 0),(26,I e.idx[i].2.2.length),(25,.c (.pure (dg cR e.idx[i].2.2))),(15,I i),(14,I e.idx.length),(13,.c (.pure (dg fQ e.idx))),(0,yv l)],(by simp[gi,ij,c7,b8,dp,rn,yv,ct,aV,cU,cG,bv,c9,cz,aA,al,ja,gQ,cw]), ?_⟩
    refine ll (Di (λj:Nat=>(some (C1 e i+1+j), [(27,I j),(26,I e.idx[i].2.2.length),(25,.c (.pure (dg cR e.idx[i].2.2))),(15,I i),(14,I e.idx.length),(13,.c (.pure (dg fQ e.idx))),(0,yv l)])) (λj=>j≤e.idx[i].2.2.length) (λj=>e.idx[i].2.2.length-j) ⟨0,by omega,by simp,(by simp[gi,ij,c7,b8,dp,rn,yv,ct,aV,cU,cG,bv,c9,cz,aA,al,ja,gQ,cw])⟩ ?_)
    intro j hj
    refine cE (cg hlt hgr ?_)
    simp(disch:=omega) only[go_sem]
    refine⟨[(28,Go.Abs.B (decide ((j:Int)<e.idx[i].2.2.length))),(27,I j),(26,I e.idx[i].2.2.length),(25,.c (.pure (dg cR e.idx[i].2.2))),(15,I i),(14,I e.idx.length),(13,.c (.pure (dg fQ e.idx))),(0,yv l)],(by simp[gi,ij,c7,b8,dp,rn,yv,ct,aV,cU,cG,bv,c9,cz,aA,al,ja,gQ,cw]), ?_⟩
    refine cE (jP rfl (λhj1=> ?_) (λhj1=> ?_) hlt)
    ·have hltj:j<e.idx[i].2.2.length:=by simpa using hj1
     refine kN (cE (ll (cE (cg hlt hgr ?_))))
     simp(disch:=omega) only[go_sem,ai hltj,cR]
     refine⟨[(6,.c (.cptr [pI e.idx[i].2.2[j].1,aw e.idx[i].2.2[j].2])),(27,I j),(26,I e.idx[i].2.2.length),(25,.c (.pure (dg cR e.idx[i].2.2))),(15,I i),(14,I e.idx.length),(13,.c (.pure (dg fQ e.idx))),(0,yv l)],(by simp[gi,ij,c7,b8,dp,rn,yv,ct,aV,cU,cG,bv,c9,cz,aA,al,ja,gQ,cw]), ?_⟩
     refine cE (FE 2 rfl hlt hgr ?_)
     simp only[List.take,List.drop]
     simp(disch:=omega) only[go_sem]
     refine⟨[(32,dR e.idx[i].2.2[j].1 e.idx[i].2.2[j].2),(31,yv l),(27,I j),(26,I e.idx[i].2.2.length),(25,.c (.pure (dg cR e.idx[i].2.2))),(15,I i),(14,I e.idx.length),(13,.c (.pure (dg fQ e.idx))),(0,yv l)],(by simp[gi,ij,c7,b8,dp,rn,yv,ct,aV,cU,cG,bv,c9,cz,aA,al,ja,gQ,cw]),_,lD hY (hrj j hltj), ?_⟩
     rintro res k' ⟨b,rfl,rfl⟩
     simp(disch:=omega) only[go_sem]
     refine⟨[(34,Go.Abs.B !b),(27,I j),(26,I e.idx[i].2.2.length),(25,.c (.pure (dg cR e.idx[i].2.2))),(15,I i),(14,I e.idx.length),(13,.c (.pure (dg fQ e.idx))),(0,yv l)],(by simp[gi,ij,c7,b8,dp,rn,yv,ct,aV,cU,cG,bv,c9,cz,aA,al,ja,gQ,cw]), ?_⟩
     refine jP (t:= !b) rfl (λhb0=> ?_) (λhb0=> ?_) hlt
     ·obtain rfl:b=false:=by simpa using hb0
      exact xT (.inr rfl)
     ·obtain rfl:b=true:=by simpa using hb0
      refine kN ?_
      simp only[↓reduceIte]
      refine cg hlt hgr ?_
      simp(disch:=omega) only[go_sem,wrap_i64]
      exact⟨[(27,I ((j:Int)+1)),(26,I e.idx[i].2.2.length),(25,.c (.pure (dg cR e.idx[i].2.2))),(15,I i),(14,I e.idx.length),(13,.c (.pure (dg fQ e.idx))),(0,yv l)],(by simp[gi,ij,c7,b8,dp,rn,yv,ct,aV,cU,cG,bv,c9,cz,aA,al,ja,gQ,cw]),j+1,hltj,by show _-_<_-_;omega,rfl,(by simp[gi,ij,c7,b8,dp,rn,yv,ct,aV,cU,cG,bv,c9,cz,aA,al,ja,gQ,cw])⟩
    ·have hn:j=e.idx[i].2.2.length:=by
      have: ¬j<e.idx[i].2.2.length:=by simpa using hj1
      omega
     refine C8 ?_
     show AY _ _ _ _ _ _ _
     refine cg hlt hgr ?_
     simp(disch:=omega) only[go_sem,wrap_i64]
     refine⟨[(15,I ((i:Int)+1)),(14,I e.idx.length),(13,.c (.pure (dg fQ e.idx))),(0,yv l)],(by simp[gi,ij,c7,b8,dp,rn,yv,ct,aV,cU,cG,bv,c9,cz,aA,al,ja,gQ,cw]),i+1,hlt1,by show _-_<_-_;omega, ?_,(by simp[gi,ij,c7,b8,dp,rn,yv,ct,aV,cU,cG,bv,c9,cz,aA,al,ja,gQ,cw])⟩
     show some _=some _
     rw[hm,hn]
  ·have hn:i=e.idx.length:=by
    have: ¬i<e.idx.length:=by simpa using hi1
    omega
   refine C8 ?_
   show _∨_
   left
   rw[hlen,hn,Qz]
set_option maxRecDepth 20000
set_option maxRecDepth 1000000
theorem Ef (e:Ex): ∀n:Nat,1≤n→n≤1000000→af Tryz.prog rj [j5 e,I n] (I (min e.dep n:Nat)):=by
 refine Ex.ind (p:= λe=> ∀n:Nat,1≤n→n≤1000000→af Tryz.prog rj [j5 e,I n] (I (min e.dep n:Nat))) (λe ih n h1 h2=> ?_) e
 refine af.of GF (by simp) λhb=>aa ?_
 have hl:=(qr hb).1
 simp only[y4]
 have hd0:=Ex.dep_pos e
 by_cases hn:n=1
 ·subst hn
  repeat' first|simp(disch:=omega) only[go_sem, *]|((with_reducible apply ab)<;>intro h<;>try omega)
  rw[Nat.min_eq_right hd0]
 ·rw[Ex.dep_eq]
  have hn1: ¬(n:Int)≤1:=by omega
  repeat' first|simp(disch:=omega) only[go_sem, *,hn1]|((with_reducible apply ab)<;>intro h<;>try omega)
  refine ap (λk:Nat=>⟨[(14,I k),(13,I e.args.length),(12,.c (.pure (.slice (e.args.map Ex.row)))),(5,I (min (1+Ex.deps (e.args.take k)) n:Nat)),(1,I n)], [],0,0⟩) (λk=>k≤e.args.length) (λk=>e.args.length-k) ⟨0, [],by omega,by simp[Ex.deps,Nat.min_eq_left h1]⟩ ?_
  rintro k hk
  refine aa ?_
  by_cases hlt:k<e.args.length
  ·have hih:=ih _ (List.getElem_mem hlt) (n-1) (by omega) (by omega)
   rw[show((n-1:Nat):Int)=(n:Int)-1 by omega]at hih
   have hd:=Ex.deps_take hlt
   clear ih
   repeat' first|simp(disch:=omega) only[go_sem, *,ai hlt,Ex.row_eq,wrap_i64]|((with_reducible apply ab)<;>intro h<;>try omega)|(refine aY hih rfl rfl ?_)
   have he:max ((min (1+Ex.deps (e.args.take k)) n:Nat):Int) (1+((min e.args[k].dep (n-1):Nat):Int))=((min (1+Ex.deps (e.args.take (k+1))) n:Nat):Int):=by rw[hd];omega
   rw[he]
   exact⟨k+1, [],by omega,by omega,by simp⟩
  ·repeat' first|simp(disch:=omega) only[go_sem, *]|((with_reducible apply ab)<;>intro h<;>try omega)
   rw[List.take_of_length_le (by omega)]
theorem nq (e:Ex):af Tryz.prog zx [j5 e] (I (min e.dep 41:Nat)):=by
 refine af.of Gm (by simp) λhb=>aa ?_
 simp only[y6]
 repeat' first|simp(disch:=omega) only[go_sem, *]|((with_reducible apply ab)<;>intro h<;>try omega)|(refine aY (Ef e 41 (by omega) (by omega)) rfl rfl ?_)
theorem xb (e:Ex):af Tryz.prog Cf [j5 e] (I (min e.sz 2001:Nat)):=by
 refine af.of IT (by simp) λhb=>aa ?_
 simp only[By]
 repeat' first|simp(disch:=omega) only[go_sem, *]|((with_reducible apply ab)<;>intro h<;>try omega)|(refine el (wE e) rfl rfl ?_)
 have hlen:(e.pre.map λa=> [j5 a]).length=e.sz:=by rw[List.length_map,Ex.pre_length]
 refine qc 2 [(3,.c (.ptr 1 0))] (λk (_:Unit)=>([(1,.var [.pure (pI k)]),(0,R2 e)],2)) (λk _=>k≤2000) rfl rfl rfl (wJ e) ?_ ⟨by simp,by simp⟩ (by simp[gi,ij,c7,b8,dp,rn,yv,ct,aV,cU,cG,bv,c9,cz,aA,al,ja,gQ,cw]) ⟨(), [],by omega,by simp⟩ ?_ ?_
 ·intro x hx
  obtain⟨a,_,rfl⟩:=List.mem_map.1 hx
  rfl
 ·intro k x t hx hk
  obtain⟨a,ha,rfl⟩: ∃a,e.pre[k]? =some a∧ [j5 a]=x:=by
   rw[List.getElem?_map]at hx
   exact Option.map_eq_some_iff.1 hx
  have hk1:k<e.sz:=by rw[←Ex.pre_length];exact(List.getElem?_eq_some_iff.1 ha).1
  clear hx ha
  repeat' first|simp(disch:=omega) only[go_sem, *,wrap_i64]|((with_reducible apply ab)<;>intro h<;>try omega)
  ·rw[show(k:Int)+1=((min e.sz 2001:Nat):Int) by omega]
  ·exact⟨(), [],by omega,by simp⟩
 ·intro t hk
  rw[hlen]at hk ⊢
  repeat' first|simp(disch:=omega) only[go_sem, *]|((with_reducible apply ab)<;>intro h<;>try omega)
  rw[Nat.min_eq_left (by omega)]
theorem AE:Uw tC (λx=> ¬(x.2.1≠⟨⟨[]⟩⟩→gk x.2.1)):=by
 intro x
 refine af.of CZ (by simp) λhb=>aa ?_
 simp only[tv]
 repeat' first|simp(disch:=omega) only[go_sem, *]|((with_reducible apply ab)<;>intro h<;>try omega)|(refine aY (bu _) rfl rfl ?_)
 all_goals(refine BC ?_;clear hb;simp only[Bool.not_eq_true',M6,Oj,reduceCtorEq,false_iff,true_iff,not_exists,not_and,Classical.not_not,decide_eq_true_iff,decide_eq_false_iff_not];first|done|grind [])
theorem gz (e:Ex):af Tryz.prog zo [j5 e] (Go.Abs.B (decide (Ch e))):=by
 refine af.of GH (by simp) λhb=>aa ?_
 simp only[zZ]
 repeat' first|simp(disch:=omega) only[go_sem, *]|((with_reducible apply ab)<;>intro h<;>try omega)|(refine aY (bu _) rfl rfl ?_)|(refine aY (dX AE e.idx) rfl rfl ?_)
 all_goals(refine BD ?_;clear hb;simp only[Bool.not_eq_true',M6,Oj,reduceCtorEq,false_iff,true_iff,not_exists,not_and,Classical.not_not,decide_eq_true_iff,decide_eq_false_iff_not];first|done|grind [Ch])
theorem GJ {e:Ex} (h1:wL e) (h2:Ch e) (h3:B9 e) (h4:uU e) (h5:e.op=1→qV e.ty e.val):((∀l∈e.forms,bn l.2)→co e=0)∧((¬ ∀l∈e.forms,bn l.2)→co e=1):=by
 unfold co
 rw[if_neg (not_not_intro h1),if_neg (not_not_intro h2),if_neg (not_not_intro h3),if_neg (not_not_intro h4)]
 exact⟨λhf=>if_neg (not_not_intro ⟨h5,hf⟩),λhf=>if_pos λh=>hf h.2⟩
theorem xG {e:Ex} (hv:GC e.val):af Tryz.prog qB [j5 e] (I (co e)):=by
 refine af.of yV (by simp) λhb=>aa ?_
 conv in ql=>cbv
 by_cases h1:wL e
 ·by_cases h2:Ch e
  ·by_cases h3:B9 e
   ·by_cases h4:uU e
    ·have hvt:= λh=>F6 (h4.1 (.inl h)) hv
     by_cases h5:e.op=1→qV e.ty e.val
     ·obtain⟨n0,n1⟩:=GJ h1 h2 h3 h4 h5
      have hY:=Fn e h3.2.2 h3.2.1
      have c1:=eE e
      have c2:=gz e
      have c3:=kM e
      have c4:=nM e
      have c5:=Fx e
      have hlen:(e.forms.map λa:bU=> [dR a.1 a.2]).length=e.forms.length:=List.length_map _
      have hget: ∀(k:Nat) x,(e.forms.map λa:bU=> [dR a.1 a.2])[k]? =some x→ ∃h:k<e.forms.length,x= [dR e.forms[k].1 e.forms[k].2]:= λk x hx=>by
       rw[List.getElem?_map]at hx
       obtain⟨a,ha,rfl⟩:=Option.map_eq_some_iff.1 hx
       obtain⟨hk,rfl⟩:=List.getElem?_eq_some_iff.1 ha
       exact⟨hk,rfl⟩
      have h1d: ∀x∈e.forms.map λa:bU=> [dR a.1 a.2],x.length=1:= λx hx=>by
       obtain⟨a,_,rfl⟩:=List.mem_map.1 hx
       rfl
      have hmem: ∀k (h:k<e.forms.length),e.forms[k]∈e.forms:= λk h=>List.getElem_mem h
      generalize co e=E at*
      by_cases hop:e.op=1
      ·have hvt':=hvt hop
       have h5':=h5 hop
       obtain⟨op,name,val,ty,lin,idx,args⟩:=e
       simp only[Ex.op]at hop
       subst hop
       generalize (Ex.mk 1 name val ty lin idx args).forms=fs at*
       have N0:=Lib.hid n0
       have N1:=Lib.hid n1
       have HY:=Lib.hid hY
       have HG:=Lib.hid hget
       have HL:=Lib.hid hlen
       have HD:=Lib.hid h1d
       clear n0 n1 hvt h5 hb hmem hget hlen h1d hY
       repeat' first|simp(disch:=omega) only[go_sem, *,h1,h2,h3,h4,h5',Ex.op]|((with_reducible apply ab)<;>intro h<;>try omega)|(refine aY c1 rfl rfl ?_)|(refine aY c2 rfl rfl ?_)|(refine aY c3 rfl rfl ?_)|(refine aY c4 rfl rfl ?_)|(refine aY hvt' rfl rfl ?_)|(refine el c5 rfl rfl ?_)
       have n0:=N0.out
       have n1:=N1.out
       have hY:=HY.out
       have hget:=HG.out
       have hlen:=HL.out
       have h1d:=HD.out
       clear N0 N1 HY HG HL HD
       refine qc 2 [(2,.c (.ptr 1 0))] (λk (_:Unit)=>([(1,.var [.pure (pI 0)]),(0,R2 (Ex.mk 1 name val ty lin idx args))],2)) (λk _=>fY (λi=> ∀h:i<fs.length,bn fs[i].2) k) rfl rfl rfl hY h1d ⟨by simp,by simp⟩ (by simp[gi,ij,c7,b8,dp,rn,yv,ct,aV,cU,cG,bv,c9,cz,aA,al,ja,gQ,cw]) ⟨(), [],.zero,by simp[Ex.op]⟩ ?_ ?_
       ·intro k x t hx hk
        obtain⟨hlt,rfl⟩:=hget k x hx
        clear hx hlen hget h1d hY
        by_cases hok:bn fs[k].2
        ·clear n1
         repeat' first|simp(disch:=omega) only[go_sem, *,hok,Ex.op]|((with_reducible apply ab)<;>intro h<;>try omega)|(refine aY (bG _ _) rfl rfl ?_)
         exact⟨(), [],hk.succ λ_=>hok,by simp[Ex.op]⟩
        ·have hE:=n1 λh=>hok (h _ (List.getElem_mem hlt))
         subst hE
         clear n0 n1 hk
         repeat' first|simp(disch:=omega) only[go_sem, *,hok,Ex.op]|((with_reducible apply ab)<;>intro h<;>try omega)|(refine aY (bG _ _) rfl rfl ?_)
       ·intro t hk
        rw[hlen]at hk
        have hE:=n0 λl hl=>by
         obtain⟨i,hi,rfl⟩:=List.mem_iff_getElem.1 hl
         exact hk i hi hi
        subst hE
        clear n0 n1 hk hlen hget h1d hY
        repeat' first|simp(disch:=omega) only[go_sem, *,Ex.op]|((with_reducible apply ab)<;>intro h<;>try omega)
      ·have hvt':=trivial
       generalize e.forms=fs at*
       have N0:=Lib.hid n0
       have N1:=Lib.hid n1
       have HY:=Lib.hid hY
       have HG:=Lib.hid hget
       have HL:=Lib.hid hlen
       have HD:=Lib.hid h1d
       clear n0 n1 hvt h5 hb hmem hget hlen h1d hY
       repeat' first|simp(disch:=omega) only[go_sem, *,h1,h2,h3,h4,hop]|((with_reducible apply ab)<;>intro h<;>try omega)|(refine aY c1 rfl rfl ?_)|(refine aY c2 rfl rfl ?_)|(refine aY c3 rfl rfl ?_)|(refine aY c4 rfl rfl ?_)|(refine aY hvt' rfl rfl ?_)|(refine el c5 rfl rfl ?_)
       have n0:=N0.out
       have n1:=N1.out
       have hY:=HY.out
       have hget:=HG.out
       have hlen:=HL.out
       have h1d:=HD.out
       clear N0 N1 HY HG HL HD
       refine qc 2 [(2,.c (.ptr 1 0))] (λk (_:Unit)=>([(1,.var [.pure (pI 0)]),(0,R2 e)],2)) (λk _=>fY (λi=> ∀h:i<fs.length,bn fs[i].2) k) rfl rfl rfl hY h1d ⟨by simp,by simp⟩ (by simp[gi,ij,c7,b8,dp,rn,yv,ct,aV,cU,cG,bv,c9,cz,aA,al,ja,gQ,cw]) ⟨(), [],.zero,by simp[Ex.op]⟩ ?_ ?_
       ·intro k x t hx hk
        obtain⟨hlt,rfl⟩:=hget k x hx
        clear hx hlen hget h1d hY
        by_cases hok:bn fs[k].2
        ·clear n1
         repeat' first|simp(disch:=omega) only[go_sem, *,hok,Ex.op]|((with_reducible apply ab)<;>intro h<;>try omega)|(refine aY (bG _ _) rfl rfl ?_)
         exact⟨(), [],hk.succ λ_=>hok,by simp[Ex.op]⟩
        ·have hE:=n1 λh=>hok (h _ (List.getElem_mem hlt))
         subst hE
         clear n0 n1 hk
         repeat' first|simp(disch:=omega) only[go_sem, *,hok,Ex.op]|((with_reducible apply ab)<;>intro h<;>try omega)|(refine aY (bG _ _) rfl rfl ?_)
       ·intro t hk
        rw[hlen]at hk
        have hE:=n0 λl hl=>by
         obtain⟨i,hi,rfl⟩:=List.mem_iff_getElem.1 hl
         exact hk i hi hi
        subst hE
        clear n0 n1 hk hlen hget h1d hY
        repeat' first|simp(disch:=omega) only[go_sem, *,Ex.op]|((with_reducible apply ab)<;>intro h<;>try omega)
     ·have hop:e.op=1:=Classical.byContradiction λh=>h5 λh'=>absurd h' h
      have hnv: ¬qV e.ty e.val:= λh=>h5 λ_=>h
      have hE:co e=1:=by
       unfold co
       rw[if_neg (not_not_intro h1),if_neg (not_not_intro h2),if_neg (not_not_intro h3),if_neg (not_not_intro h4)]
       exact if_pos λh=>h5 h.1
      have hvt':=hvt hop
      have c1:=eE e
      have c2:=gz e
      have c3:=kM e
      have c4:=nM e
      rw[hE]
      clear hE h5 hvt
      obtain⟨op,name,val,ty,lin,idx,args⟩:=e
      simp only[Ex.op]at hop
      subst hop
      repeat' first|simp(disch:=omega) only[go_sem, *,h1,h2,h3,h4,hnv,Ex.op]|((with_reducible apply ab)<;>intro h<;>try omega)|(refine aY c1 rfl rfl ?_)|(refine aY c2 rfl rfl ?_)|(refine aY c3 rfl rfl ?_)|(refine aY c4 rfl rfl ?_)|(refine aY hvt' rfl rfl ?_)
    ·have hn:co e=10:=by simp[co,h1,h2,h3,h4]
     rw[hn]
     clear hn
     repeat' first|simp(disch:=omega) only[go_sem, *,h1,h2,h3,h4]|((with_reducible apply ab)<;>intro h<;>try omega)|(refine aY (eE e) rfl rfl ?_)|(refine aY (gz e) rfl rfl ?_)|(refine aY (kM e) rfl rfl ?_)|(refine aY (nM e) rfl rfl ?_)
   ·have hn:co e=11:=by simp[co,h1,h2,h3]
    rw[hn]
    clear hn
    repeat' first|simp(disch:=omega) only[go_sem, *,h1,h2,h3]|((with_reducible apply ab)<;>intro h<;>try omega)|(refine aY (eE e) rfl rfl ?_)|(refine aY (gz e) rfl rfl ?_)|(refine aY (kM e) rfl rfl ?_)
  ·have hn:co e=7:=by simp[co,h1,h2]
   rw[hn]
   clear hn
   repeat' first|simp(disch:=omega) only[go_sem, *,h1,h2]|((with_reducible apply ab)<;>intro h<;>try omega)|(refine aY (eE e) rfl rfl ?_)|(refine aY (gz e) rfl rfl ?_)
 ·have hn:co e=5:=by simp[co,h1]
  rw[hn]
  clear hn
  repeat' first|simp(disch:=omega) only[go_sem, *,h1]|((with_reducible apply ab)<;>intro h<;>try omega)|(refine aY (eE e) rfl rfl ?_)
theorem yO {e:Ex} (h64: ∀a∈e.pre,GC a.val):af Tryz.prog sy [j5 e] (I (jC e)):=by
 refine af.of Bg (by simp) λhb=>aa ?_
 conv in sQ=>cbv
 by_cases h1:40<e.dep
 ·have hE:jC e=13:=if_pos h1
  rw[hE]
  clear hE h64
  repeat' first|simp(disch:=omega) only[go_sem,show((min e.dep 41:Nat):Int)=41 by omega]|((with_reducible refine ab ?_ ?_)<;>intro h<;>try first|omega|simp(disch:=omega) only[go_sem, *,show((min e.dep 41:Nat):Int)=41 by omega])|(refine aY (nq e) rfl rfl ?_)
 ·by_cases h2:2000<e.sz
  ·have hE:jC e=2:=by unfold jC;rw[if_neg h1,if_pos h2]
   rw[hE]
   clear hE h64
   repeat' first|simp(disch:=omega) only[go_sem,show((min e.dep 41:Nat):Int)=e.dep by omega,show((min e.sz 2001:Nat):Int)=2001 by omega,show ¬(e.dep:Int)>40 by omega]|((with_reducible refine ab ?_ ?_)<;>intro h<;>try first|omega|simp(disch:=omega) only[go_sem, *,show((min e.dep 41:Nat):Int)=e.dep by omega,show((min e.sz 2001:Nat):Int)=2001 by omega,show ¬(e.dep:Int)>40 by omega])|(refine aY (nq e) rfl rfl ?_)|(refine aY (xb e) rfl rfl ?_)
  ·have hE:jC e=dV (e.pre.map co):=by unfold jC;rw[if_neg h1,if_neg h2];rfl
   rw[hE]
   have hY:=wJ e
   have hlen:(e.pre.map λa=> [j5 a]).length=e.pre.length:=List.length_map _
   have hget: ∀(k:Nat) x,(e.pre.map λa=> [j5 a])[k]? =some x→ ∃h:k<e.pre.length,x= [j5 e.pre[k]]:= λk x hx=>by
    rw[List.getElem?_map]at hx
    obtain⟨a,ha,rfl⟩:=Option.map_eq_some_iff.1 hx
    obtain⟨hk,rfl⟩:=List.getElem?_eq_some_iff.1 ha
    exact⟨hk,rfl⟩
   have h1d: ∀x∈e.pre.map λa=> [j5 a],x.length=1:= λx hx=>by
    obtain⟨a,_,rfl⟩:=List.mem_map.1 hx
    rfl
   generalize e.pre=fs at*
   have HY:=Lib.hid hY
   have HG:=Lib.hid hget
   have HL:=Lib.hid hlen
   have HD:=Lib.hid h1d
   have H64:=Lib.hid h64
   clear hget hlen h1d hY h64 hE
   repeat' first|simp(disch:=omega) only[go_sem,show((min e.dep 41:Nat):Int)=e.dep by omega,show((min e.sz 2001:Nat):Int)=e.sz by omega,show ¬(e.dep:Int)>40 by omega,show ¬(e.sz:Int)>2000 by omega]|((with_reducible refine ab ?_ ?_)<;>intro h<;>try first|omega|simp(disch:=omega) only[go_sem, *,show((min e.dep 41:Nat):Int)=e.dep by omega,show((min e.sz 2001:Nat):Int)=e.sz by omega,show ¬(e.dep:Int)>40 by omega,show ¬(e.sz:Int)>2000 by omega])|(refine aY (nq e) rfl rfl ?_)|(refine aY (xb e) rfl rfl ?_)|(refine el (wE e) rfl rfl ?_)
   refine qc 2 [(2,.c (.ptr 1 0))] (λk (_:Unit)=>([(1,.var [.pure (pI 0)]),(0,R2 e)],2)) (λk _=>Hid (dV ((fs.map co).take k)=0)) rfl rfl rfl HY.out HD.out ⟨by simp,by simp⟩ (by simp[gi,ij,c7,b8,dp,rn,yv,ct,aV,cU,cG,bv,c9,cz,aA,al,ja,gQ,cw]) ⟨(), [],by show _=_;simp[dV],by simp⟩ ?_ ?_
   ·intro k x t hx hk
    obtain⟨hlt,rfl⟩:=HG.out k x hx
    have hvn:=xG (H64.out _ (List.getElem_mem hlt))
    have hlm:k<(fs.map co).length:=by simpa using hlt
    have h3:=ni hlm hk.out
    have h4:=uL hlm hk.out
    rw[List.getElem_map]at h3 h4
    clear hx HG HL HD HY H64 hk
    by_cases hp:co fs[k]=0
    ·have H3:=Lib.hid (h3.trans hp)
     clear h3 h4
     repeat' first|simp(disch:=omega) only[go_sem,hp]|((with_reducible refine ab ?_ ?_)<;>intro h<;>try first|omega|simp(disch:=omega) only[go_sem, *,hp])|(refine aY hvn rfl rfl ?_)
     exact⟨(), [],H3,by simp⟩
    ·have h5:=h4 hp
     rw[h5]
     clear h3 h4 h5
     repeat' first|simp(disch:=omega) only[go_sem,hp]|((with_reducible refine ab ?_ ?_)<;>intro h<;>try first|omega|simp(disch:=omega) only[go_sem, *,hp])|(refine aY hvn rfl rfl ?_)
   ·intro t hk
    have hk':=hk.out
    rw[HL.out,List.take_of_length_le (by simp)]at hk'
    rw[hk']
    clear hk hk' HG HL HD HY H64
    repeat' first|simp(disch:=omega) only[go_sem]|((with_reducible refine ab ?_ ?_)<;>intro h<;>try first|omega|simp(disch:=omega) only[go_sem, *])
end Go.Proofs.YthbcbaembicdbaaGreatDoor
