import Derived.Test.YthbcbaembicdbaaGreatDoorAbs28
import Derived.Test.YthbcbaembicdbaaGreatDoorV14b
set_option linter.unusedVariables false
set_option linter.unusedSimpArgs false
set_option maxRecDepth 20000
set_option maxHeartbeats 4000000
set_option maxRecDepth 1000000
namespace Go.Proofs.YthbcbaembicdbaaGreatDoor
open Go.Abs Go.RowKit
abbrev ZA (e:Ex):AV:= .c (.cptr [pI e.op,pS e.name,pI e.val.1,pI e.val.2,pI e.ty.1,pI e.ty.2.1,pI e.ty.2.2.1,pI e.ty.2.2.2.1,pI e.ty.2.2.2.2,pI e.lin.1,aw e.lin.2,du eQ e.idx,.slice (e.args.map Ex.row)])
def abx (k n:Nat) (res:AV) (k':Option Nat):Prop:=(res=Go.Abs.B true∧k'=some (k+n))∨(res=Go.Abs.B false∧k'=none)
def At (xs:List (List AV)) (k:Nat) (l:List Ex):Prop:= ∀(i:Nat) a,l[i]? =some a→xs[k+i]? =some [fJ a]
theorem aaH {xs:List (List AV)} {k:Nat} {e:Ex} (h:At xs k e.pre) {i:Nat} (hi:i<e.args.length):At xs (k+1+Ex.szs (e.args.take i)) e.args[i].pre:=by
 intro j a hj
 have e1:Ex.pres e.args=Ex.pres (e.args.take i)++(e.args[i].pre++Ex.pres (e.args.drop (i+1))):=by
  have e2:e.args=e.args.take i++(e.args[i]::e.args.drop (i+1)):=by rw[←List.drop_eq_getElem_cons hi,List.take_append_drop]
  have e3:Ex.pres (e.args.take i++(e.args[i]::e.args.drop (i+1)))=Ex.pres (e.args.take i)++(e.args[i].pre++Ex.pres (e.args.drop (i+1))):=by rw[Ex.pres_append,Ex.pres]
  rw[←e2]at e3
  exact e3
 have hl:(Ex.pres (e.args.take i)).length=Ex.szs (e.args.take i):=Ex.pres_length fun a _=>Ex.pre_length a
 have:=h (1+Ex.szs (e.args.take i)+j) a (by
  rw[Ex.pre_eq,show 1+Ex.szs (e.args.take i)+j=(Ex.szs (e.args.take i)+j)+1 by omega,List.getElem?_cons_succ,e1,List.getElem?_append_right (by omega),hl,Nat.add_sub_cancel_left,List.getElem?_append_left (List.getElem?_eq_some_iff.1 hj).1]
  exact hj)
 rw[←this]
 congr 1
 omega
theorem Hr {P:Program} {l:Nat} {w:World} {xs:List (List AV)} {J:Option Nat→(Nat→Prop)→World→Prop} (h:Dg P l w xs J): ∀k S W,J k S W→(∀b,S b→b<W.heap.size)∧rS W:=fun k S W hj=>⟨(h.old k S W hj).1,(h.old k S W hj).2.2⟩
theorem yU {P:Program} {l:Nat} {w:World} {xs:List (List AV)} {J:Option Nat→(Nat→Prop)→World→Prop} (h:Dg P l w xs J): ∀k S W W',J k S W→Below W.heap.size W W'→J k (fun b=>S b∨W.heap.size≤b∧b<W'.heap.size) W':=fun k S W W' hj hb=>h.grow k S W W' hj (.of_below hb)
theorem Lk {l:Nat} {w:World} {xs:List (List AV)} {J:Option Nat→(Nat→Prop)→World→Prop} (hY:Dg Tryz.prog l w xs J) (e:Ex): ∀k:Nat,At xs k e.pre→m9 Tryz.prog J vv [fJ e,yv l] (some k) (abx k e.sz):=by
 refine Ex.ind (p:=fun e=> ∀k:Nat,At xs k e.pre→m9 Tryz.prog J vv [fJ e,yv l] (some k) (abx k e.sz)) (fun e ih k hx=> ?_) e
 have hlt:=Hr hY
 have hgr:=yU hY
 refine m9.of hlt LN (by simp) fun hb=> ?_
 have hl:=(eh hb).1
 conv in Du=>cbv
 refine dG (dA hlt hgr ?_)
 simp(disch:=omega) only[go_sem]
 refine⟨[(1,yv l),(2,ZA e)],(by simp[na,m6,eN,dB,fw,rn,yv,dQ,bG,ej,d6,cJ,eL,dS,aM,am,oJ,k7,dU]), ?_⟩
 have h0:xs[k]? =some [fJ e]:=hx 0 e (by rw[Ex.pre_eq];rfl)
 refine dG (dG (JC 2 rfl hlt hgr ?_))
 simp only[List.take,List.drop]
 simp(disch:=omega) only[go_sem]
 refine⟨[(8,fJ e),(7,yv l),(1,yv l),(2,ZA e)],(by simp[na,m6,eN,dB,fw,rn,yv,dQ,bG,ej,d6,cJ,eL,dS,aM,am,oJ,k7,dU]),_,pQ hY h0, ?_⟩
 rintro res k' ⟨b,rfl,rfl⟩
 simp(disch:=omega) only[go_sem]
 refine⟨[(10,Go.Abs.B !b),(1,yv l),(2,ZA e)],(by simp[na,m6,eN,dB,fw,rn,yv,dQ,bG,ej,d6,cJ,eL,dS,aM,am,oJ,k7,dU]), ?_⟩
 refine nc (t:= !b) rfl (fun hb0=> ?_) (fun hb0=> ?_) hlt
 ·obtain rfl:b=false:=by simpa using hb0
  refine dG (dA hlt hgr ?_)
  simp(disch:=omega) only[go_sem]
  refine⟨[(4,Go.Abs.B false)],(by simp[na,m6,eN,dB,fw,rn,yv,dQ,bG,ej,d6,cJ,eL,dS,aM,am,oJ,k7,dU]),B5 ?_⟩
  show kA _ _ _ _
  simp(disch:=omega) only[go_sem]
  exact .inr ⟨rfl,rfl⟩
 ·obtain rfl:b=true:=by simpa using hb0
  refine oQ ?_
  simp only[↓reduceIte]
  refine dG (dG (dA hlt hgr ?_))
  simp(disch:=omega) only[go_sem]
  refine⟨[(14,I 0),(13,I e.args.length),(12,.c (.pure (.slice (e.args.map Ex.row)))),(1,yv l)],(by simp[na,m6,eN,dB,fw,rn,yv,dQ,bG,ej,d6,cJ,eL,dS,aM,am,oJ,k7,dU]), ?_⟩
  refine qN (K9 (fun i:Nat=>(some (k+1+Ex.szs (e.args.take i)), [(14,I i),(13,I e.args.length),(12,.c (.pure (.slice (e.args.map Ex.row)))),(1,yv l)])) (fun i=>i≤e.args.length) (fun i=>e.args.length-i) ⟨0,by omega,by simp[Ex.szs],(by simp[na,m6,eN,dB,fw,rn,yv,dQ,bG,ej,d6,cJ,eL,dS,aM,am,oJ,k7,dU])⟩ ?_)
  intro i hi
  refine dG (dA hlt hgr ?_)
  simp(disch:=omega) only[go_sem]
  refine⟨[(15,Go.Abs.B (decide ((i:Int)<e.args.length))),(14,I i),(13,I e.args.length),(12,.c (.pure (.slice (e.args.map Ex.row)))),(1,yv l)],(by simp[na,m6,eN,dB,fw,rn,yv,dQ,bG,ej,d6,cJ,eL,dS,aM,am,oJ,k7,dU]), ?_⟩
  refine dG (nc rfl (fun hi1=> ?_) (fun hi1=> ?_) hlt)
  ·have hlt1:i<e.args.length:=by simpa using hi1
   refine oQ (dG (qN (dG (dA hlt hgr ?_))))
   simp(disch:=omega) only[go_sem,ah hlt1,Ex.row_eq]
   refine⟨[(6,ZA e.args[i]),(14,I i),(13,I e.args.length),(12,.c (.pure (.slice (e.args.map Ex.row)))),(1,yv l)],(by simp[na,m6,eN,dB,fw,rn,yv,dQ,bG,ej,d6,cJ,eL,dS,aM,am,oJ,k7,dU]), ?_⟩
   refine dG (JC 2 rfl hlt hgr ?_)
   simp only[List.take,List.drop]
   simp(disch:=omega) only[go_sem]
   refine⟨[(18,fJ e.args[i]),(19,yv l),(14,I i),(13,I e.args.length),(12,.c (.pure (.slice (e.args.map Ex.row)))),(1,yv l)],(by simp[na,m6,eN,dB,fw,rn,yv,dQ,bG,ej,d6,cJ,eL,dS,aM,am,oJ,k7,dU]),_,GH (ih _ (List.getElem_mem hlt1) _ (aaH hx hlt1)), ?_⟩
   rintro res k' (⟨rfl,rfl⟩|⟨rfl,rfl⟩)
   ·simp(disch:=omega) only[go_sem]
    refine⟨[(21,Go.Abs.B false),(14,I i),(13,I e.args.length),(12,.c (.pure (.slice (e.args.map Ex.row)))),(1,yv l)],(by simp[na,m6,eN,dB,fw,rn,yv,dQ,bG,ej,d6,cJ,eL,dS,aM,am,oJ,k7,dU]), ?_⟩
    refine nc (t:=false) rfl (fun h=>(by cases h)) (fun _=>oQ ?_) hlt
    refine dA hlt hgr ?_
    simp(disch:=omega) only[go_sem,wrap_i64]
    refine⟨[(14,I ((i:Int)+1)),(13,I e.args.length),(12,.c (.pure (.slice (e.args.map Ex.row)))),(1,yv l)],(by simp[na,m6,eN,dB,fw,rn,yv,dQ,bG,ej,d6,cJ,eL,dS,aM,am,oJ,k7,dU]),i+1,hlt1,by show _-_<_-_;omega, ?_,(by simp[na,m6,eN,dB,fw,rn,yv,dQ,bG,ej,d6,cJ,eL,dS,aM,am,oJ,k7,dU])⟩
    show some _=some _
    rw[Ex.szs_take hlt1]
    congr 1
    omega
   ·simp(disch:=omega) only[go_sem]
    refine⟨[(21,Go.Abs.B true)],(by simp[na,m6,eN,dB,fw,rn,yv,dQ,bG,ej,d6,cJ,eL,dS,aM,am,oJ,k7,dU]), ?_⟩
    refine nc (t:=true) rfl (fun _=>dG (dA hlt hgr ?_)) (fun h=>(by cases h)) hlt
    simp(disch:=omega) only[go_sem]
    refine⟨[(4,Go.Abs.B false)],(by simp[na,m6,eN,dB,fw,rn,yv,dQ,bG,ej,d6,cJ,eL,dS,aM,am,oJ,k7,dU]),B5 ?_⟩
    show kA _ _ _ _
    simp(disch:=omega) only[go_sem]
    exact .inr ⟨rfl,rfl⟩
  ·have hn: ¬i<e.args.length:=by simpa using hi1
   refine K7 ?_
   show Zj _ _ _ _ _ _ _ _
   refine dG (dA hlt hgr ?_)
   simp(disch:=omega) only[go_sem]
   refine⟨[(4,Go.Abs.B true)],(by simp[na,m6,eN,dB,fw,rn,yv,dQ,bG,ej,d6,cJ,eL,dS,aM,am,oJ,k7,dU]),B5 ?_⟩
   show kA _ _ _ _
   simp(disch:=omega) only[go_sem]
   refine .inl ⟨rfl, ?_⟩
   rw[List.take_of_length_le (by omega),Ex.sz_eq e]
   congr 1
   omega
theorem aaa (e:Ex):At (e.pre.map fun a=> [fJ a]) 0 e.pre:=fun i a h=>by rw[Nat.zero_add,List.getElem?_map,h];rfl
theorem xK (e:Ex):wh Tryz.prog qj [ZA e] (e.pre.map fun a=> [fJ a]):=by
 refine wh.of ⟨_,Tryz.func229,rfl,by kernel_rfl⟩ fun l w J hY=> ?_
 have hlt:=Hr hY
 have hgr:=yU hY
 refine m9.of hlt Fz (by simp) fun hb=> ?_
 conv in xS=>cbv
 refine JC 2 rfl hlt hgr ?_
 simp only[List.take,List.drop]
 simp(disch:=omega) only[go_sem]
 refine⟨[(3,fJ e),(4,yv l)],(by simp[na,m6,eN,dB,fw,rn,yv,dQ,bG,ej,d6,cJ,eL,dS,aM,am,oJ,k7,dU]),_,GH (Lk hY e 0 (aaa e)), ?_⟩
 rintro res k' hk
 refine⟨[],(by simp[na,m6,eN,dB,fw,rn,yv,dQ,bG,ej,d6,cJ,eL,dS,aM,am,oJ,k7,dU]), ?_⟩
 show _∨_
 rcases hk with⟨_,rfl⟩|⟨_,rfl⟩
 ·left
  rw[Ex.pre_length,Nat.zero_add]
 ·exact .inr rfl
def Rv (xs:List (List AV)) (k:Nat) (l:List bY):Prop:= ∀(i:Nat) a,l[i]? =some a→xs[k+i]? =some [dm a.1 a.2]
theorem xr (e:Ex):ac Tryz.prog DC [fJ e] (.c (.clo qj [.cptr [pI e.op,pS e.name,pI e.val.1,pI e.val.2,pI e.ty.1,pI e.ty.2.1,pI e.ty.2.2.1,pI e.ty.2.2.2.1,pI e.ty.2.2.2.2,pI e.lin.1,aw e.lin.2,du eQ e.idx,.slice (e.args.map Ex.row)]])):=by
 refine ac.of La (by simp) fun hb=>aa ?_
 conv in Db=>cbv
 repeat' first|simp(disch:=omega) only[go_sem, *]|((with_reducible apply ab)<;>intro h<;>try omega)
theorem GJ (e:Ex):ac Tryz.prog As [fJ e] (.c (.clo nB [.cptr [pI e.op,pS e.name,pI e.val.1,pI e.val.2,pI e.ty.1,pI e.ty.2.1,pI e.ty.2.2.1,pI e.ty.2.2.2.1,pI e.ty.2.2.2.2,pI e.lin.1,aw e.lin.2,du eQ e.idx,.slice (e.args.map Ex.row)]])):=by
 refine ac.of IK (by simp) fun hb=>aa ?_
 conv in BH=>cbv
 repeat' first|simp(disch:=omega) only[go_sem, *]|((with_reducible apply ab)<;>intro h<;>try omega)
theorem Rv.app {xs:List (List AV)} {k:Nat} {l r:List bY} (h:Rv xs k (l++r)):Rv xs (k+l.length) r:=fun i a hi=>by
 have:=h (l.length+i) a (by rw[List.getElem?_append_right (by omega),Nat.add_sub_cancel_left];exact hi)
 rw[←this,Nat.add_assoc]
def wX (x:Ix):List bY:=x.1::x.2.2
theorem MP {e:Ex} {i:Nat} (hi:i<e.idx.length):e.forms=(e.lin::(e.idx.take i).flatMap wX)++(wX e.idx[i]++(e.idx.drop (i+1)).flatMap wX):=by
 have e1:(e.idx.take i++e.idx[i]::e.idx.drop (i+1)).flatMap wX=(e.idx.take i).flatMap wX++(wX e.idx[i]++(e.idx.drop (i+1)).flatMap wX):=by
  rw[List.flatMap_append,List.flatMap_cons]
 rw[←List.drop_eq_getElem_cons hi,List.take_append_drop]at e1
 show e.lin::e.idx.flatMap wX=_
 rw[e1]
 rfl
def Ek (e:Ex) (i:Nat):Nat:=(e.lin::(e.idx.take i).flatMap wX).length
theorem Tj (e:Ex):Ek e 0=1:=by simp[Ek]
theorem Tn {e:Ex} {i:Nat} (hi:i<e.idx.length):Ek e (i+1)=Ek e i+1+e.idx[i].2.2.length:=by
 unfold Ek
 rw[List.take_succ_eq_append_getElem hi,List.flatMap_append]
 simp[wX]
 omega
theorem Ts {e:Ex}:Ek e e.idx.length=e.forms.length:=by
 unfold Ek
 rw[List.take_of_length_le (Nat.le_refl _)]
 rfl
theorem Yn {e:Ex} {xs:List (List AV)} (hx:Rv xs 0 e.forms) {i:Nat} (hi:i<e.idx.length):Rv xs (Ek e i) (wX e.idx[i]++(e.idx.drop (i+1)).flatMap wX):=by
 have:=(show Rv xs 0 ((e.lin::(e.idx.take i).flatMap wX)++(wX e.idx[i]++(e.idx.drop (i+1)).flatMap wX)) by rw[←MP hi];exact hx).app
 rw[Nat.zero_add]at this
 exact this
theorem Hw (e:Ex) (h6: ∀x∈e.idx,x.2.2.length≤6) (hl:e.idx.length≤6):wh Tryz.prog nB [ZA e] (e.forms.map fun a=> [dm a.1 a.2]):=by
 refine wh.of ⟨_,Tryz.func258,rfl,by kernel_rfl⟩ fun l w J hY=> ?_
 have hlt:=Hr hY
 have hgr:=yU hY
 have hx:Rv (e.forms.map fun a=> [dm a.1 a.2]) 0 e.forms:=fun i a h=>by rw[Nat.zero_add,List.getElem?_map,h];rfl
 have hlen:(e.forms.map fun a:bY=> [dm a.1 a.2]).length=e.forms.length:=by simp
 generalize (e.forms.map fun a:bY=> [dm a.1 a.2])=xs at*
 have h0:xs[0]? =some [dm e.lin.1 e.lin.2]:=hx 0 e.lin rfl
 refine m9.of hlt Ei (by simp) fun hb=> ?_
 conv in vi=>cbv
 refine dG (dG (JC 3 rfl hlt hgr ?_))
 simp only[List.take,List.drop]
 simp(disch:=omega) only[go_sem]
 refine⟨[(9,dm e.lin.1 e.lin.2),(7,yv l),(0,yv l),(1,ZA e)],(by simp[na,m6,eN,dB,fw,rn,yv,dQ,bG,ej,d6,cJ,eL,dS,aM,am,oJ,k7,dU]),_,pQ hY h0, ?_⟩
 rintro res k' ⟨b,rfl,rfl⟩
 simp(disch:=omega) only[go_sem]
 refine⟨[(11,Go.Abs.B !b),(0,yv l),(1,ZA e)],(by simp[na,m6,eN,dB,fw,rn,yv,dQ,bG,ej,d6,cJ,eL,dS,aM,am,oJ,k7,dU]), ?_⟩
 refine nc (t:= !b) rfl (fun hb0=> ?_) (fun hb0=> ?_) hlt
 ·obtain rfl:b=false:=by simpa using hb0
  exact B5 (.inr rfl)
 ·obtain rfl:b=true:=by simpa using hb0
  refine oQ ?_
  simp only[↓reduceIte]
  refine dG (dA hlt hgr ?_)
  simp(disch:=omega) only[go_sem]
  refine⟨[(15,I 0),(14,I e.idx.length),(13,.c (.pure (du eQ e.idx))),(0,yv l)],(by simp[na,m6,eN,dB,fw,rn,yv,dQ,bG,ej,d6,cJ,eL,dS,aM,am,oJ,k7,dU]), ?_⟩
  refine qN (K9 (fun i:Nat=>(some (Ek e i), [(15,I i),(14,I e.idx.length),(13,.c (.pure (du eQ e.idx))),(0,yv l)])) (fun i=>i≤e.idx.length) (fun i=>e.idx.length-i) ⟨0,by omega,by simp[Tj],(by simp[na,m6,eN,dB,fw,rn,yv,dQ,bG,ej,d6,cJ,eL,dS,aM,am,oJ,k7,dU])⟩ ?_)
  intro i hi
  refine dG (dA hlt hgr ?_)
  simp(disch:=omega) only[go_sem]
  refine⟨[(16,Go.Abs.B (decide ((i:Int)<e.idx.length))),(15,I i),(14,I e.idx.length),(13,.c (.pure (du eQ e.idx))),(0,yv l)],(by simp[na,m6,eN,dB,fw,rn,yv,dQ,bG,ej,d6,cJ,eL,dS,aM,am,oJ,k7,dU]), ?_⟩
  refine dG (nc rfl (fun hi1=> ?_) (fun hi1=> ?_) hlt)
  ·have hlt1:i<e.idx.length:=by simpa using hi1
   have hx1:=Yn hx hlt1
   have hm:=Tn hlt1
   have h6':=h6 _ (List.getElem_mem hlt1)
   have hr0:xs[Ek e i]? =some [dm e.idx[i].1.1 e.idx[i].1.2]:=hx1 0 e.idx[i].1 rfl
   have hrj: ∀(j:Nat) (hj:j<e.idx[i].2.2.length),xs[Ek e i+1+j]? =some [dm e.idx[i].2.2[j].1 e.idx[i].2.2[j].2]:=fun j hj=>by
    have:=hx1 (j+1) e.idx[i].2.2[j] (by simp[wX,List.getElem?_append,hj])
    rw[←this];congr 1;omega
   refine oQ (dG (qN (dG (dA hlt hgr ?_))))
   simp(disch:=omega) only[go_sem,ah hlt1,eQ]
   refine⟨[(4,.c (.cptr [pI e.idx[i].1.1,aw e.idx[i].1.2,pS e.idx[i].2.1,du cd e.idx[i].2.2])),(15,I i),(14,I e.idx.length),(13,.c (.pure (du eQ e.idx))),(0,yv l)],(by simp[na,m6,eN,dB,fw,rn,yv,dQ,bG,ej,d6,cJ,eL,dS,aM,am,oJ,k7,dU]), ?_⟩
   refine dG (dG (JC 3 rfl hlt hgr ?_))
   simp only[List.take,List.drop]
   simp(disch:=omega) only[go_sem]
   refine⟨[(21,dm e.idx[i].1.1 e.idx[i].1.2),(19,yv l),(4,.c (.cptr [pI e.idx[i].1.1,aw e.idx[i].1.2,pS e.idx[i].2.1,du cd e.idx[i].2.2])),(15,I i),(14,I e.idx.length),(13,.c (.pure (du eQ e.idx))),(0,yv l)],(by simp[na,m6,eN,dB,fw,rn,yv,dQ,bG,ej,d6,cJ,eL,dS,aM,am,oJ,k7,dU]),_,pQ hY hr0, ?_⟩
   rintro res k' ⟨b,rfl,rfl⟩
   simp(disch:=omega) only[go_sem]
   refine⟨[(23,Go.Abs.B !b),(4,.c (.cptr [pI e.idx[i].1.1,aw e.idx[i].1.2,pS e.idx[i].2.1,du cd e.idx[i].2.2])),(15,I i),(14,I e.idx.length),(13,.c (.pure (du eQ e.idx))),(0,yv l)],(by simp[na,m6,eN,dB,fw,rn,yv,dQ,bG,ej,d6,cJ,eL,dS,aM,am,oJ,k7,dU]), ?_⟩
   refine nc (t:= !b) rfl (fun hb0=> ?_) (fun hb0=> ?_) hlt
   ·obtain rfl:b=false:=by simpa using hb0
    exact B5 (.inr rfl)
   ·obtain rfl:b=true:=by simpa using hb0
    refine oQ ?_
    simp only[↓reduceIte]
    refine dG (dA hlt hgr ?_)
    simp(disch:=omega) only[go_sem]
    refine⟨[(27,I 0),(26,I e.idx[i].2.2.length),(25,.c (.pure (du cd e.idx[i].2.2))),(15,I i),(14,I e.idx.length),(13,.c (.pure (du eQ e.idx))),(0,yv l)],(by simp[na,m6,eN,dB,fw,rn,yv,dQ,bG,ej,d6,cJ,eL,dS,aM,am,oJ,k7,dU]), ?_⟩
    refine qN (K9 (fun j:Nat=>(some (Ek e i+1+j), [(27,I j),(26,I e.idx[i].2.2.length),(25,.c (.pure (du cd e.idx[i].2.2))),(15,I i),(14,I e.idx.length),(13,.c (.pure (du eQ e.idx))),(0,yv l)])) (fun j=>j≤e.idx[i].2.2.length) (fun j=>e.idx[i].2.2.length-j) ⟨0,by omega,by simp,(by simp[na,m6,eN,dB,fw,rn,yv,dQ,bG,ej,d6,cJ,eL,dS,aM,am,oJ,k7,dU])⟩ ?_)
    intro j hj
    refine dG (dA hlt hgr ?_)
    simp(disch:=omega) only[go_sem]
    refine⟨[(28,Go.Abs.B (decide ((j:Int)<e.idx[i].2.2.length))),(27,I j),(26,I e.idx[i].2.2.length),(25,.c (.pure (du cd e.idx[i].2.2))),(15,I i),(14,I e.idx.length),(13,.c (.pure (du eQ e.idx))),(0,yv l)],(by simp[na,m6,eN,dB,fw,rn,yv,dQ,bG,ej,d6,cJ,eL,dS,aM,am,oJ,k7,dU]), ?_⟩
    refine dG (nc rfl (fun hj1=> ?_) (fun hj1=> ?_) hlt)
    ·have hltj:j<e.idx[i].2.2.length:=by simpa using hj1
     refine oQ (dG (qN (dG (dA hlt hgr ?_))))
     simp(disch:=omega) only[go_sem,ah hltj,cd]
     refine⟨[(6,.c (.cptr [pI e.idx[i].2.2[j].1,aw e.idx[i].2.2[j].2])),(27,I j),(26,I e.idx[i].2.2.length),(25,.c (.pure (du cd e.idx[i].2.2))),(15,I i),(14,I e.idx.length),(13,.c (.pure (du eQ e.idx))),(0,yv l)],(by simp[na,m6,eN,dB,fw,rn,yv,dQ,bG,ej,d6,cJ,eL,dS,aM,am,oJ,k7,dU]), ?_⟩
     refine dG (JC 2 rfl hlt hgr ?_)
     simp only[List.take,List.drop]
     simp(disch:=omega) only[go_sem]
     refine⟨[(32,dm e.idx[i].2.2[j].1 e.idx[i].2.2[j].2),(31,yv l),(27,I j),(26,I e.idx[i].2.2.length),(25,.c (.pure (du cd e.idx[i].2.2))),(15,I i),(14,I e.idx.length),(13,.c (.pure (du eQ e.idx))),(0,yv l)],(by simp[na,m6,eN,dB,fw,rn,yv,dQ,bG,ej,d6,cJ,eL,dS,aM,am,oJ,k7,dU]),_,pQ hY (hrj j hltj), ?_⟩
     rintro res k' ⟨b,rfl,rfl⟩
     simp(disch:=omega) only[go_sem]
     refine⟨[(34,Go.Abs.B !b),(27,I j),(26,I e.idx[i].2.2.length),(25,.c (.pure (du cd e.idx[i].2.2))),(15,I i),(14,I e.idx.length),(13,.c (.pure (du eQ e.idx))),(0,yv l)],(by simp[na,m6,eN,dB,fw,rn,yv,dQ,bG,ej,d6,cJ,eL,dS,aM,am,oJ,k7,dU]), ?_⟩
     refine nc (t:= !b) rfl (fun hb0=> ?_) (fun hb0=> ?_) hlt
     ·obtain rfl:b=false:=by simpa using hb0
      exact B5 (.inr rfl)
     ·obtain rfl:b=true:=by simpa using hb0
      refine oQ ?_
      simp only[↓reduceIte]
      refine dA hlt hgr ?_
      simp(disch:=omega) only[go_sem,wrap_i64]
      exact⟨[(27,I ((j:Int)+1)),(26,I e.idx[i].2.2.length),(25,.c (.pure (du cd e.idx[i].2.2))),(15,I i),(14,I e.idx.length),(13,.c (.pure (du eQ e.idx))),(0,yv l)],(by simp[na,m6,eN,dB,fw,rn,yv,dQ,bG,ej,d6,cJ,eL,dS,aM,am,oJ,k7,dU]),j+1,hltj,by show _-_<_-_;omega,rfl,(by simp[na,m6,eN,dB,fw,rn,yv,dQ,bG,ej,d6,cJ,eL,dS,aM,am,oJ,k7,dU])⟩
    ·have hn:j=e.idx[i].2.2.length:=by
      have: ¬j<e.idx[i].2.2.length:=by simpa using hj1
      omega
     refine K7 ?_
     show AY _ _ _ _ _ _ _
     refine dA hlt hgr ?_
     simp(disch:=omega) only[go_sem,wrap_i64]
     refine⟨[(15,I ((i:Int)+1)),(14,I e.idx.length),(13,.c (.pure (du eQ e.idx))),(0,yv l)],(by simp[na,m6,eN,dB,fw,rn,yv,dQ,bG,ej,d6,cJ,eL,dS,aM,am,oJ,k7,dU]),i+1,hlt1,by show _-_<_-_;omega, ?_,(by simp[na,m6,eN,dB,fw,rn,yv,dQ,bG,ej,d6,cJ,eL,dS,aM,am,oJ,k7,dU])⟩
     show some _=some _
     rw[hm,hn]
  ·have hn:i=e.idx.length:=by
    have: ¬i<e.idx.length:=by simpa using hi1
    omega
   refine K7 ?_
   show _∨_
   left
   rw[hlen,hn,Ts]
end Go.Proofs.YthbcbaembicdbaaGreatDoor
