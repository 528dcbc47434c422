import Derived.Test.YtjhkikmonejkjaaGreatDoorV14b
import Derived.Test.YtjhkikmonejkjaaGreatDoorVLex
set_option linter.unusedVariables false
set_option linter.unusedSimpArgs false
set_option maxRecDepth 20000
open Go.Proofs.Tryz renaming prog→Ya
namespace Go.Proofs.YtjhkikmonejkjaaGreatDoor
open Go.Abs Go.RowKit
abbrev Sg (e:Ex):AV:= .c (.cptr [pI e.op,pS e.name,pI e.val.1,pI e.val.2,pI e.ty.1,pI e.ty.2.1,pI e.ty.2.2.1,pI e.ty.2.2.2.1,pI e.ty.2.2.2.2,pI e.lin.1,bp e.lin.2,cZ dN e.idx,.slice (e.args.map Ex.row)])
def U8 (k n:Nat) (res:AV) (k':Option Nat):Prop:=(res=Go.Abs.B true∧k'=some (k+n))∨(res=Go.Abs.B false∧k'=none)
def At (xs:List (List AV)) (k:Nat) (l:List Ex):Prop:= ∀(i:Nat) a,l[i]? =some a→xs[k+i]? =some [gc a]
theorem S4 {xs:List (List AV)} {k:Nat} {e:Ex} (h:At xs k e.pre) {i:Nat} (hi:i<e.args.length):At xs (k+1+Ex.szs (e.args.take i)) e.args[i].pre:=by
 intro j a hj
 have e1:Ex.pres e.args=Ex.pres (e.args.take i)++(e.args[i].pre++Ex.pres (e.args.drop (i+1))):=by
  have e2:e.args=e.args.take i++(e.args[i]::e.args.drop (i+1)):=by rw[←List.drop_eq_getElem_cons hi,List.take_append_drop]
  have e3:Ex.pres (e.args.take i++(e.args[i]::e.args.drop (i+1)))=Ex.pres (e.args.take i)++(e.args[i].pre++Ex.pres (e.args.drop (i+1))):=by rw[Ex.pres_append,Ex.pres]
  rw[←e2]at e3
  exact e3
 have hl:(Ex.pres (e.args.take i)).length=Ex.szs (e.args.take i):=Ex.pres_length λa _=>Ex.pre_length a
 have:=h (1+Ex.szs (e.args.take i)+j) a (by
  rw[Ex.pre_eq,show 1+Ex.szs (e.args.take i)+j=(Ex.szs (e.args.take i)+j)+1 by omega,List.getElem?_cons_succ,e1,List.getElem?_append_right (by omega),hl,Nat.add_sub_cancel_left,List.getElem?_append_left (List.getElem?_eq_some_iff.1 hj).1]
  exact hj)
 rw[←this]
 congr 1
 omega
theorem Dw {P:Program} {l:Nat} {w:World} {xs:List (List AV)} {J:Option Nat→(Nat→Prop)→World→Prop} (h:F8 P l w xs J): ∀k S W,J k S W→(∀b,S b→b<W.heap.size)∧qQ W:= λk S W hj=>⟨(h.old k S W hj).1,(h.old k S W hj).2.2⟩
theorem wy {P:Program} {l:Nat} {w:World} {xs:List (List AV)} {J:Option Nat→(Nat→Prop)→World→Prop} (h:F8 P l w xs J): ∀k S W W',J k S W→Below W.heap.size W W'→J k (λb=>S b∨W.heap.size≤b∧b<W'.heap.size) W':= λk S W W' hj hb=>h.grow k S W W' hj (.of_below hb)
theorem Hw {l:Nat} {w:World} {xs:List (List AV)} {J:Option Nat→(Nat→Prop)→World→Prop} (hY:F8 Ya l w xs J) (e:Ex): ∀k:Nat,At xs k e.pre→kT Ya J td [gc e,yv l] (some k) (U8 k e.sz):=by
 refine Ex.ind (p:= λe=> ∀k:Nat,At xs k e.pre→kT Ya J td [gc e,yv l] (some k) (U8 k e.sz)) (λe ih k hx=> ?_) e
 have d:=Dw hY
 have g:=wy hY
 refine kT.of d Iv (by simp) λhb=> ?_
 have hl:=(dt hb).1
 simp only[Aj]
 refine cK (cw d g ?_)
 simp(disch:=omega)only[go_sem]
 refine⟨[(1,yv l),(2,Sg e)],(by simp[j8,kf,du,cz,dM,rn,yv,c9,ba,dk,dh,bC,dn,cG,aD,am,kW,j9,dl]), ?_⟩
 have h0:xs[k]? =some [gc e]:=hx 0 e (by rw[Ex.pre_eq];rfl)
 refine cK (cK (F4 2 rfl d g ?_))
 simp only[List.take,List.drop]
 simp(disch:=omega)only[go_sem]
 refine⟨[(8,gc e),(7,yv l),(1,yv l),(2,Sg e)],(by simp[j8,kf,du,cz,dM,rn,yv,c9,ba,dk,dh,bC,dn,cG,aD,am,kW,j9,dl]),_,mU hY h0, ?_⟩
 rintro res k' ⟨b,rfl,rfl⟩
 simp(disch:=omega)only[go_sem]
 refine⟨[(10,Go.Abs.B !b),(1,yv l),(2,Sg e)],(by simp[j8,kf,du,cz,dM,rn,yv,c9,ba,dk,dh,bC,dn,cG,aD,am,kW,j9,dl]), ?_⟩
 refine kX (t:= !b) rfl (λq=> ?_) (λq=> ?_) d
 ·obtain rfl:b=false:=by simpa using q
  refine cK (cw d g ?_)
  simp(disch:=omega)only[go_sem]
  refine⟨[(4,Go.Abs.B false)],(by simp[j8,kf,du,cz,dM,rn,yv,c9,ba,dk,dh,bC,dn,cG,aD,am,kW,j9,dl]),z8 ?_⟩
  show kb _ _ _ _
  simp(disch:=omega)only[go_sem]
  exact .inr ⟨rfl,rfl⟩
 ·obtain rfl:b=true:=by simpa using q
  refine mZ ?_
  simp only[↓reduceIte]
  refine cK (cK (cw d g ?_))
  simp(disch:=omega)only[go_sem]
  refine⟨[(14,I 0),(13,I e.args.length),(12,.c (.pure (.slice (e.args.map Ex.row)))),(1,yv l)],(by simp[j8,kf,du,cz,dM,rn,yv,c9,ba,dk,dh,bC,dn,cG,aD,am,kW,j9,dl]), ?_⟩
  refine oc (Iu (λi:Nat=>(some (k+1+Ex.szs (e.args.take i)), [(14,I i),(13,I e.args.length),(12,.c (.pure (.slice (e.args.map Ex.row)))),(1,yv l)])) (λi=>i≤e.args.length) (λi=>e.args.length-i) ⟨0,by omega,by simp[Ex.szs],(by simp[j8,kf,du,cz,dM,rn,yv,c9,ba,dk,dh,bC,dn,cG,aD,am,kW,j9,dl])⟩ ?_)
  intro i hi
  refine cK (cw d g ?_)
  simp(disch:=omega)only[go_sem]
  refine⟨[(15,Go.Abs.B (decide ((i:Int)<e.args.length))),(14,I i),(13,I e.args.length),(12,.c (.pure (.slice (e.args.map Ex.row)))),(1,yv l)],(by simp[j8,kf,du,cz,dM,rn,yv,c9,ba,dk,dh,bC,dn,cG,aD,am,kW,j9,dl]), ?_⟩
  refine cK (kX rfl (λz=> ?_) (λz=> ?_) d)
  ·have o:i<e.args.length:=by simpa using z
   refine mZ (cK (oc (cK (cw d g ?_))))
   simp(disch:=omega)only[go_sem,ac o,Ex.row_eq]
   refine⟨[(6,Sg e.args[i]),(14,I i),(13,I e.args.length),(12,.c (.pure (.slice (e.args.map Ex.row)))),(1,yv l)],(by simp[j8,kf,du,cz,dM,rn,yv,c9,ba,dk,dh,bC,dn,cG,aD,am,kW,j9,dl]), ?_⟩
   refine cK (F4 2 rfl d g ?_)
   simp only[List.take,List.drop]
   simp(disch:=omega)only[go_sem]
   refine⟨[(18,gc e.args[i]),(19,yv l),(14,I i),(13,I e.args.length),(12,.c (.pure (.slice (e.args.map Ex.row)))),(1,yv l)],(by simp[j8,kf,du,cz,dM,rn,yv,c9,ba,dk,dh,bC,dn,cG,aD,am,kW,j9,dl]),_,DK (ih _ (List.getElem_mem o) _ (S4 hx o)), ?_⟩
   rintro res k' (⟨rfl,rfl⟩|⟨rfl,rfl⟩)
   ·simp(disch:=omega)only[go_sem]
    refine⟨[(21,Go.Abs.B false),(14,I i),(13,I e.args.length),(12,.c (.pure (.slice (e.args.map Ex.row)))),(1,yv l)],(by simp[j8,kf,du,cz,dM,rn,yv,c9,ba,dk,dh,bC,dn,cG,aD,am,kW,j9,dl]), ?_⟩
    refine kX (t:=false) rfl (λh=>(by cases h)) (λ_=>mZ ?_) d
    refine cw d g ?_
    simp(disch:=omega)only[go_sem,wrap_i64]
    refine⟨[(14,I ((i:Int)+1)),(13,I e.args.length),(12,.c (.pure (.slice (e.args.map Ex.row)))),(1,yv l)],(by simp[j8,kf,du,cz,dM,rn,yv,c9,ba,dk,dh,bC,dn,cG,aD,am,kW,j9,dl]),i+1,o,by show _-_<_-_;omega, ?_,(by simp[j8,kf,du,cz,dM,rn,yv,c9,ba,dk,dh,bC,dn,cG,aD,am,kW,j9,dl])⟩
    show some _=some _
    rw[Ex.szs_take o]
    congr 1
    omega
   ·simp(disch:=omega)only[go_sem]
    refine⟨[(21,Go.Abs.B true)],(by simp[j8,kf,du,cz,dM,rn,yv,c9,ba,dk,dh,bC,dn,cG,aD,am,kW,j9,dl]), ?_⟩
    refine kX (t:=true) rfl (λ_=>cK (cw d g ?_)) (λh=>(by cases h)) d
    simp(disch:=omega)only[go_sem]
    refine⟨[(4,Go.Abs.B false)],(by simp[j8,kf,du,cz,dM,rn,yv,c9,ba,dk,dh,bC,dn,cG,aD,am,kW,j9,dl]),z8 ?_⟩
    show kb _ _ _ _
    simp(disch:=omega)only[go_sem]
    exact .inr ⟨rfl,rfl⟩
  ·have hn: ¬i<e.args.length:=by simpa using z
   refine Hb ?_
   show SE _ _ _ _ _ _ _ _
   refine cK (cw d g ?_)
   simp(disch:=omega)only[go_sem]
   refine⟨[(4,Go.Abs.B true)],(by simp[j8,kf,du,cz,dM,rn,yv,c9,ba,dk,dh,bC,dn,cG,aD,am,kW,j9,dl]),z8 ?_⟩
   show kb _ _ _ _
   simp(disch:=omega)only[go_sem]
   refine .inl ⟨rfl, ?_⟩
   rw[List.take_of_length_le (by omega),Ex.sz_eq e]
   congr 1
   omega
theorem TD (e:Ex):At (e.pre.map λa=> [gc a]) 0 e.pre:= λi a h=>by rw[Nat.zero_add,List.getElem?_map,h];rfl
theorem gp (e:Ex):rr Ya nn [Sg e] (e.pre.map λa=> [gc a]):=by
 refine rr.of ⟨_,Tryz.func127,rfl,by kernel_rfl⟩ λl w J hY=> ?_
 have d:=Dw hY
 have g:=wy hY
 refine kT.of d C9 (by simp) λhb=> ?_
 simp only[uJ]
 refine F4 2 rfl d g ?_
 simp only[List.take,List.drop]
 simp(disch:=omega)only[go_sem]
 refine⟨[(3,gc e),(4,yv l)],(by simp[j8,kf,du,cz,dM,rn,yv,c9,ba,dk,dh,bC,dn,cG,aD,am,kW,j9,dl]),_,DK (Hw hY e 0 (TD e)), ?_⟩
 rintro res k' hk
 refine⟨[],(by simp[j8,kf,du,cz,dM,rn,yv,c9,ba,dk,dh,bC,dn,cG,aD,am,kW,j9,dl]), ?_⟩
 show _∨_
 rcases hk with⟨_,rfl⟩|⟨_,rfl⟩
 ·left
  rw[Ex.pre_length,Nat.zero_add]
 ·exact .inr rfl
def Tu (xs:List (List AV)) (k:Nat) (l:List fc):Prop:= ∀(i:Nat) a,l[i]? =some a→xs[k+i]? =some [f9 a.1 a.2]
theorem gx (e:Ex):af Ya AL [gc e] (.c (.clo nn [.cptr [pI e.op,pS e.name,pI e.val.1,pI e.val.2,pI e.ty.1,pI e.ty.2.1,pI e.ty.2.2.1,pI e.ty.2.2.2.1,pI e.ty.2.2.2.2,pI e.lin.1,bp e.lin.2,cZ dN e.idx,.slice (e.args.map Ex.row)]])):=by
 refine af.of G6 (by simp) λhb=>aa ?_
 simp only[Au]
 repeat' first|simp(disch:=omega)only[go_sem, *]|apply ab<;>intro h<;>try omega
theorem Er (e:Ex):af Ya yN [gc e] (.c (.clo lG [.cptr [pI e.op,pS e.name,pI e.val.1,pI e.val.2,pI e.ty.1,pI e.ty.2.1,pI e.ty.2.2.1,pI e.ty.2.2.2.1,pI e.ty.2.2.2.2,pI e.lin.1,bp e.lin.2,cZ dN e.idx,.slice (e.args.map Ex.row)]])):=by
 refine af.of Fb (by simp) λhb=>aa ?_
 simp only[xg]
 repeat' first|simp(disch:=omega)only[go_sem, *]|apply ab<;>intro h<;>try omega
theorem Tu.app {xs:List (List AV)} {k:Nat} {l r:List fc} (h:Tu xs k (l++r)):Tu xs (k+l.length) r:= λi a hi=>by
 have:=h (l.length+i) a (by rw[List.getElem?_append_right (by omega),Nat.add_sub_cancel_left];exact hi)
 rw[←this,Nat.add_assoc]
def tY (x:Ix):List fc:=x.1::x.2.2
theorem JK {e:Ex} {i:Nat} (hi:i<e.idx.length):e.forms=(e.lin::(e.idx.take i).flatMap tY)++(tY e.idx[i]++(e.idx.drop (i+1)).flatMap tY):=by
 have e1:(e.idx.take i++e.idx[i]::e.idx.drop (i+1)).flatMap tY=(e.idx.take i).flatMap tY++(tY e.idx[i]++(e.idx.drop (i+1)).flatMap tY):=by
  rw[List.flatMap_append,List.flatMap_cons]
 rw[←List.drop_eq_getElem_cons hi,List.take_append_drop]at e1
 show e.lin::e.idx.flatMap tY=_
 rw[e1]
 rfl
def Bk (e:Ex) (i:Nat):Nat:=(e.lin::(e.idx.take i).flatMap tY).length
theorem Ns (e:Ex):Bk e 0=1:=by simp[Bk]
theorem MW {e:Ex} {i:Nat} (hi:i<e.idx.length):Bk e (i+1)=Bk e i+1+e.idx[i].2.2.length:=by
 unfold Bk
 rw[List.take_succ_eq_append_getElem hi,List.flatMap_append]
 simp[tY]
 omega
theorem NE {e:Ex}:Bk e e.idx.length=e.forms.length:=by
 unfold Bk
 rw[List.take_of_length_le (Nat.le_refl _)]
 rfl
theorem RW {e:Ex} {xs:List (List AV)} (hx:Tu xs 0 e.forms) {i:Nat} (hi:i<e.idx.length):Tu xs (Bk e i) (tY e.idx[i]++(e.idx.drop (i+1)).flatMap tY):=by
 have:=(show Tu xs 0 ((e.lin::(e.idx.take i).flatMap tY)++(tY e.idx[i]++(e.idx.drop (i+1)).flatMap tY)) by rw[←JK hi];exact hx).app
 rw[Nat.zero_add]at this
 exact this
theorem Cb (e:Ex) (h6: ∀x∈e.idx,x.2.2.length≤6) (hl:e.idx.length≤6):rr Ya lG [Sg e] (e.forms.map λa=> [f9 a.1 a.2]):=by
 refine rr.of ⟨_,Tryz.func224,rfl,by kernel_rfl⟩ λl w J hY=> ?_
 have d:=Dw hY
 have g:=wy hY
 have hx:Tu (e.forms.map λa=> [f9 a.1 a.2]) 0 e.forms:= λi a h=>by rw[Nat.zero_add,List.getElem?_map,h];rfl
 have f:(e.forms.map λa:fc=> [f9 a.1 a.2]).length=e.forms.length:=by simp
 generalize (e.forms.map λa:fc=> [f9 a.1 a.2])=xs at*
 have h0:xs[0]? =some [f9 e.lin.1 e.lin.2]:=hx 0 e.lin rfl
 refine kT.of d Bf (by simp) λhb=> ?_
 simp only[sU]
 refine cK (cK (F4 3 rfl d g ?_))
 simp only[List.take,List.drop]
 simp(disch:=omega)only[go_sem]
 refine⟨[(9,f9 e.lin.1 e.lin.2),(7,yv l),(0,yv l),(1,Sg e)],(by simp[j8,kf,du,cz,dM,rn,yv,c9,ba,dk,dh,bC,dn,cG,aD,am,kW,j9,dl]),_,mU hY h0, ?_⟩
 rintro res k' ⟨b,rfl,rfl⟩
 simp(disch:=omega)only[go_sem]
 refine⟨[(11,Go.Abs.B !b),(0,yv l),(1,Sg e)],(by simp[j8,kf,du,cz,dM,rn,yv,c9,ba,dk,dh,bC,dn,cG,aD,am,kW,j9,dl]), ?_⟩
 refine kX (t:= !b) rfl (λq=> ?_) (λq=> ?_) d
 ·obtain rfl:b=false:=by simpa using q
  exact z8 (.inr rfl)
 ·obtain rfl:b=true:=by simpa using q
  refine mZ ?_
  simp only[↓reduceIte]
  refine cK (cw d g ?_)
  simp(disch:=omega)only[go_sem]
  refine⟨[(15,I 0),(14,I e.idx.length),(13,.c (.pure (cZ dN e.idx))),(0,yv l)],(by simp[j8,kf,du,cz,dM,rn,yv,c9,ba,dk,dh,bC,dn,cG,aD,am,kW,j9,dl]), ?_⟩
  refine oc (Iu (λi:Nat=>(some (Bk e i), [(15,I i),(14,I e.idx.length),(13,.c (.pure (cZ dN e.idx))),(0,yv l)])) (λi=>i≤e.idx.length) (λi=>e.idx.length-i) ⟨0,by omega,by simp[Ns],(by simp[j8,kf,du,cz,dM,rn,yv,c9,ba,dk,dh,bC,dn,cG,aD,am,kW,j9,dl])⟩ ?_)
  intro i hi
  refine cK (cw d g ?_)
  simp(disch:=omega)only[go_sem]
  refine⟨[(16,Go.Abs.B (decide ((i:Int)<e.idx.length))),(15,I i),(14,I e.idx.length),(13,.c (.pure (cZ dN e.idx))),(0,yv l)],(by simp[j8,kf,du,cz,dM,rn,yv,c9,ba,dk,dh,bC,dn,cG,aD,am,kW,j9,dl]), ?_⟩
  refine cK (kX rfl (λz=> ?_) (λz=> ?_) d)
  ·have o:i<e.idx.length:=by simpa using z
   have K:=RW hx o
   have hm:=MW o
   have Y:=h6 _ (List.getElem_mem o)
   have O:xs[Bk e i]? =some [f9 e.idx[i].1.1 e.idx[i].1.2]:=K 0 e.idx[i].1 rfl
   have Q: ∀(j:Nat) (hj:j<e.idx[i].2.2.length),xs[Bk e i+1+j]? =some [f9 e.idx[i].2.2[j].1 e.idx[i].2.2[j].2]:= λj hj=>by
    have:=K (j+1) e.idx[i].2.2[j] (by simp[tY,List.getElem?_append,hj])
    rw[←this];congr 1;omega
   refine mZ (cK (oc (cK (cw d g ?_))))
   simp(disch:=omega)only[go_sem,ac o,dN]
   refine⟨[(4,.c (.cptr [pI e.idx[i].1.1,bp e.idx[i].1.2,pS e.idx[i].2.1,cZ bP e.idx[i].2.2])),(15,I i),(14,I e.idx.length),(13,.c (.pure (cZ dN e.idx))),(0,yv l)],(by simp[j8,kf,du,cz,dM,rn,yv,c9,ba,dk,dh,bC,dn,cG,aD,am,kW,j9,dl]), ?_⟩
   refine cK (cK (F4 3 rfl d g ?_))
   simp only[List.take,List.drop]
   simp(disch:=omega)only[go_sem]
   refine⟨[(21,f9 e.idx[i].1.1 e.idx[i].1.2),(19,yv l),(4,.c (.cptr [pI e.idx[i].1.1,bp e.idx[i].1.2,pS e.idx[i].2.1,cZ bP e.idx[i].2.2])),(15,I i),(14,I e.idx.length),(13,.c (.pure (cZ dN e.idx))),(0,yv l)],(by simp[j8,kf,du,cz,dM,rn,yv,c9,ba,dk,dh,bC,dn,cG,aD,am,kW,j9,dl]),_,mU hY O, ?_⟩
   rintro res k' ⟨b,rfl,rfl⟩
   simp(disch:=omega)only[go_sem]
   refine⟨[(23,Go.Abs.B !b),(4,.c (.cptr [pI e.idx[i].1.1,bp e.idx[i].1.2,pS e.idx[i].2.1,cZ bP e.idx[i].2.2])),(15,I i),(14,I e.idx.length),(13,.c (.pure (cZ dN e.idx))),(0,yv l)],(by simp[j8,kf,du,cz,dM,rn,yv,c9,ba,dk,dh,bC,dn,cG,aD,am,kW,j9,dl]), ?_⟩
   refine kX (t:= !b) rfl (λq=> ?_) (λq=> ?_) d
   ·obtain rfl:b=false:=by simpa using q
    exact z8 (.inr rfl)
   ·obtain rfl:b=true:=by simpa using q
    refine mZ ?_
    simp only[↓reduceIte]
    refine cK (cw d g ?_)
    simp(disch:=omega)only[go_sem]
    refine⟨[(27,I 0),(26,I e.idx[i].2.2.length),(25,.c (.pure (cZ bP e.idx[i].2.2))),(15,I i),(14,I e.idx.length),(13,.c (.pure (cZ dN e.idx))),(0,yv l)],(by simp[j8,kf,du,cz,dM,rn,yv,c9,ba,dk,dh,bC,dn,cG,aD,am,kW,j9,dl]), ?_⟩
    refine oc (Iu (λj:Nat=>(some (Bk e i+1+j), [(27,I j),(26,I e.idx[i].2.2.length),(25,.c (.pure (cZ bP e.idx[i].2.2))),(15,I i),(14,I e.idx.length),(13,.c (.pure (cZ dN e.idx))),(0,yv l)])) (λj=>j≤e.idx[i].2.2.length) (λj=>e.idx[i].2.2.length-j) ⟨0,by omega,by simp,(by simp[j8,kf,du,cz,dM,rn,yv,c9,ba,dk,dh,bC,dn,cG,aD,am,kW,j9,dl])⟩ ?_)
    intro j hj
    refine cK (cw d g ?_)
    simp(disch:=omega)only[go_sem]
    refine⟨[(28,Go.Abs.B (decide ((j:Int)<e.idx[i].2.2.length))),(27,I j),(26,I e.idx[i].2.2.length),(25,.c (.pure (cZ bP e.idx[i].2.2))),(15,I i),(14,I e.idx.length),(13,.c (.pure (cZ dN e.idx))),(0,yv l)],(by simp[j8,kf,du,cz,dM,rn,yv,c9,ba,dk,dh,bC,dn,cG,aD,am,kW,j9,dl]), ?_⟩
    refine cK (kX rfl (λG=> ?_) (λG=> ?_) d)
    ·have A:j<e.idx[i].2.2.length:=by simpa using G
     refine mZ (cK (oc (cK (cw d g ?_))))
     simp(disch:=omega)only[go_sem,ac A,bP]
     refine⟨[(6,.c (.cptr [pI e.idx[i].2.2[j].1,bp e.idx[i].2.2[j].2])),(27,I j),(26,I e.idx[i].2.2.length),(25,.c (.pure (cZ bP e.idx[i].2.2))),(15,I i),(14,I e.idx.length),(13,.c (.pure (cZ dN e.idx))),(0,yv l)],(by simp[j8,kf,du,cz,dM,rn,yv,c9,ba,dk,dh,bC,dn,cG,aD,am,kW,j9,dl]), ?_⟩
     refine cK (F4 2 rfl d g ?_)
     simp only[List.take,List.drop]
     simp(disch:=omega)only[go_sem]
     refine⟨[(32,f9 e.idx[i].2.2[j].1 e.idx[i].2.2[j].2),(31,yv l),(27,I j),(26,I e.idx[i].2.2.length),(25,.c (.pure (cZ bP e.idx[i].2.2))),(15,I i),(14,I e.idx.length),(13,.c (.pure (cZ dN e.idx))),(0,yv l)],(by simp[j8,kf,du,cz,dM,rn,yv,c9,ba,dk,dh,bC,dn,cG,aD,am,kW,j9,dl]),_,mU hY (Q j A), ?_⟩
     rintro res k' ⟨b,rfl,rfl⟩
     simp(disch:=omega)only[go_sem]
     refine⟨[(34,Go.Abs.B !b),(27,I j),(26,I e.idx[i].2.2.length),(25,.c (.pure (cZ bP e.idx[i].2.2))),(15,I i),(14,I e.idx.length),(13,.c (.pure (cZ dN e.idx))),(0,yv l)],(by simp[j8,kf,du,cz,dM,rn,yv,c9,ba,dk,dh,bC,dn,cG,aD,am,kW,j9,dl]), ?_⟩
     refine kX (t:= !b) rfl (λq=> ?_) (λq=> ?_) d
     ·obtain rfl:b=false:=by simpa using q
      exact z8 (.inr rfl)
     ·obtain rfl:b=true:=by simpa using q
      refine mZ ?_
      simp only[↓reduceIte]
      refine cw d g ?_
      simp(disch:=omega)only[go_sem,wrap_i64]
      exact⟨[(27,I ((j:Int)+1)),(26,I e.idx[i].2.2.length),(25,.c (.pure (cZ bP e.idx[i].2.2))),(15,I i),(14,I e.idx.length),(13,.c (.pure (cZ dN e.idx))),(0,yv l)],(by simp[j8,kf,du,cz,dM,rn,yv,c9,ba,dk,dh,bC,dn,cG,aD,am,kW,j9,dl]),j+1,A,by show _-_<_-_;omega,rfl,(by simp[j8,kf,du,cz,dM,rn,yv,c9,ba,dk,dh,bC,dn,cG,aD,am,kW,j9,dl])⟩
    ·have hn:j=e.idx[i].2.2.length:=by
      have: ¬j<e.idx[i].2.2.length:=by simpa using G
      omega
     refine Hb ?_
     show AY _ _ _ _ _ _ _
     refine cw d g ?_
     simp(disch:=omega)only[go_sem,wrap_i64]
     refine⟨[(15,I ((i:Int)+1)),(14,I e.idx.length),(13,.c (.pure (cZ dN e.idx))),(0,yv l)],(by simp[j8,kf,du,cz,dM,rn,yv,c9,ba,dk,dh,bC,dn,cG,aD,am,kW,j9,dl]),i+1,o,by show _-_<_-_;omega, ?_,(by simp[j8,kf,du,cz,dM,rn,yv,c9,ba,dk,dh,bC,dn,cG,aD,am,kW,j9,dl])⟩
     show some _=some _
     rw[hm,hn]
  ·have hn:i=e.idx.length:=by
    have: ¬i<e.idx.length:=by simpa using z
    omega
   refine Hb ?_
   show _∨_
   left
   rw[f,hn,NE]
theorem D2 (e:Ex): ∀n:Nat,1≤n→n≤1000000→af Ya pl [gc e,I n] (I (min e.dep n:Nat)):=by
 refine Ex.ind (p:= λe=> ∀n:Nat,1≤n→n≤1000000→af Ya pl [gc e,I n] (I (min e.dep n:Nat))) (λe ih n h1 h2=> ?_) e
 refine af.of EM (by simp) λhb=>aa ?_
 have hl:=(dt hb).1
 simp only[yn]
 have R:=Ex.dep_pos e
 by_cases hn:n=1
 ·subst hn
  repeat' first|simp(disch:=omega)only[go_sem, *]|apply ab<;>intro h<;>try omega
  rw[Nat.min_eq_right R]
 ·rw[Ex.dep_eq]
  have T: ¬(n:Int)≤1:=by omega
  repeat' first|simp(disch:=omega)only[go_sem, *,T]|apply ab<;>intro h<;>try omega
  refine ai (λk:Nat=>⟨[(14,I k),(13,I e.args.length),(12,.c (.pure (.slice (e.args.map Ex.row)))),(5,I (min (1+Ex.deps (e.args.take k)) n:Nat)),(1,I n)], [],0,0⟩) (λk=>k≤e.args.length) (λk=>e.args.length-k) ⟨0, [],by omega,by simp[Ex.deps,Nat.min_eq_left h1]⟩ ?_
  rintro k hk
  refine aa ?_
  by_cases d:k<e.args.length
  ·have L:=ih _ (List.getElem_mem d) (n-1) (by omega) (by omega)
   rw[show((n-1:Nat):Int)=(n:Int)-1 by omega]at L
   have hd:=Ex.deps_take d
   clear ih
   repeat' first|simp(disch:=omega)only[go_sem, *,ac d,Ex.row_eq,wrap_i64]|apply ab<;>intro h<;>try omega|refine av L rfl rfl ?_
   have he:max ((min (1+Ex.deps (e.args.take k)) n:Nat):Int) (1+((min e.args[k].dep (n-1):Nat):Int))=((min (1+Ex.deps (e.args.take (k+1))) n:Nat):Int):=by rw[hd];omega
   rw[he]
   exact⟨k+1, [],by omega,by omega,by simp⟩
  ·repeat' first|simp(disch:=omega)only[go_sem, *]|apply ab<;>intro h<;>try omega
   rw[List.take_of_length_le (by omega)]
theorem lI (e:Ex):af Ya yl [gc e] (I (min e.dep 41:Nat)):=by
 refine af.of EY (by simp) λhb=>aa ?_
 simp only[xb]
 repeat' first|simp(disch:=omega)only[go_sem, *]|apply ab<;>intro h<;>try omega|refine av (D2 e 41 (by omega) (by omega)) rfl rfl ?_
theorem uv (e:Ex):af Ya Ah [gc e] (I (min e.sz 2001:Nat)):=by
 refine af.of Ht (by simp) λhb=>aa ?_
 simp only[Ak]
 repeat' first|simp(disch:=omega)only[go_sem, *]|apply ab<;>intro h<;>try omega|refine o5 (gx e) rfl rfl ?_
 have f:(e.pre.map λa=> [gc a]).length=e.sz:=by rw[List.length_map,Ex.pre_length]
 refine ji 2 [(3,.c (.ptr 1 0))] (λk (_:Unit)=>([(1,.var [.pure (pI k)]),(0,tL e)],2)) (λk _=>k≤2000) rfl rfl rfl (gp e) ?_ ⟨by simp,by simp⟩ (by simp[j8,kf,du,cz,dM,rn,yv,c9,ba,dk,dh,bC,dn,cG,aD,am,kW,j9,dl]) ⟨(), [],by omega,by simp⟩ ?_ ?_
 ·intro x hx
  obtain⟨a,_,rfl⟩:=List.mem_map.1 hx
  rfl
 ·intro k x t hx hk
  obtain⟨a,ha,rfl⟩: ∃a,e.pre[k]? =some a∧ [gc a]=x:=by
   rw[List.getElem?_map]at hx
   exact Option.map_eq_some_iff.1 hx
  have Z:k<e.sz:=by rw[←Ex.pre_length];exact(List.getElem?_eq_some_iff.1 ha).1
  clear hx ha
  repeat' first|simp(disch:=omega)only[go_sem, *,wrap_i64]|apply ab<;>intro h<;>try omega
  ·rw[show(k:Int)+1=((min e.sz 2001:Nat):Int) by omega]
  ·exact⟨(), [],by omega,by simp⟩
 ·intro t hk
  rw[f]at hk ⊢
  repeat' first|simp(disch:=omega)only[go_sem, *]|apply ab<;>intro h<;>try omega
  rw[Nat.min_eq_left (by omega)]
theorem zQ:Oj sL (λx=> ¬(x.2.1≠⟨⟨[]⟩⟩→eI x.2.1)):=by
 intro x
 refine af.of Bg (by simp) λhb=>aa ?_
 simp only[tq]
 repeat' first|simp(disch:=omega)only[go_sem, *]|apply ab<;>intro h<;>try omega|refine av (bf _) rfl rfl ?_
 all_goals(refine BC ?_;clear hb;simp only[Bool.not_eq_true',A3,BF,reduceCtorEq,false_iff,true_iff,not_exists,not_and,Classical.not_not,decide_eq_true_iff,decide_eq_false_iff_not];first|done|grind [])
theorem fC (e:Ex):af Ya yM [gc e] (Go.Abs.B (decide (qq e))):=by
 refine af.of EB (by simp) λhb=>aa ?_
 simp only[wF]
 repeat' first|simp(disch:=omega)only[go_sem, *]|apply ab<;>intro h<;>try omega|refine av (bf _) rfl rfl ?_|refine av (dz zQ e.idx) rfl rfl ?_
 all_goals(refine BD ?_;clear hb;simp only[Bool.not_eq_true',A3,BF,reduceCtorEq,false_iff,true_iff,not_exists,not_and,Classical.not_not,decide_eq_true_iff,decide_eq_false_iff_not];first|done|grind [qq])
theorem E6 {e:Ex} (h1:qc e) (h2:qq e) (h3:qx e) (h4:kn e) (h5:e.op=1→e7 e.ty e.val):((∀l∈e.forms,dZ l.2)→aP e=0)∧((¬ ∀l∈e.forms,dZ l.2)→aP e=1):=by
 unfold aP
 rw[if_neg (not_not_intro h1),if_neg (not_not_intro h2),if_neg (not_not_intro h3),if_neg (not_not_intro h4)]
 exact⟨λhf=>if_neg (not_not_intro ⟨h5,hf⟩),λhf=>if_pos λh=>hf h.2⟩
set_option maxHeartbeats 1000000 in
theorem vQ {e:Ex} (hv:o9 e.val):af Ya oh [gc e] (I (aP e)):=by
 refine af.of xj (by simp) λhb=>aa ?_
 simp only[oq]
 by_cases h1:qc e
 ·by_cases h2:qq e
  ·by_cases h3:qx e
   ·by_cases h4:kn e
    ·have C:= λh=>Dk (h4.1 (.inl h)) hv
     by_cases h5:e.op=1→e7 e.ty e.val
     ·obtain⟨n0,n1⟩:=E6 h1 h2 h3 h4 h5
      have hY:=Cb e h3.2.2 h3.2.1
      have c1:=dU e
      have c2:=fC e
      have c3:=jB e
      have c4:=mp e
      have c5:=Er e
      have f:(e.forms.map λa:fc=> [f9 a.1 a.2]).length=e.forms.length:=List.length_map _
      have m: ∀(k:Nat) x,(e.forms.map λa:fc=> [f9 a.1 a.2])[k]? =some x→ ∃h:k<e.forms.length,x= [f9 e.forms[k].1 e.forms[k].2]:= λk x hx=>by
       rw[List.getElem?_map]at hx
       obtain⟨a,ha,rfl⟩:=Option.map_eq_some_iff.1 hx
       obtain⟨hk,rfl⟩:=List.getElem?_eq_some_iff.1 ha
       exact⟨hk,rfl⟩
      have s: ∀x∈e.forms.map λa:fc=> [f9 a.1 a.2],x.length=1:= λx hx=>by
       obtain⟨a,_,rfl⟩:=List.mem_map.1 hx
       rfl
      have F: ∀k (h:k<e.forms.length),e.forms[k]∈e.forms:= λk h=>List.getElem_mem h
      generalize aP e=E at*
      by_cases u:e.op=1
      ·have y:=C u
       have V:=h5 u
       obtain⟨op,name,val,ty,lin,idx,args⟩:=e
       simp only[Ex.op]at u
       subst u
       generalize (Ex.mk 1 name val ty lin idx args).forms=fs at*
       have N0:=Lib.hid n0
       have N1:=Lib.hid n1
       have HY:=Lib.hid hY
       have HG:=Lib.hid m
       have HL:=Lib.hid f
       have HD:=Lib.hid s
       clear n0 n1 C h5 hb F m f s hY
       repeat' first|simp(disch:=omega)only[go_sem, *,h1,h2,h3,h4,V,Ex.op]|apply ab<;>intro h<;>try omega|refine av c1 rfl rfl ?_|refine av c2 rfl rfl ?_|refine av c3 rfl rfl ?_|refine av c4 rfl rfl ?_|refine av y rfl rfl ?_|refine o5 c5 rfl rfl ?_
       have n0:=N0.out
       have n1:=N1.out
       have hY:=HY.out
       have m:=HG.out
       have f:=HL.out
       have s:=HD.out
       clear N0 N1 HY HG HL HD
       refine ji 2 [(2,.c (.ptr 1 0))] (λk (_:Unit)=>([(1,.var [.pure (pI 0)]),(0,tL (Ex.mk 1 name val ty lin idx args))],2)) (λk _=>bI (λi=> ∀h:i<fs.length,dZ fs[i].2) k) rfl rfl rfl hY s ⟨by simp,by simp⟩ (by simp[j8,kf,du,cz,dM,rn,yv,c9,ba,dk,dh,bC,dn,cG,aD,am,kW,j9,dl]) ⟨(), [],.zero,by simp[Ex.op]⟩ ?_ ?_
       ·intro k x t hx hk
        obtain⟨d,rfl⟩:=m k x hx
        clear hx f m s hY
        by_cases v:dZ fs[k].2
        ·clear n1
         repeat' first|simp(disch:=omega)only[go_sem, *,v,Ex.op]|apply ab<;>intro h<;>try omega|refine av (bS _ _) rfl rfl ?_
         exact⟨(), [],hk.succ λ_=>v,by simp[Ex.op]⟩
        ·have hE:=n1 λh=>v (h _ (List.getElem_mem d))
         subst hE
         clear n0 n1 hk
         repeat' first|simp(disch:=omega)only[go_sem, *,v,Ex.op]|apply ab<;>intro h<;>try omega|refine av (bS _ _) rfl rfl ?_
       ·intro t hk
        rw[f]at hk
        have hE:=n0 λl hl=>by
         obtain⟨i,hi,rfl⟩:=List.mem_iff_getElem.1 hl
         exact hk i hi hi
        subst hE
        clear n0 n1 hk f m s hY
        repeat' first|simp(disch:=omega)only[go_sem, *,Ex.op]|apply ab<;>intro h<;>try omega
      ·have y:=trivial
       generalize e.forms=fs at*
       have N0:=Lib.hid n0
       have N1:=Lib.hid n1
       have HY:=Lib.hid hY
       have HG:=Lib.hid m
       have HL:=Lib.hid f
       have HD:=Lib.hid s
       clear n0 n1 C h5 hb F m f s hY
       repeat' first|simp(disch:=omega)only[go_sem, *,h1,h2,h3,h4,u]|apply ab<;>intro h<;>try omega|refine av c1 rfl rfl ?_|refine av c2 rfl rfl ?_|refine av c3 rfl rfl ?_|refine av c4 rfl rfl ?_|refine av y rfl rfl ?_|refine o5 c5 rfl rfl ?_
       have n0:=N0.out
       have n1:=N1.out
       have hY:=HY.out
       have m:=HG.out
       have f:=HL.out
       have s:=HD.out
       clear N0 N1 HY HG HL HD
       refine ji 2 [(2,.c (.ptr 1 0))] (λk (_:Unit)=>([(1,.var [.pure (pI 0)]),(0,tL e)],2)) (λk _=>bI (λi=> ∀h:i<fs.length,dZ fs[i].2) k) rfl rfl rfl hY s ⟨by simp,by simp⟩ (by simp[j8,kf,du,cz,dM,rn,yv,c9,ba,dk,dh,bC,dn,cG,aD,am,kW,j9,dl]) ⟨(), [],.zero,by simp[Ex.op]⟩ ?_ ?_
       ·intro k x t hx hk
        obtain⟨d,rfl⟩:=m k x hx
        clear hx f m s hY
        by_cases v:dZ fs[k].2
        ·clear n1
         repeat' first|simp(disch:=omega)only[go_sem, *,v,Ex.op]|apply ab<;>intro h<;>try omega|refine av (bS _ _) rfl rfl ?_
         exact⟨(), [],hk.succ λ_=>v,by simp[Ex.op]⟩
        ·have hE:=n1 λh=>v (h _ (List.getElem_mem d))
         subst hE
         clear n0 n1 hk
         repeat' first|simp(disch:=omega)only[go_sem, *,v,Ex.op]|apply ab<;>intro h<;>try omega|refine av (bS _ _) rfl rfl ?_
       ·intro t hk
        rw[f]at hk
        have hE:=n0 λl hl=>by
         obtain⟨i,hi,rfl⟩:=List.mem_iff_getElem.1 hl
         exact hk i hi hi
        subst hE
        clear n0 n1 hk f m s hY
        repeat' first|simp(disch:=omega)only[go_sem, *,Ex.op]|apply ab<;>intro h<;>try omega
     ·have u:e.op=1:=Classical.byContradiction λh=>h5 λh'=>absurd h' h
      have X: ¬e7 e.ty e.val:= λh=>h5 λ_=>h
      have hE:aP e=1:=by
       unfold aP
       rw[if_neg (not_not_intro h1),if_neg (not_not_intro h2),if_neg (not_not_intro h3),if_neg (not_not_intro h4)]
       exact if_pos λh=>h5 h.1
      have y:=C u
      have c1:=dU e
      have c2:=fC e
      have c3:=jB e
      have c4:=mp e
      rw[hE]
      clear hE h5 C
      obtain⟨op,name,val,ty,lin,idx,args⟩:=e
      simp only[Ex.op]at u
      subst u
      repeat' first|simp(disch:=omega)only[go_sem, *,h1,h2,h3,h4,X,Ex.op]|apply ab<;>intro h<;>try omega|refine av c1 rfl rfl ?_|refine av c2 rfl rfl ?_|refine av c3 rfl rfl ?_|refine av c4 rfl rfl ?_|refine av y rfl rfl ?_
    ·have hn:aP e=10:=by simp[aP,h1,h2,h3,h4]
     rw[hn]
     clear hn
     repeat' first|simp(disch:=omega)only[go_sem, *,h1,h2,h3,h4]|apply ab<;>intro h<;>try omega|refine av (dU e) rfl rfl ?_|refine av (fC e) rfl rfl ?_|refine av (jB e) rfl rfl ?_|refine av (mp e) rfl rfl ?_
   ·have hn:aP e=11:=by simp[aP,h1,h2,h3]
    rw[hn]
    clear hn
    repeat' first|simp(disch:=omega)only[go_sem, *,h1,h2,h3]|apply ab<;>intro h<;>try omega|refine av (dU e) rfl rfl ?_|refine av (fC e) rfl rfl ?_|refine av (jB e) rfl rfl ?_
  ·have hn:aP e=7:=by simp[aP,h1,h2]
   rw[hn]
   clear hn
   repeat' first|simp(disch:=omega)only[go_sem, *,h1,h2]|apply ab<;>intro h<;>try omega|refine av (dU e) rfl rfl ?_|refine av (fC e) rfl rfl ?_
 ·have hn:aP e=5:=by simp[aP,h1]
  rw[hn]
  clear hn
  repeat' first|simp(disch:=omega)only[go_sem, *,h1]|apply ab<;>intro h<;>try omega|refine av (dU e) rfl rfl ?_
theorem xX {e:Ex} (D: ∀a∈e.pre,o9 a.val):af Ya qh [gc e] (I (gn e)):=by
 refine af.of y8 (by simp) λhb=>aa ?_
 simp only[qb]
 by_cases h1:40<e.dep
 ·have hE:gn e=13:=if_pos h1
  rw[hE]
  clear hE D
  repeat' first|simp(disch:=omega)only[go_sem,show((min e.dep 41:Nat):Int)=41 by omega]|((with_reducible refine ab ?_ ?_)<;>intro h<;>try first|omega|simp(disch:=omega)only[go_sem, *,show((min e.dep 41:Nat):Int)=41 by omega])|refine av (lI e) rfl rfl ?_
 ·by_cases h2:2000<e.sz
  ·have hE:gn e=2:=by unfold gn;rw[if_neg h1,if_pos h2]
   rw[hE]
   clear hE D
   repeat' first|simp(disch:=omega)only[go_sem,show((min e.dep 41:Nat):Int)=e.dep by omega,show((min e.sz 2001:Nat):Int)=2001 by omega,show ¬(e.dep:Int)>40 by omega]|((with_reducible refine ab ?_ ?_)<;>intro h<;>try first|omega|simp(disch:=omega)only[go_sem, *,show((min e.dep 41:Nat):Int)=e.dep by omega,show((min e.sz 2001:Nat):Int)=2001 by omega,show ¬(e.dep:Int)>40 by omega])|refine av (lI e) rfl rfl ?_|refine av (uv e) rfl rfl ?_
  ·have hE:gn e=bY (e.pre.map aP):=by unfold gn;rw[if_neg h1,if_neg h2];rfl
   rw[hE]
   have hY:=gp e
   have f:(e.pre.map λa=> [gc a]).length=e.pre.length:=List.length_map _
   have m: ∀(k:Nat) x,(e.pre.map λa=> [gc a])[k]? =some x→ ∃h:k<e.pre.length,x= [gc e.pre[k]]:= λk x hx=>by
    rw[List.getElem?_map]at hx
    obtain⟨a,ha,rfl⟩:=Option.map_eq_some_iff.1 hx
    obtain⟨hk,rfl⟩:=List.getElem?_eq_some_iff.1 ha
    exact⟨hk,rfl⟩
   have s: ∀x∈e.pre.map λa=> [gc a],x.length=1:= λx hx=>by
    obtain⟨a,_,rfl⟩:=List.mem_map.1 hx
    rfl
   generalize e.pre=fs at*
   have HY:=Lib.hid hY
   have HG:=Lib.hid m
   have HL:=Lib.hid f
   have HD:=Lib.hid s
   have H64:=Lib.hid D
   clear m f s hY D hE
   repeat' first|simp(disch:=omega)only[go_sem,show((min e.dep 41:Nat):Int)=e.dep by omega,show((min e.sz 2001:Nat):Int)=e.sz by omega,show ¬(e.dep:Int)>40 by omega,show ¬(e.sz:Int)>2000 by omega]|((with_reducible refine ab ?_ ?_)<;>intro h<;>try first|omega|simp(disch:=omega)only[go_sem, *,show((min e.dep 41:Nat):Int)=e.dep by omega,show((min e.sz 2001:Nat):Int)=e.sz by omega,show ¬(e.dep:Int)>40 by omega,show ¬(e.sz:Int)>2000 by omega])|refine av (lI e) rfl rfl ?_|refine av (uv e) rfl rfl ?_|refine o5 (gx e) rfl rfl ?_
   refine ji 2 [(2,.c (.ptr 1 0))] (λk (_:Unit)=>([(1,.var [.pure (pI 0)]),(0,tL e)],2)) (λk _=>Hid (bY ((fs.map aP).take k)=0)) rfl rfl rfl HY.out HD.out ⟨by simp,by simp⟩ (by simp[j8,kf,du,cz,dM,rn,yv,c9,ba,dk,dh,bC,dn,cG,aD,am,kW,j9,dl]) ⟨(), [],by show _=_;simp[bY],by simp⟩ ?_ ?_
   ·intro k x t hx hk
    obtain⟨d,rfl⟩:=HG.out k x hx
    have M:=vQ (H64.out _ (List.getElem_mem d))
    have N:k<(fs.map aP).length:=by simpa using d
    have h3:=gV N hk.out
    have h4:=l9 N hk.out
    rw[List.getElem_map]at h3 h4
    clear hx HG HL HD HY H64 hk
    by_cases hp:aP fs[k]=0
    ·have H3:=Lib.hid (h3.trans hp)
     clear h3 h4
     repeat' first|simp(disch:=omega)only[go_sem,hp]|((with_reducible refine ab ?_ ?_)<;>intro h<;>try first|omega|simp(disch:=omega)only[go_sem, *,hp])|refine av M rfl rfl ?_
     exact⟨(), [],H3,by simp⟩
    ·have h5:=h4 hp
     rw[h5]
     clear h3 h4 h5
     repeat' first|simp(disch:=omega)only[go_sem,hp]|((with_reducible refine ab ?_ ?_)<;>intro h<;>try first|omega|simp(disch:=omega)only[go_sem, *,hp])|refine av M rfl rfl ?_
   ·intro t hk
    have H:=hk.out
    rw[HL.out,List.take_of_length_le (by simp)]at H
    rw[H]
    clear hk H HG HL HD HY H64
    repeat' first|simp(disch:=omega)only[go_sem]|((with_reducible refine ab ?_ ?_)<;>intro h<;>try first|omega|simp(disch:=omega)only[go_sem, *])
end Go.Proofs.YtjhkikmonejkjaaGreatDoor
