import Derived.Test.YthkaaahphlneiaaGreatDoorAbs28
import Derived.Test.YthkaaahphlneiaaGreatDoorV14b
set_option linter.unusedVariables false
set_option linter.unusedSimpArgs false
set_option maxRecDepth 20000
set_option maxHeartbeats 4000000
set_option maxRecDepth 1000000
namespace Go.Proofs.YthkaaahphlneiaaGreatDoor
open Go.Abs Go.RowKit
abbrev VN (e:Ex):AV:= .c (.cptr [pI e.op,pS e.name,pI e.val.1,pI e.val.2,pI e.ty.1,pI e.ty.2.1,pI e.ty.2.2.1,pI e.ty.2.2.2.1,pI e.ty.2.2.2.2,pI e.lin.1,aE e.lin.2,c9 eB e.idx,.slice (e.args.map Ex.row)])
def XU (k n:Nat) (res:AV) (k':Option Nat):Prop:=(res=Go.Abs.B true∧k'=some (k+n))∨(res=Go.Abs.B false∧k'=none)
def At (xs:List (List AV)) (k:Nat) (l:List Ex):Prop:= ∀(i:Nat) a,l[i]? =some a→xs[k+i]? =some [fm a]
theorem Wc {xs:List (List AV)} {k:Nat} {e:Ex} (h:At xs k e.pre) {i:Nat} (hi:i<e.args.length):At xs (k+1+Ex.szs (e.args.take i)) e.args[i].pre:=by
 intro j a hj
 have e1:Ex.pres e.args=Ex.pres (e.args.take i)++(e.args[i].pre++Ex.pres (e.args.drop (i+1))):=by
  have e2:e.args=e.args.take i++(e.args[i]::e.args.drop (i+1)):=by rw[←List.drop_eq_getElem_cons hi,List.take_append_drop]
  have e3:Ex.pres (e.args.take i++(e.args[i]::e.args.drop (i+1)))=Ex.pres (e.args.take i)++(e.args[i].pre++Ex.pres (e.args.drop (i+1))):=by rw[Ex.pres_append,Ex.pres]
  rw[←e2]at e3
  exact e3
 have hl:(Ex.pres (e.args.take i)).length=Ex.szs (e.args.take i):=Ex.pres_length fun a _=>Ex.pre_length a
 have:=h (1+Ex.szs (e.args.take i)+j) a (by
  rw[Ex.pre_eq,show 1+Ex.szs (e.args.take i)+j=(Ex.szs (e.args.take i)+j)+1 by omega,List.getElem?_cons_succ,e1,List.getElem?_append_right (by omega),hl,Nat.add_sub_cancel_left,List.getElem?_append_left (List.getElem?_eq_some_iff.1 hj).1]
  exact hj)
 rw[←this]
 congr 1
 omega
theorem DD {P:Program} {l:Nat} {w:World} {xs:List (List AV)} {J:Option Nat→(Nat→Prop)→World→Prop} (h:vN P l w xs J): ∀k S W,J k S W→(∀b,S b→b<W.heap.size)∧me W:=fun k S W hj=>⟨(h.old k S W hj).1,(h.old k S W hj).2.2⟩
theorem xQ {P:Program} {l:Nat} {w:World} {xs:List (List AV)} {J:Option Nat→(Nat→Prop)→World→Prop} (h:vN P l w xs J): ∀k S W W',J k S W→Below W.heap.size W W'→J k (fun b=>S b∨W.heap.size≤b∧b<W'.heap.size) W':=fun k S W W' hj hb=>h.grow k S W W' hj (.of_below hb)
theorem Jy {l:Nat} {w:World} {xs:List (List AV)} {J:Option Nat→(Nat→Prop)→World→Prop} (hY:vN Tryz.prog l w xs J) (e:Ex): ∀k:Nat,At xs k e.pre→kA Tryz.prog J t6 [fm e,yv l] (some k) (XU k e.sz):=by
 refine Ex.ind (p:=fun e=> ∀k:Nat,At xs k e.pre→kA Tryz.prog J t6 [fm e,yv l] (some k) (XU k e.sz)) (fun e ih k hx=> ?_) e
 have hlt:=DD hY
 have hgr:=xQ hY
 refine kA.of hlt JY (by simp) fun hb=> ?_
 have hl:=(dX hb).1
 simp only[Bj]
 refine co (cb hlt hgr ?_)
 simp(disch:=omega) only[go_sem]
 refine⟨[(1,yv l),(2,VN e)],(by simp[gi,ia,cZ,b8,df,rn,yv,ct,aZ,cK,cz,bu,c6,ci,ay,ak,i6,gR,cp]), ?_⟩
 have h0:xs[k]? =some [fm e]:=hx 0 e (by rw[Ex.pre_eq];rfl)
 refine co (co (FL 2 rfl hlt hgr ?_))
 simp only[List.take,List.drop]
 simp(disch:=omega) only[go_sem]
 refine⟨[(8,fm e),(7,yv l),(1,yv l),(2,VN e)],(by simp[gi,ia,cZ,b8,df,rn,yv,ct,aZ,cK,cz,bu,c6,ci,ay,ak,i6,gR,cp]),_,li hY h0, ?_⟩
 rintro res k' ⟨b,rfl,rfl⟩
 simp(disch:=omega) only[go_sem]
 refine⟨[(10,Go.Abs.B !b),(1,yv l),(2,VN e)],(by simp[gi,ia,cZ,b8,df,rn,yv,ct,aZ,cK,cz,bu,c6,ci,ay,ak,i6,gR,cp]), ?_⟩
 refine jy (t:= !b) rfl (fun hb0=> ?_) (fun hb0=> ?_) hlt
 ·obtain rfl:b=false:=by simpa using hb0
  refine co (cb hlt hgr ?_)
  simp(disch:=omega) only[go_sem]
  refine⟨[(4,Go.Abs.B false)],(by simp[gi,ia,cZ,b8,df,rn,yv,ct,aZ,cK,cz,bu,c6,ci,ay,ak,i6,gR,cp]),xq ?_⟩
  show jI _ _ _ _
  simp(disch:=omega) only[go_sem]
  exact .inr ⟨rfl,rfl⟩
 ·obtain rfl:b=true:=by simpa using hb0
  refine kr ?_
  simp only[↓reduceIte]
  refine co (co (cb hlt hgr ?_))
  simp(disch:=omega) only[go_sem]
  refine⟨[(14,I 0),(13,I e.args.length),(12,.c (.pure (.slice (e.args.map Ex.row)))),(1,yv l)],(by simp[gi,ia,cZ,b8,df,rn,yv,ct,aZ,cK,cz,bu,c6,ci,ay,ak,i6,gR,cp]), ?_⟩
  refine kF (CN (fun i:Nat=>(some (k+1+Ex.szs (e.args.take i)), [(14,I i),(13,I e.args.length),(12,.c (.pure (.slice (e.args.map Ex.row)))),(1,yv l)])) (fun i=>i≤e.args.length) (fun i=>e.args.length-i) ⟨0,by omega,by simp[Ex.szs],(by simp[gi,ia,cZ,b8,df,rn,yv,ct,aZ,cK,cz,bu,c6,ci,ay,ak,i6,gR,cp])⟩ ?_)
  intro i hi
  refine co (cb hlt hgr ?_)
  simp(disch:=omega) only[go_sem]
  refine⟨[(15,Go.Abs.B (decide ((i:Int)<e.args.length))),(14,I i),(13,I e.args.length),(12,.c (.pure (.slice (e.args.map Ex.row)))),(1,yv l)],(by simp[gi,ia,cZ,b8,df,rn,yv,ct,aZ,cK,cz,bu,c6,ci,ay,ak,i6,gR,cp]), ?_⟩
  refine co (jy rfl (fun hi1=> ?_) (fun hi1=> ?_) hlt)
  ·have hlt1:i<e.args.length:=by simpa using hi1
   refine kr (co (kF (co (cb hlt hgr ?_))))
   simp(disch:=omega) only[go_sem,ae hlt1,Ex.row_eq]
   refine⟨[(6,VN e.args[i]),(14,I i),(13,I e.args.length),(12,.c (.pure (.slice (e.args.map Ex.row)))),(1,yv l)],(by simp[gi,ia,cZ,b8,df,rn,yv,ct,aZ,cK,cz,bu,c6,ci,ay,ak,i6,gR,cp]), ?_⟩
   refine co (FL 2 rfl hlt hgr ?_)
   simp only[List.take,List.drop]
   simp(disch:=omega) only[go_sem]
   refine⟨[(18,fm e.args[i]),(19,yv l),(14,I i),(13,I e.args.length),(12,.c (.pure (.slice (e.args.map Ex.row)))),(1,yv l)],(by simp[gi,ia,cZ,b8,df,rn,yv,ct,aZ,cK,cz,bu,c6,ci,ay,ak,i6,gR,cp]),_,EC (ih _ (List.getElem_mem hlt1) _ (Wc hx hlt1)), ?_⟩
   rintro res k' (⟨rfl,rfl⟩|⟨rfl,rfl⟩)
   ·simp(disch:=omega) only[go_sem]
    refine⟨[(21,Go.Abs.B false),(14,I i),(13,I e.args.length),(12,.c (.pure (.slice (e.args.map Ex.row)))),(1,yv l)],(by simp[gi,ia,cZ,b8,df,rn,yv,ct,aZ,cK,cz,bu,c6,ci,ay,ak,i6,gR,cp]), ?_⟩
    refine jy (t:=false) rfl (fun h=>(by cases h)) (fun _=>kr ?_) hlt
    refine cb hlt hgr ?_
    simp(disch:=omega) only[go_sem,wrap_i64]
    refine⟨[(14,I ((i:Int)+1)),(13,I e.args.length),(12,.c (.pure (.slice (e.args.map Ex.row)))),(1,yv l)],(by simp[gi,ia,cZ,b8,df,rn,yv,ct,aZ,cK,cz,bu,c6,ci,ay,ak,i6,gR,cp]),i+1,hlt1,by show _-_<_-_;omega, ?_,(by simp[gi,ia,cZ,b8,df,rn,yv,ct,aZ,cK,cz,bu,c6,ci,ay,ak,i6,gR,cp])⟩
    show some _=some _
    rw[Ex.szs_take hlt1]
    congr 1
    omega
   ·simp(disch:=omega) only[go_sem]
    refine⟨[(21,Go.Abs.B true)],(by simp[gi,ia,cZ,b8,df,rn,yv,ct,aZ,cK,cz,bu,c6,ci,ay,ak,i6,gR,cp]), ?_⟩
    refine jy (t:=true) rfl (fun _=>co (cb hlt hgr ?_)) (fun h=>(by cases h)) hlt
    simp(disch:=omega) only[go_sem]
    refine⟨[(4,Go.Abs.B false)],(by simp[gi,ia,cZ,b8,df,rn,yv,ct,aZ,cK,cz,bu,c6,ci,ay,ak,i6,gR,cp]),xq ?_⟩
    show jI _ _ _ _
    simp(disch:=omega) only[go_sem]
    exact .inr ⟨rfl,rfl⟩
  ·have hn: ¬i<e.args.length:=by simpa using hi1
   refine CS ?_
   show Vc _ _ _ _ _ _ _ _
   refine co (cb hlt hgr ?_)
   simp(disch:=omega) only[go_sem]
   refine⟨[(4,Go.Abs.B true)],(by simp[gi,ia,cZ,b8,df,rn,yv,ct,aZ,cK,cz,bu,c6,ci,ay,ak,i6,gR,cp]),xq ?_⟩
   show jI _ _ _ _
   simp(disch:=omega) only[go_sem]
   refine .inl ⟨rfl, ?_⟩
   rw[List.take_of_length_le (by omega),Ex.sz_eq e]
   congr 1
   omega
theorem WQ (e:Ex):At (e.pre.map fun a=> [fm a]) 0 e.pre:=fun i a h=>by rw[Nat.zero_add,List.getElem?_map,h];rfl
theorem wl (e:Ex):iI Tryz.prog oI [VN e] (e.pre.map fun a=> [fm a]):=by
 refine iI.of ⟨_,Tryz.func202,rfl,by kernel_rfl⟩ fun l w J hY=> ?_
 have hlt:=DD hY
 have hgr:=xQ hY
 refine kA.of hlt CX (by simp) fun hb=> ?_
 simp only[wY]
 refine FL 2 rfl hlt hgr ?_
 simp only[List.take,List.drop]
 simp(disch:=omega) only[go_sem]
 refine⟨[(3,fm e),(4,yv l)],(by simp[gi,ia,cZ,b8,df,rn,yv,ct,aZ,cK,cz,bu,c6,ci,ay,ak,i6,gR,cp]),_,EC (Jy hY e 0 (WQ e)), ?_⟩
 rintro res k' hk
 refine⟨[],(by simp[gi,ia,cZ,b8,df,rn,yv,ct,aZ,cK,cz,bu,c6,ci,ay,ak,i6,gR,cp]), ?_⟩
 show _∨_
 rcases hk with⟨_,rfl⟩|⟨_,rfl⟩
 ·left
  rw[Ex.pre_length,Nat.zero_add]
 ·exact .inr rfl
def WY (xs:List (List AV)) (k:Nat) (l:List ca):Prop:= ∀(i:Nat) a,l[i]? =some a→xs[k+i]? =some [dj a.1 a.2]
theorem w8 (e:Ex):ac Tryz.prog A8 [fm e] (.c (.clo oI [.cptr [pI e.op,pS e.name,pI e.val.1,pI e.val.2,pI e.ty.1,pI e.ty.2.1,pI e.ty.2.2.1,pI e.ty.2.2.2.1,pI e.ty.2.2.2.2,pI e.lin.1,aE e.lin.2,c9 eB e.idx,.slice (e.args.map Ex.row)]])):=by
 refine ac.of Jd (by simp) fun hb=>aa ?_
 simp only[BJ]
 repeat' first|simp(disch:=omega) only[go_sem, *]|((with_reducible refine ab ?_ ?_)<;>intro h<;>try omega)
theorem DZ (e:Ex):ac Tryz.prog yo [fm e] (.c (.clo jm [.cptr [pI e.op,pS e.name,pI e.val.1,pI e.val.2,pI e.ty.1,pI e.ty.2.1,pI e.ty.2.2.1,pI e.ty.2.2.2.1,pI e.ty.2.2.2.2,pI e.lin.1,aE e.lin.2,c9 eB e.idx,.slice (e.args.map Ex.row)]])):=by
 refine ac.of F1 (by simp) fun hb=>aa ?_
 simp only[yN]
 repeat' first|simp(disch:=omega) only[go_sem, *]|((with_reducible refine ab ?_ ?_)<;>intro h<;>try omega)
theorem WY.app {xs:List (List AV)} {k:Nat} {l r:List ca} (h:WY xs k (l++r)):WY xs (k+l.length) r:=fun i a hi=>by
 have:=h (l.length+i) a (by rw[List.getElem?_append_right (by omega),Nat.add_sub_cancel_left];exact hi)
 rw[←this,Nat.add_assoc]
def vz (x:Ix):List ca:=x.1::x.2.2
theorem Mb {e:Ex} {i:Nat} (hi:i<e.idx.length):e.forms=(e.lin::(e.idx.take i).flatMap vz)++(vz e.idx[i]++(e.idx.drop (i+1)).flatMap vz):=by
 have e1:(e.idx.take i++e.idx[i]::e.idx.drop (i+1)).flatMap vz=(e.idx.take i).flatMap vz++(vz e.idx[i]++(e.idx.drop (i+1)).flatMap vz):=by
  rw[List.flatMap_append,List.flatMap_cons]
 rw[←List.drop_eq_getElem_cons hi,List.take_append_drop]at e1
 show e.lin::e.idx.flatMap vz=_
 rw[e1]
 rfl
def CE (e:Ex) (i:Nat):Nat:=(e.lin::(e.idx.take i).flatMap vz).length
theorem PF (e:Ex):CE e 0=1:=by simp[CE]
theorem PU {e:Ex} {i:Nat} (hi:i<e.idx.length):CE e (i+1)=CE e i+1+e.idx[i].2.2.length:=by
 unfold CE
 rw[List.take_succ_eq_append_getElem hi,List.flatMap_append]
 simp[vz]
 omega
theorem O9 {e:Ex}:CE e e.idx.length=e.forms.length:=by
 unfold CE
 rw[List.take_of_length_le (Nat.le_refl _)]
 rfl
theorem Uy {e:Ex} {xs:List (List AV)} (hx:WY xs 0 e.forms) {i:Nat} (hi:i<e.idx.length):WY xs (CE e i) (vz e.idx[i]++(e.idx.drop (i+1)).flatMap vz):=by
 have:=(show WY xs 0 ((e.lin::(e.idx.take i).flatMap vz)++(vz e.idx[i]++(e.idx.drop (i+1)).flatMap vz)) by rw[←Mb hi];exact hx).app
 rw[Nat.zero_add]at this
 exact this
theorem Dg (e:Ex) (h6: ∀x∈e.idx,x.2.2.length≤6) (hl:e.idx.length≤6):iI Tryz.prog jm [VN e] (e.forms.map fun a=> [dj a.1 a.2]):=by
 refine iI.of ⟨_,Tryz.func239,rfl,by kernel_rfl⟩ fun l w J hY=> ?_
 have hlt:=DD hY
 have hgr:=xQ hY
 have hx:WY (e.forms.map fun a=> [dj a.1 a.2]) 0 e.forms:=fun i a h=>by rw[Nat.zero_add,List.getElem?_map,h];rfl
 have hlen:(e.forms.map fun a:ca=> [dj a.1 a.2]).length=e.forms.length:=by simp
 generalize (e.forms.map fun a:ca=> [dj a.1 a.2])=xs at*
 have h0:xs[0]? =some [dj e.lin.1 e.lin.2]:=hx 0 e.lin rfl
 refine kA.of hlt Cm (by simp) fun hb=> ?_
 conv in uZ=>cbv
 refine co (co (FL 3 rfl hlt hgr ?_))
 simp only[List.take,List.drop]
 simp(disch:=omega) only[go_sem]
 refine⟨[(9,dj e.lin.1 e.lin.2),(7,yv l),(0,yv l),(1,VN e)],(by simp[gi,ia,cZ,b8,df,rn,yv,ct,aZ,cK,cz,bu,c6,ci,ay,ak,i6,gR,cp]),_,li hY h0, ?_⟩
 rintro res k' ⟨b,rfl,rfl⟩
 simp(disch:=omega) only[go_sem]
 refine⟨[(11,Go.Abs.B !b),(0,yv l),(1,VN e)],(by simp[gi,ia,cZ,b8,df,rn,yv,ct,aZ,cK,cz,bu,c6,ci,ay,ak,i6,gR,cp]), ?_⟩
 refine jy (t:= !b) rfl (fun hb0=> ?_) (fun hb0=> ?_) hlt
 ·obtain rfl:b=false:=by simpa using hb0
  exact xq (.inr rfl)
 ·obtain rfl:b=true:=by simpa using hb0
  refine kr ?_
  simp only[↓reduceIte]
  refine co (cb hlt hgr ?_)
  simp(disch:=omega) only[go_sem]
  refine⟨[(15,I 0),(14,I e.idx.length),(13,.c (.pure (c9 eB e.idx))),(0,yv l)],(by simp[gi,ia,cZ,b8,df,rn,yv,ct,aZ,cK,cz,bu,c6,ci,ay,ak,i6,gR,cp]), ?_⟩
  refine kF (CN (fun i:Nat=>(some (CE e i), [(15,I i),(14,I e.idx.length),(13,.c (.pure (c9 eB e.idx))),(0,yv l)])) (fun i=>i≤e.idx.length) (fun i=>e.idx.length-i) ⟨0,by omega,by simp[PF],(by simp[gi,ia,cZ,b8,df,rn,yv,ct,aZ,cK,cz,bu,c6,ci,ay,ak,i6,gR,cp])⟩ ?_)
  intro i hi
  refine co (cb hlt hgr ?_)
  simp(disch:=omega) only[go_sem]
  refine⟨[(16,Go.Abs.B (decide ((i:Int)<e.idx.length))),(15,I i),(14,I e.idx.length),(13,.c (.pure (c9 eB e.idx))),(0,yv l)],(by simp[gi,ia,cZ,b8,df,rn,yv,ct,aZ,cK,cz,bu,c6,ci,ay,ak,i6,gR,cp]), ?_⟩
  refine co (jy rfl (fun hi1=> ?_) (fun hi1=> ?_) hlt)
  ·have hlt1:i<e.idx.length:=by simpa using hi1
   have hx1:=Uy hx hlt1
   have hm:=PU hlt1
   have h6':=h6 _ (List.getElem_mem hlt1)
   have hr0:xs[CE e i]? =some [dj e.idx[i].1.1 e.idx[i].1.2]:=hx1 0 e.idx[i].1 rfl
   have hrj: ∀(j:Nat) (hj:j<e.idx[i].2.2.length),xs[CE e i+1+j]? =some [dj e.idx[i].2.2[j].1 e.idx[i].2.2[j].2]:=fun j hj=>by
    have:=hx1 (j+1) e.idx[i].2.2[j] (by simp[vz,List.getElem?_append,hj])
    rw[←this];congr 1;omega
   refine kr (co (kF (co (cb hlt hgr ?_))))
   simp(disch:=omega) only[go_sem,ae hlt1,eB]
   refine⟨[(4,.c (.cptr [pI e.idx[i].1.1,aE e.idx[i].1.2,pS e.idx[i].2.1,c9 bQ e.idx[i].2.2])),(15,I i),(14,I e.idx.length),(13,.c (.pure (c9 eB e.idx))),(0,yv l)],(by simp[gi,ia,cZ,b8,df,rn,yv,ct,aZ,cK,cz,bu,c6,ci,ay,ak,i6,gR,cp]), ?_⟩
   refine co (co (FL 3 rfl hlt hgr ?_))
   simp only[List.take,List.drop]
   simp(disch:=omega) only[go_sem]
   refine⟨[(21,dj e.idx[i].1.1 e.idx[i].1.2),(19,yv l),(4,.c (.cptr [pI e.idx[i].1.1,aE e.idx[i].1.2,pS e.idx[i].2.1,c9 bQ e.idx[i].2.2])),(15,I i),(14,I e.idx.length),(13,.c (.pure (c9 eB e.idx))),(0,yv l)],(by simp[gi,ia,cZ,b8,df,rn,yv,ct,aZ,cK,cz,bu,c6,ci,ay,ak,i6,gR,cp]),_,li hY hr0, ?_⟩
   rintro res k' ⟨b,rfl,rfl⟩
   simp(disch:=omega) only[go_sem]
   refine⟨[(23,Go.Abs.B !b),(4,.c (.cptr [pI e.idx[i].1.1,aE e.idx[i].1.2,pS e.idx[i].2.1,c9 bQ e.idx[i].2.2])),(15,I i),(14,I e.idx.length),(13,.c (.pure (c9 eB e.idx))),(0,yv l)],(by simp[gi,ia,cZ,b8,df,rn,yv,ct,aZ,cK,cz,bu,c6,ci,ay,ak,i6,gR,cp]), ?_⟩
   refine jy (t:= !b) rfl (fun hb0=> ?_) (fun hb0=> ?_) hlt
   ·obtain rfl:b=false:=by simpa using hb0
    exact xq (.inr rfl)
   ·obtain rfl:b=true:=by simpa using hb0
    refine kr ?_
    simp only[↓reduceIte]
    refine co (cb hlt hgr ?_)
    simp(disch:=omega) only[go_sem]
    refine⟨[(27,I 0),(26,I e.idx[i].2.2.length),(25,.c (.pure (c9 bQ e.idx[i].2.2))),(15,I i),(14,I e.idx.length),(13,.c (.pure (c9 eB e.idx))),(0,yv l)],(by simp[gi,ia,cZ,b8,df,rn,yv,ct,aZ,cK,cz,bu,c6,ci,ay,ak,i6,gR,cp]), ?_⟩
    refine kF (CN (fun j:Nat=>(some (CE e i+1+j), [(27,I j),(26,I e.idx[i].2.2.length),(25,.c (.pure (c9 bQ e.idx[i].2.2))),(15,I i),(14,I e.idx.length),(13,.c (.pure (c9 eB e.idx))),(0,yv l)])) (fun j=>j≤e.idx[i].2.2.length) (fun j=>e.idx[i].2.2.length-j) ⟨0,by omega,by simp,(by simp[gi,ia,cZ,b8,df,rn,yv,ct,aZ,cK,cz,bu,c6,ci,ay,ak,i6,gR,cp])⟩ ?_)
    intro j hj
    refine co (cb hlt hgr ?_)
    simp(disch:=omega) only[go_sem]
    refine⟨[(28,Go.Abs.B (decide ((j:Int)<e.idx[i].2.2.length))),(27,I j),(26,I e.idx[i].2.2.length),(25,.c (.pure (c9 bQ e.idx[i].2.2))),(15,I i),(14,I e.idx.length),(13,.c (.pure (c9 eB e.idx))),(0,yv l)],(by simp[gi,ia,cZ,b8,df,rn,yv,ct,aZ,cK,cz,bu,c6,ci,ay,ak,i6,gR,cp]), ?_⟩
    refine co (jy rfl (fun hj1=> ?_) (fun hj1=> ?_) hlt)
    ·have hltj:j<e.idx[i].2.2.length:=by simpa using hj1
     refine kr (co (kF (co (cb hlt hgr ?_))))
     simp(disch:=omega) only[go_sem,ae hltj,bQ]
     refine⟨[(6,.c (.cptr [pI e.idx[i].2.2[j].1,aE e.idx[i].2.2[j].2])),(27,I j),(26,I e.idx[i].2.2.length),(25,.c (.pure (c9 bQ e.idx[i].2.2))),(15,I i),(14,I e.idx.length),(13,.c (.pure (c9 eB e.idx))),(0,yv l)],(by simp[gi,ia,cZ,b8,df,rn,yv,ct,aZ,cK,cz,bu,c6,ci,ay,ak,i6,gR,cp]), ?_⟩
     refine co (FL 2 rfl hlt hgr ?_)
     simp only[List.take,List.drop]
     simp(disch:=omega) only[go_sem]
     refine⟨[(32,dj e.idx[i].2.2[j].1 e.idx[i].2.2[j].2),(31,yv l),(27,I j),(26,I e.idx[i].2.2.length),(25,.c (.pure (c9 bQ e.idx[i].2.2))),(15,I i),(14,I e.idx.length),(13,.c (.pure (c9 eB e.idx))),(0,yv l)],(by simp[gi,ia,cZ,b8,df,rn,yv,ct,aZ,cK,cz,bu,c6,ci,ay,ak,i6,gR,cp]),_,li hY (hrj j hltj), ?_⟩
     rintro res k' ⟨b,rfl,rfl⟩
     simp(disch:=omega) only[go_sem]
     refine⟨[(34,Go.Abs.B !b),(27,I j),(26,I e.idx[i].2.2.length),(25,.c (.pure (c9 bQ e.idx[i].2.2))),(15,I i),(14,I e.idx.length),(13,.c (.pure (c9 eB e.idx))),(0,yv l)],(by simp[gi,ia,cZ,b8,df,rn,yv,ct,aZ,cK,cz,bu,c6,ci,ay,ak,i6,gR,cp]), ?_⟩
     refine jy (t:= !b) rfl (fun hb0=> ?_) (fun hb0=> ?_) hlt
     ·obtain rfl:b=false:=by simpa using hb0
      exact xq (.inr rfl)
     ·obtain rfl:b=true:=by simpa using hb0
      refine kr ?_
      simp only[↓reduceIte]
      refine cb hlt hgr ?_
      simp(disch:=omega) only[go_sem,wrap_i64]
      exact⟨[(27,I ((j:Int)+1)),(26,I e.idx[i].2.2.length),(25,.c (.pure (c9 bQ e.idx[i].2.2))),(15,I i),(14,I e.idx.length),(13,.c (.pure (c9 eB e.idx))),(0,yv l)],(by simp[gi,ia,cZ,b8,df,rn,yv,ct,aZ,cK,cz,bu,c6,ci,ay,ak,i6,gR,cp]),j+1,hltj,by show _-_<_-_;omega,rfl,(by simp[gi,ia,cZ,b8,df,rn,yv,ct,aZ,cK,cz,bu,c6,ci,ay,ak,i6,gR,cp])⟩
    ·have hn:j=e.idx[i].2.2.length:=by
      have: ¬j<e.idx[i].2.2.length:=by simpa using hj1
      omega
     refine CS ?_
     show AY _ _ _ _ _ _ _
     refine cb hlt hgr ?_
     simp(disch:=omega) only[go_sem,wrap_i64]
     refine⟨[(15,I ((i:Int)+1)),(14,I e.idx.length),(13,.c (.pure (c9 eB e.idx))),(0,yv l)],(by simp[gi,ia,cZ,b8,df,rn,yv,ct,aZ,cK,cz,bu,c6,ci,ay,ak,i6,gR,cp]),i+1,hlt1,by show _-_<_-_;omega, ?_,(by simp[gi,ia,cZ,b8,df,rn,yv,ct,aZ,cK,cz,bu,c6,ci,ay,ak,i6,gR,cp])⟩
     show some _=some _
     rw[hm,hn]
  ·have hn:i=e.idx.length:=by
    have: ¬i<e.idx.length:=by simpa using hi1
    omega
   refine CS ?_
   show _∨_
   left
   rw[hlen,hn,O9]
end Go.Proofs.YthkaaahphlneiaaGreatDoor
