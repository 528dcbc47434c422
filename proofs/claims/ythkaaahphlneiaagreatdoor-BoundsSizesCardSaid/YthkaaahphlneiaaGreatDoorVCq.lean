import Derived.Test.YthkaaahphlneiaaGreatDoorP17
import Derived.Test.YthkaaahphlneiaaGreatDoorAbs28
import Derived.Test.YthkaaahphlneiaaGreatDoorV17a
set_option linter.unusedVariables false
set_option linter.unusedSimpArgs false
set_option maxRecDepth 20000
namespace Go.Proofs.YthkaaahphlneiaaGreatDoor
open Go.Abs Go.RowKit
theorem Kw (mem:List (Nat×aS)) (nx:Nat):am Tryz.prog bF [d8 mP []] mem nx (.c (.tsl [])) mem nx:=by
 refine am.of dc (by simp) fun _=> ?_
 simp only[b9]
 refine bO (aa ?_)
 repeat' first|simp(disch:=omega) only[go_sem, *]|((with_reducible refine ab ?_ ?_)<;>intro h<;>try omega)
 refine bO (bO (aa ?_))
 repeat' first|simp(disch:=omega) only[go_sem, *]|((with_reducible refine ab ?_ ?_)<;>intro h<;>try omega)|(with_reducible refine af ?_ ?_)|(with_reducible refine ag (fun h=> ?_) ?_)
 ·refine fb (t:=true) rfl (fun _=> ?_) (fun e=>by cases e)
  refine bO (aa ?_)
  repeat' first|simp(disch:=omega) only[go_sem, *]|((with_reducible refine ab ?_ ?_)<;>intro h<;>try omega)
  refine CQ 2 rfl (oS ?_)
  repeat' first|simp(disch:=omega) only[go_sem, *,F3]|((with_reducible refine ab ?_ ?_)<;>intro h<;>try omega)
  all_goals rfl
 ·refine fb (t:=false) rfl (fun e=>by cases e) (fun _=>mh ?_)
  change AW _ _ _ _ _
  refine bO (aa ?_)
  repeat' first|simp(disch:=omega) only[go_sem, *]|((with_reducible refine ab ?_ ?_)<;>intro h<;>try omega)|(refine dN (by intro r hr;cases hr) ?_)
  refine oS ?_
  repeat' first|simp(disch:=omega) only[go_sem, *,F3]|((with_reducible refine ab ?_ ?_)<;>intro h<;>try omega)
  all_goals rfl
theorem IJ (mem:List (Nat×aS)) (nx:Nat) (x:aP) (l:List aP) (hl:l.length+1≤100000000):am Tryz.prog bF [d8 mP (x::l)] mem nx (.c (.ref nx)) ((nx,.arr 89 2 ((x::l).map mP))::mem) (nx+1):=by
 refine am.of dc (by simp) fun _=>aa ?_
 simp only[b9]
 have hok:bl 2 ((x::l).map mP):=by
  intro r hr
  obtain⟨y,_,rfl⟩:=List.mem_map.1 hr
  exact rfl
 repeat' first|simp(disch:=omega) only[go_sem, *]|((with_reducible refine ab ?_ ?_)<;>intro h<;>try omega)|(with_reducible refine af ?_ ?_)|(with_reducible refine ag (fun h=> ?_) ?_)|(refine dI (by intro r hr;cases hr) hok (by simp) (by simp;omega) (by simp;omega) ?_)
 all_goals first|rfl|(exfalso;have:=h (mP x) List.mem_cons_self;cases this)|(exfalso;have:=h (Ex.row x) List.mem_cons_self;rw[Ex.row_eq]at this;cases this)
theorem MB (mem:List (Nat×aS)) (nx:Nat):am Tryz.prog bN [d8 bQ []] mem nx (.c (.tsl [])) mem nx:=by
 refine am.of e8 (by simp) fun _=> ?_
 simp only[dE]
 refine bO (aa ?_)
 repeat' first|simp(disch:=omega) only[go_sem, *]|((with_reducible refine ab ?_ ?_)<;>intro h<;>try omega)
 refine bO (bO (aa ?_))
 repeat' first|simp(disch:=omega) only[go_sem, *]|((with_reducible refine ab ?_ ?_)<;>intro h<;>try omega)|(with_reducible refine af ?_ ?_)|(with_reducible refine ag (fun h=> ?_) ?_)
 ·refine fb (t:=true) rfl (fun _=> ?_) (fun e=>by cases e)
  refine bO (aa ?_)
  repeat' first|simp(disch:=omega) only[go_sem, *]|((with_reducible refine ab ?_ ?_)<;>intro h<;>try omega)
  refine CQ 2 rfl (oS ?_)
  repeat' first|simp(disch:=omega) only[go_sem, *,F3]|((with_reducible refine ab ?_ ?_)<;>intro h<;>try omega)
  all_goals rfl
 ·refine fb (t:=false) rfl (fun e=>by cases e) (fun _=>mh ?_)
  change AW _ _ _ _ _
  refine bO (aa ?_)
  repeat' first|simp(disch:=omega) only[go_sem, *]|((with_reducible refine ab ?_ ?_)<;>intro h<;>try omega)|(refine dN (by intro r hr;cases hr) ?_)
  refine oS ?_
  repeat' first|simp(disch:=omega) only[go_sem, *,F3]|((with_reducible refine ab ?_ ?_)<;>intro h<;>try omega)
  all_goals rfl
theorem Lo (mem:List (Nat×aS)) (nx:Nat) (x:ca) (l:List ca) (hl:l.length+1≤100000000):am Tryz.prog bN [d8 bQ (x::l)] mem nx (.c (.ref nx)) ((nx,.arr 44 2 ((x::l).map bQ))::mem) (nx+1):=by
 refine am.of e8 (by simp) fun _=>aa ?_
 simp only[dE]
 have hok:bl 2 ((x::l).map bQ):=by
  intro r hr
  obtain⟨y,_,rfl⟩:=List.mem_map.1 hr
  exact rfl
 repeat' first|simp(disch:=omega) only[go_sem, *]|((with_reducible refine ab ?_ ?_)<;>intro h<;>try omega)|(with_reducible refine af ?_ ?_)|(with_reducible refine ag (fun h=> ?_) ?_)|(refine dI (by intro r hr;cases hr) hok (by simp) (by simp;omega) (by simp;omega) ?_)
 all_goals first|rfl|(exfalso;have:=h (bQ x) List.mem_cons_self;cases this)|(exfalso;have:=h (Ex.row x) List.mem_cons_self;rw[Ex.row_eq]at this;cases this)
theorem Qd (mem:List (Nat×aS)) (nx:Nat):am Tryz.prog bv [d8 eB []] mem nx (.c (.tsl [])) mem nx:=by
 refine am.of d7 (by simp) fun _=> ?_
 simp only[cU]
 refine bO (aa ?_)
 repeat' first|simp(disch:=omega) only[go_sem, *]|((with_reducible refine ab ?_ ?_)<;>intro h<;>try omega)
 refine bO (bO (aa ?_))
 repeat' first|simp(disch:=omega) only[go_sem, *]|((with_reducible refine ab ?_ ?_)<;>intro h<;>try omega)|(with_reducible refine af ?_ ?_)|(with_reducible refine ag (fun h=> ?_) ?_)
 ·refine fb (t:=true) rfl (fun _=> ?_) (fun e=>by cases e)
  refine bO (aa ?_)
  repeat' first|simp(disch:=omega) only[go_sem, *]|((with_reducible refine ab ?_ ?_)<;>intro h<;>try omega)
  refine CQ 2 rfl (oS ?_)
  repeat' first|simp(disch:=omega) only[go_sem, *,F3]|((with_reducible refine ab ?_ ?_)<;>intro h<;>try omega)
  all_goals rfl
 ·refine fb (t:=false) rfl (fun e=>by cases e) (fun _=>mh ?_)
  change AW _ _ _ _ _
  refine bO (aa ?_)
  repeat' first|simp(disch:=omega) only[go_sem, *]|((with_reducible refine ab ?_ ?_)<;>intro h<;>try omega)|(refine dN (by intro r hr;cases hr) ?_)
  refine oS ?_
  repeat' first|simp(disch:=omega) only[go_sem, *,F3]|((with_reducible refine ab ?_ ?_)<;>intro h<;>try omega)
  all_goals rfl
theorem Nw (mem:List (Nat×aS)) (nx:Nat) (x:Ix) (l:List Ix) (hl:l.length+1≤100000000):am Tryz.prog bv [d8 eB (x::l)] mem nx (.c (.ref nx)) ((nx,.arr 92 4 ((x::l).map eB))::mem) (nx+1):=by
 refine am.of d7 (by simp) fun _=>aa ?_
 simp only[cU]
 have hok:bl 4 ((x::l).map eB):=by
  intro r hr
  obtain⟨y,_,rfl⟩:=List.mem_map.1 hr
  exact rfl
 repeat' first|simp(disch:=omega) only[go_sem, *]|((with_reducible refine ab ?_ ?_)<;>intro h<;>try omega)|(with_reducible refine af ?_ ?_)|(with_reducible refine ag (fun h=> ?_) ?_)|(refine dI (by intro r hr;cases hr) hok (by simp) (by simp;omega) (by simp;omega) ?_)
 all_goals first|rfl|(exfalso;have:=h (eB x) List.mem_cons_self;cases this)|(exfalso;have:=h (Ex.row x) List.mem_cons_self;rw[Ex.row_eq]at this;cases this)
theorem P4 (mem:List (Nat×aS)) (nx:Nat):am Tryz.prog bG [d8 Ex.row []] mem nx (.c (.tsl [])) mem nx:=by
 refine am.of eC (by simp) fun _=> ?_
 simp only[dk]
 refine bO (aa ?_)
 repeat' first|simp(disch:=omega) only[go_sem, *]|((with_reducible refine ab ?_ ?_)<;>intro h<;>try omega)
 refine bO (bO (aa ?_))
 repeat' first|simp(disch:=omega) only[go_sem, *]|((with_reducible refine ab ?_ ?_)<;>intro h<;>try omega)|(with_reducible refine af ?_ ?_)|(with_reducible refine ag (fun h=> ?_) ?_)
 ·refine fb (t:=true) rfl (fun _=> ?_) (fun e=>by cases e)
  refine bO (aa ?_)
  repeat' first|simp(disch:=omega) only[go_sem, *]|((with_reducible refine ab ?_ ?_)<;>intro h<;>try omega)
  refine CQ 2 rfl (oS ?_)
  repeat' first|simp(disch:=omega) only[go_sem, *,F3]|((with_reducible refine ab ?_ ?_)<;>intro h<;>try omega)
  all_goals rfl
 ·refine fb (t:=false) rfl (fun e=>by cases e) (fun _=>mh ?_)
  change AW _ _ _ _ _
  refine bO (aa ?_)
  repeat' first|simp(disch:=omega) only[go_sem, *]|((with_reducible refine ab ?_ ?_)<;>intro h<;>try omega)|(refine dN (by intro r hr;cases hr) ?_)
  refine oS ?_
  repeat' first|simp(disch:=omega) only[go_sem, *,F3]|((with_reducible refine ab ?_ ?_)<;>intro h<;>try omega)
  all_goals rfl
theorem Nt (mem:List (Nat×aS)) (nx:Nat) (x:Ex) (l:List Ex) (hl:l.length+1≤100000000):am Tryz.prog bG [d8 Ex.row (x::l)] mem nx (.c (.ref nx)) ((nx,.arr 48 13 ((x::l).map Ex.row))::mem) (nx+1):=by
 refine am.of eC (by simp) fun _=>aa ?_
 simp only[dk]
 have hok:bl 13 ((x::l).map Ex.row):=by
  intro r hr
  obtain⟨y,_,rfl⟩:=List.mem_map.1 hr
  exact Ex.row_eq y▸rfl
 repeat' first|simp(disch:=omega) only[go_sem, *]|((with_reducible refine ab ?_ ?_)<;>intro h<;>try omega)|(with_reducible refine af ?_ ?_)|(with_reducible refine ag (fun h=> ?_) ?_)|(refine dI (by intro r hr;cases hr) hok (by simp) (by simp;omega) (by simp;omega) ?_)
 all_goals first|rfl|(exfalso;have:=h (Ex.row x) List.mem_cons_self;cases this)|(exfalso;have:=h (Ex.row x) List.mem_cons_self;rw[Ex.row_eq]at this;cases this)
theorem NI (mem:List (Nat×aS)) (nx:Nat) (l:List aP) (h:l≠ []) (hl:l.length≤100000000):am Tryz.prog bF [d8 mP l] mem nx (.c (.ref nx)) ((nx,.arr 89 2 (l.map mP))::mem) (nx+1):=by
 cases l with
 |nil=>exact absurd rfl h
 |cons x l=>exact IJ mem nx x l (by simpa using hl)
theorem Pq (mem:List (Nat×aS)) (nx:Nat) (l:List ca) (h:l≠ []) (hl:l.length≤100000000):am Tryz.prog bN [d8 bQ l] mem nx (.c (.ref nx)) ((nx,.arr 44 2 (l.map bQ))::mem) (nx+1):=by
 cases l with
 |nil=>exact absurd rfl h
 |cons x l=>exact Lo mem nx x l (by simpa using hl)
theorem SC (mem:List (Nat×aS)) (nx:Nat) (l:List Ix) (h:l≠ []) (hl:l.length≤100000000):am Tryz.prog bv [d8 eB l] mem nx (.c (.ref nx)) ((nx,.arr 92 4 (l.map eB))::mem) (nx+1):=by
 cases l with
 |nil=>exact absurd rfl h
 |cons x l=>exact Nw mem nx x l (by simpa using hl)
theorem Tw (mem:List (Nat×aS)) (nx:Nat) (l:List Ex) (h:l≠ []) (hl:l.length≤100000000):am Tryz.prog bG [d8 Ex.row l] mem nx (.c (.ref nx)) ((nx,.arr 48 13 (l.map Ex.row))::mem) (nx+1):=by
 cases l with
 |nil=>exact absurd rfl h
 |cons x l=>exact Nt mem nx x l (by simpa using hl)
theorem K4 (l:List ByteArray) (hl:l.length≤100000000):ac Tryz.prog fL [d8 (fun s:ByteArray=> [pS s]) l] (d8 (fun s:ByteArray=> [pS s]) l):=by
 refine ac.of kR (by simp) fun _=>aa ?_
 simp only[fP]
 have hok:bl 1 (l.map fun s:ByteArray=> [pS s]):=ar fun x=>rfl
 cases l with
 |nil=>
  repeat' first|simp(disch:=omega) only[go_sem, *]|((with_reducible refine ab ?_ ?_)<;>intro h<;>try omega)|(with_reducible refine af ?_ ?_)|(with_reducible refine ag (fun h=> ?_) ?_)|(refine dN (by intro r hr;cases hr) ?_)
  all_goals rfl
 |cons x l=>
  have hl':l.length+1≤100000000:=by simpa using hl
  repeat' first|simp(disch:=omega) only[go_sem, *]|((with_reducible refine ab ?_ ?_)<;>intro h<;>try omega)|(with_reducible refine af ?_ ?_)|(with_reducible refine ag (fun h=> ?_) ?_)|(refine dI (by intro r hr;cases hr) hok (by simp) (by simp;omega) (by simp;omega) ?_)
  all_goals first|rfl|(exfalso;have:=h [pS x] List.mem_cons_self;cases this)
theorem lA (l:ca) (hl:l.2.length≤100000000):ac Tryz.prog de [dj l.1 l.2] (.tup [dj l.1 l.2,I 0]):=by
 refine ac.of D9 (by simp) fun _=>aa ?_
 simp only[wi]
 by_cases h:l.2= []
 ·rw[h]
  repeat' first|simp(disch:=omega) only[go_sem, *]|((with_reducible refine ab ?_ ?_)<;>intro h<;>try omega)|(with_reducible refine af ?_ ?_)|(with_reducible refine ag (fun h=> ?_) ?_)|(refine aq (Kw _ _) ?_)
  all_goals rfl
 ·have cl:=fun mem nx=>NI mem nx l.2 h hl
  repeat' first|simp(disch:=omega) only[go_sem, *]|((with_reducible refine ab ?_ ?_)<;>intro h<;>try omega)|(with_reducible refine af ?_ ?_)|(with_reducible refine ag (fun h=> ?_) ?_)|(refine aq (cl _ _) ?_)
  all_goals rfl
def qW (l:List Ix) (i:Nat) (c:AC):List (List AC):=((l.map eB).map fun r=>r.map AC.pure).set i (match l[i]? with
 |some x=> [.pure (pI x.1.1),.pure (aE x.1.2),.pure (pS x.2.1),c]
 |none=> [])
theorem xT (l:List Ix) (i:Nat) (c:AC):(qW l i c).length=l.length:=by simp[qW]
theorem zu {l:List Ix} {i:Nat} {c:AC} (h:i<l.length):(qW l i c)[i]? =some [.pure (pI l[i].1.1),.pure (aE l[i].1.2),.pure (pS l[i].2.1),c]:=by
 unfold qW
 rw[List.getElem?_set,if_pos rfl,if_pos (by simpa using h),List.getElem?_eq_getElem h]
theorem y1 {l:List Ix} {i:Nat} {c c':AC} (h:i<l.length):(qW l i c).set i [.pure (pI l[i].1.1),.pure (aE l[i].1.2),.pure (pS l[i].2.1),c']=qW l i c':=by
 unfold qW
 rw[List.set_set,List.getElem?_eq_getElem h]
theorem GP {l:List Ix} {i:Nat} (h:i<l.length):qW l i (.pure (c9 bQ l[i].2.2))=(l.map eB).map fun r=>r.map AC.pure:=by
 unfold qW
 rw[List.getElem?_eq_getElem h]
 refine List.ext_getElem? fun j=> ?_
 rw[List.getElem?_set]
 by_cases e:i=j
 ·subst e
  rw[if_pos rfl,if_pos (by simpa using h),List.getElem?_map,List.getElem?_map,List.getElem?_eq_getElem h]
  rfl
 ·rw[if_neg e]
theorem J9 {l:List Ix} {i:Nat} {c:AC} {f:AC→AC} (hf: ∀p,f (.pure p)= .pure p):(qW l i c).map (fun r=>r.map f)=qW l i (f c):=by
 unfold qW
 rw[List.map_set]
 congr 1
 ·rw[List.map_map]
  refine List.map_congr_left fun r _=> ?_
  simp[Function.comp_def,hf]
 ·split<;>simp[hf]
theorem Md {l:List Ix} {i:Nat} {c:AC} {m:List (Nat×Nat)}:(qW l i c).map (fun r=>r.map (b8 m))=qW l i (b8 m c):=J9 fun _=>rfl
theorem R3 {l:List Ix} {i:Nat} {c:AC} {n:Nat} {rs:List (List PC)}:(qW l i c).map (fun r=>r.map (o7 n rs))=qW l i (o7 n rs c):=J9 fun _=>rfl
theorem yJ {α:Type} {f:α→List PC} {l:List α} {i:Nat} (h:i<l.length) {r:List PC} (hr:r=f l[i]):(l.map f).set i r=l.map f:=by
 refine List.ext_getElem? fun j=> ?_
 rw[List.getElem?_set]
 by_cases e:i=j
 ·subst e
  rw[if_pos rfl,if_pos (by simpa using h),List.getElem?_map,List.getElem?_eq_getElem h,hr]
  rfl
 ·rw[if_neg e]
theorem Mc {N:Nat}: ∀{rows:List (List AC)},Kp N rows↔ ∀r∈rows,cp N r
 | []=>by simp[Kp]
 |r::rows=>by simp[Kp,Mc (rows:=rows)]
theorem LH {N:Nat}: ∀{xs:List AC},cp N xs↔ ∀x∈xs,gR N x
 | []=>by simp[cp]
 |x::xs=>by simp[cp,LH (xs:=xs)]
theorem OE {N:Nat} {l:List Ix} {i:Nat} {c:AC} (h:gR N c):Kp N (qW l i c):=by
 refine Mc.2 fun r hr=>LH.2 fun x hx=> ?_
 unfold qW at hr
 rcases List.mem_or_eq_of_mem_set hr with hr|rfl
 ·obtain⟨s,_,rfl⟩:=List.mem_map.1 hr
  obtain⟨p,_,rfl⟩:=List.mem_map.1 hx
  trivial
 ·split at hx
  ·simp only[List.mem_cons,List.not_mem_nil,or_false]at hx
   rcases hx with rfl|rfl|rfl|rfl
   ·trivial
   ·trivial
   ·trivial
   ·exact h
  ·cases hx
theorem Rp {P:Program} {nt:Nat} {c:ai} {σ:St} {Q:be→St→Prop} (nm i:Nat) (xs:List AC) (x y:AC) (hf:ak σ.mem nm=some (.var xs)) (hi:xs[i]? =some x) (hr: ∀(w:World) (V:Nat→Prop) (ι:Pl) (N:Nat) (v:Value),bL w V ι N x v→bL w V ι N y v)
  (h:AW P nt c {σ with mem:=cE σ.mem nm (.var (xs.set i y))} Q):AW P nt c σ Q:=
 fun c' hc w0 U rd ds ι a w hrd hs hz=>h c' hc w0 U rd ds ι a w hrd (hs.rebox hf (by
  obtain⟨b,vs,T,g1,g2,g3,g4⟩:=hs.box _ _ hf
  refine⟨b,vs,T,g1,g2,g3,aJ.of_get (by rw[List.length_set];exact g4.length) fun j z v hj hv=> ?_⟩
  rw[List.getElem?_set]at hj
  by_cases e1:i=j
  ·subst e1
   rw[if_pos rfl,if_pos (List.getElem?_eq_some_iff.1 hi).1]at hj
   cases hj
   obtain⟨v',hv',hx⟩:=g4.get hi
   rw[hv']at hv
   cases hv
   exact hr _ _ _ _ _ hx
  ·rw[if_neg e1]at hj
   obtain⟨v',hv',hx⟩:=g4.get hj
   rw[hv']at hv
   cases hv
   exact hx)) hz
theorem TJ {rows:List (List PC)} (w:World) (V:Nat→Prop) (ι:Pl) (N:Nat) (v:Value) (h:bL w V ι N (.tsl rows) v):bL w V ι N (.pure (.slice rows)) v:=by
 cases h with
 |tsl h=>exact .pure h
theorem UA (mem:List (Nat×aS)) (nx:Nat) {l:List Ix} (h:l= []):am Tryz.prog bv [d8 eB l] mem nx (.c (.tsl [])) mem nx:=h▸Qd mem nx
theorem Tx (mem:List (Nat×aS)) (nx:Nat) {l:List ca} (h:l= []):am Tryz.prog bN [d8 bQ l] mem nx (.c (.tsl [])) mem nx:=h▸MB mem nx
theorem Uv (mem:List (Nat×aS)) (nx:Nat) {l:List Ex} (h:l= []):am Tryz.prog bG [d8 Ex.row l] mem nx (.c (.tsl [])) mem nx:=h▸P4 mem nx
abbrev Xf (e:Ex) (c c2:AC):aS:= .var [.pure (pI e.op),.pure (pS e.name),.pure (pI e.val.1),.pure (pI e.val.2),.pure (pI e.ty.1),.pure (pI e.ty.2.1),.pure (pI e.ty.2.2.1),.pure (pI e.ty.2.2.2.1),.pure (pI e.ty.2.2.2.2),.pure (pI e.lin.1),.pure (aE e.lin.2),c,c2]
abbrev Xc:aS:= .var [.pure (pI 0),.pure (pS ⟨⟨[]⟩⟩),.pure (pI 0),.pure (pI 0),.pure (pI 0),.pure (pI 0),.pure (pI 0),.pure (pI 0),.pure (pI 0),.pure (pI 0),.nils,.nils,.nils]
def Ns (e:Ex):Prop:= ∀a∈e.pre,a.idx.length≤1000000∧a.args.length≤1000000∧(∀l∈a.forms,l.2.length≤100000000)∧ ∀x∈a.idx,x.2.2.length≤1000000
theorem Pw {e:Ex} (h:Ns e):e.idx.length≤1000000∧e.args.length≤1000000∧(∀l∈e.forms,l.2.length≤100000000)∧ ∀x∈e.idx,x.2.2.length≤1000000:=h e (by rw[Ex.pre_eq];exact List.mem_cons_self)
theorem QE {e a:Ex} (h:Ns e) (ha:a∈e.args):Ns a:=fun b hb=>h b (by
 rw[Ex.pre_eq]
 refine List.mem_cons_of_mem _ ?_
 generalize e.args=l at ha
 induction l with
 |nil=>cases ha
 |cons x r ih=>
  rw[Ex.pres]
  rcases List.mem_cons.1 ha with rfl|ha
  ·exact List.mem_append_left _ hb
  ·exact List.mem_append_right _ (ih ha))
abbrev Xe (e:Ex):aS:= .var [.pure (pI e.op),.pure (pS e.name),.pure (pI e.val.1),.pure (pI e.val.2),.pure (pI e.ty.1),.pure (pI e.ty.2.1),.pure (pI e.ty.2.2.1),.pure (pI e.ty.2.2.2.1),.pure (pI e.ty.2.2.2.2),.pure (pI e.lin.1),.pure (aE e.lin.2),.pure (c9 eB e.idx),.pure (.slice (e.args.map Ex.row))]
set_option maxHeartbeats 8000000 in
theorem zb (e:Ex):Ns e→ac Tryz.prog lI [fm e,.c (.clo de [])] (.tup [fm e,I 0]):=by
 refine Ex.ind (p:=fun e=>Ns e→ac Tryz.prog lI [fm e,.c (.clo de [])] (.tup [fm e,I 0])) (fun e ih hok=> ?_) e
 obtain⟨h1,h2,h3,h4⟩:=Pw hok
 have pc:=lA e.lin (h3 _ List.mem_cons_self)
 refine ac.of AA (by simp) fun hb=>aa ?_
 simp only[sj]
 refine(Classical.em (e.idx= [])).elim (fun hI=> ?_) (fun hI=> ?_)
 focus
  have cI:=fun mem nx=>UA mem nx hI
  repeat' first|simp(disch:=omega) only[go_sem]|((with_reducible refine ab ?_ ?_)<;>intro h<;>try first|omega|simp(disch:=omega) only[go_sem, *])|(refine bS pc rfl rfl ?_)|(refine aq (cI _ _) ?_)
  refine Rp 2 11 _ (.tsl []) (.pure (c9 eB e.idx)) rfl rfl (by rw[hI];exact TJ) ?_
  refine aj (fun k:Nat=>⟨[(34,I k),(33,I e.idx.length),(32,.c (.pure (c9 eB e.idx))),(6,.c (.ptr 2 0)),(4,.c (.ptr 1 0)),(2,.c (.ptr 0 0)),(1,.c (.clo de []))], [(2,Xf e (.pure (c9 eB e.idx)) (.pure (.slice (e.args.map Ex.row)))),(1,Xc),(0,Xe e)],4,0⟩) (fun k=>k=0) (fun k=>0) ⟨0, [],rfl,by simp[cE]⟩ ?_
  rintro k rfl
  have hl:e.idx.length=0:=by rw[hI];rfl
  clear hI
  refine aa ?_
  repeat' first|simp(disch:=omega) only[go_sem,hl]|((with_reducible refine ab ?_ ?_)<;>intro h<;>try first|omega|simp(disch:=omega) only[go_sem, *,hl])
  clear hl
 rotate_left
 focus
  have cI:=fun mem nx=>SC mem nx e.idx hI (by omega)
  repeat' first|simp(disch:=omega) only[go_sem]|((with_reducible refine ab ?_ ?_)<;>intro h<;>try first|omega|simp(disch:=omega) only[go_sem, *])|(refine bS pc rfl rfl ?_)|(refine aq (cI _ _) ?_)
  refine aj (fun k:Nat=>⟨[(34,I k),(33,I e.idx.length),(32,.c (.pure (c9 eB e.idx))),(6,.c (.ptr 2 0)),(4,.c (.ptr 1 0)),(2,.c (.ptr 0 0)),(1,.c (.clo de []))], [(3,.arr 92 4 (e.idx.map eB)),(2,Xf e (.ref 3) (.pure (.slice (e.args.map Ex.row)))),(1,Xc),(0,Xe e)],4,0⟩) (fun k=>k≤e.idx.length) (fun k=>e.idx.length-k) ⟨0, [],by omega,by simp[cE]⟩ ?_
  intro k hk
  by_cases hlt:k<e.idx.length
  rotate_left
  focus
   refine ri [3] ?_
   simp(disch:=omega) only[go_sem]
   refine aa ?_
   clear hI
   repeat' first|simp(disch:=omega) only[go_sem]|((with_reducible refine ab ?_ ?_)<;>intro h<;>try first|omega|simp(disch:=omega) only[go_sem, *])
  rotate_left
  ·have pk:=lA e.idx[k].1 (h3 _ (List.mem_cons_of_mem _ (List.mem_flatMap.2 ⟨_,List.getElem_mem hlt,List.mem_cons_self⟩)))
   have hat:=h4 _ (List.getElem_mem hlt)
   have sI:(e.idx.map eB).set k [pI e.idx[k].1.1,aE e.idx[k].1.2,pS e.idx[k].2.1,c9 bQ e.idx[k].2.2]=e.idx.map eB:=yJ hlt rfl
   by_cases hA:e.idx[k].2.2= []
   ·have cA:=fun mem nx=>Tx mem nx hA
    have sE:(e.idx.map eB).set k [pI e.idx[k].1.1,aE e.idx[k].1.2,pS e.idx[k].2.1,.slice []]=e.idx.map eB:=yJ hlt (by unfold eB;rw[hA];rfl)
    have hl:e.idx[k].2.2.length=0:=by rw[hA];rfl
    clear hA
    refine aa ?_
    repeat' first|simp(disch:=omega) only[go_sem,ae hlt,eB,wrap_i64,sI,sE]|((with_reducible refine ab ?_ ?_)<;>intro h<;>try first|omega|simp(disch:=omega) only[go_sem, *,ae hlt,eB,wrap_i64,sI,sE])|(with_reducible refine af ?_ ?_)|(with_reducible refine ag (fun h=> ?_) ?_)|(refine bS pk rfl rfl ?_)|(refine aq (cA _ _) ?_)
    all_goals
     refine aj (fun _:Nat=>⟨[(66,I 0),(65,I 0),(34,I k),(33,I e.idx.length),(32,.c (.pure (c9 eB e.idx))),(6,.c (.ptr 2 0)),(4,.c (.ptr 1 0)),(2,.c (.ptr 0 0)),(1,.c (.clo de []))], [(3,.arr 92 4 (e.idx.map eB)),(2,Xf e (.ref 3) (.pure (.slice (e.args.map Ex.row)))),(1,Xc),(0,Xe e)],4,0⟩) (fun _=>True) (fun _=>0) ⟨0, [],trivial,by simp[cE,hl]⟩ ?_
     rintro _ _
     refine aa ?_
     repeat' first|simp(disch:=omega) only[go_sem,wrap_i64]|((with_reducible refine ab ?_ ?_)<;>intro h<;>try first|omega|simp(disch:=omega) only[go_sem, *,wrap_i64])
     exact⟨k+1, [],by omega,by omega,by simp⟩
   ·have cA:=fun mem nx=>Pq mem nx _ hA (by omega)
    refine WC 3 92 4 _ rfl ?_
    rw[←GP hlt]
    refine aa ?_
    repeat' first|simp(disch:=omega) only[go_sem,ae hlt,eB,wrap_i64,zu hlt,xT,y1 hlt]|((with_reducible refine ab ?_ ?_)<;>intro h<;>try first|omega|simp(disch:=omega) only[go_sem, *,ae hlt,eB,wrap_i64,zu hlt,xT,y1 hlt])|(with_reducible refine af ?_ ?_)|(with_reducible refine ag (fun h=> ?_) ?_)|(refine bS pk rfl rfl ?_)|(refine aq (cA _ _) ?_)
    all_goals
     refine aj (fun j:Nat=>⟨[(66,I j),(65,I e.idx[k].2.2.length),(64,.c (.pure (c9 bQ e.idx[k].2.2))),(34,I k),(33,I e.idx.length),(32,.c (.pure (c9 eB e.idx))),(8,I k),(6,.c (.ptr 2 0)),(4,.c (.ptr 1 0)),(2,.c (.ptr 0 0)),(1,.c (.clo de []))], [(5,.arr 44 2 (e.idx[k].2.2.map bQ)),(3,.arn 92 4 (qW e.idx k (.ref 5))),(2,Xf e (.ref 3) (.pure (.slice (e.args.map Ex.row)))),(1,Xc),(0,Xe e)],6,0⟩) (fun j=>j≤e.idx[k].2.2.length) (fun j=>e.idx[k].2.2.length-j) ⟨0, [],by omega,(by simp[cE,Md];exact OE (by simp[gR]))⟩ ?_
     intro j hj
     by_cases hjl:j<e.idx[k].2.2.length
     ·have pj:=lA e.idx[k].2.2[j] (h3 _ (List.mem_cons_of_mem _ (List.mem_flatMap.2 ⟨_,List.getElem_mem hlt,List.mem_cons_of_mem _ (List.getElem_mem hjl)⟩)))
      have sJ:(e.idx[k].2.2.map bQ).set j [pI e.idx[k].2.2[j].1,aE e.idx[k].2.2[j].2]=e.idx[k].2.2.map bQ:=yJ hjl rfl
      refine aa ?_
      repeat' first|simp(disch:=omega) only[go_sem,ae hjl,bQ,wrap_i64,zu hlt,xT,y1 hlt,sJ]|((with_reducible refine ab ?_ ?_)<;>intro h<;>try first|omega|simp(disch:=omega) only[go_sem, *,ae hjl,bQ,wrap_i64,zu hlt,xT,y1 hlt,sJ])|(with_reducible refine af ?_ ?_)|(with_reducible refine ag (fun h=> ?_) ?_)|(refine bS pj rfl rfl ?_)
      all_goals exact⟨j+1, [],by omega,by omega,(by simp[cE,Md];exact OE (by simp[gR]))⟩
     ·refine ri [5] ?_
      simp(disch:=omega) only[go_sem,R3,GP hlt]
      refine V5 3 92 4 _ rfl ?_
      refine aa ?_
      repeat' first|simp(disch:=omega) only[go_sem,wrap_i64]|((with_reducible refine ab ?_ ?_)<;>intro h<;>try first|omega|simp(disch:=omega) only[go_sem, *,wrap_i64])
      exact⟨k+1, [],by omega,by omega,by simp[cE]⟩
 all_goals
  clear cI pc
  by_cases hX:e.args= []
  ·have cX:=fun mem nx=>Uv mem nx hX
   have hl:e.args.length=0:=by rw[hX];rfl
   have hr:e.args.map Ex.row= []:=by rw[hX];rfl
   clear hX
   repeat' first|simp(disch:=omega) only[go_sem,hl]|((with_reducible refine ab ?_ ?_)<;>intro h<;>try first|omega|simp(disch:=omega) only[go_sem, *,hl])|(refine aq (cX _ _) ?_)
   refine aj (fun _:Nat=>⟨[(98,I 0),(97,I 0),(6,.c (.ptr 2 0)),(4,.c (.ptr 1 0)),(2,.c (.ptr 0 0)),(1,.c (.clo de []))], [(2,Xf e (.pure (c9 eB e.idx)) (.tsl [])),(1,Xc),(0,Xe e)],5,0⟩) (fun _=>True) (fun _=>0) ⟨0, [],trivial,by simp[cE,hl]⟩ ?_
   rintro _ _
   refine aa ?_
   repeat' first|simp(disch:=omega) only[go_sem]|((with_reducible refine ab ?_ ?_)<;>intro h<;>try first|omega|simp(disch:=omega) only[go_sem, *])
   all_goals(unfold fm;rw[hr])
  ·have cX:=fun mem nx=>Tw mem nx e.args hX (by omega)
   repeat' first|simp(disch:=omega) only[go_sem]|((with_reducible refine ab ?_ ?_)<;>intro h<;>try first|omega|simp(disch:=omega) only[go_sem, *])|(refine aq (cX _ _) ?_)
   refine aj (fun j:Nat=>⟨[(98,I j),(97,I e.args.length),(96,.c (.pure (.slice (e.args.map Ex.row)))),(6,.c (.ptr 2 0)),(4,.c (.ptr 1 0)),(2,.c (.ptr 0 0)),(1,.c (.clo de []))], [(4,.arr 48 13 (e.args.map Ex.row)),(2,Xf e (.pure (c9 eB e.idx)) (.ref 4)),(1,Xc),(0,Xe e)],5,0⟩) (fun j=>j≤e.args.length) (fun j=>e.args.length-j) ⟨0, [],by omega,by simp[cE]⟩ ?_
   intro j hj
   by_cases hjl:j<e.args.length
   ·have pj:=ih _ (List.getElem_mem hjl) (QE hok (List.getElem_mem hjl))
    generalize hg:e.args[j]=g at*
    have sX:(e.args.map Ex.row).set j [pI g.op,pS g.name,pI g.val.1,pI g.val.2,pI g.ty.1,pI g.ty.2.1,pI g.ty.2.2.1,pI g.ty.2.2.2.1,pI g.ty.2.2.2.2,pI g.lin.1,aE g.lin.2,c9 eB g.idx,.slice (g.args.map Ex.row)]=e.args.map Ex.row:=yJ hjl (by rw[hg];exact(Ex.row_eq _).symm)
    have hgt:(e.args.map Ex.row)[j]? =some (Ex.row g):=by rw[ae hjl,hg]
    clear hg
    refine aa ?_
    repeat' first|simp(disch:=omega) only[go_sem,hgt,Ex.row_eq,wrap_i64,sX]|((with_reducible refine ab ?_ ?_)<;>intro h<;>try first|omega|simp(disch:=omega) only[go_sem, *,hgt,Ex.row_eq,wrap_i64,sX])|(with_reducible refine af ?_ ?_)|(with_reducible refine ag (fun h=> ?_) ?_)|(refine bS pj rfl rfl ?_)
    all_goals exact⟨j+1, [],by omega,by omega,by simp[cE]⟩
   ·refine ri [4] ?_
    simp(disch:=omega) only[go_sem]
    refine aa ?_
    repeat' first|simp(disch:=omega) only[go_sem]|((with_reducible refine ab ?_ ?_)<;>intro h<;>try first|omega|simp(disch:=omega) only[go_sem, *])
    all_goals rfl
theorem FT {e:Ex} (h:Ns e):ac Tryz.prog BK [fm e] (fm e):=by
 refine ac.of I0 (by simp) fun hb=>aa ?_
 simp only[BB]
 have pc:=zb e h
 repeat' first|simp(disch:=omega) only[go_sem, *]|((with_reducible refine ab ?_ ?_)<;>intro h<;>try omega)|(with_reducible refine af ?_ ?_)|(with_reducible refine ag (fun h=> ?_) ?_)|(refine bS pc rfl rfl ?_)
 all_goals rfl
theorem yS {α:Type} {f:α→List PC} {l:List α} {k:Nat} (h:k<l.length) {r:List PC} (hr:r=f l[k]):(l.take k).map f++ [r]=(l.take (k+1)).map f:=by
 rw[List.take_succ_eq_append_getElem h,List.map_append,hr]
 rfl
theorem lp (l:List eY) (hl:l.length≤1000000) (h: ∀x∈l,x.2.2.length≤1000):ac Tryz.prog mY [d8 ed l] (d8 ed l):=by
 refine ac.of vp (by simp) fun hb=>aa ?_
 simp only[nw]
 repeat' first|simp(disch:=omega) only[go_sem, *]|((with_reducible refine ab ?_ ?_)<;>intro h<;>try omega)
 refine dv 3 73 3 rfl (by decide) ?_
 refine aj (fun k:Nat=>⟨[(8,I k),(7,I l.length),(6,d8 ed l),(3,.c (.ref 0))], [(0,.arr 73 3 ((l.take k).map ed))],1,0⟩) (fun k=>k≤l.length) (fun k=>l.length-k) ⟨0, [],by omega,by simp⟩ ?_
 intro k hk
 refine aa ?_
 by_cases hlt:k<l.length
 ·have pk:=eM l[k].2 (h _ (List.getElem_mem hlt))
  have HT:=Lib.hid (yS (f:=ed) hlt (r:= [pS l[k].1,pI l[k].2.1,aE l[k].2.2]) rfl)
  repeat' first|simp(disch:=omega) only[go_sem, *,ae hlt,ed,wrap_i64]|((with_reducible refine ab ?_ ?_)<;>intro h<;>try omega)|(with_reducible refine af ?_ ?_)|(with_reducible refine ag (fun h=> ?_) ?_)|(refine bS pk rfl rfl ?_)|(refine aN rfl (by intro h;cases h) (aI rfl) (by simp;omega) (by simp;omega) ?_)
  all_goals
   rw[HT.out]
   exact⟨k+1, [(0,2)],by omega,by omega,by simp⟩
 ·repeat' first|simp(disch:=omega) only[go_sem, *]|((with_reducible refine ab ?_ ?_)<;>intro h<;>try omega)
  rw[List.take_of_length_le (by omega)]
def X0 (p:bK):Prop:=(p.sizes.length≤1000∧p.wher.length≤1000∧p.params.length≤1000∧p.defs.length≤1000∧p.outs.length≤1000)∧(∀c∈p.wher,c.1.2.length≤1000)∧
 (∀x∈p.params,x.2.2.length≤1000∧ ∀l∈x.2.2,l.2.length≤1000)∧ ∀d∈p.defs,(d.dims.length≤1000∧ ∀a∈d.dims,a.2.2.length≤1000)∧(d.red.length≤1000∧ ∀a∈d.red,a.2.2.length≤1000)∧Ns d.body
abbrev W5 (p:bK) (c1 c2 c3:AC):aS:= .var [.pure (cH p.sizes),c1,c2,c3,.pure (cH p.outs)]
set_option maxHeartbeats 8000000 in
theorem Ah {p:bK} (hp:X0 p):ac Tryz.prog gk [fK p] (fK p):=by
 obtain⟨⟨z1,z2,z3,z4,z5⟩,hw,hq,hd⟩:=hp
 have c1:=K4 p.sizes (by omega)
 have c5:=K4 p.outs (by omega)
 refine ac.of B8 (by simp) fun hb=>aa ?_
 simp only[ud]
 repeat' first|simp(disch:=omega) only[go_sem, *]|((with_reducible refine ab ?_ ?_)<;>intro h<;>try omega)|(with_reducible refine af ?_ ?_)|(with_reducible refine ag (fun h=> ?_) ?_)|(refine bS c1 rfl rfl ?_)|(refine bS c5 rfl rfl ?_)
 all_goals
  refine fc 2 1 60 3 _ rfl rfl (by decide) ?_
  refine aj (fun k:Nat=>⟨[(20,I k),(19,I p.wher.length),(18,d8 cP p.wher),(3,.c (.ptr 2 0)),(2,.c (.ptr 1 0)),(1,.c (.ptr 0 0))], [(3,.arr 60 3 ((p.wher.take k).map cP)),(2,W5 p (.ref 3) .nils .nils),(1,.var [.nils,.nils,.nils,.nils,.nils]),(0,d6 p)],4,0⟩) (fun k=>k≤p.wher.length) (fun k=>p.wher.length-k) ⟨0, [],by omega,by simp[cE]⟩ ?_
  intro k hk
  by_cases hlt:k<p.wher.length
  ·have pk:=eM p.wher[k].1 (hw _ (List.getElem_mem hlt))
   have HT:=Lib.hid (yS (f:=cP) hlt (r:= [pI p.wher[k].1.1,aE p.wher[k].1.2,pB p.wher[k].2]) rfl)
   refine aa ?_
   repeat' first|simp(disch:=omega) only[go_sem, *,ae hlt,cP,wrap_i64]|((with_reducible refine ab ?_ ?_)<;>intro h<;>try omega)|(with_reducible refine af ?_ ?_)|(with_reducible refine ag (fun h=> ?_) ?_)|(refine bS pk rfl rfl ?_)|(refine aN rfl (by intro h;cases h) (aI rfl) (by simp;omega) (by simp;omega) ?_)
   all_goals
    rw[HT.out]
    exact⟨k+1, [(3,5)],by omega,by omega,by simp[cE]⟩
  refine ri [3] ?_
  simp(disch:=omega) only[go_sem]
  refine aa ?_
  rw[show p.wher.take k=p.wher from List.take_of_length_le (by omega)]
  repeat' first|simp(disch:=omega) only[go_sem, *]|((with_reducible refine ab ?_ ?_)<;>intro h<;>try omega)
  clear hlt hk
  refine fc 2 2 94 7 _ rfl rfl (by decide) ?_
  refine aj (fun k:Nat=>⟨[(39,I k),(38,I p.params.length),(37,d8 gV p.params),(3,.c (.ptr 2 0)),(2,.c (.ptr 1 0)),(1,.c (.ptr 0 0))], [(4,.arr 94 7 ((p.params.take k).map gV)),(2,W5 p (.pure (c9 cP p.wher)) (.ref 4) .nils),(1,.var [.nils,.nils,.nils,.nils,.nils]),(0,d6 p)],5,0⟩) (fun k=>k≤p.params.length) (fun k=>p.params.length-k) ⟨0, [],by omega,by simp[cE]⟩ ?_
  intro k hk
  by_cases hlt:k<p.params.length
  ·have pk:=jP p.params[k].2.2 (hq _ (List.getElem_mem hlt)).1 (hq _ (List.getElem_mem hlt)).2
   generalize hg:p.params[k]=g at pk
   have HT:=Lib.hid (yS (f:=gV) hlt (r:= [pS g.1,pI g.2.1.1,pI g.2.1.2.1,pI g.2.1.2.2.1,pI g.2.1.2.2.2.1,pI g.2.1.2.2.2.2,c9 bQ g.2.2]) (by rw[hg];rfl))
   have hgt:(p.params.map gV)[k]? =some (gV g):=by rw[ae hlt,hg]
   clear hg
   refine aa ?_
   repeat' first|simp(disch:=omega) only[go_sem, *,hgt,gV,wrap_i64]|((with_reducible refine ab ?_ ?_)<;>intro h<;>try omega)|(with_reducible refine af ?_ ?_)|(with_reducible refine ag (fun h=> ?_) ?_)|(refine bS pk rfl rfl ?_)|(refine aN rfl (by intro h;cases h) (aI rfl) (by simp;omega) (by simp;omega) ?_)
   all_goals
    rw[HT.out]
    exact⟨k+1, [(4,6)],by omega,by omega,by simp[cE]⟩
  refine ri [4] ?_
  simp(disch:=omega) only[go_sem]
  refine aa ?_
  rw[show p.params.take k=p.params from List.take_of_length_le (by omega)]
  repeat' first|simp(disch:=omega) only[go_sem, *]|((with_reducible refine ab ?_ ?_)<;>intro h<;>try omega)
  clear hlt hk
  refine fc 2 3 50 22 _ rfl rfl (by decide) ?_
  refine aj (fun k:Nat=>⟨[(57,I k),(56,I p.defs.length),(55,d8 cr p.defs),(3,.c (.ptr 2 0)),(2,.c (.ptr 1 0))], [(5,.arr 50 22 ((p.defs.take k).map cr)),(2,W5 p (.pure (c9 cP p.wher)) (.pure (c9 gV p.params)) (.ref 5)),(1,.var [.nils,.nils,.nils,.nils,.nils])],6,0⟩) (fun k=>k≤p.defs.length) (fun k=>p.defs.length-k) ⟨0, [],by omega,by simp[cE]⟩ ?_
  intro k hk
  by_cases hlt:k<p.defs.length
  ·have hdk:=hd _ (List.getElem_mem hlt)
   have p1:=lp p.defs[k].dims (by have:=hdk.1.1;omega) hdk.1.2
   have p2:=lp p.defs[k].red (by have:=hdk.2.1.1;omega) hdk.2.1.2
   have p3:=FT hdk.2.2
   clear hdk
   generalize hg:p.defs[k]=g at p1 p2 p3
   have HT:=Lib.hid (yS (f:=cr) hlt (r:= [pS g.name,pI g.ty.1,pI g.ty.2.1,pI g.ty.2.2.1,pI g.ty.2.2.2.1,pI g.ty.2.2.2.2,c9 ed g.dims,c9 ed g.red,pI g.fold,pI g.body.op,pS g.body.name,pI g.body.val.1,pI g.body.val.2,pI g.body.ty.1,pI g.body.ty.2.1,pI g.body.ty.2.2.1,pI g.body.ty.2.2.2.1,pI g.body.ty.2.2.2.2,pI g.body.lin.1,aE g.body.lin.2,c9 eB g.body.idx,.slice (g.body.args.map Ex.row)]) (by rw[hg];rfl))
   have hgt:(p.defs.map cr)[k]? =some (cr g):=by rw[ae hlt,hg]
   clear hg
   refine aa ?_
   repeat' first|simp(disch:=omega) only[go_sem, *,hgt,cr,wrap_i64]|((with_reducible refine ab ?_ ?_)<;>intro h<;>try omega)|(with_reducible refine af ?_ ?_)|(with_reducible refine ag (fun h=> ?_) ?_)|(refine bS p1 rfl rfl ?_)|(refine bS p2 rfl rfl ?_)|(refine bS p3 rfl rfl ?_)|(refine aN rfl (by intro h;cases h) (aI rfl) (by simp;omega) (by simp;omega) ?_)
   all_goals
    rw[HT.out]
    exact⟨k+1, [(5,7)],by omega,by omega,by simp[cE]⟩
  refine ri [5] ?_
  simp(disch:=omega) only[go_sem]
  refine aa ?_
  rw[show p.defs.take k=p.defs from List.take_of_length_le (by omega)]
  repeat' first|simp(disch:=omega) only[go_sem, *]|((with_reducible refine ab ?_ ?_)<;>intro h<;>try omega)
  all_goals rfl
end Go.Proofs.YthkaaahphlneiaaGreatDoor
