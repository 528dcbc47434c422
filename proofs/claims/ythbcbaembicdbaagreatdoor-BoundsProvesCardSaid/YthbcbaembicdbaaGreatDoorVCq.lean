import Derived.Test.YthbcbaembicdbaaGreatDoorV17a
set_option linter.unusedVariables false
set_option linter.unusedSimpArgs false
set_option maxRecDepth 20000
set_option maxHeartbeats 4000000
set_option maxRecDepth 1000000
namespace Go.Proofs.YthbcbaembicdbaaGreatDoor
open Go.Abs Go.RowKit
theorem Nr (mem:List (Nat×bc)) (nx:Nat):au Tryz.prog bU [j5 mP []] mem nx (.c (.tsl [])) mem nx:=by
 refine au.of dp (by simp) fun _=> ?_
 conv in cG=>cbv
 refine bN (aa ?_)
 repeat' first|simp(disch:=omega) only[go_sem, *]|((with_reducible apply ab)<;>intro h<;>try omega)
 refine bN (bN (aa ?_))
 repeat' first|simp(disch:=omega) only[go_sem, *]|((with_reducible apply ab)<;>intro h<;>try omega)|(with_reducible apply ag)|(with_reducible refine aj (fun h=> ?_) ?_)
 ·refine eR (t:=true) rfl (fun _=> ?_) (fun e=>by cases e)
  refine bN (aa ?_)
  repeat' first|simp(disch:=omega) only[go_sem, *]|((with_reducible apply ab)<;>intro h<;>try omega)
  refine z8 2 rfl (mj ?_)
  repeat' first|simp(disch:=omega) only[go_sem, *,Bq]|((with_reducible apply ab)<;>intro h<;>try omega)
  all_goals rfl
 ·refine eR (t:=false) rfl (fun e=>by cases e) (fun _=>kU ?_)
  change AW _ _ _ _ _
  refine bN (aa ?_)
  repeat' first|simp(disch:=omega) only[go_sem, *]|((with_reducible apply ab)<;>intro h<;>try omega)|(refine dI (by intro r hr;cases hr) ?_)
  refine mj ?_
  repeat' first|simp(disch:=omega) only[go_sem, *,Bq]|((with_reducible apply ab)<;>intro h<;>try omega)
  all_goals rfl
theorem LD (mem:List (Nat×bc)) (nx:Nat) (x:bJ) (l:List bJ) (hl:l.length+1≤100000000):au Tryz.prog bU [j5 mP (x::l)] mem nx (.c (.ref nx)) ((nx,.arr 114 2 ((x::l).map mP))::mem) (nx+1):=by
 refine au.of dp (by simp) fun _=>aa ?_
 conv in cG=>cbv
 have hok:bl 2 ((x::l).map mP):=by
  intro r hr
  obtain⟨y,_,rfl⟩:=List.mem_map.1 hr
  exact rfl
 repeat' first|simp(disch:=omega) only[go_sem, *]|((with_reducible apply ab)<;>intro h<;>try omega)|(with_reducible apply ag)|(with_reducible refine aj (fun h=> ?_) ?_)|(refine dv (by intro r hr;cases hr) hok (by simp) (by simp;omega) (by simp;omega) ?_)
 all_goals first|rfl|(exfalso;have:=h (mP x) List.mem_cons_self;cases this)|(exfalso;have:=h (Ex.row x) List.mem_cons_self;rw[Ex.row_eq]at this;cases this)
theorem PZ (mem:List (Nat×bc)) (nx:Nat):au Tryz.prog b6 [j5 cd []] mem nx (.c (.tsl [])) mem nx:=by
 refine au.of fA (by simp) fun _=> ?_
 conv in dK=>cbv
 refine bN (aa ?_)
 repeat' first|simp(disch:=omega) only[go_sem, *]|((with_reducible apply ab)<;>intro h<;>try omega)
 refine bN (bN (aa ?_))
 repeat' first|simp(disch:=omega) only[go_sem, *]|((with_reducible apply ab)<;>intro h<;>try omega)|(with_reducible apply ag)|(with_reducible refine aj (fun h=> ?_) ?_)
 ·refine eR (t:=true) rfl (fun _=> ?_) (fun e=>by cases e)
  refine bN (aa ?_)
  repeat' first|simp(disch:=omega) only[go_sem, *]|((with_reducible apply ab)<;>intro h<;>try omega)
  refine z8 2 rfl (mj ?_)
  repeat' first|simp(disch:=omega) only[go_sem, *,Bq]|((with_reducible apply ab)<;>intro h<;>try omega)
  all_goals rfl
 ·refine eR (t:=false) rfl (fun e=>by cases e) (fun _=>kU ?_)
  change AW _ _ _ _ _
  refine bN (aa ?_)
  repeat' first|simp(disch:=omega) only[go_sem, *]|((with_reducible apply ab)<;>intro h<;>try omega)|(refine dI (by intro r hr;cases hr) ?_)
  refine mj ?_
  repeat' first|simp(disch:=omega) only[go_sem, *,Bq]|((with_reducible apply ab)<;>intro h<;>try omega)
  all_goals rfl
theorem Oi (mem:List (Nat×bc)) (nx:Nat) (x:bY) (l:List bY) (hl:l.length+1≤100000000):au Tryz.prog b6 [j5 cd (x::l)] mem nx (.c (.ref nx)) ((nx,.arr 44 2 ((x::l).map cd))::mem) (nx+1):=by
 refine au.of fA (by simp) fun _=>aa ?_
 conv in dK=>cbv
 have hok:bl 2 ((x::l).map cd):=by
  intro r hr
  obtain⟨y,_,rfl⟩:=List.mem_map.1 hr
  exact rfl
 repeat' first|simp(disch:=omega) only[go_sem, *]|((with_reducible apply ab)<;>intro h<;>try omega)|(with_reducible apply ag)|(with_reducible refine aj (fun h=> ?_) ?_)|(refine dv (by intro r hr;cases hr) hok (by simp) (by simp;omega) (by simp;omega) ?_)
 all_goals first|rfl|(exfalso;have:=h (cd x) List.mem_cons_self;cases this)|(exfalso;have:=h (Ex.row x) List.mem_cons_self;rw[Ex.row_eq]at this;cases this)
theorem T2 (mem:List (Nat×bc)) (nx:Nat):au Tryz.prog bK [j5 eQ []] mem nx (.c (.tsl [])) mem nx:=by
 refine au.of ep (by simp) fun _=> ?_
 conv in dh=>cbv
 refine bN (aa ?_)
 repeat' first|simp(disch:=omega) only[go_sem, *]|((with_reducible apply ab)<;>intro h<;>try omega)
 refine bN (bN (aa ?_))
 repeat' first|simp(disch:=omega) only[go_sem, *]|((with_reducible apply ab)<;>intro h<;>try omega)|(with_reducible apply ag)|(with_reducible refine aj (fun h=> ?_) ?_)
 ·refine eR (t:=true) rfl (fun _=> ?_) (fun e=>by cases e)
  refine bN (aa ?_)
  repeat' first|simp(disch:=omega) only[go_sem, *]|((with_reducible apply ab)<;>intro h<;>try omega)
  refine z8 2 rfl (mj ?_)
  repeat' first|simp(disch:=omega) only[go_sem, *,Bq]|((with_reducible apply ab)<;>intro h<;>try omega)
  all_goals rfl
 ·refine eR (t:=false) rfl (fun e=>by cases e) (fun _=>kU ?_)
  change AW _ _ _ _ _
  refine bN (aa ?_)
  repeat' first|simp(disch:=omega) only[go_sem, *]|((with_reducible apply ab)<;>intro h<;>try omega)|(refine dI (by intro r hr;cases hr) ?_)
  refine mj ?_
  repeat' first|simp(disch:=omega) only[go_sem, *,Bq]|((with_reducible apply ab)<;>intro h<;>try omega)
  all_goals rfl
theorem Qn (mem:List (Nat×bc)) (nx:Nat) (x:Ix) (l:List Ix) (hl:l.length+1≤100000000):au Tryz.prog bK [j5 eQ (x::l)] mem nx (.c (.ref nx)) ((nx,.arr 116 4 ((x::l).map eQ))::mem) (nx+1):=by
 refine au.of ep (by simp) fun _=>aa ?_
 conv in dh=>cbv
 have hok:bl 4 ((x::l).map eQ):=by
  intro r hr
  obtain⟨y,_,rfl⟩:=List.mem_map.1 hr
  exact rfl
 repeat' first|simp(disch:=omega) only[go_sem, *]|((with_reducible apply ab)<;>intro h<;>try omega)|(with_reducible apply ag)|(with_reducible refine aj (fun h=> ?_) ?_)|(refine dv (by intro r hr;cases hr) hok (by simp) (by simp;omega) (by simp;omega) ?_)
 all_goals first|rfl|(exfalso;have:=h (eQ x) List.mem_cons_self;cases this)|(exfalso;have:=h (Ex.row x) List.mem_cons_self;rw[Ex.row_eq]at this;cases this)
theorem SH (mem:List (Nat×bc)) (nx:Nat):au Tryz.prog bV [j5 Ex.row []] mem nx (.c (.tsl [])) mem nx:=by
 refine au.of eX (by simp) fun _=> ?_
 conv in dx=>cbv
 refine bN (aa ?_)
 repeat' first|simp(disch:=omega) only[go_sem, *]|((with_reducible apply ab)<;>intro h<;>try omega)
 refine bN (bN (aa ?_))
 repeat' first|simp(disch:=omega) only[go_sem, *]|((with_reducible apply ab)<;>intro h<;>try omega)|(with_reducible apply ag)|(with_reducible refine aj (fun h=> ?_) ?_)
 ·refine eR (t:=true) rfl (fun _=> ?_) (fun e=>by cases e)
  refine bN (aa ?_)
  repeat' first|simp(disch:=omega) only[go_sem, *]|((with_reducible apply ab)<;>intro h<;>try omega)
  refine z8 2 rfl (mj ?_)
  repeat' first|simp(disch:=omega) only[go_sem, *,Bq]|((with_reducible apply ab)<;>intro h<;>try omega)
  all_goals rfl
 ·refine eR (t:=false) rfl (fun e=>by cases e) (fun _=>kU ?_)
  change AW _ _ _ _ _
  refine bN (aa ?_)
  repeat' first|simp(disch:=omega) only[go_sem, *]|((with_reducible apply ab)<;>intro h<;>try omega)|(refine dI (by intro r hr;cases hr) ?_)
  refine mj ?_
  repeat' first|simp(disch:=omega) only[go_sem, *,Bq]|((with_reducible apply ab)<;>intro h<;>try omega)
  all_goals rfl
theorem PP (mem:List (Nat×bc)) (nx:Nat) (x:Ex) (l:List Ex) (hl:l.length+1≤100000000):au Tryz.prog bV [j5 Ex.row (x::l)] mem nx (.c (.ref nx)) ((nx,.arr 74 13 ((x::l).map Ex.row))::mem) (nx+1):=by
 refine au.of eX (by simp) fun _=>aa ?_
 conv in dx=>cbv
 have hok:bl 13 ((x::l).map Ex.row):=by
  intro r hr
  obtain⟨y,_,rfl⟩:=List.mem_map.1 hr
  exact Ex.row_eq y▸rfl
 repeat' first|simp(disch:=omega) only[go_sem, *]|((with_reducible apply ab)<;>intro h<;>try omega)|(with_reducible apply ag)|(with_reducible refine aj (fun h=> ?_) ?_)|(refine dv (by intro r hr;cases hr) hok (by simp) (by simp;omega) (by simp;omega) ?_)
 all_goals first|rfl|(exfalso;have:=h (Ex.row x) List.mem_cons_self;cases this)|(exfalso;have:=h (Ex.row x) List.mem_cons_self;rw[Ex.row_eq]at this;cases this)
theorem QQ (mem:List (Nat×bc)) (nx:Nat) (l:List bJ) (h:l≠ []) (hl:l.length≤100000000):au Tryz.prog bU [j5 mP l] mem nx (.c (.ref nx)) ((nx,.arr 114 2 (l.map mP))::mem) (nx+1):=by
 cases l with
 |nil=>exact absurd rfl h
 |cons x l=>exact LD mem nx x l (by simpa using hl)
theorem TD (mem:List (Nat×bc)) (nx:Nat) (l:List bY) (h:l≠ []) (hl:l.length≤100000000):au Tryz.prog b6 [j5 cd l] mem nx (.c (.ref nx)) ((nx,.arr 44 2 (l.map cd))::mem) (nx+1):=by
 cases l with
 |nil=>exact absurd rfl h
 |cons x l=>exact Oi mem nx x l (by simpa using hl)
theorem WI (mem:List (Nat×bc)) (nx:Nat) (l:List Ix) (h:l≠ []) (hl:l.length≤100000000):au Tryz.prog bK [j5 eQ l] mem nx (.c (.ref nx)) ((nx,.arr 116 4 (l.map eQ))::mem) (nx+1):=by
 cases l with
 |nil=>exact absurd rfl h
 |cons x l=>exact Qn mem nx x l (by simpa using hl)
theorem UF (mem:List (Nat×bc)) (nx:Nat) (l:List Ex) (h:l≠ []) (hl:l.length≤100000000):au Tryz.prog bV [j5 Ex.row l] mem nx (.c (.ref nx)) ((nx,.arr 74 13 (l.map Ex.row))::mem) (nx+1):=by
 cases l with
 |nil=>exact absurd rfl h
 |cons x l=>exact PP mem nx x l (by simpa using hl)
theorem Nf (l:List ByteArray) (hl:l.length≤100000000):ac Tryz.prog gf [j5 (fun s:ByteArray=> [pS s]) l] (j5 (fun s:ByteArray=> [pS s]) l):=by
 refine ac.of lJ (by simp) fun _=>aa ?_
 conv in gi=>cbv
 have hok:bl 1 (l.map fun s:ByteArray=> [pS s]):=av fun x=>rfl
 cases l with
 |nil=>
  repeat' first|simp(disch:=omega) only[go_sem, *]|((with_reducible apply ab)<;>intro h<;>try omega)|(with_reducible apply ag)|(with_reducible refine aj (fun h=> ?_) ?_)|(refine dI (by intro r hr;cases hr) ?_)
  all_goals rfl
 |cons x l=>
  have hl':l.length+1≤100000000:=by simpa using hl
  repeat' first|simp(disch:=omega) only[go_sem, *]|((with_reducible apply ab)<;>intro h<;>try omega)|(with_reducible apply ag)|(with_reducible refine aj (fun h=> ?_) ?_)|(refine dv (by intro r hr;cases hr) hok (by simp) (by simp;omega) (by simp;omega) ?_)
  all_goals first|rfl|(exfalso;have:=h [pS x] List.mem_cons_self;cases this)
set_option maxRecDepth 20000
set_option maxRecDepth 1000000
theorem mt (l:bY) (hl:l.2.length≤100000000):ac Tryz.prog dt [dm l.1 l.2] (.tup [dm l.1 l.2,I 0]):=by
 refine ac.of Hd (by simp) fun _=>aa ?_
 conv in xF=>cbv
 by_cases h:l.2= []
 ·rw[h]
  repeat' first|simp(disch:=omega) only[go_sem, *]|((with_reducible apply ab)<;>intro h<;>try omega)|(with_reducible apply ag)|(with_reducible refine aj (fun h=> ?_) ?_)|(refine ap (Nr _ _) ?_)
  all_goals rfl
 ·have cl:=fun mem nx=>QQ mem nx l.2 h hl
  repeat' first|simp(disch:=omega) only[go_sem, *]|((with_reducible apply ab)<;>intro h<;>try omega)|(with_reducible apply ag)|(with_reducible refine aj (fun h=> ?_) ?_)|(refine ap (cl _ _) ?_)
  all_goals rfl
def rR (l:List Ix) (i:Nat) (c:AC):List (List AC):=((l.map eQ).map fun r=>r.map AC.pure).set i (match l[i]? with
 |some x=> [.pure (pI x.1.1),.pure (aw x.1.2),.pure (pS x.2.1),c]
 |none=> [])
theorem Bj (l:List Ix) (i:Nat) (c:AC):(rR l i c).length=l.length:=by simp[rR]
theorem zN {l:List Ix} {i:Nat} {c:AC} (h:i<l.length):(rR l i c)[i]? =some [.pure (pI l[i].1.1),.pure (aw l[i].1.2),.pure (pS l[i].2.1),c]:=by
 unfold rR
 rw[List.getElem?_set,if_pos rfl,if_pos (by simpa using h),List.getElem?_eq_getElem h]
theorem Af {l:List Ix} {i:Nat} {c c':AC} (h:i<l.length):(rR l i c).set i [.pure (pI l[i].1.1),.pure (aw l[i].1.2),.pure (pS l[i].2.1),c']=rR l i c':=by
 unfold rR
 rw[List.set_set,List.getElem?_eq_getElem h]
theorem JG {l:List Ix} {i:Nat} (h:i<l.length):rR l i (.pure (du cd l[i].2.2))=(l.map eQ).map fun r=>r.map AC.pure:=by
 unfold rR
 rw[List.getElem?_eq_getElem h]
 refine List.ext_getElem? fun j=> ?_
 rw[List.getElem?_set]
 by_cases e:i=j
 ·subst e
  rw[if_pos rfl,if_pos (by simpa using h),List.getElem?_map,List.getElem?_map,List.getElem?_eq_getElem h]
  rfl
 ·rw[if_neg e]
theorem MF {l:List Ix} {i:Nat} {c:AC} {f:AC→AC} (hf: ∀p,f (.pure p)= .pure p):(rR l i c).map (fun r=>r.map f)=rR l i (f c):=by
 unfold rR
 rw[List.map_set]
 congr 1
 ·rw[List.map_map]
  refine List.map_congr_left fun r _=> ?_
  simp[Function.comp_def,hf]
 ·split<;>simp[hf]
theorem Pp {l:List Ix} {i:Nat} {c:AC} {m:List (Nat×Nat)}:(rR l i c).map (fun r=>r.map (dB m))=rR l i (dB m c):=MF fun _=>rfl
theorem UU {l:List Ix} {i:Nat} {c:AC} {n:Nat} {rs:List (List PC)}:(rR l i c).map (fun r=>r.map (iw n rs))=rR l i (iw n rs c):=MF fun _=>rfl
theorem Am {α:Type} {f:α→List PC} {l:List α} {i:Nat} (h:i<l.length) {r:List PC} (hr:r=f l[i]):(l.map f).set i r=l.map f:=by
 refine List.ext_getElem? fun j=> ?_
 rw[List.getElem?_set]
 by_cases e:i=j
 ·subst e
  rw[if_pos rfl,if_pos (by simpa using h),List.getElem?_map,List.getElem?_eq_getElem h,hr]
  rfl
 ·rw[if_neg e]
theorem Oa {N:Nat}: ∀{rows:List (List AC)},Nk N rows↔ ∀r∈rows,dU N r
 | []=>by simp[Nk]
 |r::rows=>by simp[Nk,Oa (rows:=rows)]
theorem Na {N:Nat}: ∀{xs:List AC},dU N xs↔ ∀x∈xs,k7 N x
 | []=>by simp[dU]
 |x::xs=>by simp[dU,Na (xs:=xs)]
theorem RQ {N:Nat} {l:List Ix} {i:Nat} {c:AC} (h:k7 N c):Nk N (rR l i c):=by
 refine Oa.2 fun r hr=>Na.2 fun x hx=> ?_
 unfold rR at hr
 rcases List.mem_or_eq_of_mem_set hr with hr|rfl
 ·obtain⟨s,_,rfl⟩:=List.mem_map.1 hr
  obtain⟨p,_,rfl⟩:=List.mem_map.1 hx
  trivial
 ·split at hx
  ·simp only[List.mem_cons,List.not_mem_nil,or_false]at hx
   rcases hx with rfl|rfl|rfl|rfl
   ·trivial
   ·trivial
   ·trivial
   ·exact h
  ·cases hx
theorem Vd {P:Program} {nt:Nat} {c:ak} {σ:St} {Q:bk→St→Prop} (nm i:Nat) (xs:List AC) (x y:AC) (hf:am σ.mem nm=some (.var xs)) (hi:xs[i]? =some x) (hr: ∀(w:World) (V:Nat→Prop) (ι:Pl) (N:Nat) (v:Value),bZ w V ι N x v→bZ w V ι N y v)
  (h:AW P nt c {σ with mem:=dJ σ.mem nm (.var (xs.set i y))} Q):AW P nt c σ Q:=
 fun c' hc w0 U rd ds ι a w hrd hs hz=>h c' hc w0 U rd ds ι a w hrd (hs.rebox hf (by
  obtain⟨b,vs,T,g1,g2,g3,g4⟩:=hs.box _ _ hf
  refine⟨b,vs,T,g1,g2,g3,aP.of_get (by rw[List.length_set];exact g4.length) fun j z v hj hv=> ?_⟩
  rw[List.getElem?_set]at hj
  by_cases e1:i=j
  ·subst e1
   rw[if_pos rfl,if_pos (List.getElem?_eq_some_iff.1 hi).1]at hj
   cases hj
   obtain⟨v',hv',hx⟩:=g4.get hi
   rw[hv']at hv
   cases hv
   exact hr _ _ _ _ _ hx
  ·rw[if_neg e1]at hj
   obtain⟨v',hv',hx⟩:=g4.get hj
   rw[hv']at hv
   cases hv
   exact hx)) hz
theorem WC {rows:List (List PC)} (w:World) (V:Nat→Prop) (ι:Pl) (N:Nat) (v:Value) (h:bZ w V ι N (.tsl rows) v):bZ w V ι N (.pure (.slice rows)) v:=by
 cases h with
 |tsl h=>exact .pure h
theorem YS (mem:List (Nat×bc)) (nx:Nat) {l:List Ix} (h:l= []):au Tryz.prog bK [j5 eQ l] mem nx (.c (.tsl [])) mem nx:=h▸T2 mem nx
theorem Wu (mem:List (Nat×bc)) (nx:Nat) {l:List bY} (h:l= []):au Tryz.prog b6 [j5 cd l] mem nx (.c (.tsl [])) mem nx:=h▸PZ mem nx
theorem XT (mem:List (Nat×bc)) (nx:Nat) {l:List Ex} (h:l= []):au Tryz.prog bV [j5 Ex.row l] mem nx (.c (.tsl [])) mem nx:=h▸SH mem nx
abbrev oEx (e:Ex) (c c2:AC):bc:= .var [.pure (pI e.op),.pure (pS e.name),.pure (pI e.val.1),.pure (pI e.val.2),.pure (pI e.ty.1),.pure (pI e.ty.2.1),.pure (pI e.ty.2.2.1),.pure (pI e.ty.2.2.2.1),.pure (pI e.ty.2.2.2.2),.pure (pI e.lin.1),.pure (aw e.lin.2),c,c2]
abbrev WG:bc:= .var [.pure (pI 0),.pure (pS ⟨⟨[]⟩⟩),.pure (pI 0),.pure (pI 0),.pure (pI 0),.pure (pI 0),.pure (pI 0),.pure (pI 0),.pure (pI 0),.pure (pI 0),.nils,.nils,.nils]
def QD (e:Ex):Prop:= ∀a∈e.pre,a.idx.length≤1000000∧a.args.length≤1000000∧(∀l∈a.forms,l.2.length≤100000000)∧ ∀x∈a.idx,x.2.2.length≤1000000
theorem Uf {e:Ex} (h:QD e):e.idx.length≤1000000∧e.args.length≤1000000∧(∀l∈e.forms,l.2.length≤100000000)∧ ∀x∈e.idx,x.2.2.length≤1000000:=h e (by rw[Ex.pre_eq];exact List.mem_cons_self)
theorem VN {e a:Ex} (h:QD e) (ha:a∈e.args):QD a:=fun b hb=>h b (by
 rw[Ex.pre_eq]
 refine List.mem_cons_of_mem _ ?_
 generalize e.args=l at ha
 induction l with
 |nil=>cases ha
 |cons x r ih=>
  rw[Ex.pres]
  rcases List.mem_cons.1 ha with rfl|ha
  ·exact List.mem_append_left _ hb
  ·exact List.mem_append_right _ (ih ha))
abbrev kEx (e:Ex):bc:= .var [.pure (pI e.op),.pure (pS e.name),.pure (pI e.val.1),.pure (pI e.val.2),.pure (pI e.ty.1),.pure (pI e.ty.2.1),.pure (pI e.ty.2.2.1),.pure (pI e.ty.2.2.2.1),.pure (pI e.ty.2.2.2.2),.pure (pI e.lin.1),.pure (aw e.lin.2),.pure (du eQ e.idx),.pure (.slice (e.args.map Ex.row))]
set_option maxHeartbeats 8000000 in
theorem Aj (e:Ex):QD e→ac Tryz.prog mg [fJ e,.c (.clo dt [])] (.tup [fJ e,I 0]):=by
 refine Ex.ind (p:=fun e=>QD e→ac Tryz.prog mg [fJ e,.c (.clo dt [])] (.tup [fJ e,I 0])) (fun e ih hok=> ?_) e
 obtain⟨h1,h2,h3,h4⟩:=Uf hok
 have pc:=mt e.lin (h3 _ List.mem_cons_self)
 refine ac.of Cn (by simp) fun hb=>aa ?_
 simp only[tm]
 refine(Classical.em (e.idx= [])).elim (fun hI=> ?_) (fun hI=> ?_)
 focus
  have cI:=fun mem nx=>YS mem nx hI
  repeat' first|simp(disch:=omega) only[go_sem]|((with_reducible refine ab ?_ ?_)<;>intro h<;>try first|omega|simp(disch:=omega) only[go_sem, *])|(refine cg pc rfl rfl ?_)|(refine ap (cI _ _) ?_)
  refine Vd 2 11 _ (.tsl []) (.pure (du eQ e.idx)) rfl rfl (by rw[hI];exact WC) ?_
  refine an (fun k:Nat=>⟨[(34,I k),(33,I e.idx.length),(32,.c (.pure (du eQ e.idx))),(6,.c (.ptr 2 0)),(4,.c (.ptr 1 0)),(2,.c (.ptr 0 0)),(1,.c (.clo dt []))], [(2,oEx e (.pure (du eQ e.idx)) (.pure (.slice (e.args.map Ex.row)))),(1,WG),(0,kEx e)],4,0⟩) (fun k=>k=0) (fun k=>0) ⟨0, [],rfl,by simp[dJ]⟩ ?_
  rintro k rfl
  have hl:e.idx.length=0:=by rw[hI];rfl
  clear hI
  refine aa ?_
  repeat' first|simp(disch:=omega) only[go_sem,hl]|((with_reducible refine ab ?_ ?_)<;>intro h<;>try first|omega|simp(disch:=omega) only[go_sem, *,hl])
  clear hl
 rotate_left
 focus
  have cI:=fun mem nx=>WI mem nx e.idx hI (by omega)
  repeat' first|simp(disch:=omega) only[go_sem]|((with_reducible refine ab ?_ ?_)<;>intro h<;>try first|omega|simp(disch:=omega) only[go_sem, *])|(refine cg pc rfl rfl ?_)|(refine ap (cI _ _) ?_)
  refine an (fun k:Nat=>⟨[(34,I k),(33,I e.idx.length),(32,.c (.pure (du eQ e.idx))),(6,.c (.ptr 2 0)),(4,.c (.ptr 1 0)),(2,.c (.ptr 0 0)),(1,.c (.clo dt []))], [(3,.arr 116 4 (e.idx.map eQ)),(2,oEx e (.ref 3) (.pure (.slice (e.args.map Ex.row)))),(1,WG),(0,kEx e)],4,0⟩) (fun k=>k≤e.idx.length) (fun k=>e.idx.length-k) ⟨0, [],by omega,by simp[dJ]⟩ ?_
  intro k hk
  by_cases hlt:k<e.idx.length
  rotate_left
  focus
   refine sB [3] ?_
   simp(disch:=omega) only[go_sem]
   refine aa ?_
   clear hI
   repeat' first|simp(disch:=omega) only[go_sem]|((with_reducible refine ab ?_ ?_)<;>intro h<;>try first|omega|simp(disch:=omega) only[go_sem, *])
  rotate_left
  ·have pk:=mt e.idx[k].1 (h3 _ (List.mem_cons_of_mem _ (List.mem_flatMap.2 ⟨_,List.getElem_mem hlt,List.mem_cons_self⟩)))
   have hat:=h4 _ (List.getElem_mem hlt)
   have sI:(e.idx.map eQ).set k [pI e.idx[k].1.1,aw e.idx[k].1.2,pS e.idx[k].2.1,du cd e.idx[k].2.2]=e.idx.map eQ:=Am hlt rfl
   by_cases hA:e.idx[k].2.2= []
   ·have cA:=fun mem nx=>Wu mem nx hA
    have sE:(e.idx.map eQ).set k [pI e.idx[k].1.1,aw e.idx[k].1.2,pS e.idx[k].2.1,.slice []]=e.idx.map eQ:=Am hlt (by unfold eQ;rw[hA];rfl)
    have hl:e.idx[k].2.2.length=0:=by rw[hA];rfl
    clear hA
    refine aa ?_
    repeat' first|simp(disch:=omega) only[go_sem,ah hlt,eQ,wrap_i64,sI,sE]|((with_reducible refine ab ?_ ?_)<;>intro h<;>try first|omega|simp(disch:=omega) only[go_sem, *,ah hlt,eQ,wrap_i64,sI,sE])|(with_reducible apply ag)|(with_reducible refine aj (fun h=> ?_) ?_)|(refine cg pk rfl rfl ?_)|(refine ap (cA _ _) ?_)
    all_goals
     refine an (fun _:Nat=>⟨[(66,I 0),(65,I 0),(34,I k),(33,I e.idx.length),(32,.c (.pure (du eQ e.idx))),(6,.c (.ptr 2 0)),(4,.c (.ptr 1 0)),(2,.c (.ptr 0 0)),(1,.c (.clo dt []))], [(3,.arr 116 4 (e.idx.map eQ)),(2,oEx e (.ref 3) (.pure (.slice (e.args.map Ex.row)))),(1,WG),(0,kEx e)],4,0⟩) (fun _=>True) (fun _=>0) ⟨0, [],trivial,by simp[dJ,hl]⟩ ?_
     rintro _ _
     refine aa ?_
     repeat' first|simp(disch:=omega) only[go_sem,wrap_i64]|((with_reducible refine ab ?_ ?_)<;>intro h<;>try first|omega|simp(disch:=omega) only[go_sem, *,wrap_i64])
     exact⟨k+1, [],by omega,by omega,by simp⟩
   ·have cA:=fun mem nx=>TD mem nx _ hA (by omega)
    refine aao 3 116 4 _ rfl ?_
    rw[←JG hlt]
    refine aa ?_
    repeat' first|simp(disch:=omega) only[go_sem,ah hlt,eQ,wrap_i64,zN hlt,Bj,Af hlt]|((with_reducible refine ab ?_ ?_)<;>intro h<;>try first|omega|simp(disch:=omega) only[go_sem, *,ah hlt,eQ,wrap_i64,zN hlt,Bj,Af hlt])|(with_reducible apply ag)|(with_reducible refine aj (fun h=> ?_) ?_)|(refine cg pk rfl rfl ?_)|(refine ap (cA _ _) ?_)
    all_goals
     refine an (fun j:Nat=>⟨[(66,I j),(65,I e.idx[k].2.2.length),(64,.c (.pure (du cd e.idx[k].2.2))),(34,I k),(33,I e.idx.length),(32,.c (.pure (du eQ e.idx))),(8,I k),(6,.c (.ptr 2 0)),(4,.c (.ptr 1 0)),(2,.c (.ptr 0 0)),(1,.c (.clo dt []))], [(5,.arr 44 2 (e.idx[k].2.2.map cd)),(3,.arn 116 4 (rR e.idx k (.ref 5))),(2,oEx e (.ref 3) (.pure (.slice (e.args.map Ex.row)))),(1,WG),(0,kEx e)],6,0⟩) (fun j=>j≤e.idx[k].2.2.length) (fun j=>e.idx[k].2.2.length-j) ⟨0, [],by omega,(by simp[dJ,Pp];exact RQ (by simp[k7]))⟩ ?_
     intro j hj
     by_cases hjl:j<e.idx[k].2.2.length
     ·have pj:=mt e.idx[k].2.2[j] (h3 _ (List.mem_cons_of_mem _ (List.mem_flatMap.2 ⟨_,List.getElem_mem hlt,List.mem_cons_of_mem _ (List.getElem_mem hjl)⟩)))
      have sJ:(e.idx[k].2.2.map cd).set j [pI e.idx[k].2.2[j].1,aw e.idx[k].2.2[j].2]=e.idx[k].2.2.map cd:=Am hjl rfl
      refine aa ?_
      repeat' first|simp(disch:=omega) only[go_sem,ah hjl,cd,wrap_i64,zN hlt,Bj,Af hlt,sJ]|((with_reducible refine ab ?_ ?_)<;>intro h<;>try first|omega|simp(disch:=omega) only[go_sem, *,ah hjl,cd,wrap_i64,zN hlt,Bj,Af hlt,sJ])|(with_reducible apply ag)|(with_reducible refine aj (fun h=> ?_) ?_)|(refine cg pj rfl rfl ?_)
      all_goals exact⟨j+1, [],by omega,by omega,(by simp[dJ,Pp];exact RQ (by simp[k7]))⟩
     ·refine sB [5] ?_
      simp(disch:=omega) only[go_sem,UU,JG hlt]
      refine Z2 3 116 4 _ rfl ?_
      refine aa ?_
      repeat' first|simp(disch:=omega) only[go_sem,wrap_i64]|((with_reducible refine ab ?_ ?_)<;>intro h<;>try first|omega|simp(disch:=omega) only[go_sem, *,wrap_i64])
      exact⟨k+1, [],by omega,by omega,by simp[dJ]⟩
 all_goals
  clear cI pc
  by_cases hX:e.args= []
  ·have cX:=fun mem nx=>XT mem nx hX
   have hl:e.args.length=0:=by rw[hX];rfl
   have hr:e.args.map Ex.row= []:=by rw[hX];rfl
   clear hX
   repeat' first|simp(disch:=omega) only[go_sem,hl]|((with_reducible refine ab ?_ ?_)<;>intro h<;>try first|omega|simp(disch:=omega) only[go_sem, *,hl])|(refine ap (cX _ _) ?_)
   refine an (fun _:Nat=>⟨[(98,I 0),(97,I 0),(6,.c (.ptr 2 0)),(4,.c (.ptr 1 0)),(2,.c (.ptr 0 0)),(1,.c (.clo dt []))], [(2,oEx e (.pure (du eQ e.idx)) (.tsl [])),(1,WG),(0,kEx e)],5,0⟩) (fun _=>True) (fun _=>0) ⟨0, [],trivial,by simp[dJ,hl]⟩ ?_
   rintro _ _
   refine aa ?_
   repeat' first|simp(disch:=omega) only[go_sem]|((with_reducible refine ab ?_ ?_)<;>intro h<;>try first|omega|simp(disch:=omega) only[go_sem, *])
   all_goals(unfold fJ;rw[hr])
  ·have cX:=fun mem nx=>UF mem nx e.args hX (by omega)
   repeat' first|simp(disch:=omega) only[go_sem]|((with_reducible refine ab ?_ ?_)<;>intro h<;>try first|omega|simp(disch:=omega) only[go_sem, *])|(refine ap (cX _ _) ?_)
   refine an (fun j:Nat=>⟨[(98,I j),(97,I e.args.length),(96,.c (.pure (.slice (e.args.map Ex.row)))),(6,.c (.ptr 2 0)),(4,.c (.ptr 1 0)),(2,.c (.ptr 0 0)),(1,.c (.clo dt []))], [(4,.arr 74 13 (e.args.map Ex.row)),(2,oEx e (.pure (du eQ e.idx)) (.ref 4)),(1,WG),(0,kEx e)],5,0⟩) (fun j=>j≤e.args.length) (fun j=>e.args.length-j) ⟨0, [],by omega,by simp[dJ]⟩ ?_
   intro j hj
   by_cases hjl:j<e.args.length
   ·have pj:=ih _ (List.getElem_mem hjl) (VN hok (List.getElem_mem hjl))
    generalize hg:e.args[j]=g at*
    have sX:(e.args.map Ex.row).set j [pI g.op,pS g.name,pI g.val.1,pI g.val.2,pI g.ty.1,pI g.ty.2.1,pI g.ty.2.2.1,pI g.ty.2.2.2.1,pI g.ty.2.2.2.2,pI g.lin.1,aw g.lin.2,du eQ g.idx,.slice (g.args.map Ex.row)]=e.args.map Ex.row:=Am hjl (by rw[hg];exact(Ex.row_eq _).symm)
    have hgt:(e.args.map Ex.row)[j]? =some (Ex.row g):=by rw[ah hjl,hg]
    clear hg
    refine aa ?_
    repeat' first|simp(disch:=omega) only[go_sem,hgt,Ex.row_eq,wrap_i64,sX]|((with_reducible refine ab ?_ ?_)<;>intro h<;>try first|omega|simp(disch:=omega) only[go_sem, *,hgt,Ex.row_eq,wrap_i64,sX])|(with_reducible apply ag)|(with_reducible refine aj (fun h=> ?_) ?_)|(refine cg pj rfl rfl ?_)
    all_goals exact⟨j+1, [],by omega,by omega,by simp[dJ]⟩
   ·refine sB [4] ?_
    simp(disch:=omega) only[go_sem]
    refine aa ?_
    repeat' first|simp(disch:=omega) only[go_sem]|((with_reducible refine ab ?_ ?_)<;>intro h<;>try first|omega|simp(disch:=omega) only[go_sem, *])
    all_goals rfl
theorem Jo {e:Ex} (h:QD e):ac Tryz.prog Da [fJ e] (fJ e):=by
 refine ac.of Mi (by simp) fun hb=>aa ?_
 conv in DN=>cbv
 have pc:=Aj e h
 repeat' first|simp(disch:=omega) only[go_sem, *]|((with_reducible apply ab)<;>intro h<;>try omega)|(with_reducible apply ag)|(with_reducible refine aj (fun h=> ?_) ?_)|(refine cg pc rfl rfl ?_)
 all_goals rfl
set_option maxRecDepth 20000
set_option maxRecDepth 1000000
theorem Bs {α:Type} {f:α→List PC} {l:List α} {k:Nat} (h:k<l.length) {r:List PC} (hr:r=f l[k]):(l.take k).map f++ [r]=(l.take (k+1)).map f:=by
 rw[List.take_succ_eq_append_getElem h,List.map_append,hr]
 rfl
theorem lO (l:List iu) (hl:l.length≤1000000) (h: ∀x∈l,x.2.2.length≤1000):ac Tryz.prog nZ [j5 fl l] (j5 fl l):=by
 refine ac.of w4 (by simp) fun hb=>aa ?_
 conv in nW=>cbv
 repeat' first|simp(disch:=omega) only[go_sem, *]|((with_reducible apply ab)<;>intro h<;>try omega)
 refine dR 3 111 3 rfl (by decide) ?_
 refine an (fun k:Nat=>⟨[(8,I k),(7,I l.length),(6,j5 fl l),(3,.c (.ref 0))], [(0,.arr 111 3 ((l.take k).map fl))],1,0⟩) (fun k=>k≤l.length) (fun k=>l.length-k) ⟨0, [],by omega,by simp⟩ ?_
 intro k hk
 refine aa ?_
 by_cases hlt:k<l.length
 ·have pk:=fg l[k].2 (h _ (List.getElem_mem hlt))
  have HT:=Lib.hid (Bs (f:=fl) hlt (r:= [pS l[k].1,pI l[k].2.1,aw l[k].2.2]) rfl)
  repeat' first|simp(disch:=omega) only[go_sem, *,ah hlt,fl,wrap_i64]|((with_reducible apply ab)<;>intro h<;>try omega)|(with_reducible apply ag)|(with_reducible refine aj (fun h=> ?_) ?_)|(refine cg pk rfl rfl ?_)|(refine aJ rfl (by intro h;cases h) (aB rfl) (by simp;omega) (by simp;omega) ?_)
  all_goals
   rw[HT.out]
   exact⟨k+1, [(0,2)],by omega,by omega,by simp⟩
 ·repeat' first|simp(disch:=omega) only[go_sem, *]|((with_reducible apply ab)<;>intro h<;>try omega)
  rw[List.take_of_length_le (by omega)]
def aaf (p:bI):Prop:=(p.sizes.length≤1000∧p.wher.length≤1000∧p.params.length≤1000∧p.defs.length≤1000∧p.outs.length≤1000)∧(∀c∈p.wher,c.1.2.length≤1000)∧
 (∀x∈p.params,x.2.2.length≤1000∧ ∀l∈x.2.2,l.2.length≤1000)∧ ∀d∈p.defs,(d.dims.length≤1000∧ ∀a∈d.dims,a.2.2.length≤1000)∧(d.red.length≤1000∧ ∀a∈d.red,a.2.2.length≤1000)∧QD d.body
abbrev aat (p:bI) (c1 c2 c3:AC):bc:= .var [.pure (c8 p.sizes),c1,c2,c3,.pure (c8 p.outs)]
set_option maxHeartbeats 8000000 in
theorem rf {p:bI} (hp:aaf p):ac Tryz.prog gO [fO p] (fO p):=by
 obtain⟨⟨z1,z2,z3,z4,z5⟩,hw,hq,hd⟩:=hp
 have c1:=Nf p.sizes (by omega)
 have c5:=Nf p.outs (by omega)
 refine ac.of Ee (by simp) fun hb=>aa ?_
 simp only[vL]
 repeat' first|simp(disch:=omega) only[go_sem, *]|((with_reducible apply ab)<;>intro h<;>try omega)|(with_reducible apply ag)|(with_reducible refine aj (fun h=> ?_) ?_)|(refine cg c1 rfl rfl ?_)|(refine cg c5 rfl rfl ?_)
 all_goals
  refine cQ 2 1 46 3 _ rfl rfl (by decide) ?_
  refine an (fun k:Nat=>⟨[(20,I k),(19,I p.wher.length),(18,j5 cP p.wher),(3,.c (.ptr 2 0)),(2,.c (.ptr 1 0)),(1,.c (.ptr 0 0))], [(3,.arr 46 3 ((p.wher.take k).map cP)),(2,aat p (.ref 3) .nils .nils),(1,.var [.nils,.nils,.nils,.nils,.nils]),(0,eV p)],4,0⟩) (fun k=>k≤p.wher.length) (fun k=>p.wher.length-k) ⟨0, [],by omega,by simp[dJ]⟩ ?_
  intro k hk
  by_cases hlt:k<p.wher.length
  ·have pk:=fg p.wher[k].1 (hw _ (List.getElem_mem hlt))
   have HT:=Lib.hid (Bs (f:=cP) hlt (r:= [pI p.wher[k].1.1,aw p.wher[k].1.2,pB p.wher[k].2]) rfl)
   refine aa ?_
   repeat' first|simp(disch:=omega) only[go_sem, *,ah hlt,cP,wrap_i64]|((with_reducible apply ab)<;>intro h<;>try omega)|(with_reducible apply ag)|(with_reducible refine aj (fun h=> ?_) ?_)|(refine cg pk rfl rfl ?_)|(refine aJ rfl (by intro h;cases h) (aB rfl) (by simp;omega) (by simp;omega) ?_)
   all_goals
    rw[HT.out]
    exact⟨k+1, [(3,5)],by omega,by omega,by simp[dJ]⟩
  refine sB [3] ?_
  simp(disch:=omega) only[go_sem]
  refine aa ?_
  rw[show p.wher.take k=p.wher from List.take_of_length_le (by omega)]
  repeat' first|simp(disch:=omega) only[go_sem, *]|((with_reducible apply ab)<;>intro h<;>try omega)
  clear hlt hk
  refine cQ 2 2 89 7 _ rfl rfl (by decide) ?_
  refine an (fun k:Nat=>⟨[(39,I k),(38,I p.params.length),(37,j5 ip p.params),(3,.c (.ptr 2 0)),(2,.c (.ptr 1 0)),(1,.c (.ptr 0 0))], [(4,.arr 89 7 ((p.params.take k).map ip)),(2,aat p (.pure (du cP p.wher)) (.ref 4) .nils),(1,.var [.nils,.nils,.nils,.nils,.nils]),(0,eV p)],5,0⟩) (fun k=>k≤p.params.length) (fun k=>p.params.length-k) ⟨0, [],by omega,by simp[dJ]⟩ ?_
  intro k hk
  by_cases hlt:k<p.params.length
  ·have pk:=ky p.params[k].2.2 (hq _ (List.getElem_mem hlt)).1 (hq _ (List.getElem_mem hlt)).2
   generalize hg:p.params[k]=g at pk
   have HT:=Lib.hid (Bs (f:=ip) hlt (r:= [pS g.1,pI g.2.1.1,pI g.2.1.2.1,pI g.2.1.2.2.1,pI g.2.1.2.2.2.1,pI g.2.1.2.2.2.2,du cd g.2.2]) (by rw[hg];rfl))
   have hgt:(p.params.map ip)[k]? =some (ip g):=by rw[ah hlt,hg]
   clear hg
   refine aa ?_
   repeat' first|simp(disch:=omega) only[go_sem, *,hgt,ip,wrap_i64]|((with_reducible apply ab)<;>intro h<;>try omega)|(with_reducible apply ag)|(with_reducible refine aj (fun h=> ?_) ?_)|(refine cg pk rfl rfl ?_)|(refine aJ rfl (by intro h;cases h) (aB rfl) (by simp;omega) (by simp;omega) ?_)
   all_goals
    rw[HT.out]
    exact⟨k+1, [(4,6)],by omega,by omega,by simp[dJ]⟩
  refine sB [4] ?_
  simp(disch:=omega) only[go_sem]
  refine aa ?_
  rw[show p.params.take k=p.params from List.take_of_length_le (by omega)]
  repeat' first|simp(disch:=omega) only[go_sem, *]|((with_reducible apply ab)<;>intro h<;>try omega)
  clear hlt hk
  refine cQ 2 3 76 22 _ rfl rfl (by decide) ?_
  refine an (fun k:Nat=>⟨[(57,I k),(56,I p.defs.length),(55,j5 da p.defs),(3,.c (.ptr 2 0)),(2,.c (.ptr 1 0))], [(5,.arr 76 22 ((p.defs.take k).map da)),(2,aat p (.pure (du cP p.wher)) (.pure (du ip p.params)) (.ref 5)),(1,.var [.nils,.nils,.nils,.nils,.nils])],6,0⟩) (fun k=>k≤p.defs.length) (fun k=>p.defs.length-k) ⟨0, [],by omega,by simp[dJ]⟩ ?_
  intro k hk
  by_cases hlt:k<p.defs.length
  ·have hdk:=hd _ (List.getElem_mem hlt)
   have p1:=lO p.defs[k].dims (by have:=hdk.1.1;omega) hdk.1.2
   have p2:=lO p.defs[k].red (by have:=hdk.2.1.1;omega) hdk.2.1.2
   have p3:=Jo hdk.2.2
   clear hdk
   generalize hg:p.defs[k]=g at p1 p2 p3
   have HT:=Lib.hid (Bs (f:=da) hlt (r:= [pS g.name,pI g.ty.1,pI g.ty.2.1,pI g.ty.2.2.1,pI g.ty.2.2.2.1,pI g.ty.2.2.2.2,du fl g.dims,du fl g.red,pI g.fold,pI g.body.op,pS g.body.name,pI g.body.val.1,pI g.body.val.2,pI g.body.ty.1,pI g.body.ty.2.1,pI g.body.ty.2.2.1,pI g.body.ty.2.2.2.1,pI g.body.ty.2.2.2.2,pI g.body.lin.1,aw g.body.lin.2,du eQ g.body.idx,.slice (g.body.args.map Ex.row)]) (by rw[hg];rfl))
   have hgt:(p.defs.map da)[k]? =some (da g):=by rw[ah hlt,hg]
   clear hg
   refine aa ?_
   repeat' first|simp(disch:=omega) only[go_sem, *,hgt,da,wrap_i64]|((with_reducible apply ab)<;>intro h<;>try omega)|(with_reducible apply ag)|(with_reducible refine aj (fun h=> ?_) ?_)|(refine cg p1 rfl rfl ?_)|(refine cg p2 rfl rfl ?_)|(refine cg p3 rfl rfl ?_)|(refine aJ rfl (by intro h;cases h) (aB rfl) (by simp;omega) (by simp;omega) ?_)
   all_goals
    rw[HT.out]
    exact⟨k+1, [(5,7)],by omega,by omega,by simp[dJ]⟩
  refine sB [5] ?_
  simp(disch:=omega) only[go_sem]
  refine aa ?_
  rw[show p.defs.take k=p.defs from List.take_of_length_le (by omega)]
  repeat' first|simp(disch:=omega) only[go_sem, *]|((with_reducible apply ab)<;>intro h<;>try omega)
  all_goals rfl
end Go.Proofs.YthbcbaembicdbaaGreatDoor
