import Derived.Test.YtiapgekjmcjjgaaGreatDoorV17a
set_option maxHeartbeats 4000000
set_option linter.unusedVariables false
set_option linter.unusedSimpArgs false
set_option maxRecDepth 1000000
open Go.Proofs.Tryz renaming prog→Ya
namespace Go.Proofs.YtiapgekjmcjjgaaGreatDoor
open Go.Abs Go.RowKit
theorem F9 (mem:List (Nat×bk)) (nx:Nat):aw Ya 66 [i6 mP []] mem nx (.c (.tsl [])) mem nx:=by
 refine aw.of dw (by simp) λ_=> ?_
 conv in bh _ _=>cbv
 refine bU (aa ?_)
 repeat' first|simp(disch:=omega)only[go_sem, *]|apply ab<;>intro h<;>try omega
 refine bU (bU (aa ?_))
 repeat' first|simp(disch:=omega)only[go_sem, *]|apply ab<;>intro h<;>try omega|apply af|(with_reducible refine ag (λh=> ?_) ?_)
 ·refine fw (t:=true) rfl (λ_=> ?_) (λe=>by cases e)
  refine bU (aa ?_)
  repeat' first|simp(disch:=omega)only[go_sem, *]|apply ab<;>intro h<;>try omega
  refine vT 2 rfl (lV ?_)
  repeat' first|simp(disch:=omega)only[go_sem, *,yu]|apply ab<;>intro h<;>try omega
  all_goals rfl
 ·refine fw (t:=false) rfl (λe=>by cases e) (λ_=>kK ?_)
  change AW _ _ _ _ _
  refine bU (aa ?_)
  repeat' first|simp(disch:=omega)only[go_sem, *]|apply ab<;>intro h<;>try omega|refine dy (by intro r hr;cases hr) ?_
  refine lV ?_
  repeat' first|simp(disch:=omega)only[go_sem, *,yu]|apply ab<;>intro h<;>try omega
  all_goals rfl
theorem Ep (mem:List (Nat×bk)) (nx:Nat) (x:aR) (l:List aR) (hl:l.length+1≤100000000):aw Ya 66 [i6 mP (x::l)] mem nx (.c (.ref nx)) ((nx,.arr 85 2 ((x::l).map mP))::mem) (nx+1):=by
 refine aw.of dw (by simp) λ_=>aa ?_
 conv in bh _ _=>cbv
 have q:aK 2 ((x::l).map mP):=by
  intro r hr
  obtain⟨y,_,rfl⟩:=List.mem_map.1 hr
  exact rfl
 repeat' first|simp(disch:=omega)only[go_sem, *]|apply ab<;>intro h<;>try omega|apply af|(with_reducible refine ag (λh=> ?_) ?_)|refine c8 (by intro r hr;cases hr) q (by simp) (by simp;omega) (by simp;omega) ?_
 all_goals first|rfl|(exfalso;have:=h (mP x) List.mem_cons_self;cases this)|(exfalso;have:=h (Ex.row x) List.mem_cons_self;rw[Ex.row_eq]at this;cases this)
theorem Jy (mem:List (Nat×bk)) (nx:Nat):aw Ya 118 [i6 b9 []] mem nx (.c (.tsl [])) mem nx:=by
 refine aw.of fp (by simp) λ_=> ?_
 conv in bh _ _=>cbv
 refine bU (aa ?_)
 repeat' first|simp(disch:=omega)only[go_sem, *]|apply ab<;>intro h<;>try omega
 refine bU (bU (aa ?_))
 repeat' first|simp(disch:=omega)only[go_sem, *]|apply ab<;>intro h<;>try omega|apply af|(with_reducible refine ag (λh=> ?_) ?_)
 ·refine fw (t:=true) rfl (λ_=> ?_) (λe=>by cases e)
  refine bU (aa ?_)
  repeat' first|simp(disch:=omega)only[go_sem, *]|apply ab<;>intro h<;>try omega
  refine vT 2 rfl (lV ?_)
  repeat' first|simp(disch:=omega)only[go_sem, *,yu]|apply ab<;>intro h<;>try omega
  all_goals rfl
 ·refine fw (t:=false) rfl (λe=>by cases e) (λ_=>kK ?_)
  change AW _ _ _ _ _
  refine bU (aa ?_)
  repeat' first|simp(disch:=omega)only[go_sem, *]|apply ab<;>intro h<;>try omega|refine dy (by intro r hr;cases hr) ?_
  refine lV ?_
  repeat' first|simp(disch:=omega)only[go_sem, *,yu]|apply ab<;>intro h<;>try omega
  all_goals rfl
theorem FZ (mem:List (Nat×bk)) (nx:Nat) (x:bW) (l:List bW) (hl:l.length+1≤100000000):aw Ya 118 [i6 b9 (x::l)] mem nx (.c (.ref nx)) ((nx,.arr 51 2 ((x::l).map b9))::mem) (nx+1):=by
 refine aw.of fp (by simp) λ_=>aa ?_
 conv in bh _ _=>cbv
 have q:aK 2 ((x::l).map b9):=by
  intro r hr
  obtain⟨y,_,rfl⟩:=List.mem_map.1 hr
  exact rfl
 repeat' first|simp(disch:=omega)only[go_sem, *]|apply ab<;>intro h<;>try omega|apply af|(with_reducible refine ag (λh=> ?_) ?_)|refine c8 (by intro r hr;cases hr) q (by simp) (by simp;omega) (by simp;omega) ?_
 all_goals first|rfl|(exfalso;have:=h (b9 x) List.mem_cons_self;cases this)|(exfalso;have:=h (Ex.row x) List.mem_cons_self;rw[Ex.row_eq]at this;cases this)
theorem L8 (mem:List (Nat×bk)) (nx:Nat):aw Ya 117 [i6 eR []] mem nx (.c (.tsl [])) mem nx:=by
 refine aw.of eo (by simp) λ_=> ?_
 conv in bh _ _=>cbv
 refine bU (aa ?_)
 repeat' first|simp(disch:=omega)only[go_sem, *]|apply ab<;>intro h<;>try omega
 refine bU (bU (aa ?_))
 repeat' first|simp(disch:=omega)only[go_sem, *]|apply ab<;>intro h<;>try omega|apply af|(with_reducible refine ag (λh=> ?_) ?_)
 ·refine fw (t:=true) rfl (λ_=> ?_) (λe=>by cases e)
  refine bU (aa ?_)
  repeat' first|simp(disch:=omega)only[go_sem, *]|apply ab<;>intro h<;>try omega
  refine vT 2 rfl (lV ?_)
  repeat' first|simp(disch:=omega)only[go_sem, *,yu]|apply ab<;>intro h<;>try omega
  all_goals rfl
 ·refine fw (t:=false) rfl (λe=>by cases e) (λ_=>kK ?_)
  change AW _ _ _ _ _
  refine bU (aa ?_)
  repeat' first|simp(disch:=omega)only[go_sem, *]|apply ab<;>intro h<;>try omega|refine dy (by intro r hr;cases hr) ?_
  refine lV ?_
  repeat' first|simp(disch:=omega)only[go_sem, *,yu]|apply ab<;>intro h<;>try omega
  all_goals rfl
theorem JO (mem:List (Nat×bk)) (nx:Nat) (x:Ix) (l:List Ix) (hl:l.length+1≤100000000):aw Ya 117 [i6 eR (x::l)] mem nx (.c (.ref nx)) ((nx,.arr 88 4 ((x::l).map eR))::mem) (nx+1):=by
 refine aw.of eo (by simp) λ_=>aa ?_
 conv in bh _ _=>cbv
 have q:aK 4 ((x::l).map eR):=by
  intro r hr
  obtain⟨y,_,rfl⟩:=List.mem_map.1 hr
  exact rfl
 repeat' first|simp(disch:=omega)only[go_sem, *]|apply ab<;>intro h<;>try omega|apply af|(with_reducible refine ag (λh=> ?_) ?_)|refine c8 (by intro r hr;cases hr) q (by simp) (by simp;omega) (by simp;omega) ?_
 all_goals first|rfl|(exfalso;have:=h (eR x) List.mem_cons_self;cases this)|(exfalso;have:=h (Ex.row x) List.mem_cons_self;rw[Ex.row_eq]at this;cases this)
theorem M3 (mem:List (Nat×bk)) (nx:Nat):aw Ya 119 [i6 Ex.row []] mem nx (.c (.tsl [])) mem nx:=by
 refine aw.of eV (by simp) λ_=> ?_
 conv in bh _ _=>cbv
 refine bU (aa ?_)
 repeat' first|simp(disch:=omega)only[go_sem, *]|apply ab<;>intro h<;>try omega
 refine bU (bU (aa ?_))
 repeat' first|simp(disch:=omega)only[go_sem, *]|apply ab<;>intro h<;>try omega|apply af|(with_reducible refine ag (λh=> ?_) ?_)
 ·refine fw (t:=true) rfl (λ_=> ?_) (λe=>by cases e)
  refine bU (aa ?_)
  repeat' first|simp(disch:=omega)only[go_sem, *]|apply ab<;>intro h<;>try omega
  refine vT 2 rfl (lV ?_)
  repeat' first|simp(disch:=omega)only[go_sem, *,yu]|apply ab<;>intro h<;>try omega
  all_goals rfl
 ·refine fw (t:=false) rfl (λe=>by cases e) (λ_=>kK ?_)
  change AW _ _ _ _ _
  refine bU (aa ?_)
  repeat' first|simp(disch:=omega)only[go_sem, *]|apply ab<;>intro h<;>try omega|refine dy (by intro r hr;cases hr) ?_
  refine lV ?_
  repeat' first|simp(disch:=omega)only[go_sem, *,yu]|apply ab<;>intro h<;>try omega
  all_goals rfl
theorem Ky (mem:List (Nat×bk)) (nx:Nat) (x:Ex) (l:List Ex) (hl:l.length+1≤100000000):aw Ya 119 [i6 Ex.row (x::l)] mem nx (.c (.ref nx)) ((nx,.arr 55 13 ((x::l).map Ex.row))::mem) (nx+1):=by
 refine aw.of eV (by simp) λ_=>aa ?_
 conv in bh _ _=>cbv
 have q:aK 13 ((x::l).map Ex.row):=by
  intro r hr
  obtain⟨y,_,rfl⟩:=List.mem_map.1 hr
  exact Ex.row_eq y▸rfl
 repeat' first|simp(disch:=omega)only[go_sem, *]|apply ab<;>intro h<;>try omega|apply af|(with_reducible refine ag (λh=> ?_) ?_)|refine c8 (by intro r hr;cases hr) q (by simp) (by simp;omega) (by simp;omega) ?_
 all_goals first|rfl|(exfalso;have:=h (Ex.row x) List.mem_cons_self;cases this)|(exfalso;have:=h (Ex.row x) List.mem_cons_self;rw[Ex.row_eq]at this;cases this)
theorem Kh (mem:List (Nat×bk)) (nx:Nat) (l:List aR) (h:l≠ []) (hl:l.length≤100000000):aw Ya 66 [i6 mP l] mem nx (.c (.ref nx)) ((nx,.arr 85 2 (l.map mP))::mem) (nx+1):=by
 cases l with
 |nil=>exact absurd rfl h
 |cons x l=>exact Ep mem nx x l (by simpa using hl)
theorem Mi (mem:List (Nat×bk)) (nx:Nat) (l:List bW) (h:l≠ []) (hl:l.length≤100000000):aw Ya 118 [i6 b9 l] mem nx (.c (.ref nx)) ((nx,.arr 51 2 (l.map b9))::mem) (nx+1):=by
 cases l with
 |nil=>exact absurd rfl h
 |cons x l=>exact FZ mem nx x l (by simpa using hl)
theorem NP (mem:List (Nat×bk)) (nx:Nat) (l:List Ix) (h:l≠ []) (hl:l.length≤100000000):aw Ya 117 [i6 eR l] mem nx (.c (.ref nx)) ((nx,.arr 88 4 (l.map eR))::mem) (nx+1):=by
 cases l with
 |nil=>exact absurd rfl h
 |cons x l=>exact JO mem nx x l (by simpa using hl)
theorem Nv (mem:List (Nat×bk)) (nx:Nat) (l:List Ex) (h:l≠ []) (hl:l.length≤100000000):aw Ya 119 [i6 Ex.row l] mem nx (.c (.ref nx)) ((nx,.arr 55 13 (l.map Ex.row))::mem) (nx+1):=by
 cases l with
 |nil=>exact absurd rfl h
 |cons x l=>exact Ky mem nx x l (by simpa using hl)
theorem Hb (l:List ByteArray) (hl:l.length≤100000000):ac Ya 31 [i6 (λs:ByteArray=> [pS s]) l] (i6 (λs:ByteArray=> [pS s]) l):=by
 refine ac.of jS (by simp) λ_=>aa ?_
 conv in bh _ _=>cbv
 have q:aK 1 (l.map λs:ByteArray=> [pS s]):=ar λx=>rfl
 cases l with
 |nil=>
  repeat' first|simp(disch:=omega)only[go_sem, *]|apply ab<;>intro h<;>try omega|apply af|(with_reducible refine ag (λh=> ?_) ?_)|refine dy (by intro r hr;cases hr) ?_
  all_goals rfl
 |cons x l=>
  have F:l.length+1≤100000000:=by simpa using hl
  repeat' first|simp(disch:=omega)only[go_sem, *]|apply ab<;>intro h<;>try omega|apply af|(with_reducible refine ag (λh=> ?_) ?_)|refine c8 (by intro r hr;cases hr) q (by simp) (by simp;omega) (by simp;omega) ?_
  all_goals first|rfl|(exfalso;have:=h [pS x] List.mem_cons_self;cases this)
set_option maxRecDepth 20000
set_option maxRecDepth 1000000
theorem kw (l:bW) (hl:l.2.length≤100000000):ac Ya 68 [da l.1 l.2] (.tup [da l.1 l.2,I 0]):=by
 refine ac.of za (by simp) λ_=>aa ?_
 conv in bh _ _=>cbv
 by_cases h:l.2= []
 ·rw[h]
  repeat' first|simp(disch:=omega)only[go_sem, *]|apply ab<;>intro h<;>try omega|apply af|(with_reducible refine ag (λh=> ?_) ?_)|refine ap (F9 _ _) ?_
  all_goals rfl
 ·have cl:= λmem nx=>Kh mem nx l.2 h hl
  repeat' first|simp(disch:=omega)only[go_sem, *]|apply ab<;>intro h<;>try omega|apply af|(with_reducible refine ag (λh=> ?_) ?_)|refine ap (cl _ _) ?_
  all_goals rfl
def oj (l:List Ix) (i:Nat) (c:AC):List (List AC):=((l.map eR).map λr=>r.map AC.pure).set i (match l[i]? with
 |some x=> [.pure (pI x.1.1),.pure (ay x.1.2),.pure (pS x.2.1),c]
 |none=> [])
theorem vE (l:List Ix) (i:Nat) (c:AC):(oj l i c).length=l.length:=by simp[oj]
theorem uL {l:List Ix} {i:Nat} {c:AC} (h:i<l.length):(oj l i c)[i]? =some [.pure (pI l[i].1.1),.pure (ay l[i].1.2),.pure (pS l[i].2.1),c]:=by
 unfold oj
 rw[List.getElem?_set,if_pos rfl,if_pos (by simpa using h),List.getElem?_eq_getElem h]
theorem vF {l:List Ix} {i:Nat} {c c':AC} (h:i<l.length):(oj l i c).set i [.pure (pI l[i].1.1),.pure (ay l[i].1.2),.pure (pS l[i].2.1),c']=oj l i c':=by
 unfold oj
 rw[List.set_set,List.getElem?_eq_getElem h]
theorem DK {l:List Ix} {i:Nat} (h:i<l.length):oj l i (.pure (dp b9 l[i].2.2))=(l.map eR).map λr=>r.map AC.pure:=by
 unfold oj
 rw[List.getElem?_eq_getElem h]
 refine List.ext_getElem? λj=> ?_
 rw[List.getElem?_set]
 by_cases e:i=j
 ·subst e
  rw[if_pos rfl,if_pos (by simpa using h),List.getElem?_map,List.getElem?_map,List.getElem?_eq_getElem h]
  rfl
 ·rw[if_neg e]
theorem Hg {l:List Ix} {i:Nat} {c:AC} {f:AC→AC} (hf: ∀p,f (.pure p)= .pure p):(oj l i c).map (λr=>r.map f)=oj l i (f c):=by
 unfold oj
 rw[List.map_set]
 congr 1
 ·rw[List.map_map]
  refine List.map_congr_left λr _=> ?_
  simp[Function.comp_def,hf]
 ·split<;>simp[hf]
theorem Iv {l:List Ix} {i:Nat} {c:AC} {m:List (Nat×Nat)}:(oj l i c).map (λr=>r.map (dE m))=oj l i (dE m c):=Hg λ_=>rfl
theorem Ou {l:List Ix} {i:Nat} {c:AC} {n:Nat} {rs:List (List PC)}:(oj l i c).map (λr=>r.map (gS n rs))=oj l i (gS n rs c):=Hg λ_=>rfl
theorem vo {α:Type} {f:α→List PC} {l:List α} {i:Nat} (h:i<l.length) {r:List PC} (hr:r=f l[i]):(l.map f).set i r=l.map f:=by
 refine List.ext_getElem? λj=> ?_
 rw[List.getElem?_set]
 by_cases e:i=j
 ·subst e
  rw[if_pos rfl,if_pos (by simpa using h),List.getElem?_map,List.getElem?_eq_getElem h,hr]
  rfl
 ·rw[if_neg e]
theorem Ic {N:Nat}: ∀{rows:List (List AC)},H9 N rows↔ ∀r∈rows,dV N r
 | []=>by simp[H9]
 |r::rows=>by simp[H9,Ic (rows:=rows)]
theorem Hw {N:Nat}: ∀{xs:List AC},dV N xs↔ ∀x∈xs,j8 N x
 | []=>by simp[dV]
 |x::xs=>by simp[dV,Hw (xs:=xs)]
theorem Lr {N:Nat} {l:List Ix} {i:Nat} {c:AC} (h:j8 N c):H9 N (oj l i c):=by
 refine Ic.2 λr hr=>Hw.2 λx hx=> ?_
 unfold oj at hr
 rcases List.mem_or_eq_of_mem_set hr with hr|rfl
 ·obtain⟨s,_,rfl⟩:=List.mem_map.1 hr
  obtain⟨p,_,rfl⟩:=List.mem_map.1 hx
  trivial
 ·split at hx
  ·simp only[List.mem_cons,List.not_mem_nil,or_false]at hx
   rcases hx with rfl|rfl|rfl|rfl
   ·trivial
   ·trivial
   ·trivial
   ·exact h
  ·cases hx
theorem OC {P:Program} {nt:Nat} {c:bi} {σ:St} {Q:bP→St→Prop} (nm i:Nat) (xs:List AC) (x y:AC) (hf:al σ.mem nm=some (.var xs)) (hi:xs[i]? =some x) (hr: ∀(w:World) (V:Nat→Prop) (ι:Pl) (N:Nat) (v:Value),b7 w V ι N x v→b7 w V ι N y v)
  (h:AW P nt c {σ with mem:=dJ σ.mem nm (.var (xs.set i y))} Q):AW P nt c σ Q:=
 λc' hc w0 U rd ds ι a w E hs hz=>h c' hc w0 U rd ds ι a w E (hs.rebox hf (by
  obtain⟨b,vs,T,g1,g2,g3,g4⟩:=hs.box _ _ hf
  refine⟨b,vs,T,g1,g2,g3,aM.of_get (by rw[List.length_set];exact g4.length) λj z v hj hv=> ?_⟩
  rw[List.getElem?_set]at hj
  by_cases e1:i=j
  ·subst e1
   rw[if_pos rfl,if_pos (List.getElem?_eq_some_iff.1 hi).1]at hj
   cases hj
   obtain⟨v',D,hx⟩:=g4.get hi
   rw[D]at hv
   cases hv
   exact hr _ _ _ _ _ hx
  ·rw[if_neg e1]at hj
   obtain⟨v',D,hx⟩:=g4.get hj
   rw[D]at hv
   cases hv
   exact hx)) hz
theorem PL {rows:List (List PC)} (w:World) (V:Nat→Prop) (ι:Pl) (N:Nat) (v:Value) (h:b7 w V ι N (.tsl rows) v):b7 w V ι N (.pure (.slice rows)) v:=by
 cases h with
 |tsl h=>exact .pure h
theorem Rl (mem:List (Nat×bk)) (nx:Nat) {l:List Ix} (h:l= []):aw Ya 117 [i6 eR l] mem nx (.c (.tsl [])) mem nx:=h▸L8 mem nx
theorem OQ (mem:List (Nat×bk)) (nx:Nat) {l:List bW} (h:l= []):aw Ya 118 [i6 b9 l] mem nx (.c (.tsl [])) mem nx:=h▸Jy mem nx
theorem RI (mem:List (Nat×bk)) (nx:Nat) {l:List Ex} (h:l= []):aw Ya 119 [i6 Ex.row l] mem nx (.c (.tsl [])) mem nx:=h▸M3 mem nx
abbrev Tx (e:Ex) (c c2:AC):bk:= .var [.pure (pI e.op),.pure (pS e.name),.pure (pI e.val.1),.pure (pI e.val.2),.pure (pI e.ty.1),.pure (pI e.ty.2.1),.pure (pI e.ty.2.2.1),.pure (pI e.ty.2.2.2.1),.pure (pI e.ty.2.2.2.2),.pure (pI e.lin.1),.pure (ay e.lin.2),c,c2]
abbrev TH:bk:= .var [.pure (pI 0),.pure (pS ⟨⟨[]⟩⟩),.pure (pI 0),.pure (pI 0),.pure (pI 0),.pure (pI 0),.pure (pI 0),.pure (pI 0),.pure (pI 0),.pure (pI 0),.nils,.nils,.nils]
def JG (e:Ex):Prop:= ∀a∈e.pre,a.idx.length≤1000000∧a.args.length≤1000000∧(∀l∈a.forms,l.2.length≤100000000)∧ ∀x∈a.idx,x.2.2.length≤1000000
theorem MF {e:Ex} (h:JG e):e.idx.length≤1000000∧e.args.length≤1000000∧(∀l∈e.forms,l.2.length≤100000000)∧ ∀x∈e.idx,x.2.2.length≤1000000:=h e (by rw[Ex.pre_eq];exact List.mem_cons_self)
theorem NT {e a:Ex} (h:JG e) (ha:a∈e.args):JG a:= λb hb=>h b (by
 rw[Ex.pre_eq]
 refine List.mem_cons_of_mem _ ?_
 generalize e.args=l at ha
 induction l with
 |nil=>cases ha
 |cons x r ih=>
  rw[Ex.pres]
  rcases List.mem_cons.1 ha with rfl|ha
  ·exact List.mem_append_left _ hb
  ·exact List.mem_append_right _ (ih ha))
abbrev TD (e:Ex):bk:= .var [.pure (pI e.op),.pure (pS e.name),.pure (pI e.val.1),.pure (pI e.val.2),.pure (pI e.ty.1),.pure (pI e.ty.2.1),.pure (pI e.ty.2.2.1),.pure (pI e.ty.2.2.2.1),.pure (pI e.ty.2.2.2.2),.pure (pI e.lin.1),.pure (ay e.lin.2),.pure (dp eR e.idx),.pure (.slice (e.args.map Ex.row))]
set_option maxHeartbeats 8000000 in
theorem u9 (e:Ex):JG e→ac Ya 67 [fE e,.c (.clo 68 [])] (.tup [fE e,I 0]):=by
 refine Ex.ind (p:= λe=>JG e→ac Ya 67 [fE e,.c (.clo 68 [])] (.tup [fE e,I 0])) (λe ih q=> ?_) e
 obtain⟨h1,h2,h3,h4⟩:=MF q
 have pc:=kw e.lin (h3 _ List.mem_cons_self)
 refine ac.of wb (by simp) λhb=>aa ?_
 simp only[o4]
 refine(Classical.em (e.idx= [])).elim (λhI=> ?_) (λhI=> ?_)
 focus
  have cI:= λmem nx=>Rl mem nx hI
  repeat' first|simp(disch:=omega)only[go_sem]|((with_reducible refine ab ?_ ?_)<;>intro h<;>try first|omega|simp(disch:=omega)only[go_sem, *])|refine aW pc rfl rfl ?_|refine ap (cI _ _) ?_
  refine OC 2 11 _ (.tsl []) (.pure (dp eR e.idx)) rfl rfl (by rw[hI];exact PL) ?_
  refine ai (λk:Nat=>⟨[(34,I k),(33,I e.idx.length),(32,.c (.pure (dp eR e.idx))),(6,.c (.ptr 2 0)),(4,.c (.ptr 1 0)),(2,.c (.ptr 0 0)),(1,.c (.clo 68 []))], [(2,Tx e (.pure (dp eR e.idx)) (.pure (.slice (e.args.map Ex.row)))),(1,TH),(0,TD e)],4,0⟩) (λk=>k=0) (λk=>0) ⟨0, [],rfl,by simp[dJ]⟩ ?_
  rintro k rfl
  have hl:e.idx.length=0:=by rw[hI];rfl
  clear hI
  refine aa ?_
  repeat' first|simp(disch:=omega)only[go_sem,hl]|((with_reducible refine ab ?_ ?_)<;>intro h<;>try first|omega|simp(disch:=omega)only[go_sem, *,hl])
  clear hl
 rotate_left
 focus
  have cI:= λmem nx=>NP mem nx e.idx hI (by omega)
  repeat' first|simp(disch:=omega)only[go_sem]|((with_reducible refine ab ?_ ?_)<;>intro h<;>try first|omega|simp(disch:=omega)only[go_sem, *])|refine aW pc rfl rfl ?_|refine ap (cI _ _) ?_
  refine ai (λk:Nat=>⟨[(34,I k),(33,I e.idx.length),(32,.c (.pure (dp eR e.idx))),(6,.c (.ptr 2 0)),(4,.c (.ptr 1 0)),(2,.c (.ptr 0 0)),(1,.c (.clo 68 []))], [(3,.arr 88 4 (e.idx.map eR)),(2,Tx e (.ref 3) (.pure (.slice (e.args.map Ex.row)))),(1,TH),(0,TD e)],4,0⟩) (λk=>k≤e.idx.length) (λk=>e.idx.length-k) ⟨0, [],by omega,by simp[dJ]⟩ ?_
  intro k hk
  by_cases o:k<e.idx.length
  rotate_left
  focus
   refine qZ [3] ?_
   simp(disch:=omega)only[go_sem]
   refine aa ?_
   clear hI
   repeat' first|simp(disch:=omega)only[go_sem]|((with_reducible refine ab ?_ ?_)<;>intro h<;>try first|omega|simp(disch:=omega)only[go_sem, *])
  rotate_left
  ·have pk:=kw e.idx[k].1 (h3 _ (List.mem_cons_of_mem _ (List.mem_flatMap.2 ⟨_,List.getElem_mem o,List.mem_cons_self⟩)))
   have G:=h4 _ (List.getElem_mem o)
   have sI:(e.idx.map eR).set k [pI e.idx[k].1.1,ay e.idx[k].1.2,pS e.idx[k].2.1,dp b9 e.idx[k].2.2]=e.idx.map eR:=vo o rfl
   by_cases hA:e.idx[k].2.2= []
   ·have cA:= λmem nx=>OQ mem nx hA
    have sE:(e.idx.map eR).set k [pI e.idx[k].1.1,ay e.idx[k].1.2,pS e.idx[k].2.1,.slice []]=e.idx.map eR:=vo o (by unfold eR;rw[hA];rfl)
    have hl:e.idx[k].2.2.length=0:=by rw[hA];rfl
    clear hA
    refine aa ?_
    repeat' first|simp(disch:=omega)only[go_sem,ah o,eR,wrap_i64,sI,sE]|((with_reducible refine ab ?_ ?_)<;>intro h<;>try first|omega|simp(disch:=omega)only[go_sem, *,ah o,eR,wrap_i64,sI,sE])|apply af|(with_reducible refine ag (λh=> ?_) ?_)|refine aW pk rfl rfl ?_|refine ap (cA _ _) ?_
    all_goals
     refine ai (λ_:Nat=>⟨[(66,I 0),(65,I 0),(34,I k),(33,I e.idx.length),(32,.c (.pure (dp eR e.idx))),(6,.c (.ptr 2 0)),(4,.c (.ptr 1 0)),(2,.c (.ptr 0 0)),(1,.c (.clo 68 []))], [(3,.arr 88 4 (e.idx.map eR)),(2,Tx e (.ref 3) (.pure (.slice (e.args.map Ex.row)))),(1,TH),(0,TD e)],4,0⟩) (λ_=>True) (λ_=>0) ⟨0, [],trivial,by simp[dJ,hl]⟩ ?_
     rintro _ _
     refine aa ?_
     repeat' first|simp(disch:=omega)only[go_sem,wrap_i64]|((with_reducible refine ab ?_ ?_)<;>intro h<;>try first|omega|simp(disch:=omega)only[go_sem, *,wrap_i64])
     exact⟨k+1, [],by omega,by omega,by simp⟩
   ·have cA:= λmem nx=>Mi mem nx _ hA (by omega)
    refine Tr 3 88 4 _ rfl ?_
    rw[←DK o]
    refine aa ?_
    repeat' first|simp(disch:=omega)only[go_sem,ah o,eR,wrap_i64,uL o,vE,vF o]|((with_reducible refine ab ?_ ?_)<;>intro h<;>try first|omega|simp(disch:=omega)only[go_sem, *,ah o,eR,wrap_i64,uL o,vE,vF o])|apply af|(with_reducible refine ag (λh=> ?_) ?_)|refine aW pk rfl rfl ?_|refine ap (cA _ _) ?_
    all_goals
     refine ai (λj:Nat=>⟨[(66,I j),(65,I e.idx[k].2.2.length),(64,.c (.pure (dp b9 e.idx[k].2.2))),(34,I k),(33,I e.idx.length),(32,.c (.pure (dp eR e.idx))),(8,I k),(6,.c (.ptr 2 0)),(4,.c (.ptr 1 0)),(2,.c (.ptr 0 0)),(1,.c (.clo 68 []))], [(5,.arr 51 2 (e.idx[k].2.2.map b9)),(3,.arn 88 4 (oj e.idx k (.ref 5))),(2,Tx e (.ref 3) (.pure (.slice (e.args.map Ex.row)))),(1,TH),(0,TD e)],6,0⟩) (λj=>j≤e.idx[k].2.2.length) (λj=>e.idx[k].2.2.length-j) ⟨0, [],by omega,(by simp[dJ,Iv];exact Lr (by simp[j8]))⟩ ?_
     intro j hj
     by_cases u:j<e.idx[k].2.2.length
     ·have pj:=kw e.idx[k].2.2[j] (h3 _ (List.mem_cons_of_mem _ (List.mem_flatMap.2 ⟨_,List.getElem_mem o,List.mem_cons_of_mem _ (List.getElem_mem u)⟩)))
      have sJ:(e.idx[k].2.2.map b9).set j [pI e.idx[k].2.2[j].1,ay e.idx[k].2.2[j].2]=e.idx[k].2.2.map b9:=vo u rfl
      refine aa ?_
      repeat' first|simp(disch:=omega)only[go_sem,ah u,b9,wrap_i64,uL o,vE,vF o,sJ]|((with_reducible refine ab ?_ ?_)<;>intro h<;>try first|omega|simp(disch:=omega)only[go_sem, *,ah u,b9,wrap_i64,uL o,vE,vF o,sJ])|apply af|(with_reducible refine ag (λh=> ?_) ?_)|refine aW pj rfl rfl ?_
      all_goals exact⟨j+1, [],by omega,by omega,(by simp[dJ,Iv];exact Lr (by simp[j8]))⟩
     ·refine qZ [5] ?_
      simp(disch:=omega)only[go_sem,Ou,DK o]
      refine SD 3 88 4 _ rfl ?_
      refine aa ?_
      repeat' first|simp(disch:=omega)only[go_sem,wrap_i64]|((with_reducible refine ab ?_ ?_)<;>intro h<;>try first|omega|simp(disch:=omega)only[go_sem, *,wrap_i64])
      exact⟨k+1, [],by omega,by omega,by simp[dJ]⟩
 all_goals
  clear cI pc
  by_cases hX:e.args= []
  ·have cX:= λmem nx=>RI mem nx hX
   have hl:e.args.length=0:=by rw[hX];rfl
   have hr:e.args.map Ex.row= []:=by rw[hX];rfl
   clear hX
   repeat' first|simp(disch:=omega)only[go_sem,hl]|((with_reducible refine ab ?_ ?_)<;>intro h<;>try first|omega|simp(disch:=omega)only[go_sem, *,hl])|refine ap (cX _ _) ?_
   refine ai (λ_:Nat=>⟨[(98,I 0),(97,I 0),(6,.c (.ptr 2 0)),(4,.c (.ptr 1 0)),(2,.c (.ptr 0 0)),(1,.c (.clo 68 []))], [(2,Tx e (.pure (dp eR e.idx)) (.tsl [])),(1,TH),(0,TD e)],5,0⟩) (λ_=>True) (λ_=>0) ⟨0, [],trivial,by simp[dJ,hl]⟩ ?_
   rintro _ _
   refine aa ?_
   repeat' first|simp(disch:=omega)only[go_sem]|((with_reducible refine ab ?_ ?_)<;>intro h<;>try first|omega|simp(disch:=omega)only[go_sem, *])
   all_goals(unfold fE;rw[hr])
  ·have cX:= λmem nx=>Nv mem nx e.args hX (by omega)
   repeat' first|simp(disch:=omega)only[go_sem]|((with_reducible refine ab ?_ ?_)<;>intro h<;>try first|omega|simp(disch:=omega)only[go_sem, *])|refine ap (cX _ _) ?_
   refine ai (λj:Nat=>⟨[(98,I j),(97,I e.args.length),(96,.c (.pure (.slice (e.args.map Ex.row)))),(6,.c (.ptr 2 0)),(4,.c (.ptr 1 0)),(2,.c (.ptr 0 0)),(1,.c (.clo 68 []))], [(4,.arr 55 13 (e.args.map Ex.row)),(2,Tx e (.pure (dp eR e.idx)) (.ref 4)),(1,TH),(0,TD e)],5,0⟩) (λj=>j≤e.args.length) (λj=>e.args.length-j) ⟨0, [],by omega,by simp[dJ]⟩ ?_
   intro j hj
   by_cases u:j<e.args.length
   ·have pj:=ih _ (List.getElem_mem u) (NT q (List.getElem_mem u))
    generalize hg:e.args[j]=g at*
    have sX:(e.args.map Ex.row).set j [pI g.op,pS g.name,pI g.val.1,pI g.val.2,pI g.ty.1,pI g.ty.2.1,pI g.ty.2.2.1,pI g.ty.2.2.2.1,pI g.ty.2.2.2.2,pI g.lin.1,ay g.lin.2,dp eR g.idx,.slice (g.args.map Ex.row)]=e.args.map Ex.row:=vo u (by rw[hg];exact(Ex.row_eq _).symm)
    have A:(e.args.map Ex.row)[j]? =some (Ex.row g):=by rw[ah u,hg]
    clear hg
    refine aa ?_
    repeat' first|simp(disch:=omega)only[go_sem,A,Ex.row_eq,wrap_i64,sX]|((with_reducible refine ab ?_ ?_)<;>intro h<;>try first|omega|simp(disch:=omega)only[go_sem, *,A,Ex.row_eq,wrap_i64,sX])|apply af|(with_reducible refine ag (λh=> ?_) ?_)|refine aW pj rfl rfl ?_
    all_goals exact⟨j+1, [],by omega,by omega,by simp[dJ]⟩
   ·refine qZ [4] ?_
    simp(disch:=omega)only[go_sem]
    refine aa ?_
    repeat' first|simp(disch:=omega)only[go_sem]|((with_reducible refine ab ?_ ?_)<;>intro h<;>try first|omega|simp(disch:=omega)only[go_sem, *])
    all_goals rfl
theorem B9 {e:Ex} (h:JG e):ac Ya 35 [fE e] (fE e):=by
 refine ac.of EO (by simp) λhb=>aa ?_
 conv in bh _ _=>cbv
 have pc:=u9 e h
 repeat' first|simp(disch:=omega)only[go_sem, *]|apply ab<;>intro h<;>try omega|apply af|(with_reducible refine ag (λh=> ?_) ?_)|refine aW pc rfl rfl ?_
 all_goals rfl
set_option maxRecDepth 20000
set_option maxRecDepth 1000000
theorem vD {α:Type} {f:α→List PC} {l:List α} {k:Nat} (h:k<l.length) {r:List PC} (hr:r=f l[k]):(l.take k).map f++ [r]=(l.take (k+1)).map f:=by
 rw[List.take_succ_eq_append_getElem h,List.map_append,hr]
 rfl
theorem jZ (l:List gU) (hl:l.length≤1000000) (h: ∀x∈l,x.2.2.length≤1000):ac Ya 34 [i6 fg l] (i6 fg l):=by
 refine ac.of sD (by simp) λhb=>aa ?_
 conv in bh _ _=>cbv
 repeat' first|simp(disch:=omega)only[go_sem, *]|apply ab<;>intro h<;>try omega
 refine dv 3 92 3 rfl (by decide) ?_
 refine ai (λk:Nat=>⟨[(8,I k),(7,I l.length),(6,i6 fg l),(3,.c (.ref 0))], [(0,.arr 92 3 ((l.take k).map fg))],1,0⟩) (λk=>k≤l.length) (λk=>l.length-k) ⟨0, [],by omega,by simp⟩ ?_
 intro k hk
 refine aa ?_
 by_cases o:k<l.length
 ·have pk:=e8 l[k].2 (h _ (List.getElem_mem o))
  have HT:=Lib.hid (vD (f:=fg) o (r:= [pS l[k].1,pI l[k].2.1,ay l[k].2.2]) rfl)
  repeat' first|simp(disch:=omega)only[go_sem, *,ah o,fg,wrap_i64]|apply ab<;>intro h<;>try omega|apply af|(with_reducible refine ag (λh=> ?_) ?_)|refine aW pk rfl rfl ?_|refine aA rfl (by intro h;cases h) (an rfl) (by simp;omega) (by simp;omega) ?_
  all_goals
   rw[HT.out]
   exact⟨k+1, [(0,2)],by omega,by omega,by simp⟩
 ·repeat' first|simp(disch:=omega)only[go_sem, *]|apply ab<;>intro h<;>try omega
  rw[List.take_of_length_le (by omega)]
def Sx (p:bG):Prop:=(p.sizes.length≤1000∧p.wher.length≤1000∧p.params.length≤1000∧p.defs.length≤1000∧p.outs.length≤1000)∧(∀c∈p.wher,c.1.2.length≤1000)∧
 (∀x∈p.params,x.2.2.length≤1000∧ ∀l∈x.2.2,l.2.length≤1000)∧ ∀d∈p.defs,(d.dims.length≤1000∧ ∀a∈d.dims,a.2.2.length≤1000)∧(d.red.length≤1000∧ ∀a∈d.red,a.2.2.length≤1000)∧JG d.body
abbrev SB (p:bG) (c1 c2 c3:AC):bk:= .var [.pure (c7 p.sizes),c1,c2,c3,.pure (c7 p.outs)]
set_option maxHeartbeats 8000000 in
theorem wn {p:bG} (hp:Sx p):ac Ya 13 [gy p] (gy p):=by
 obtain⟨⟨z1,z2,z3,z4,z5⟩,hw,hq,hd⟩:=hp
 have c1:=Hb p.sizes (by omega)
 have c5:=Hb p.outs (by omega)
 refine ac.of yn (by simp) λhb=>aa ?_
 simp only[qr]
 repeat' first|simp(disch:=omega)only[go_sem, *]|apply ab<;>intro h<;>try omega|apply af|(with_reducible refine ag (λh=> ?_) ?_)|refine aW c1 rfl rfl ?_|refine aW c5 rfl rfl ?_
 all_goals
  refine ci 2 1 64 3 _ rfl rfl (by decide) ?_
  refine ai (λk:Nat=>⟨[(20,I k),(19,I p.wher.length),(18,i6 cP p.wher),(3,.c (.ptr 2 0)),(2,.c (.ptr 1 0)),(1,.c (.ptr 0 0))], [(3,.arr 64 3 ((p.wher.take k).map cP)),(2,SB p (.ref 3) .nils .nils),(1,.var [.nils,.nils,.nils,.nils,.nils]),(0,eJ p)],4,0⟩) (λk=>k≤p.wher.length) (λk=>p.wher.length-k) ⟨0, [],by omega,by simp[dJ]⟩ ?_
  intro k hk
  by_cases o:k<p.wher.length
  ·have pk:=e8 p.wher[k].1 (hw _ (List.getElem_mem o))
   have HT:=Lib.hid (vD (f:=cP) o (r:= [pI p.wher[k].1.1,ay p.wher[k].1.2,pB p.wher[k].2]) rfl)
   refine aa ?_
   repeat' first|simp(disch:=omega)only[go_sem, *,ah o,cP,wrap_i64]|apply ab<;>intro h<;>try omega|apply af|(with_reducible refine ag (λh=> ?_) ?_)|refine aW pk rfl rfl ?_|refine aA rfl (by intro h;cases h) (an rfl) (by simp;omega) (by simp;omega) ?_
   all_goals
    rw[HT.out]
    exact⟨k+1, [(3,5)],by omega,by omega,by simp[dJ]⟩
  refine qZ [3] ?_
  simp(disch:=omega)only[go_sem]
  refine aa ?_
  rw[show p.wher.take k=p.wher from List.take_of_length_le (by omega)]
  repeat' first|simp(disch:=omega)only[go_sem, *]|apply ab<;>intro h<;>try omega
  clear o hk
  refine ci 2 2 90 7 _ rfl rfl (by decide) ?_
  refine ai (λk:Nat=>⟨[(39,I k),(38,I p.params.length),(37,i6 gR p.params),(3,.c (.ptr 2 0)),(2,.c (.ptr 1 0)),(1,.c (.ptr 0 0))], [(4,.arr 90 7 ((p.params.take k).map gR)),(2,SB p (.pure (dp cP p.wher)) (.ref 4) .nils),(1,.var [.nils,.nils,.nils,.nils,.nils]),(0,eJ p)],5,0⟩) (λk=>k≤p.params.length) (λk=>p.params.length-k) ⟨0, [],by omega,by simp[dJ]⟩ ?_
  intro k hk
  by_cases o:k<p.params.length
  ·have pk:=jv p.params[k].2.2 (hq _ (List.getElem_mem o)).1 (hq _ (List.getElem_mem o)).2
   generalize hg:p.params[k]=g at pk
   have HT:=Lib.hid (vD (f:=gR) o (r:= [pS g.1,pI g.2.1.1,pI g.2.1.2.1,pI g.2.1.2.2.1,pI g.2.1.2.2.2.1,pI g.2.1.2.2.2.2,dp b9 g.2.2]) (by rw[hg];rfl))
   have A:(p.params.map gR)[k]? =some (gR g):=by rw[ah o,hg]
   clear hg
   refine aa ?_
   repeat' first|simp(disch:=omega)only[go_sem, *,A,gR,wrap_i64]|apply ab<;>intro h<;>try omega|apply af|(with_reducible refine ag (λh=> ?_) ?_)|refine aW pk rfl rfl ?_|refine aA rfl (by intro h;cases h) (an rfl) (by simp;omega) (by simp;omega) ?_
   all_goals
    rw[HT.out]
    exact⟨k+1, [(4,6)],by omega,by omega,by simp[dJ]⟩
  refine qZ [4] ?_
  simp(disch:=omega)only[go_sem]
  refine aa ?_
  rw[show p.params.take k=p.params from List.take_of_length_le (by omega)]
  repeat' first|simp(disch:=omega)only[go_sem, *]|apply ab<;>intro h<;>try omega
  clear o hk
  refine ci 2 3 57 22 _ rfl rfl (by decide) ?_
  refine ai (λk:Nat=>⟨[(57,I k),(56,I p.defs.length),(55,i6 di p.defs),(3,.c (.ptr 2 0)),(2,.c (.ptr 1 0))], [(5,.arr 57 22 ((p.defs.take k).map di)),(2,SB p (.pure (dp cP p.wher)) (.pure (dp gR p.params)) (.ref 5)),(1,.var [.nils,.nils,.nils,.nils,.nils])],6,0⟩) (λk=>k≤p.defs.length) (λk=>p.defs.length-k) ⟨0, [],by omega,by simp[dJ]⟩ ?_
  intro k hk
  by_cases o:k<p.defs.length
  ·have C:=hd _ (List.getElem_mem o)
   have p1:=jZ p.defs[k].dims (by have:=C.1.1;omega) C.1.2
   have p2:=jZ p.defs[k].red (by have:=C.2.1.1;omega) C.2.1.2
   have p3:=B9 C.2.2
   clear C
   generalize hg:p.defs[k]=g at p1 p2 p3
   have HT:=Lib.hid (vD (f:=di) o (r:= [pS g.name,pI g.ty.1,pI g.ty.2.1,pI g.ty.2.2.1,pI g.ty.2.2.2.1,pI g.ty.2.2.2.2,dp fg g.dims,dp fg g.red,pI g.fold,pI g.body.op,pS g.body.name,pI g.body.val.1,pI g.body.val.2,pI g.body.ty.1,pI g.body.ty.2.1,pI g.body.ty.2.2.1,pI g.body.ty.2.2.2.1,pI g.body.ty.2.2.2.2,pI g.body.lin.1,ay g.body.lin.2,dp eR g.body.idx,.slice (g.body.args.map Ex.row)]) (by rw[hg];rfl))
   have A:(p.defs.map di)[k]? =some (di g):=by rw[ah o,hg]
   clear hg
   refine aa ?_
   repeat' first|simp(disch:=omega)only[go_sem, *,A,di,wrap_i64]|apply ab<;>intro h<;>try omega|apply af|(with_reducible refine ag (λh=> ?_) ?_)|refine aW p1 rfl rfl ?_|refine aW p2 rfl rfl ?_|refine aW p3 rfl rfl ?_|refine aA rfl (by intro h;cases h) (an rfl) (by simp;omega) (by simp;omega) ?_
   all_goals
    rw[HT.out]
    exact⟨k+1, [(5,7)],by omega,by omega,by simp[dJ]⟩
  refine qZ [5] ?_
  simp(disch:=omega)only[go_sem]
  refine aa ?_
  rw[show p.defs.take k=p.defs from List.take_of_length_le (by omega)]
  repeat' first|simp(disch:=omega)only[go_sem, *]|apply ab<;>intro h<;>try omega
  all_goals rfl
end Go.Proofs.YtiapgekjmcjjgaaGreatDoor
