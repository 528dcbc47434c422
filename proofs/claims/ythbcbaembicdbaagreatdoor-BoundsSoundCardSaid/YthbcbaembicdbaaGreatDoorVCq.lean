import Derived.Test.YthbcbaembicdbaaGreatDoorV17a
set_option linter.unusedVariables false
set_option linter.unusedSimpArgs false
set_option maxRecDepth 20000
namespace Go.Proofs.YthbcbaembicdbaaGreatDoor
open Go.Abs Go.RowKit
theorem J9 (mem:List (Nat×aU)) (nx:Nat):aq Tryz.prog bI [gG mP []] mem nx (.c (.tsl [])) mem nx:=by
 refine aq.of df (by simp) λ_=> ?_
 simp only[b7]
 refine cZ (aa ?_)
 repeat' first|simp(disch:=omega) only[go_sem, *]|((with_reducible apply ab)<;>intro h<;>try omega)
 refine cZ (cZ (aa ?_))
 repeat' first|simp(disch:=omega) only[go_sem, *]|((with_reducible apply ab)<;>intro h<;>try omega)|(with_reducible apply ah)|(with_reducible refine aj (λh=> ?_) ?_)
 ·refine f7 (t:=true) rfl (λ_=> ?_) (λe=>by cases e)
  refine cZ (aa ?_)
  repeat' first|simp(disch:=omega) only[go_sem, *]|((with_reducible apply ab)<;>intro h<;>try omega)
  refine z8 2 rfl (lZ ?_)
  repeat' first|simp(disch:=omega) only[go_sem, *,zm]|((with_reducible apply ab)<;>intro h<;>try omega)
  all_goals rfl
 ·refine f7 (t:=false) rfl (λe=>by cases e) (λ_=>oM ?_)
  change AW _ _ _ _ _
  refine cZ (aa ?_)
  repeat' first|simp(disch:=omega) only[go_sem, *]|((with_reducible apply ab)<;>intro h<;>try omega)|(refine gj (by intro r hr;cases hr) ?_)
  refine lZ ?_
  repeat' first|simp(disch:=omega) only[go_sem, *,zm]|((with_reducible apply ab)<;>intro h<;>try omega)
  all_goals rfl
theorem I3 (mem:List (Nat×aU)) (nx:Nat) (x:aD) (l:List aD) (hl:l.length+1≤100000000):aq Tryz.prog bI [gG mP (x::l)] mem nx (.c (.ref nx)) ((nx,.arr 114 2 ((x::l).map mP))::mem) (nx+1):=by
 refine aq.of df (by simp) λ_=>aa ?_
 simp only[b7]
 have hok:bC 2 ((x::l).map mP):=by
  intro r hr
  obtain⟨y,_,rfl⟩:=List.mem_map.1 hr
  exact rfl
 repeat' first|simp(disch:=omega) only[go_sem, *]|((with_reducible apply ab)<;>intro h<;>try omega)|(with_reducible apply ah)|(with_reducible refine aj (λh=> ?_) ?_)|(refine iD (by intro r hr;cases hr) hok (by simp) (by simp;omega) (by simp;omega) ?_)
 all_goals first|rfl|(exfalso;have:=h (mP x) List.mem_cons_self;cases this)|(exfalso;have:=h (Ex.row x) List.mem_cons_self;rw[Ex.row_eq]at this;cases this)
theorem NW (mem:List (Nat×aU)) (nx:Nat):aq Tryz.prog bL [gG cR []] mem nx (.c (.tsl [])) mem nx:=by
 refine aq.of eZ (by simp) λ_=> ?_
 simp only[dy]
 refine cZ (aa ?_)
 repeat' first|simp(disch:=omega) only[go_sem, *]|((with_reducible apply ab)<;>intro h<;>try omega)
 refine cZ (cZ (aa ?_))
 repeat' first|simp(disch:=omega) only[go_sem, *]|((with_reducible apply ab)<;>intro h<;>try omega)|(with_reducible apply ah)|(with_reducible refine aj (λh=> ?_) ?_)
 ·refine f7 (t:=true) rfl (λ_=> ?_) (λe=>by cases e)
  refine cZ (aa ?_)
  repeat' first|simp(disch:=omega) only[go_sem, *]|((with_reducible apply ab)<;>intro h<;>try omega)
  refine z8 2 rfl (lZ ?_)
  repeat' first|simp(disch:=omega) only[go_sem, *,zm]|((with_reducible apply ab)<;>intro h<;>try omega)
  all_goals rfl
 ·refine f7 (t:=false) rfl (λe=>by cases e) (λ_=>oM ?_)
  change AW _ _ _ _ _
  refine cZ (aa ?_)
  repeat' first|simp(disch:=omega) only[go_sem, *]|((with_reducible apply ab)<;>intro h<;>try omega)|(refine gj (by intro r hr;cases hr) ?_)
  refine lZ ?_
  repeat' first|simp(disch:=omega) only[go_sem, *,zm]|((with_reducible apply ab)<;>intro h<;>try omega)
  all_goals rfl
theorem Lu (mem:List (Nat×aU)) (nx:Nat) (x:bU) (l:List bU) (hl:l.length+1≤100000000):aq Tryz.prog bL [gG cR (x::l)] mem nx (.c (.ref nx)) ((nx,.arr 44 2 ((x::l).map cR))::mem) (nx+1):=by
 refine aq.of eZ (by simp) λ_=>aa ?_
 simp only[dy]
 have hok:bC 2 ((x::l).map cR):=by
  intro r hr
  obtain⟨y,_,rfl⟩:=List.mem_map.1 hr
  exact rfl
 repeat' first|simp(disch:=omega) only[go_sem, *]|((with_reducible apply ab)<;>intro h<;>try omega)|(with_reducible apply ah)|(with_reducible refine aj (λh=> ?_) ?_)|(refine iD (by intro r hr;cases hr) hok (by simp) (by simp;omega) (by simp;omega) ?_)
 all_goals first|rfl|(exfalso;have:=h (cR x) List.mem_cons_self;cases this)|(exfalso;have:=h (Ex.row x) List.mem_cons_self;rw[Ex.row_eq]at this;cases this)
theorem RV (mem:List (Nat×aU)) (nx:Nat):aq Tryz.prog bA [gG fQ []] mem nx (.c (.tsl [])) mem nx:=by
 refine aq.of dT (by simp) λ_=> ?_
 simp only[c8]
 refine cZ (aa ?_)
 repeat' first|simp(disch:=omega) only[go_sem, *]|((with_reducible apply ab)<;>intro h<;>try omega)
 refine cZ (cZ (aa ?_))
 repeat' first|simp(disch:=omega) only[go_sem, *]|((with_reducible apply ab)<;>intro h<;>try omega)|(with_reducible apply ah)|(with_reducible refine aj (λh=> ?_) ?_)
 ·refine f7 (t:=true) rfl (λ_=> ?_) (λe=>by cases e)
  refine cZ (aa ?_)
  repeat' first|simp(disch:=omega) only[go_sem, *]|((with_reducible apply ab)<;>intro h<;>try omega)
  refine z8 2 rfl (lZ ?_)
  repeat' first|simp(disch:=omega) only[go_sem, *,zm]|((with_reducible apply ab)<;>intro h<;>try omega)
  all_goals rfl
 ·refine f7 (t:=false) rfl (λe=>by cases e) (λ_=>oM ?_)
  change AW _ _ _ _ _
  refine cZ (aa ?_)
  repeat' first|simp(disch:=omega) only[go_sem, *]|((with_reducible apply ab)<;>intro h<;>try omega)|(refine gj (by intro r hr;cases hr) ?_)
  refine lZ ?_
  repeat' first|simp(disch:=omega) only[go_sem, *,zm]|((with_reducible apply ab)<;>intro h<;>try omega)
  all_goals rfl
theorem M1 (mem:List (Nat×aU)) (nx:Nat) (x:Ix) (l:List Ix) (hl:l.length+1≤100000000):aq Tryz.prog bA [gG fQ (x::l)] mem nx (.c (.ref nx)) ((nx,.arr 116 4 ((x::l).map fQ))::mem) (nx+1):=by
 refine aq.of dT (by simp) λ_=>aa ?_
 simp only[c8]
 have hok:bC 4 ((x::l).map fQ):=by
  intro r hr
  obtain⟨y,_,rfl⟩:=List.mem_map.1 hr
  exact rfl
 repeat' first|simp(disch:=omega) only[go_sem, *]|((with_reducible apply ab)<;>intro h<;>try omega)|(with_reducible apply ah)|(with_reducible refine aj (λh=> ?_) ?_)|(refine iD (by intro r hr;cases hr) hok (by simp) (by simp;omega) (by simp;omega) ?_)
 all_goals first|rfl|(exfalso;have:=h (fQ x) List.mem_cons_self;cases this)|(exfalso;have:=h (Ex.row x) List.mem_cons_self;rw[Ex.row_eq]at this;cases this)
theorem QO (mem:List (Nat×aU)) (nx:Nat):aq Tryz.prog bH [gG Ex.row []] mem nx (.c (.tsl [])) mem nx:=by
 refine aq.of ei (by simp) λ_=> ?_
 simp only[dm]
 refine cZ (aa ?_)
 repeat' first|simp(disch:=omega) only[go_sem, *]|((with_reducible apply ab)<;>intro h<;>try omega)
 refine cZ (cZ (aa ?_))
 repeat' first|simp(disch:=omega) only[go_sem, *]|((with_reducible apply ab)<;>intro h<;>try omega)|(with_reducible apply ah)|(with_reducible refine aj (λh=> ?_) ?_)
 ·refine f7 (t:=true) rfl (λ_=> ?_) (λe=>by cases e)
  refine cZ (aa ?_)
  repeat' first|simp(disch:=omega) only[go_sem, *]|((with_reducible apply ab)<;>intro h<;>try omega)
  refine z8 2 rfl (lZ ?_)
  repeat' first|simp(disch:=omega) only[go_sem, *,zm]|((with_reducible apply ab)<;>intro h<;>try omega)
  all_goals rfl
 ·refine f7 (t:=false) rfl (λe=>by cases e) (λ_=>oM ?_)
  change AW _ _ _ _ _
  refine cZ (aa ?_)
  repeat' first|simp(disch:=omega) only[go_sem, *]|((with_reducible apply ab)<;>intro h<;>try omega)|(refine gj (by intro r hr;cases hr) ?_)
  refine lZ ?_
  repeat' first|simp(disch:=omega) only[go_sem, *,zm]|((with_reducible apply ab)<;>intro h<;>try omega)
  all_goals rfl
theorem Om (mem:List (Nat×aU)) (nx:Nat) (x:Ex) (l:List Ex) (hl:l.length+1≤100000000):aq Tryz.prog bH [gG Ex.row (x::l)] mem nx (.c (.ref nx)) ((nx,.arr 74 13 ((x::l).map Ex.row))::mem) (nx+1):=by
 refine aq.of ei (by simp) λ_=>aa ?_
 simp only[dm]
 have hok:bC 13 ((x::l).map Ex.row):=by
  intro r hr
  obtain⟨y,_,rfl⟩:=List.mem_map.1 hr
  exact Ex.row_eq y▸rfl
 repeat' first|simp(disch:=omega) only[go_sem, *]|((with_reducible apply ab)<;>intro h<;>try omega)|(with_reducible apply ah)|(with_reducible refine aj (λh=> ?_) ?_)|(refine iD (by intro r hr;cases hr) hok (by simp) (by simp;omega) (by simp;omega) ?_)
 all_goals first|rfl|(exfalso;have:=h (Ex.row x) List.mem_cons_self;cases this)|(exfalso;have:=h (Ex.row x) List.mem_cons_self;rw[Ex.row_eq]at this;cases this)
theorem NQ (mem:List (Nat×aU)) (nx:Nat) (l:List aD) (h:l≠ []) (hl:l.length≤100000000):aq Tryz.prog bI [gG mP l] mem nx (.c (.ref nx)) ((nx,.arr 114 2 (l.map mP))::mem) (nx+1):=by
 cases l with
 |nil=>exact absurd rfl h
 |cons x l=>exact I3 mem nx x l (by simpa using hl)
theorem QS (mem:List (Nat×aU)) (nx:Nat) (l:List bU) (h:l≠ []) (hl:l.length≤100000000):aq Tryz.prog bL [gG cR l] mem nx (.c (.ref nx)) ((nx,.arr 44 2 (l.map cR))::mem) (nx+1):=by
 cases l with
 |nil=>exact absurd rfl h
 |cons x l=>exact Lu mem nx x l (by simpa using hl)
theorem US (mem:List (Nat×aU)) (nx:Nat) (l:List Ix) (h:l≠ []) (hl:l.length≤100000000):aq Tryz.prog bA [gG fQ l] mem nx (.c (.ref nx)) ((nx,.arr 116 4 (l.map fQ))::mem) (nx+1):=by
 cases l with
 |nil=>exact absurd rfl h
 |cons x l=>exact M1 mem nx x l (by simpa using hl)
theorem TK (mem:List (Nat×aU)) (nx:Nat) (l:List Ex) (h:l≠ []) (hl:l.length≤100000000):aq Tryz.prog bH [gG Ex.row l] mem nx (.c (.ref nx)) ((nx,.arr 74 13 (l.map Ex.row))::mem) (nx+1):=by
 cases l with
 |nil=>exact absurd rfl h
 |cons x l=>exact Om mem nx x l (by simpa using hl)
theorem Kx (l:List ByteArray) (hl:l.length≤100000000):af Tryz.prog fM [gG (λs:ByteArray=> [pS s]) l] (gG (λs:ByteArray=> [pS s]) l):=by
 refine af.of lv (by simp) λ_=>aa ?_
 simp only[fF]
 have hok:bC 1 (l.map λs:ByteArray=> [pS s]):=aQ λx=>rfl
 cases l with
 |nil=>
  repeat' first|simp(disch:=omega) only[go_sem, *]|((with_reducible apply ab)<;>intro h<;>try omega)|(with_reducible apply ah)|(with_reducible refine aj (λh=> ?_) ?_)|(refine gj (by intro r hr;cases hr) ?_)
  all_goals rfl
 |cons x l=>
  have hl':l.length+1≤100000000:=by simpa using hl
  repeat' first|simp(disch:=omega) only[go_sem, *]|((with_reducible apply ab)<;>intro h<;>try omega)|(with_reducible apply ah)|(with_reducible refine aj (λh=> ?_) ?_)|(refine iD (by intro r hr;cases hr) hok (by simp) (by simp;omega) (by simp;omega) ?_)
  all_goals first|rfl|(exfalso;have:=h [pS x] List.mem_cons_self;cases this)
theorem l8 (l:bU) (hl:l.2.length≤100000000):af Tryz.prog di [dR l.1 l.2] (.tup [dR l.1 l.2,I 0]):=by
 refine af.of FZ (by simp) λ_=>aa ?_
 simp only[xt]
 by_cases h:l.2= []
 ·rw[h]
  repeat' first|simp(disch:=omega) only[go_sem, *]|((with_reducible apply ab)<;>intro h<;>try omega)|(with_reducible apply ah)|(with_reducible refine aj (λh=> ?_) ?_)|(refine an (J9 _ _) ?_)
  all_goals rfl
 ·have cl:= λmem nx=>NQ mem nx l.2 h hl
  repeat' first|simp(disch:=omega) only[go_sem, *]|((with_reducible apply ab)<;>intro h<;>try omega)|(with_reducible apply ah)|(with_reducible refine aj (λh=> ?_) ?_)|(refine an (cl _ _) ?_)
  all_goals rfl
def rM (l:List Ix) (i:Nat) (c:AC):List (List AC):=((l.map fQ).map λr=>r.map AC.pure).set i (match l[i]? with
 |some x=> [.pure (pI x.1.1),.pure (aw x.1.2),.pure (pS x.2.1),c]
 |none=> [])
theorem yN (l:List Ix) (i:Nat) (c:AC):(rM l i c).length=l.length:=by simp[rM]
theorem zK {l:List Ix} {i:Nat} {c:AC} (h:i<l.length):(rM l i c)[i]? =some [.pure (pI l[i].1.1),.pure (aw l[i].1.2),.pure (pS l[i].2.1),c]:=by
 unfold rM
 rw[List.getElem?_set,if_pos rfl,if_pos (by simpa using h),List.getElem?_eq_getElem h]
theorem zS {l:List Ix} {i:Nat} {c c':AC} (h:i<l.length):(rM l i c).set i [.pure (pI l[i].1.1),.pure (aw l[i].1.2),.pure (pS l[i].2.1),c']=rM l i c':=by
 unfold rM
 rw[List.set_set,List.getElem?_eq_getElem h]
theorem Il {l:List Ix} {i:Nat} (h:i<l.length):rM l i (.pure (dg cR l[i].2.2))=(l.map fQ).map λr=>r.map AC.pure:=by
 unfold rM
 rw[List.getElem?_eq_getElem h]
 refine List.ext_getElem? λj=> ?_
 rw[List.getElem?_set]
 by_cases e:i=j
 ·subst e
  rw[if_pos rfl,if_pos (by simpa using h),List.getElem?_map,List.getElem?_map,List.getElem?_eq_getElem h]
  rfl
 ·rw[if_neg e]
theorem LK {l:List Ix} {i:Nat} {c:AC} {f:AC→AC} (hf: ∀p,f (.pure p)= .pure p):(rM l i c).map (λr=>r.map f)=rM l i (f c):=by
 unfold rM
 rw[List.map_set]
 congr 1
 ·rw[List.map_map]
  refine List.map_congr_left λr _=> ?_
  simp[Function.comp_def,hf]
 ·split<;>simp[hf]
theorem KZ {l:List Ix} {i:Nat} {c:AC} {m:List (Nat×Nat)}:(rM l i c).map (λr=>r.map (b8 m))=rM l i (b8 m c):=LK λ_=>rfl
theorem Vw {l:List Ix} {i:Nat} {c:AC} {n:Nat} {rs:List (List PC)}:(rM l i c).map (λr=>r.map (jp n rs))=rM l i (jp n rs c):=LK λ_=>rfl
theorem zf {α:Type} {f:α→List PC} {l:List α} {i:Nat} (h:i<l.length) {r:List PC} (hr:r=f l[i]):(l.map f).set i r=l.map f:=by
 refine List.ext_getElem? λj=> ?_
 rw[List.getElem?_set]
 by_cases e:i=j
 ·subst e
  rw[if_pos rfl,if_pos (by simpa using h),List.getElem?_map,List.getElem?_eq_getElem h,hr]
  rfl
 ·rw[if_neg e]
theorem J7 {N:Nat}: ∀{rows:List (List AC)},Mt N rows↔ ∀r∈rows,cw N r
 | []=>by simp[Mt]
 |r::rows=>by simp[Mt,J7 (rows:=rows)]
theorem Ke {N:Nat}: ∀{xs:List AC},cw N xs↔ ∀x∈xs,gQ N x
 | []=>by simp[cw]
 |x::xs=>by simp[cw,Ke (xs:=xs)]
theorem PZ {N:Nat} {l:List Ix} {i:Nat} {c:AC} (h:gQ N c):Mt N (rM l i c):=by
 refine J7.2 λr hr=>Ke.2 λx hx=> ?_
 unfold rM at hr
 rcases List.mem_or_eq_of_mem_set hr with hr|rfl
 ·obtain⟨s,_,rfl⟩:=List.mem_map.1 hr
  obtain⟨p,_,rfl⟩:=List.mem_map.1 hx
  trivial
 ·split at hx
  ·simp only[List.mem_cons,List.not_mem_nil,or_false]at hx
   rcases hx with rfl|rfl|rfl|rfl
   ·trivial
   ·trivial
   ·trivial
   ·exact h
  ·cases hx
theorem UG {P:Program} {nt:Nat} {c:ak} {σ:St} {Q:bc→St→Prop} (nm i:Nat) (xs:List AC) (x y:AC) (hf:al σ.mem nm=some (.var xs)) (hi:xs[i]? =some x) (hr: ∀(w:World) (V:Nat→Prop) (ι:Pl) (N:Nat) (v:Value),bK w V ι N x v→bK w V ι N y v)
  (h:AW P nt c {σ with mem:=cm σ.mem nm (.var (xs.set i y))} Q):AW P nt c σ Q:=
 λc' hc w0 U rd ds ι a w hrd hs hz=>h c' hc w0 U rd ds ι a w hrd (hs.rebox hf (by
  obtain⟨b,vs,T,g1,g2,g3,g4⟩:=hs.box _ _ hf
  refine⟨b,vs,T,g1,g2,g3,aJ.of_get (by rw[List.length_set];exact g4.length) λj z v hj hv=> ?_⟩
  rw[List.getElem?_set]at hj
  by_cases e1:i=j
  ·subst e1
   rw[if_pos rfl,if_pos (List.getElem?_eq_some_iff.1 hi).1]at hj
   cases hj
   obtain⟨v',hv',hx⟩:=g4.get hi
   rw[hv']at hv
   cases hv
   exact hr _ _ _ _ _ hx
  ·rw[if_neg e1]at hj
   obtain⟨v',hv',hx⟩:=g4.get hj
   rw[hv']at hv
   cases hv
   exact hx)) hz
theorem VU {rows:List (List PC)} (w:World) (V:Nat→Prop) (ι:Pl) (N:Nat) (v:Value) (h:bK w V ι N (.tsl rows) v):bK w V ι N (.pure (.slice rows)) v:=by
 cases h with
 |tsl h=>exact .pure h
theorem XJ (mem:List (Nat×aU)) (nx:Nat) {l:List Ix} (h:l= []):aq Tryz.prog bA [gG fQ l] mem nx (.c (.tsl [])) mem nx:=h▸RV mem nx
theorem Sr (mem:List (Nat×aU)) (nx:Nat) {l:List bU} (h:l= []):aq Tryz.prog bL [gG cR l] mem nx (.c (.tsl [])) mem nx:=h▸NW mem nx
theorem WP (mem:List (Nat×aU)) (nx:Nat) {l:List Ex} (h:l= []):aq Tryz.prog bH [gG Ex.row l] mem nx (.c (.tsl [])) mem nx:=h▸QO mem nx
abbrev ZQ (e:Ex) (c c2:AC):aU:= .var [.pure (pI e.op),.pure (pS e.name),.pure (pI e.val.1),.pure (pI e.val.2),.pure (pI e.ty.1),.pure (pI e.ty.2.1),.pure (pI e.ty.2.2.1),.pure (pI e.ty.2.2.2.1),.pure (pI e.ty.2.2.2.2),.pure (pI e.lin.1),.pure (aw e.lin.2),c,c2]
abbrev ZZ:aU:= .var [.pure (pI 0),.pure (pS ⟨⟨[]⟩⟩),.pure (pI 0),.pure (pI 0),.pure (pI 0),.pure (pI 0),.pure (pI 0),.pure (pI 0),.pure (pI 0),.pure (pI 0),.nils,.nils,.nils]
def Og (e:Ex):Prop:= ∀a∈e.pre,a.idx.length≤1000000∧a.args.length≤1000000∧(∀l∈a.forms,l.2.length≤100000000)∧ ∀x∈a.idx,x.2.2.length≤1000000
theorem Rs {e:Ex} (h:Og e):e.idx.length≤1000000∧e.args.length≤1000000∧(∀l∈e.forms,l.2.length≤100000000)∧ ∀x∈e.idx,x.2.2.length≤1000000:=h e (by rw[Ex.pre_eq];exact List.mem_cons_self)
theorem Tx {e a:Ex} (h:Og e) (ha:a∈e.args):Og a:= λb hb=>h b (by
 rw[Ex.pre_eq]
 refine List.mem_cons_of_mem _ ?_
 generalize e.args=l at ha
 induction l with
 |nil=>cases ha
 |cons x r ih=>
  rw[Ex.pres]
  rcases List.mem_cons.1 ha with rfl|ha
  ·exact List.mem_append_left _ hb
  ·exact List.mem_append_right _ (ih ha))
abbrev Z3 (e:Ex):aU:= .var [.pure (pI e.op),.pure (pS e.name),.pure (pI e.val.1),.pure (pI e.val.2),.pure (pI e.ty.1),.pure (pI e.ty.2.1),.pure (pI e.ty.2.2.1),.pure (pI e.ty.2.2.2.1),.pure (pI e.ty.2.2.2.2),.pure (pI e.lin.1),.pure (aw e.lin.2),.pure (dg fQ e.idx),.pure (.slice (e.args.map Ex.row))]
set_option maxHeartbeats 8000000 in
theorem zr (e:Ex):Og e→af Tryz.prog l7 [j5 e,.c (.clo di [])] (.tup [j5 e,I 0]):=by
 refine Ex.ind (p:= λe=>Og e→af Tryz.prog l7 [j5 e,.c (.clo di [])] (.tup [j5 e,I 0])) (λe ih hok=> ?_) e
 obtain⟨h1,h2,h3,h4⟩:=Rs hok
 have pc:=l8 e.lin (h3 _ List.mem_cons_self)
 refine af.of Aq (by simp) λhb=>aa ?_
 simp only[sD]
 refine(Classical.em (e.idx= [])).elim (λhI=> ?_) (λhI=> ?_)
 focus
  have cI:= λmem nx=>XJ mem nx hI
  repeat' first|simp(disch:=omega) only[go_sem]|((with_reducible refine ab ?_ ?_)<;>intro h<;>try first|omega|simp(disch:=omega) only[go_sem, *])|(refine el pc rfl rfl ?_)|(refine an (cI _ _) ?_)
  refine UG 2 11 _ (.tsl []) (.pure (dg fQ e.idx)) rfl rfl (by rw[hI];exact VU) ?_
  refine ap (λk:Nat=>⟨[(34,I k),(33,I e.idx.length),(32,.c (.pure (dg fQ e.idx))),(6,.c (.ptr 2 0)),(4,.c (.ptr 1 0)),(2,.c (.ptr 0 0)),(1,.c (.clo di []))], [(2,ZQ e (.pure (dg fQ e.idx)) (.pure (.slice (e.args.map Ex.row)))),(1,ZZ),(0,Z3 e)],4,0⟩) (λk=>k=0) (λk=>0) ⟨0, [],rfl,by simp[cm]⟩ ?_
  rintro k rfl
  have hl:e.idx.length=0:=by rw[hI];rfl
  clear hI
  refine aa ?_
  repeat' first|simp(disch:=omega) only[go_sem,hl]|((with_reducible refine ab ?_ ?_)<;>intro h<;>try first|omega|simp(disch:=omega) only[go_sem, *,hl])
  clear hl
 rotate_left
 focus
  have cI:= λmem nx=>US mem nx e.idx hI (by omega)
  repeat' first|simp(disch:=omega) only[go_sem]|((with_reducible refine ab ?_ ?_)<;>intro h<;>try first|omega|simp(disch:=omega) only[go_sem, *])|(refine el pc rfl rfl ?_)|(refine an (cI _ _) ?_)
  refine ap (λk:Nat=>⟨[(34,I k),(33,I e.idx.length),(32,.c (.pure (dg fQ e.idx))),(6,.c (.ptr 2 0)),(4,.c (.ptr 1 0)),(2,.c (.ptr 0 0)),(1,.c (.clo di []))], [(3,.arr 116 4 (e.idx.map fQ)),(2,ZQ e (.ref 3) (.pure (.slice (e.args.map Ex.row)))),(1,ZZ),(0,Z3 e)],4,0⟩) (λk=>k≤e.idx.length) (λk=>e.idx.length-k) ⟨0, [],by omega,by simp[cm]⟩ ?_
  intro k hk
  by_cases hlt:k<e.idx.length
  rotate_left
  focus
   refine rV [3] ?_
   simp(disch:=omega) only[go_sem]
   refine aa ?_
   clear hI
   repeat' first|simp(disch:=omega) only[go_sem]|((with_reducible refine ab ?_ ?_)<;>intro h<;>try first|omega|simp(disch:=omega) only[go_sem, *])
  rotate_left
  ·have pk:=l8 e.idx[k].1 (h3 _ (List.mem_cons_of_mem _ (List.mem_flatMap.2 ⟨_,List.getElem_mem hlt,List.mem_cons_self⟩)))
   have hat:=h4 _ (List.getElem_mem hlt)
   have sI:(e.idx.map fQ).set k [pI e.idx[k].1.1,aw e.idx[k].1.2,pS e.idx[k].2.1,dg cR e.idx[k].2.2]=e.idx.map fQ:=zf hlt rfl
   by_cases hA:e.idx[k].2.2= []
   ·have cA:= λmem nx=>Sr mem nx hA
    have sE:(e.idx.map fQ).set k [pI e.idx[k].1.1,aw e.idx[k].1.2,pS e.idx[k].2.1,.slice []]=e.idx.map fQ:=zf hlt (by unfold fQ;rw[hA];rfl)
    have hl:e.idx[k].2.2.length=0:=by rw[hA];rfl
    clear hA
    refine aa ?_
    repeat' first|simp(disch:=omega) only[go_sem,ai hlt,fQ,wrap_i64,sI,sE]|((with_reducible refine ab ?_ ?_)<;>intro h<;>try first|omega|simp(disch:=omega) only[go_sem, *,ai hlt,fQ,wrap_i64,sI,sE])|(with_reducible apply ah)|(with_reducible refine aj (λh=> ?_) ?_)|(refine el pk rfl rfl ?_)|(refine an (cA _ _) ?_)
    all_goals
     refine ap (λ_:Nat=>⟨[(66,I 0),(65,I 0),(34,I k),(33,I e.idx.length),(32,.c (.pure (dg fQ e.idx))),(6,.c (.ptr 2 0)),(4,.c (.ptr 1 0)),(2,.c (.ptr 0 0)),(1,.c (.clo di []))], [(3,.arr 116 4 (e.idx.map fQ)),(2,ZQ e (.ref 3) (.pure (.slice (e.args.map Ex.row)))),(1,ZZ),(0,Z3 e)],4,0⟩) (λ_=>True) (λ_=>0) ⟨0, [],trivial,by simp[cm,hl]⟩ ?_
     rintro _ _
     refine aa ?_
     repeat' first|simp(disch:=omega) only[go_sem,wrap_i64]|((with_reducible refine ab ?_ ?_)<;>intro h<;>try first|omega|simp(disch:=omega) only[go_sem, *,wrap_i64])
     exact⟨k+1, [],by omega,by omega,by simp⟩
   ·have cA:= λmem nx=>QS mem nx _ hA (by omega)
    refine ZL 3 116 4 _ rfl ?_
    rw[←Il hlt]
    refine aa ?_
    repeat' first|simp(disch:=omega) only[go_sem,ai hlt,fQ,wrap_i64,zK hlt,yN,zS hlt]|((with_reducible refine ab ?_ ?_)<;>intro h<;>try first|omega|simp(disch:=omega) only[go_sem, *,ai hlt,fQ,wrap_i64,zK hlt,yN,zS hlt])|(with_reducible apply ah)|(with_reducible refine aj (λh=> ?_) ?_)|(refine el pk rfl rfl ?_)|(refine an (cA _ _) ?_)
    all_goals
     refine ap (λj:Nat=>⟨[(66,I j),(65,I e.idx[k].2.2.length),(64,.c (.pure (dg cR e.idx[k].2.2))),(34,I k),(33,I e.idx.length),(32,.c (.pure (dg fQ e.idx))),(8,I k),(6,.c (.ptr 2 0)),(4,.c (.ptr 1 0)),(2,.c (.ptr 0 0)),(1,.c (.clo di []))], [(5,.arr 44 2 (e.idx[k].2.2.map cR)),(3,.arn 116 4 (rM e.idx k (.ref 5))),(2,ZQ e (.ref 3) (.pure (.slice (e.args.map Ex.row)))),(1,ZZ),(0,Z3 e)],6,0⟩) (λj=>j≤e.idx[k].2.2.length) (λj=>e.idx[k].2.2.length-j) ⟨0, [],by omega,(by simp[cm,KZ];exact PZ (by simp[gQ]))⟩ ?_
     intro j hj
     by_cases hjl:j<e.idx[k].2.2.length
     ·have pj:=l8 e.idx[k].2.2[j] (h3 _ (List.mem_cons_of_mem _ (List.mem_flatMap.2 ⟨_,List.getElem_mem hlt,List.mem_cons_of_mem _ (List.getElem_mem hjl)⟩)))
      have sJ:(e.idx[k].2.2.map cR).set j [pI e.idx[k].2.2[j].1,aw e.idx[k].2.2[j].2]=e.idx[k].2.2.map cR:=zf hjl rfl
      refine aa ?_
      repeat' first|simp(disch:=omega) only[go_sem,ai hjl,cR,wrap_i64,zK hlt,yN,zS hlt,sJ]|((with_reducible refine ab ?_ ?_)<;>intro h<;>try first|omega|simp(disch:=omega) only[go_sem, *,ai hjl,cR,wrap_i64,zK hlt,yN,zS hlt,sJ])|(with_reducible apply ah)|(with_reducible refine aj (λh=> ?_) ?_)|(refine el pj rfl rfl ?_)
      all_goals exact⟨j+1, [],by omega,by omega,(by simp[cm,KZ];exact PZ (by simp[gQ]))⟩
     ·refine rV [5] ?_
      simp(disch:=omega) only[go_sem,Vw,Il hlt]
      refine Zt 3 116 4 _ rfl ?_
      refine aa ?_
      repeat' first|simp(disch:=omega) only[go_sem,wrap_i64]|((with_reducible refine ab ?_ ?_)<;>intro h<;>try first|omega|simp(disch:=omega) only[go_sem, *,wrap_i64])
      exact⟨k+1, [],by omega,by omega,by simp[cm]⟩
 all_goals
  clear cI pc
  by_cases hX:e.args= []
  ·have cX:= λmem nx=>WP mem nx hX
   have hl:e.args.length=0:=by rw[hX];rfl
   have hr:e.args.map Ex.row= []:=by rw[hX];rfl
   clear hX
   repeat' first|simp(disch:=omega) only[go_sem,hl]|((with_reducible refine ab ?_ ?_)<;>intro h<;>try first|omega|simp(disch:=omega) only[go_sem, *,hl])|(refine an (cX _ _) ?_)
   refine ap (λ_:Nat=>⟨[(98,I 0),(97,I 0),(6,.c (.ptr 2 0)),(4,.c (.ptr 1 0)),(2,.c (.ptr 0 0)),(1,.c (.clo di []))], [(2,ZQ e (.pure (dg fQ e.idx)) (.tsl [])),(1,ZZ),(0,Z3 e)],5,0⟩) (λ_=>True) (λ_=>0) ⟨0, [],trivial,by simp[cm,hl]⟩ ?_
   rintro _ _
   refine aa ?_
   repeat' first|simp(disch:=omega) only[go_sem]|((with_reducible refine ab ?_ ?_)<;>intro h<;>try first|omega|simp(disch:=omega) only[go_sem, *])
   all_goals(unfold j5;rw[hr])
  ·have cX:= λmem nx=>TK mem nx e.args hX (by omega)
   repeat' first|simp(disch:=omega) only[go_sem]|((with_reducible refine ab ?_ ?_)<;>intro h<;>try first|omega|simp(disch:=omega) only[go_sem, *])|(refine an (cX _ _) ?_)
   refine ap (λj:Nat=>⟨[(98,I j),(97,I e.args.length),(96,.c (.pure (.slice (e.args.map Ex.row)))),(6,.c (.ptr 2 0)),(4,.c (.ptr 1 0)),(2,.c (.ptr 0 0)),(1,.c (.clo di []))], [(4,.arr 74 13 (e.args.map Ex.row)),(2,ZQ e (.pure (dg fQ e.idx)) (.ref 4)),(1,ZZ),(0,Z3 e)],5,0⟩) (λj=>j≤e.args.length) (λj=>e.args.length-j) ⟨0, [],by omega,by simp[cm]⟩ ?_
   intro j hj
   by_cases hjl:j<e.args.length
   ·have pj:=ih _ (List.getElem_mem hjl) (Tx hok (List.getElem_mem hjl))
    generalize hg:e.args[j]=g at*
    have sX:(e.args.map Ex.row).set j [pI g.op,pS g.name,pI g.val.1,pI g.val.2,pI g.ty.1,pI g.ty.2.1,pI g.ty.2.2.1,pI g.ty.2.2.2.1,pI g.ty.2.2.2.2,pI g.lin.1,aw g.lin.2,dg fQ g.idx,.slice (g.args.map Ex.row)]=e.args.map Ex.row:=zf hjl (by rw[hg];exact(Ex.row_eq _).symm)
    have hgt:(e.args.map Ex.row)[j]? =some (Ex.row g):=by rw[ai hjl,hg]
    clear hg
    refine aa ?_
    repeat' first|simp(disch:=omega) only[go_sem,hgt,Ex.row_eq,wrap_i64,sX]|((with_reducible refine ab ?_ ?_)<;>intro h<;>try first|omega|simp(disch:=omega) only[go_sem, *,hgt,Ex.row_eq,wrap_i64,sX])|(with_reducible apply ah)|(with_reducible refine aj (λh=> ?_) ?_)|(refine el pj rfl rfl ?_)
    all_goals exact⟨j+1, [],by omega,by omega,by simp[cm]⟩
   ·refine rV [4] ?_
    simp(disch:=omega) only[go_sem]
    refine aa ?_
    repeat' first|simp(disch:=omega) only[go_sem]|((with_reducible refine ab ?_ ?_)<;>intro h<;>try first|omega|simp(disch:=omega) only[go_sem, *])
    all_goals rfl
theorem Gq {e:Ex} (h:Og e):af Tryz.prog BM [j5 e] (j5 e):=by
 refine af.of IP (by simp) λhb=>aa ?_
 simp only[Ci]
 have pc:=zr e h
 repeat' first|simp(disch:=omega) only[go_sem, *]|((with_reducible apply ab)<;>intro h<;>try omega)|(with_reducible apply ah)|(with_reducible refine aj (λh=> ?_) ?_)|(refine el pc rfl rfl ?_)
 all_goals rfl
theorem za {α:Type} {f:α→List PC} {l:List α} {k:Nat} (h:k<l.length) {r:List PC} (hr:r=f l[k]):(l.take k).map f++ [r]=(l.take (k+1)).map f:=by
 rw[List.take_succ_eq_append_getElem h,List.map_append,hr]
 rfl
theorem lk (l:List dW) (hl:l.length≤1000000) (h: ∀x∈l,x.2.2.length≤1000):af Tryz.prog m6 [gG ic l] (gG ic l):=by
 refine af.of wv (by simp) λhb=>aa ?_
 simp only[nT]
 repeat' first|simp(disch:=omega) only[go_sem, *]|((with_reducible apply ab)<;>intro h<;>try omega)
 refine fj 3 111 3 rfl (by decide) ?_
 refine ap (λk:Nat=>⟨[(8,I k),(7,I l.length),(6,gG ic l),(3,.c (.ref 0))], [(0,.arr 111 3 ((l.take k).map ic))],1,0⟩) (λk=>k≤l.length) (λk=>l.length-k) ⟨0, [],by omega,by simp⟩ ?_
 intro k hk
 refine aa ?_
 by_cases hlt:k<l.length
 ·have pk:=eO l[k].2 (h _ (List.getElem_mem hlt))
  have HT:=Lib.hid (za (f:=ic) hlt (r:= [pS l[k].1,pI l[k].2.1,aw l[k].2.2]) rfl)
  repeat' first|simp(disch:=omega) only[go_sem, *,ai hlt,ic,wrap_i64]|((with_reducible apply ab)<;>intro h<;>try omega)|(with_reducible apply ah)|(with_reducible refine aj (λh=> ?_) ?_)|(refine el pk rfl rfl ?_)|(refine bf rfl (by intro h;cases h) (aO rfl) (by simp;omega) (by simp;omega) ?_)
  all_goals
   rw[HT.out]
   exact⟨k+1, [(0,2)],by omega,by omega,by simp⟩
 ·repeat' first|simp(disch:=omega) only[go_sem, *]|((with_reducible apply ab)<;>intro h<;>try omega)
  rw[List.take_of_length_le (by omega)]
def Zl (p:bz):Prop:=(p.sizes.length≤1000∧p.wher.length≤1000∧p.params.length≤1000∧p.defs.length≤1000∧p.outs.length≤1000)∧(∀c∈p.wher,c.1.2.length≤1000)∧
 (∀x∈p.params,x.2.2.length≤1000∧ ∀l∈x.2.2,l.2.length≤1000)∧ ∀d∈p.defs,(d.dims.length≤1000∧ ∀a∈d.dims,a.2.2.length≤1000)∧(d.red.length≤1000∧ ∀a∈d.red,a.2.2.length≤1000)∧Og d.body
abbrev YV (p:bz) (c1 c2 c3:AC):aU:= .var [.pure (gn p.sizes),c1,c2,c3,.pure (gn p.outs)]
set_option maxHeartbeats 8000000 in
theorem qn {p:bz} (hp:Zl p):af Tryz.prog gl [jE p] (jE p):=by
 obtain⟨⟨z1,z2,z3,z4,z5⟩,hw,hq,hd⟩:=hp
 have c1:=Kx p.sizes (by omega)
 have c5:=Kx p.outs (by omega)
 refine af.of CQ (by simp) λhb=>aa ?_
 simp only[tX]
 repeat' first|simp(disch:=omega) only[go_sem, *]|((with_reducible apply ab)<;>intro h<;>try omega)|(with_reducible apply ah)|(with_reducible refine aj (λh=> ?_) ?_)|(refine el c1 rfl rfl ?_)|(refine el c5 rfl rfl ?_)
 all_goals
  refine dD 2 1 46 3 _ rfl rfl (by decide) ?_
  refine ap (λk:Nat=>⟨[(20,I k),(19,I p.wher.length),(18,gG cP p.wher),(3,.c (.ptr 2 0)),(2,.c (.ptr 1 0)),(1,.c (.ptr 0 0))], [(3,.arr 46 3 ((p.wher.take k).map cP)),(2,YV p (.ref 3) .nils .nils),(1,.var [.nils,.nils,.nils,.nils,.nils]),(0,kx p)],4,0⟩) (λk=>k≤p.wher.length) (λk=>p.wher.length-k) ⟨0, [],by omega,by simp[cm]⟩ ?_
  intro k hk
  by_cases hlt:k<p.wher.length
  ·have pk:=eO p.wher[k].1 (hw _ (List.getElem_mem hlt))
   have HT:=Lib.hid (za (f:=cP) hlt (r:= [pI p.wher[k].1.1,aw p.wher[k].1.2,pB p.wher[k].2]) rfl)
   refine aa ?_
   repeat' first|simp(disch:=omega) only[go_sem, *,ai hlt,cP,wrap_i64]|((with_reducible apply ab)<;>intro h<;>try omega)|(with_reducible apply ah)|(with_reducible refine aj (λh=> ?_) ?_)|(refine el pk rfl rfl ?_)|(refine bf rfl (by intro h;cases h) (aO rfl) (by simp;omega) (by simp;omega) ?_)
   all_goals
    rw[HT.out]
    exact⟨k+1, [(3,5)],by omega,by omega,by simp[cm]⟩
  refine rV [3] ?_
  simp(disch:=omega) only[go_sem]
  refine aa ?_
  rw[show p.wher.take k=p.wher from List.take_of_length_le (by omega)]
  repeat' first|simp(disch:=omega) only[go_sem, *]|((with_reducible apply ab)<;>intro h<;>try omega)
  clear hlt hk
  refine dD 2 2 89 7 _ rfl rfl (by decide) ?_
  refine ap (λk:Nat=>⟨[(39,I k),(38,I p.params.length),(37,gG ku p.params),(3,.c (.ptr 2 0)),(2,.c (.ptr 1 0)),(1,.c (.ptr 0 0))], [(4,.arr 89 7 ((p.params.take k).map ku)),(2,YV p (.pure (dg cP p.wher)) (.ref 4) .nils),(1,.var [.nils,.nils,.nils,.nils,.nils]),(0,kx p)],5,0⟩) (λk=>k≤p.params.length) (λk=>p.params.length-k) ⟨0, [],by omega,by simp[cm]⟩ ?_
  intro k hk
  by_cases hlt:k<p.params.length
  ·have pk:=jW p.params[k].2.2 (hq _ (List.getElem_mem hlt)).1 (hq _ (List.getElem_mem hlt)).2
   generalize hg:p.params[k]=g at pk
   have HT:=Lib.hid (za (f:=ku) hlt (r:= [pS g.1,pI g.2.1.1,pI g.2.1.2.1,pI g.2.1.2.2.1,pI g.2.1.2.2.2.1,pI g.2.1.2.2.2.2,dg cR g.2.2]) (by rw[hg];rfl))
   have hgt:(p.params.map ku)[k]? =some (ku g):=by rw[ai hlt,hg]
   clear hg
   refine aa ?_
   repeat' first|simp(disch:=omega) only[go_sem, *,hgt,ku,wrap_i64]|((with_reducible apply ab)<;>intro h<;>try omega)|(with_reducible apply ah)|(with_reducible refine aj (λh=> ?_) ?_)|(refine el pk rfl rfl ?_)|(refine bf rfl (by intro h;cases h) (aO rfl) (by simp;omega) (by simp;omega) ?_)
   all_goals
    rw[HT.out]
    exact⟨k+1, [(4,6)],by omega,by omega,by simp[cm]⟩
  refine rV [4] ?_
  simp(disch:=omega) only[go_sem]
  refine aa ?_
  rw[show p.params.take k=p.params from List.take_of_length_le (by omega)]
  repeat' first|simp(disch:=omega) only[go_sem, *]|((with_reducible apply ab)<;>intro h<;>try omega)
  clear hlt hk
  refine dD 2 3 76 22 _ rfl rfl (by decide) ?_
  refine ap (λk:Nat=>⟨[(57,I k),(56,I p.defs.length),(55,gG eh p.defs),(3,.c (.ptr 2 0)),(2,.c (.ptr 1 0))], [(5,.arr 76 22 ((p.defs.take k).map eh)),(2,YV p (.pure (dg cP p.wher)) (.pure (dg ku p.params)) (.ref 5)),(1,.var [.nils,.nils,.nils,.nils,.nils])],6,0⟩) (λk=>k≤p.defs.length) (λk=>p.defs.length-k) ⟨0, [],by omega,by simp[cm]⟩ ?_
  intro k hk
  by_cases hlt:k<p.defs.length
  ·have hdk:=hd _ (List.getElem_mem hlt)
   have p1:=lk p.defs[k].dims (by have:=hdk.1.1;omega) hdk.1.2
   have p2:=lk p.defs[k].red (by have:=hdk.2.1.1;omega) hdk.2.1.2
   have p3:=Gq hdk.2.2
   clear hdk
   generalize hg:p.defs[k]=g at p1 p2 p3
   have HT:=Lib.hid (za (f:=eh) hlt (r:= [pS g.name,pI g.ty.1,pI g.ty.2.1,pI g.ty.2.2.1,pI g.ty.2.2.2.1,pI g.ty.2.2.2.2,dg ic g.dims,dg ic g.red,pI g.fold,pI g.body.op,pS g.body.name,pI g.body.val.1,pI g.body.val.2,pI g.body.ty.1,pI g.body.ty.2.1,pI g.body.ty.2.2.1,pI g.body.ty.2.2.2.1,pI g.body.ty.2.2.2.2,pI g.body.lin.1,aw g.body.lin.2,dg fQ g.body.idx,.slice (g.body.args.map Ex.row)]) (by rw[hg];rfl))
   have hgt:(p.defs.map eh)[k]? =some (eh g):=by rw[ai hlt,hg]
   clear hg
   refine aa ?_
   repeat' first|simp(disch:=omega) only[go_sem, *,hgt,eh,wrap_i64]|((with_reducible apply ab)<;>intro h<;>try omega)|(with_reducible apply ah)|(with_reducible refine aj (λh=> ?_) ?_)|(refine el p1 rfl rfl ?_)|(refine el p2 rfl rfl ?_)|(refine el p3 rfl rfl ?_)|(refine bf rfl (by intro h;cases h) (aO rfl) (by simp;omega) (by simp;omega) ?_)
   all_goals
    rw[HT.out]
    exact⟨k+1, [(5,7)],by omega,by omega,by simp[cm]⟩
  refine rV [5] ?_
  simp(disch:=omega) only[go_sem]
  refine aa ?_
  rw[show p.defs.take k=p.defs from List.take_of_length_le (by omega)]
  repeat' first|simp(disch:=omega) only[go_sem, *]|((with_reducible apply ab)<;>intro h<;>try omega)
  all_goals rfl
end Go.Proofs.YthbcbaembicdbaaGreatDoor
