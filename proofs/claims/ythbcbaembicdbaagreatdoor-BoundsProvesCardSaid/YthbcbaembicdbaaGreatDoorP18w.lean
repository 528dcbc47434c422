import Derived.Test.YthbcbaembicdbaaGreatDoorV18m
import Derived.Test.YthbcbaembicdbaaGreatDoorVCq
import Derived.Test.YthbcbaembicdbaaGreatDoorV17m
import Derived.Test.YthbcbaembicdbaaGreatDoorV17x
set_option linter.unusedVariables false
set_option linter.unusedSimpArgs false
set_option maxHeartbeats 4000000
set_option maxRecDepth 1000000
namespace Go.Proofs.YthbcbaembicdbaaGreatDoor
open Go.Abs Go.RowKit
noncomputable section
abbrev fV (s:ByteArray):bY:=(0, [(s,1)])
def Tw (a:iu):List bt:=if(eD (fV a.1) a.2).2=0 then [(fV a.1,false),((eD (fV a.1) a.2).1,false)]else [(fV a.1,false)]
def Ci (p:bI) (d:zB):List bt:=p.wher++p.sizes.map (λs=>(((-1, [(s,1)]),false):bt))++(d.dims++d.red).flatMap Tw
def LO (p:bI):Prop:=(∀c∈p.wher,bq c.1)∧(∀x∈p.params,∀l∈x.2.2,bq l)∧ ∀d∈p.defs,(∀a∈d.dims++d.red,bq a.2)∧ ∀e∈d.body.pre,∀l∈e.forms,bq l
def PG (p:bI) (d:zB):Prop:=p.wher.length≤1000∧p.sizes.length≤1000∧d.dims.length≤1000∧d.red.length≤1000∧(∀s∈p.sizes,gc s)∧ ∀a∈d.dims++d.red,gc a.1∧bq a.2∧a.2.2.length≤1000
theorem YX (a:iu):(Tw a).length≤2:=by unfold Tw;split<;>simp
theorem QK {l:List iu}:(l.flatMap Tw).length≤2*l.length:=by
 induction l with
 |nil=>simp
 |cons a l ih=>have:=YX a;simp only[List.flatMap_cons,List.length_append,List.length_cons];omega
theorem Rz {l:List iu} {k:Nat} (h:k<l.length):(l.take (k+1)).flatMap Tw=(l.take k).flatMap Tw++Tw l[k]:=by
 rw[List.take_succ_eq_append_getElem h,List.flatMap_append]
 simp
theorem EJ (d:zB) (h1:d.dims.length≤1000) (h2:d.red.length≤1000):ac Tryz.prog yd [Oq d] (j5 fl (d.dims++d.red)):=by
 refine ac.of GI (by simp) λhb=>aa ?_
 conv in yD=>cbv
 have hd:bl 3 (d.dims.map fl):=av λx=>rfl
 have hr:bl 3 (d.red.map fl):=av λx=>rfl
 have tk:(d.dims.map fl).take d.dims.length=d.dims.map fl:=List.take_of_length_le (by simp)
 by_cases h:d.red= []
 ·have hl:d.red.map fl= []:=by rw[h];rfl
  have e:d.dims++d.red=d.dims:=by rw[h,List.append_nil]
  rw[e]
  clear h e
  repeat' first|simp(disch:=omega)only[go_sem, *,hd,hl,tk,Int.toNat_zero,Option.getD_none,Option.getD_some]|(with_reducible apply ab)<;>intro h<;>try omega|(with_reducible apply ag)|(with_reducible refine aj (λh=> ?_) ?_)|refine dI hd ?_
  all_goals rfl
 ·have z:d.red.map fl≠ []:=by simpa using h
  rw[show j5 fl (d.dims++d.red)= .c (.pure (.slice (d.dims.map fl++d.red.map fl))) by show AV.c (.pure (.slice (List.map fl (_++_))))=_;rw[List.map_append]]
  clear h
  repeat' first|simp(disch:=omega)only[go_sem, *,hd,tk,Int.toNat_zero,Option.getD_none,Option.getD_some]|(with_reducible apply ab)<;>intro h<;>try omega|(with_reducible apply ag)|(with_reducible refine aj (λh=> ?_) ?_)|refine dv hd hr z (by simp;omega) (by simp;omega) ?_
  all_goals rfl
def sC (s:ByteArray):bt:=((-1, [(s,1)]),false)
abbrev rA (p:bI) (i:Nat):List (List PC):=(p.wher++(p.sizes.take i).map sC).map cP
theorem Rn {p:bI} {i:Nat} (h:i<p.sizes.length):rA p i++ [[pI (-1),aw [(p.sizes[i],1)],pB false]]=rA p (i+1):=by
 have e:p.wher++(p.sizes.take (i+1)).map sC=(p.wher++(p.sizes.take i).map sC)++ [sC p.sizes[i]]:=by
  rw[List.take_succ_eq_append_getElem h,List.map_append,List.append_assoc]
  rfl
 exact(List.map_append (f:=cP) (l₁:=p.wher++(p.sizes.take i).map sC) (l₂:= [sC p.sizes[i]])).symm.trans (congrArg (List.map cP) e.symm)
theorem Xw {p:bI} {i:Nat} (h:i<p.sizes.length):rA p i++ [[pI (-1),.slice [[pS p.sizes[i],pI 1]],pB false]]=rA p (i+1):=Rn h
abbrev rX (p:bI) (l:List iu) (i:Nat):List (List PC):=(p.wher++p.sizes.map sC++(l.take i).flatMap Tw).map cP
theorem Vz {p:bI} {l:List iu} {i:Nat} (h:i<l.length) (h0:(eD (fV l[i].1) l[i].2).2=0):rX p l i++ [[pI 0,aw [(l[i].1,1)],pB false]]++ [[pI (eD (fV l[i].1) l[i].2).1.1,aw (eD (fV l[i].1) l[i].2).1.2,pB false]]=rX p l (i+1):=by
 unfold rX
 rw[Rz h,Tw,if_pos h0]
 simp[List.map_append,cP]
theorem WK {p:bI} {l:List iu} {i:Nat} (h:i<l.length) (h0:(eD (fV l[i].1) l[i].2).2≠0):rX p l i++ [[pI 0,aw [(l[i].1,1)],pB false]]=rX p l (i+1):=by
 unfold rX
 rw[Rz h,Tw,if_neg h0]
 simp[List.map_append,cP]
theorem V0 (p:bI) (d:zB):Ci p d=p.wher++p.sizes.map sC++(d.dims++d.red).flatMap Tw:=rfl
theorem uu {p:bI} {k:Nat} (hk:k<p.defs.length) (h:PG p p.defs[k]):au Tryz.prog lr [fO p,I k] [] 0 (.c (.ref 0)) [(0,.arr 46 3 ((Ci p p.defs[k]).map cP))] 1:=by
 obtain⟨z1,z2,z3,z4,hs,hx⟩:=h
 refine au.ofZ (ress:= [.c (.ref 0)]) tS (by simp) λhb=>aa ?_
 conv in lj=>cbv
 have A:bl 3 (p.wher.map cP):=av λx=>rfl
 repeat' first|simp(disch:=omega)only[go_sem, *]|(with_reducible apply ab)<;>intro h<;>try omega|refine kR A (by simp;omega) (by simp;omega) ?_
 refine an (λi:Nat=>⟨[(21,I i),(20,I p.sizes.length),(19,.c (.pure (c8 p.sizes))),(5,.c (.ref 1)),(2,.c (.ptr 0 0)),(1,I k)], [(1,.arr 46 3 (rA p i)),(0,eV p)],2,0⟩) (λi=>i≤p.sizes.length) (λi=>p.sizes.length-i) ⟨0, [],by omega,by simp⟩ ?_
 intro i hi
 refine aa ?_
 by_cases g:i<p.sizes.length
 ·have pv:=Dk p.sizes[i]
  rw[if_pos (hs _ (List.getElem_mem g))]at pv
  have HT:=Lib.hid (Rn g)
  have u:(rA p i).length≤3000:=by simp;omega
  repeat' first|simp(disch:=omega)only[go_sem, *,ah g,wrap_i64]|(with_reducible apply ab)<;>intro h<;>try omega|refine cg pv rfl rfl ?_|refine aJ rfl (by intro h;cases h) (aB rfl) (by simp only[List.length_append,List.length_cons,List.length_nil];omega) (by simp only[List.length_append,List.length_cons,List.length_nil];omega) ?_
  rw[HT.out]
  exact⟨i+1, [(1,3)],by omega,by omega,by simp⟩
 ·have pa:=EJ p.defs[k] z3 z4
  rw[show rA p i=(p.wher++p.sizes.map sC).map cP by unfold rA;rw[List.take_of_length_le (by omega)]]
  generalize hl:p.defs[k].dims++p.defs[k].red=l at*
  have H:l.length≤2000:=by rw[←hl];simp;omega
  rw[V0,hl]
  clear hs hl
  repeat' first|simp(disch:=omega)only[go_sem, *,ah hk,da]|(with_reducible apply ab)<;>intro h<;>try omega|refine cg pa rfl rfl ?_
  refine an (λi:Nat=>⟨[(41,I i),(40,I l.length),(39,j5 fl l),(5,.c (.ref 1))], [(1,.arr 46 3 (rX p l i))],2,0⟩) (λi=>i≤l.length) (λi=>l.length-i) ⟨0, [],by omega,by simp⟩ ?_
  clear pa g hi
  intro i hi
  refine aa ?_
  by_cases g:i<l.length
  ·obtain⟨g1,g2,g3⟩:=hx _ (List.getElem_mem g)
   have pv:=Dk l[i].1
   rw[if_pos g1]at pv
   have pb:=kM (a:=fV l[i].1) (b:=l[i].2) ⟨by simp[ay],by simp[ay]⟩ g2 (by simp) (by omega)
   have u:(rX p l i).length≤100000:=by
    have:=QK (l:=l.take i)
    simp at this ⊢
    omega
   by_cases h0:(eD (fV l[i].1) l[i].2).2=0
   ·have HT:=Lib.hid (Vz (p:=p) g h0)
    rw[show uO (eD (fV l[i].1) l[i].2)= .tup [dm (eD (fV l[i].1) l[i].2).1.1 (eD (fV l[i].1) l[i].2).1.2,Go.Abs.B true] by unfold uO;rw[decide_eq_true h0]]at pb
    clear h0 g1 g2 g3
    generalize eD (fV l[i].1) l[i].2=r at*
    repeat' first|simp(disch:=omega)only[go_sem, *,ah g,fl,wrap_i64]|(with_reducible apply ab)<;>intro h<;>try omega|refine cg pv rfl rfl ?_|refine cg pb rfl rfl ?_|refine aJ rfl (by intro h;cases h) (aB rfl) (by simp only[List.length_append,List.length_cons,List.length_nil];omega) (by simp only[List.length_append,List.length_cons,List.length_nil];omega) ?_
    rw[HT.out]
    exact⟨i+1, [(1,6)],by omega,by omega,by simp⟩
   ·have HT:=Lib.hid (WK (p:=p) g h0)
    rw[show uO (eD (fV l[i].1) l[i].2)= .tup [dm (eD (fV l[i].1) l[i].2).1.1 (eD (fV l[i].1) l[i].2).1.2,Go.Abs.B false] by unfold uO;rw[decide_eq_false h0]]at pb
    clear h0 g1 g2 g3
    generalize eD (fV l[i].1) l[i].2=r at*
    repeat' first|simp(disch:=omega)only[go_sem, *,ah g,fl,wrap_i64]|(with_reducible apply ab)<;>intro h<;>try omega|refine cg pv rfl rfl ?_|refine cg pb rfl rfl ?_|refine aJ rfl (by intro h;cases h) (aB rfl) (by simp only[List.length_append,List.length_cons,List.length_nil];omega) (by simp only[List.length_append,List.length_cons,List.length_nil];omega) ?_
    rw[HT.out]
    exact⟨i+1, [(1,4)],by omega,by omega,by simp⟩
  ·rw[show rX p l i=(p.wher++p.sizes.map sC++l.flatMap Tw).map cP by unfold rX;rw[List.take_of_length_le (by omega)]]
   repeat' first|simp(disch:=omega)only[go_sem, *]|(with_reducible apply ab)<;>intro h<;>try omega
   refine⟨[], [(0,1)], ?_⟩
   simp(disch:=omega)only[go_sem,aR]
   simp
def Vv (p:bI) (k:Int):List bt:=if(bQ p).2≠0∨k<0 then []else match p.defs[k.toNat]? with
 |some d=>Ci p d
 |none=> []
theorem Sb {p:bI} {n:Nat} (h0:(bQ p).2=0) (h:n<p.defs.length):Vv p n=Ci p p.defs[n]:=by
 unfold Vv
 rw[if_neg (by rintro(h|h);exact h h0;omega),Int.toNat_natCast,List.getElem?_eq_getElem h]
theorem PH {p:bI} {k:Int} (h:(bQ p).2≠0∨k<0∨(p.defs.length:Int)≤k):Vv p k= []:=by
 unfold Vv
 split
 ·rfl
 ·rename_i hn
  rw[List.getElem?_eq_none (by omega)]
theorem tQ {p:bI} {k:Int} (hf:j0 p) (C:pR p) (v:(bQ p).2=0→ ∀(i:Nat) (h:i<p.defs.length),PG p p.defs[i]):ac Tryz.prog mQ [fO p,I k] (bT (Vv p k)):=by
 refine ac.of vT (by simp) λhb=>aa ?_
 conv in mH=>cbv
 have pv:=iN hf C
 by_cases h0:(bQ p).2=0
 ·by_cases hk:0≤k∧k<p.defs.length
  ·obtain⟨n,rfl⟩:=Int.eq_ofNat_of_zero_le hk.1
   have D:n<p.defs.length:=by omega
   obtain⟨z1,z2,z3,z4,hs,hx⟩:=v h0 n D
   have A:bl 3 (p.wher.map cP):=av λx=>rfl
   rw[Sb h0 D]
   rw[h0]at pv
   clear v h0 hk
   repeat' first|simp(disch:=omega)only[go_sem, *]|(with_reducible apply ab)<;>intro h<;>try omega|refine aF pv rfl rfl ?_|refine kR A (by simp;omega) (by simp;omega) ?_
   refine an (λi:Nat=>⟨[(8,I i),(7,.c (.ref 1)),(2,.c (.ptr 0 0)),(1,I n)], [(1,.arr 46 3 (rA p i)),(0,eV p)],2,0⟩) (λi=>i≤p.sizes.length) (λi=>p.sizes.length-i) ⟨0, [],by omega,by simp⟩ ?_
   intro i hi
   refine aa ?_
   by_cases g:i<p.sizes.length
   ·have HT:=Lib.hid (Xw g)
    have u:(rA p i).length≤3000:=by simp;omega
    repeat' first|simp(disch:=omega)only[go_sem, *,ah g,wrap_i64]|(with_reducible apply ab)<;>intro h<;>try omega|refine aJ rfl (by intro h;cases h) (aB rfl) (by simp only[List.length_append,List.length_cons,List.length_nil];omega) (by simp only[List.length_append,List.length_cons,List.length_nil];omega) ?_
    rw[HT.out]
    exact⟨i+1, [(1,2)],by omega,by omega,by simp⟩
   rw[show rA p i=(p.wher++p.sizes.map sC).map cP by unfold rA;rw[List.take_of_length_le (by omega)]]
   have hd:bl 3 (p.defs[n].dims.map fl):=av λx=>rfl
   have hr:bl 3 (p.defs[n].red.map fl):=av λx=>rfl
   have HM:=Lib.hid (List.map_append (f:=fl) (l₁:=p.defs[n].dims) (l₂:=p.defs[n].red)).symm
   have H:(p.defs[n].dims++p.defs[n].red).length≤2000:=by simp;omega
   repeat' first|simp(disch:=omega)only[go_sem, *,ah D,da]|(with_reducible apply ab)<;>intro h<;>try omega|refine kR hd (by simp;omega) (by simp;omega) ?_|refine aJ rfl (by intro h;cases h) hr (by simp;omega) (by simp;omega) ?_
   rw[HM.out]
   generalize hl:p.defs[n].dims++p.defs[n].red=l at*
   rw[V0,hl]
   clear hd hr HM hl hs g hi z3 z4
   refine an (λi:Nat=>⟨[(10,I i),(9,.c (.ref 3)),(7,.c (.ref 1))], [(3,.arr 111 3 (l.map fl)),(1,.arr 46 3 (rX p l i))],4,0⟩) (λi=>i≤l.length) (λi=>l.length-i) ⟨0, [],by omega,by simp⟩ ?_
   intro i hi
   refine aa ?_
   by_cases g:i<l.length
   ·obtain⟨g1,g2,g3⟩:=hx _ (List.getElem_mem g)
    have pv:=Jb g1
    have pb:=iH (a:=fV l[i].1) (b:=l[i].2) (k:= -1) (.inr rfl) ⟨by simp[ay],by simp[ay]⟩ g2 (by simp) (by omega)
    rw[if_neg (by decide)]at pb
    have u:(rX p l i).length≤100000:=by
     have:=QK (l:=l.take i)
     simp at this ⊢
     omega
    by_cases h0:(eD (fV l[i].1) l[i].2).2=0
    ·have HT:=Lib.hid (Vz (p:=p) g h0)
     rw[show uO (eD (fV l[i].1) l[i].2)= .tup [dm (eD (fV l[i].1) l[i].2).1.1 (eD (fV l[i].1) l[i].2).1.2,Go.Abs.B true] by unfold uO;rw[decide_eq_true h0]]at pb
     clear h0 g1 g2 g3
     generalize eD (fV l[i].1) l[i].2=r at*
     repeat' first|simp(disch:=omega)only[go_sem, *,ah g,fl,wrap_i64]|(with_reducible apply ab)<;>intro h<;>try omega|(with_reducible apply ag)|(with_reducible refine aj (λh=> ?_) ?_)|refine cg pv rfl rfl ?_|refine cg pb rfl rfl ?_|refine aJ rfl (by intro h;cases h) (aB rfl) (by simp only[List.length_append,List.length_cons,List.length_nil];omega) (by simp only[List.length_append,List.length_cons,List.length_nil];omega) ?_
     all_goals
      rw[HT.out]
      exact⟨i+1, [(1,7)],by omega,by omega,by simp⟩
    ·have HT:=Lib.hid (WK (p:=p) g h0)
     rw[show uO (eD (fV l[i].1) l[i].2)= .tup [dm (eD (fV l[i].1) l[i].2).1.1 (eD (fV l[i].1) l[i].2).1.2,Go.Abs.B false] by unfold uO;rw[decide_eq_false h0]]at pb
     clear h0 g1 g2 g3
     generalize eD (fV l[i].1) l[i].2=r at*
     repeat' first|simp(disch:=omega)only[go_sem, *,ah g,fl,wrap_i64]|(with_reducible apply ab)<;>intro h<;>try omega|(with_reducible apply ag)|(with_reducible refine aj (λh=> ?_) ?_)|refine cg pv rfl rfl ?_|refine cg pb rfl rfl ?_|refine aJ rfl (by intro h;cases h) (aB rfl) (by simp only[List.length_append,List.length_cons,List.length_nil];omega) (by simp only[List.length_append,List.length_cons,List.length_nil];omega) ?_
     all_goals
      rw[HT.out]
      exact⟨i+1, [(1,5)],by omega,by omega,by simp⟩
   ·repeat' first|simp(disch:=omega)only[go_sem, *]|(with_reducible apply ab)<;>intro h<;>try omega
    unfold rX
    rw[List.take_of_length_le (by omega)]
  ·rw[PH (by omega)]
   rw[h0]at pv
   clear v h0
   repeat' first|simp(disch:=omega)only[go_sem, *]|(with_reducible apply ab)<;>intro h<;>try omega|refine aF pv rfl rfl ?_
   all_goals first|rfl|(exfalso;omega)
 ·rw[PH (.inl h0)]
  clear v
  generalize (bQ p).2=e at*
  repeat' first|simp(disch:=omega)only[go_sem, *,h0]|(with_reducible apply ab)<;>intro h<;>try omega|refine aF pv rfl rfl ?_
  all_goals rfl
theorem aaN {L:List ByteArray}: ∀{l:List ByteArray},l.Nodup→(∀x∈l,x∈L)→l.length≤L.length:=by
 intro l
 induction l generalizing L with
 |nil=>intro _ _;simp
 |cons x r ih=>
  intro hn hs
  obtain⟨s,t,rfl⟩:=List.append_of_mem (hs x List.mem_cons_self)
  have h1:=ih (L:=s++t) (List.nodup_cons.1 hn).2 λy hy=>by
   have z: ¬y=x:=λe=>(List.nodup_cons.1 hn).1 (e▸hy)
   have:=hs y (List.mem_cons_of_mem _ hy)
   simp only[List.mem_append,List.mem_cons]at this ⊢
   rcases this with h|h|h
   ·exact .inl h
   ·exact absurd h z
   ·exact .inr h
  simp only[List.length_append,List.length_cons]at h1 ⊢
  omega
theorem Li {l:List bJ} (h:En l) {L:List ByteArray} (hk: ∀m∈l,m.1∈L):l.length≤L.length:=by
 have h1:(l.map (·.1)).Nodup:=by
  rw[List.Nodup,List.pairwise_map]
  exact h.imp λh=>nL h
 have:=aaN h1 (L:=L) λx hx=>by
  obtain⟨m,hm,rfl⟩:=List.mem_map.1 hx
  exact hk m hm
 simpa using this
section
variable {p : bI}
theorem lN (h:(bQ p).2=0):jU p∧(∀s∈p.sizes,gc s)∧(∀j,j<p.params.length→Aq p j=0)∧ ∀j,j<p.defs.length→Bi p j=0:=by
 have h0:jU p:=Classical.byContradiction λhn=>by rw[yZ hn]at h;cases h
 have h1:ou p=0:=Classical.byContradiction λhn=>by rw[CT h0 rfl hn]at h;exact hn h
 have h2:uj p=0:=Classical.byContradiction λhn=>by rw[Co h0 h1 rfl hn]at h;exact hn h
 have h3: ∀j,j<p.params.length→Aq p j=0:=by
  intro j
  induction j using Nat.strongRecOn with
  |_ j ih=>
   intro hj
   refine Classical.byContradiction λhn=> ?_
   rw[zb h0 h1 h2 hj (λi hi=>ih i hi (by omega)) rfl hn]at h
   exact hn h
 have h4: ∀j,j<p.defs.length→Bi p j=0:=by
  intro j
  induction j using Nat.strongRecOn with
  |_ j ih=>
   intro hj
   refine Classical.byContradiction λhn=> ?_
   rw[yK h0 h1 h2 h3 hj (λi hi=>ih i hi (by omega)) rfl hn]at h
   exact hn h
 refine⟨h0,λs hs=> ?_,h3,h4⟩
 obtain⟨j,hj,rfl⟩:=List.mem_iff_getElem.1 hs
 have h5:VB p j=0:=jd h1 _ (List.mem_map.2 ⟨j,List.mem_range.2 hj,rfl⟩)
 rw[Qv hj]at h5
 unfold aS at h5
 exact Classical.byContradiction λhn=>by rw[if_pos hn]at h5;cases h5
theorem Ke {sizes:List ByteArray}: ∀{l:List iu} {taken:List ByteArray},bB sizes taken l=0→ ∀a∈l,gc a.1∧bi a.2.2∧fq [] sizes a.2
 | [],_,_,a,ha=>by cases ha
 |x::r,taken,h,a,ha=>by
  unfold bB at h
  split at h
  ·rename_i hn;exact absurd h hn
  ·rename_i hn
   split at h
   ·rename_i hf;exact absurd h hf
   ·rename_i hf
    rcases List.mem_cons.1 ha with rfl|ha
    ·have hn:=Classical.not_not.1 hn
     have hf:=Classical.not_not.1 hf
     unfold aS at hn
     unfold bE at hf
     refine⟨Classical.byContradiction λh=>(by rw[if_pos h]at hn;cases hn),Classical.byContradiction λh=>(by rw[if_pos h]at hf;cases hf),Classical.byContradiction λh=> ?_⟩
     split at hf
     ·cases hf
     ·first|(cases hf;done)|(rw[if_pos h]at hf;cases hf)
    ·exact Ke h a ha
theorem wF {k:Nat} (hk:k<p.defs.length) (h:Bi p k=0):(∀a∈p.defs[k].dims++p.defs[k].red,gc a.1∧bi a.2.2∧fq [] p.sizes a.2)∧(bu (cM p k) (aW p.defs[k]) p.defs[k].body).2=0:=by
 rw[EV hk]at h
 unfold br at h
 split at h
 ·contradiction
 ·split at h
  ·cases h
  ·split at h
   ·cases h
   ·split at h
    ·contradiction
    ·rename_i h1
     split at h
     ·contradiction
     ·split at h
      ·contradiction
      ·rename_i h2
       exact⟨Ke (Classical.not_not.1 h1),Classical.not_not.1 h2⟩
theorem Cm {q:bI} {vars:List ByteArray} {e:Ex} (h:(bu q vars e).2=0):gZ e=0∧(eA q vars e).2=0:=by
 unfold bu at h
 split at h
 ·contradiction
 ·rename_i h1
  split at h
  ·cases h
  ·split at h
   ·contradiction
   ·rename_i h2
    exact⟨Classical.not_not.1 h1,Classical.not_not.1 h2⟩
theorem JD {q:bI} {vars:List ByteArray}: ∀{l:List Ex} {ts:List Ty},dO q vars l= .inr ts→ ∀a∈l,(eA q vars a).2=0
 | [],_,_,a,ha=>by cases ha
 |e::l,ts,h,a,ha=>by
  simp only[dO]at h
  split at h
  ·cases h
  ·rename_i h1
   split at h
   ·cases h
   ·rename_i l' hl
    rcases List.mem_cons.1 ha with rfl|ha
    ·exact Classical.not_not.1 h1
    ·exact JD hl a ha
theorem J7 {q:bI} {vars:List ByteArray} {e:Ex} (h:(eA q vars e).2=0):(∀a∈e.args,(eA q vars a).2=0)∧ ∃l,(aZ q vars e l).2=0:=by
 rw[oT]at h
 split at h
 ·rename_i err hx
  exfalso
  have key: ∀{l:List Ex} {x:Int},dO q vars l= .inl x→x≠0:=by
   intro l
   induction l with
   |nil=>intro x h;cases h
   |cons e r ih=>
    intro x h
    simp only[dO]at h
    split at h
    ·rename_i h1;cases h;exact h1
    ·split at h
     ·rename_i h2;cases h;exact ih h2
     ·cases h
  exact key hx h
 ·rename_i l hx
  exact⟨JD hx,l,h⟩
theorem vr {q:bI} {vars:List ByteArray} (e:Ex):i0 e→(∀a∈e.pre,ry a)→(eA q vars e).2=0→ ∀a∈e.pre,∀l∈a.forms,fq vars q.sizes l:=by
 refine Ex.ind (p:=λe=>i0 e→(∀a∈e.pre,ry a)→(eA q vars e).2=0→ ∀a∈e.pre,∀l∈a.forms,fq vars q.sizes l) (λe ih hr hs ht=> ?_) e
 obtain⟨h1,ts,h2⟩:=J7 ht
 intro a ha
 rw[Ex.pre_eq]at ha
 rcases List.mem_cons.1 ha with rfl|ha
 ·have J:=hs a (by rw[Ex.pre_eq];exact List.mem_cons_self)
  obtain⟨s1,s2,s3,s4,s5,s6⟩:=J
  have nilK: ∀{l:bY},Is l→fq vars q.sizes l:=λh m hm=>by
   have:=List.eq_nil_of_length_eq_zero h.2
   rw[this]at hm;cases hm
  intro l hl
  rcases List.mem_cons.1 hl with rfl|hl
  ·by_cases h0:a.op=2
   ·unfold aZ at h2
    rw[if_neg (by omega),if_pos h0]at h2
    unfold dX at h2
    exact Classical.byContradiction λhn=>by rw[if_neg (λh=>hn (h _ List.mem_cons_self))]at h2;cases h2
   ·exact nilK (s4 h0)
  ·obtain⟨x,hx,hl⟩:=List.mem_flatMap.1 hl
   by_cases h0:a.op=3
   ·unfold aZ at h2
    rw[if_neg (by omega),if_neg (by omega),if_pos h0]at h2
    unfold gx at h2
    split at h2
    ·cases h2
    ·split at h2
     ·cases h2
     ·split at h2
      ·contradiction
      ·rename_i hz
       have o:=jd (Classical.not_not.1 hz) _ (List.mem_map.2 ⟨x,hx,rfl⟩)
       unfold gU at o
       split at o
       ·rename_i hf
        rcases List.mem_cons.1 hl with rfl|hl
        ·unfold dX at o
         exact Classical.byContradiction λhn=>by rw[if_neg (λh=>hn (h _ List.mem_cons_self))]at o;cases o
        ·have:=List.eq_nil_of_length_eq_zero ((s6 x hx).1 hf)
         rw[this]at hl;cases hl
       ·rename_i hf
        rcases List.mem_cons.1 hl with rfl|hl
        ·exact nilK ((s6 x hx).2 hf)
        ·split at o
         ·cases o
         ·split at o
          ·cases o
          ·split at o
           ·cases o
           ·unfold dX at o
            exact Classical.byContradiction λhn=>by rw[if_neg (λh=>hn (h _ hl))]at o;cases o
   ·have:=List.eq_nil_of_length_eq_zero (s5 h0).2
    rw[this]at hx;cases hx
 ·
  have key: ∀l:List Ex,a∈Ex.pres l→ ∃b∈l,a∈b.pre:=by
   intro l
   induction l with
   |nil=>intro h;simp[Ex.pres]at h
   |cons b r E=>
    intro h
    rw[Ex.pres]at h
    rcases List.mem_append.1 h with h|h
    ·exact⟨b,List.mem_cons_self,h⟩
    ·obtain⟨c,hc,h⟩:=E h
     exact⟨c,List.mem_cons_of_mem _ hc,h⟩
  obtain⟨b,hb,F⟩:=key _ ha
  exact ih b hb (iU hr hb) (λc hc=>hs c (by
   rw[Ex.pre_eq]
   refine List.mem_cons_of_mem _ ?_
   clear key ha F ih h1 h2 hr hs ht
   generalize e.args=l at hb
   induction l with
   |nil=>cases hb
   |cons y r E=>
    rw[Ex.pres]
    rcases List.mem_cons.1 hb with rfl|hb
    ·exact List.mem_append_left _ hc
    ·exact List.mem_append_right _ (E hb))) (h1 b hb) a F
theorem Ny (hl: ¬jh p) (h:(bQ p).2=0):aaf p:=by
 obtain⟨⟨c1,c2,c3,c4,c5⟩,hs,hp,hd⟩:=lN h
 have hf:=pU hl
 refine⟨⟨by omega,by omega,by omega,by omega,by omega⟩,λc hc=> ?_,λx hx=>⟨by have:=(hf.1 x hx).1;omega,λl w=>by have:=(hf.1 x hx).2 l w;omega⟩,λd G=> ?_⟩
 ·have: ¬20<c.1.2.length:=λhh=>hl (.inr (.inl ⟨c,hc,hh⟩))
  omega
 ·obtain⟨f1,f2,f3,f4⟩:=hf.2 d G
  refine⟨⟨by omega,λa ha=>by have:=f3 a ha;omega⟩,⟨by omega,λa ha=>by have:=f4 a ha;omega⟩, ?_⟩
  obtain⟨k,hk,rfl⟩:=List.mem_iff_getElem.1 G
  obtain⟨_,ht⟩:=wF hk (hd k hk)
  obtain⟨t1,t2⟩:=Cm ht
  have hr:=ro t1
  have hz: ∀a∈p.defs[k].body.pre,bh a=0:=by
   intro a ha
   unfold gZ at t1
   split at t1
   ·cases t1
   ·split at t1
    ·cases t1
    ·exact jd t1 _ (List.mem_map.2 ⟨a,ha,rfl⟩)
  have K:=vr _ hr (λa ha=>(iT (hz a ha)).1) t2
  intro a ha
  obtain⟨r1,r2,r3,r4,r5⟩:=hr a ha
  have O:jJ a.op≤3:=by unfold jJ;(repeat' split)<;>omega
  refine⟨by omega,by omega,λl w=> ?_,λx hx=>by have:=r5 x hx;omega⟩
  have M:=(cj.1 ((iT (hz a ha)).2.2.2.2.2 l w)).1
  have:=Li M (L:=aW p.defs[k]++p.sizes) λm hm=>by
   rcases K a ha l w m hm with h|h
   ·exact List.mem_append_left _ h
   ·exact List.mem_append_right _ h
  have P:(aW p.defs[k]).length≤24:=by unfold aW;simp;omega
  simp only[List.length_append]at this
  omega
theorem KV (hl: ¬jh p) (C:LO p) (h:(bQ p).2=0) (i:Nat) (hi:i<p.defs.length):PG p p.defs[i]:=by
 obtain⟨⟨c1,c2,c3,c4,c5⟩,hs,hp,hd⟩:=lN h
 obtain⟨f1,f2,f3,f4⟩:=(pU hl).2 _ (List.getElem_mem hi)
 refine⟨by omega,by omega,by omega,by omega,hs,λa ha=>⟨((wF hi (hd i hi)).1 a ha).1,(C.2.2 _ (List.getElem_mem hi)).1 a ha, ?_⟩⟩
 rcases List.mem_append.1 ha with h|h
 ·have:=f3 a h;omega
 ·have:=f4 a h;omega
end
open Go.Abs Go.RowKit
abbrev sn:ByteArray:=⟨⟨[110]⟩⟩
abbrev si:ByteArray:=⟨⟨[105]⟩⟩
abbrev sa:ByteArray:=⟨⟨[97]⟩⟩
abbrev sb:ByteArray:=⟨⟨[98]⟩⟩
abbrev se:ByteArray:=⟨⟨[]⟩⟩
def XL:Ty:=(1,0,0,0,0)
def fN:bY:=(0, [(sn,1)])
def fIk (k:Int):bY:=(k, [(si,1)])
def qh (k:Int):Ex:= .mk 3 sa (0,0) (0,0,0,0,0) (0, []) [(fIk k,se, [])] []
def PM (k:Int):zB:=⟨sb,XL, [(si,fN)], [],0,qh k⟩
def tT (k:Int):bI:=⟨[sn], [], [(sa,XL, [fN])], [PM k], [sb]⟩
theorem LH {c:UInt8} (h1:97≤c.toNat) (h2:c.toNat≤122):gc ⟨⟨[c]⟩⟩:=by
 refine⟨by simp[ByteArray.size],by simp[ByteArray.size], ?_,λi h=> ?_⟩
 ·intro h
  simp[yg]at h
 ·obtain rfl:i=0:=by simp[ByteArray.size]at h;omega
  exact .inl ⟨h1,h2⟩
theorem aaw:gc sn:=LH (by decide) (by decide)
theorem ab2:gc si:=LH (by decide) (by decide)
theorem abB:gc sa:=LH (by decide) (by decide)
theorem acg:gc sb:=LH (by decide) (by decide)
theorem R7 {s:ByteArray} {k:Int} (h:gc s) (hk:k≠0):bi [(s,k)]:=by
 intro i hi N
 obtain rfl:i=0:=by simpa using N
 exact⟨h,hk,λh=>by omega⟩
theorem Z7:bi []:=λi hi=>absurd hi (by simp)
theorem Sq {sizes:List ByteArray} {f:bY} {s:ByteArray} {c k:Int} (e:f=(c, [(s,k)])) (h:gc s) (hk:k≠0) (hs:s∈sizes):bE sizes f=0:=by
 subst e
 unfold bE
 have hn:fq [] sizes (c, [(s,k)]):=λm hm=>by
  obtain rfl:=List.mem_singleton.1 hm
  exact .inr hs
 rw[if_neg (not_not_intro (R7 h hk)),if_neg (not_not_intro hn)]
theorem Lo {l:List ByteArray} {s:ByteArray} (h:gc s) (hs: ¬s∈l):aS l s=0:=by
 unfold aS
 rw[if_neg (not_not_intro h),if_neg hs]
theorem Zp:nb XL:= .inl ⟨.inl rfl,rfl,rfl,rfl,rfl⟩
theorem abN (k:Int):gZ (qh k)=0:=by
 have e1:(qh k).dep=1:=by simp[qh,Ex.dep,Ex.deps]
 have e2:(qh k).sz=1:=by simp[qh,Ex.sz,Ex.szs]
 have e3:(qh k).pre= [qh k]:=by rw[qh,Ex.pre,Ex.pres]
 unfold gZ jX
 rw[e1,e2,e3,if_neg (by decide),if_neg (by decide)]
 have h1:ry (qh k):=⟨⟨by simp[qh,Ex.op],by simp[qh,Ex.op]⟩,λ_=>⟨rfl,rfl⟩,λ_ _=>⟨rfl,rfl,rfl,rfl,rfl⟩,λ_=>⟨rfl,rfl⟩,λh=>absurd rfl h,λx hx=>by
  obtain rfl:=List.mem_singleton.1 hx
  exact⟨λ_=>rfl,λh=>absurd rfl h⟩⟩
 have h2:uB (qh k):=⟨λ_=>abB,λx hx h=>by
  obtain rfl:=List.mem_singleton.1 hx
  exact absurd rfl h⟩
 have h3:uh (qh k):=⟨rfl,by simp[qh,Ex.idx],λx hx=>by
  obtain rfl:=List.mem_singleton.1 hx
  simp⟩
 have h4:nQ (qh k):=⟨λh=>by simp[qh,Ex.op]at h,λi h=>by simp[qh,Ex.args]at h⟩
 have h5:vQ (qh k):=by
  refine⟨λh=>by simp[qh,Ex.op]at h,λl hl=> ?_⟩
  simp[qh,Ex.forms,Ex.lin,Ex.idx]at hl
  rcases hl with rfl|rfl
  ·exact Z7
  ·exact R7 ab2 (by decide)
 have h:bh (qh k)=0:=by
  unfold bh
  rw[if_neg (not_not_intro h1),if_neg (not_not_intro h2),if_neg (not_not_intro h3),if_neg (not_not_intro h4),if_neg (not_not_intro h5)]
 simp[de,h]
theorem aab (k:Int) {q:bI} (hs:q.sizes= [sn]) (hp:q.params= [(sa,XL, [fN])]):bu q [si] (qh k)=(XL,0):=by
 have hf:di q sa=some (XL, [fN]):=by simp[di,hp]
 have hi:gU q [si] (fIk k,se, [])=0:=by
  unfold gU dX
  rw[if_pos rfl,if_pos]
  intro x hx m hm
  obtain rfl:=List.mem_singleton.1 hx
  obtain rfl:=List.mem_singleton.1 hm
  exact .inl (List.mem_singleton.2 rfl)
 have hr:gx q [si] (qh k)=(XL,0):=by
  unfold gx
  rw[show(qh k).name=sa from rfl,hf]
  simp only
  rw[if_neg (by simp[qh,Ex.idx]),if_neg]
  show ¬de ([(fIk k,se, [])].map (gU q [si]))≠0
  simp[de,hi]
 have he:eA q [si] (qh k)=(XL,0):=by
  rw[oT,show(qh k).args= []from rfl,dO]
  simp only
  unfold aZ
  rw[show(qh k).op=3 from rfl]
  simp[hr]
 unfold bu
 rw[if_neg (not_not_intro (abN k)),if_neg (by simp[qh,Ex.op,mi]),he]
 simp
theorem JX (k:Int):bQ (tT k)=(0,0):=by
 refine Cg (by simp[jU,tT]) (F5 λj hj=> ?_) (by simp[uj,tT,de]) (λj hj=> ?_) (λj hj=> ?_) λj hj=> ?_
 ·obtain rfl:j=0:=by simpa[tT]using hj
  exact Lo aaw (by simp)
 ·obtain rfl:j=0:=by simpa[tT]using hj
  rw[LG hj]
  have h1:aS (dZ (tT k) 0) sa=0:=Lo abB (by simp[dZ,tT])
  have h2:bE [sn] fN=0:=Sq rfl aaw (by decide) (List.mem_singleton.2 rfl)
  show dN [sn] (dZ (tT k) 0) (sa,XL, [fN])=0
  unfold dN
  simp[h1,h2,Zp,de]
 ·obtain rfl:j=0:=by simpa[tT]using hj
  rw[EV hj]
  have h1:aS (ee (tT k) 0) sb=0:=Lo acg (by simp[ee,tT])
  have h2:bE [sn] fN=0:=Sq rfl aaw (by decide) (List.mem_singleton.2 rfl)
  have h3:aS [sn] si=0:=Lo ab2 (by simp)
  show br (tT k) 0 (ee (tT k) 0) (PM k)=0
  have h4:bB [sn] [sn] [(si,fN)]=0:=by simp[bB,h3,h2]
  have h5:gy (PM k)=0:=by simp[gy,PM]
  have h6:=aab k (q:=⟨[sn], [],(tT k).params,(tT k).defs.take 0, []⟩) rfl rfl
  unfold br
  rw[show(PM k).name=sb from rfl,show(PM k).ty=XL from rfl,show(PM k).dims= [(si,fN)]from rfl,show(PM k).red= []from rfl,show(tT k).sizes= [sn]from rfl,show aW (PM k)= [si]from rfl,show(PM k).body=qh k from rfl,List.append_nil]
  rw[h1,h4,h5,h6]
  simp[Zp]
 ·obtain rfl:j=0:=by simpa[tT]using hj
  rw[Ly hj]
  have:di (tT k) sb≠none:=by simp[di,tT,PM]
  show(if di (tT k) sb=none then(9:Int)else if sb∈ []then 8 else 0)=0
  rw[if_neg this]
  simp
theorem JH {k:Int}: ¬jh (tT k):=by
 have hw:nr (qh k) 300=3:=by
  rw[N4]
  have e1:w0 (qh k)=2:=by unfold w0;simp[qh,Ex.idx,Ex.lin,wrap_i64]
  rw[show(qh k).args= []from rfl,show(qh k).idx= [(fIk k,se, [])]from rfl,e1]
  simp[tf,BK,Uh,fIk,wrap_i64]
 rintro((h|h|h|h|h)|⟨c,hc,_⟩|⟨x,hx,h⟩|⟨d,hd,h⟩)
 ·simp[tT]at h
 ·simp[tT]at h
 ·simp[tT]at h
 ·simp[tT]at h
 ·simp[tT]at h
 ·simp[tT]at hc
 ·obtain rfl:=List.mem_singleton.1 hx
  rcases h with h|⟨l,hl,h⟩
  ·simp at h
  ·obtain rfl:=List.mem_singleton.1 hl
   simp[fN]at h
 ·obtain rfl:=List.mem_singleton.1 hd
  rcases h with h|h|h|⟨a,ha,h⟩
  ·simp[PM]at h
  ·simp[PM]at h
  ·rw[show(PM k).body=qh k from rfl,hw]at h
   omega
  ·obtain rfl:a=(si,fN):=by simpa[PM]using ha
   simp[fN]at h
theorem aa0 {k:Int}:pR (tT k):=by
 intro d hd a ha
 obtain rfl:=List.mem_singleton.1 hd
 rw[show(PM k).body=qh k from rfl,show(qh k).pre= [qh k] by rw[qh,Ex.pre,Ex.pres]]at ha
 obtain rfl:=List.mem_singleton.1 ha
 exact⟨by simp[qh,Ex.val,ay],by simp[qh,Ex.val,ay]⟩
end
end Go.Proofs.YthbcbaembicdbaaGreatDoor
