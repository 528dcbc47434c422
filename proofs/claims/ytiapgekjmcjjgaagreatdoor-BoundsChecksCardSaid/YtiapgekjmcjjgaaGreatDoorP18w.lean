import Derived.Test.YtiapgekjmcjjgaaGreatDoorV18m
import Derived.Test.YtiapgekjmcjjgaaGreatDoorVCq
import Derived.Test.YtiapgekjmcjjgaaGreatDoorV17m
import Derived.Test.YtiapgekjmcjjgaaGreatDoorV17x
set_option maxHeartbeats 4000000
set_option linter.unusedVariables false
set_option linter.unusedSimpArgs false
set_option maxRecDepth 1000000
namespace Go.Proofs.YtiapgekjmcjjgaaGreatDoor
open Go.Abs Go.RowKit
noncomputable section
abbrev fV (s:ByteArray):bW:=(0, [(s,1)])
def I3 (a:gU):List aU:=if(d5 (fV a.1) a.2).2=0 then [(fV a.1,false),((d5 (fV a.1) a.2).1,false)]else [(fV a.1,false)]
def uI (p:bG) (d:uu):List aU:=p.wher++p.sizes.map (λs=>(((-1, [(s,1)]),false):aU))++(d.dims++d.red).flatMap I3
def Cs (p:bG):Prop:=(∀c∈p.wher,bl c.1)∧(∀x∈p.params,∀l∈x.2.2,bl l)∧ ∀d∈p.defs,(∀a∈d.dims++d.red,bl a.2)∧ ∀e∈d.body.pre,∀l∈e.forms,bl l
def C7 (p:bG) (d:uu):Prop:=p.wher.length≤1000∧p.sizes.length≤1000∧d.dims.length≤1000∧d.red.length≤1000∧(∀s∈p.sizes,fW s)∧ ∀a∈d.dims++d.red,fW a.1∧bl a.2∧a.2.2.length≤1000
theorem QE (a:gU):(I3 a).length≤2:=by unfold I3;split<;>simp
theorem JQ {l:List gU}:(l.flatMap I3).length≤2*l.length:=by
 induction l with
 |nil=>simp
 |cons a l ih=>have:=QE a;simp only[List.flatMap_cons,List.length_append,List.length_cons];omega
theorem Lw {l:List gU} {k:Nat} (h:k<l.length):(l.take (k+1)).flatMap I3=(l.take k).flatMap I3++I3 l[k]:=by
 rw[List.take_succ_eq_append_getElem h,List.flatMap_append]
 simp
theorem yH (d:uu) (h1:d.dims.length≤1000) (h2:d.red.length≤1000):ac Tryz.prog 82 [Ia d] (i6 fg (d.dims++d.red)):=by
 refine ac.of y7 (by simp) λhb=>aa ?_
 conv in bh _ _=>cbv
 have hd:aK 3 (d.dims.map fg):=ar λx=>rfl
 have hr:aK 3 (d.red.map fg):=ar λx=>rfl
 have tk:(d.dims.map fg).take d.dims.length=d.dims.map fg:=List.take_of_length_le (by simp)
 by_cases h:d.red= []
 ·have hl:d.red.map fg= []:=by rw[h];rfl
  have e:d.dims++d.red=d.dims:=by rw[h,List.append_nil]
  rw[e]
  clear h e
  repeat' first|simp(disch:=omega)only[go_sem, *,hd,hl,tk,Int.toNat_zero,Option.getD_none,Option.getD_some]|apply ab<;>intro h<;>try omega|apply af|(with_reducible refine ag (λh=> ?_) ?_)|refine dy hd ?_
  all_goals rfl
 ·have z:d.red.map fg≠ []:=by simpa using h
  rw[show i6 fg (d.dims++d.red)= .c (.pure (.slice (d.dims.map fg++d.red.map fg))) by show AV.c (.pure (.slice (List.map fg (_++_))))=_;rw[List.map_append]]
  clear h
  repeat' first|simp(disch:=omega)only[go_sem, *,hd,tk,Int.toNat_zero,Option.getD_none,Option.getD_some]|apply ab<;>intro h<;>try omega|apply af|(with_reducible refine ag (λh=> ?_) ?_)|refine c8 hd hr z (by simp;omega) (by simp;omega) ?_
  all_goals rfl
def sC (s:ByteArray):aU:=((-1, [(s,1)]),false)
abbrev rA (p:bG) (i:Nat):List (List PC):=(p.wher++(p.sizes.take i).map sC).map cP
theorem KM {p:bG} {i:Nat} (h:i<p.sizes.length):rA p i++ [[pI (-1),ay [(p.sizes[i],1)],pB false]]=rA p (i+1):=by
 have e:p.wher++(p.sizes.take (i+1)).map sC=(p.wher++(p.sizes.take i).map sC)++ [sC p.sizes[i]]:=by
  rw[List.take_succ_eq_append_getElem h,List.map_append,List.append_assoc]
  rfl
 exact(List.map_append (f:=cP) (l₁:=p.wher++(p.sizes.take i).map sC) (l₂:= [sC p.sizes[i]])).symm.trans (congrArg (List.map cP) e.symm)
theorem Oq {p:bG} {i:Nat} (h:i<p.sizes.length):rA p i++ [[pI (-1),.slice [[pS p.sizes[i],pI 1]],pB false]]=rA p (i+1):=KM h
abbrev rX (p:bG) (l:List gU) (i:Nat):List (List PC):=(p.wher++p.sizes.map sC++(l.take i).flatMap I3).map cP
theorem PH {p:bG} {l:List gU} {i:Nat} (h:i<l.length) (h0:(d5 (fV l[i].1) l[i].2).2=0):rX p l i++ [[pI 0,ay [(l[i].1,1)],pB false]]++ [[pI (d5 (fV l[i].1) l[i].2).1.1,ay (d5 (fV l[i].1) l[i].2).1.2,pB false]]=rX p l (i+1):=by
 unfold rX
 rw[Lw h,I3,if_pos h0]
 simp[List.map_append,cP]
theorem PX {p:bG} {l:List gU} {i:Nat} (h:i<l.length) (h0:(d5 (fV l[i].1) l[i].2).2≠0):rX p l i++ [[pI 0,ay [(l[i].1,1)],pB false]]=rX p l (i+1):=by
 unfold rX
 rw[Lw h,I3,if_neg h0]
 simp[List.map_append,cP]
theorem PK (p:bG) (d:uu):uI p d=p.wher++p.sizes.map sC++(d.dims++d.red).flatMap I3:=rfl
theorem qW {p:bG} {k:Nat} (hk:k<p.defs.length) (h:C7 p p.defs[k]):aw Tryz.prog 40 [gy p,I k] [] 0 (.c (.ref 0)) [(0,.arr 64 3 ((uI p p.defs[k]).map cP))] 1:=by
 obtain⟨z1,z2,z3,z4,hs,hx⟩:=h
 refine aw.ofZ (ress:= [.c (.ref 0)]) pK (by simp) λhb=>aa ?_
 conv in bh _ _=>cbv
 have A:aK 3 (p.wher.map cP):=ar λx=>rfl
 repeat' first|simp(disch:=omega)only[go_sem, *]|apply ab<;>intro h<;>try omega|refine ia A (by simp;omega) (by simp;omega) ?_
 refine ai (λi:Nat=>⟨[(21,I i),(20,I p.sizes.length),(19,.c (.pure (c7 p.sizes))),(5,.c (.ref 1)),(2,.c (.ptr 0 0)),(1,I k)], [(1,.arr 64 3 (rA p i)),(0,eJ p)],2,0⟩) (λi=>i≤p.sizes.length) (λi=>p.sizes.length-i) ⟨0, [],by omega,by simp⟩ ?_
 intro i hi
 refine aa ?_
 by_cases g:i<p.sizes.length
 ·have pv:=xu p.sizes[i]
  rw[if_pos (hs _ (List.getElem_mem g))]at pv
  have HT:=Lib.hid (KM g)
  have u:(rA p i).length≤3000:=by simp;omega
  repeat' first|simp(disch:=omega)only[go_sem, *,ah g,wrap_i64]|apply ab<;>intro h<;>try omega|refine aW pv rfl rfl ?_|refine aA rfl (by intro h;cases h) (an rfl) (by simp only[List.length_append,List.length_cons,List.length_nil];omega) (by simp only[List.length_append,List.length_cons,List.length_nil];omega) ?_
  rw[HT.out]
  exact⟨i+1, [(1,3)],by omega,by omega,by simp⟩
 ·have pa:=yH p.defs[k] z3 z4
  rw[show rA p i=(p.wher++p.sizes.map sC).map cP by unfold rA;rw[List.take_of_length_le (by omega)]]
  generalize hl:p.defs[k].dims++p.defs[k].red=l at*
  have H:l.length≤2000:=by rw[←hl];simp;omega
  rw[PK,hl]
  clear hs hl
  repeat' first|simp(disch:=omega)only[go_sem, *,ah hk,di]|apply ab<;>intro h<;>try omega|refine aW pa rfl rfl ?_
  refine ai (λi:Nat=>⟨[(41,I i),(40,I l.length),(39,i6 fg l),(5,.c (.ref 1))], [(1,.arr 64 3 (rX p l i))],2,0⟩) (λi=>i≤l.length) (λi=>l.length-i) ⟨0, [],by omega,by simp⟩ ?_
  clear pa g hi
  intro i hi
  refine aa ?_
  by_cases g:i<l.length
  ·obtain⟨g1,g2,g3⟩:=hx _ (List.getElem_mem g)
   have pv:=xu l[i].1
   rw[if_pos g1]at pv
   have pb:=jy (a:=fV l[i].1) (b:=l[i].2) ⟨by simp[am],by simp[am]⟩ g2 (by simp) (by omega)
   have u:(rX p l i).length≤100000:=by
    have:=JQ (l:=l.take i)
    simp at this ⊢
    omega
   by_cases h0:(d5 (fV l[i].1) l[i].2).2=0
   ·have HT:=Lib.hid (PH (p:=p) g h0)
    rw[show ru (d5 (fV l[i].1) l[i].2)= .tup [da (d5 (fV l[i].1) l[i].2).1.1 (d5 (fV l[i].1) l[i].2).1.2,Go.Abs.B true] by unfold ru;rw[decide_eq_true h0]]at pb
    clear h0 g1 g2 g3
    generalize d5 (fV l[i].1) l[i].2=r at*
    repeat' first|simp(disch:=omega)only[go_sem, *,ah g,fg,wrap_i64]|apply ab<;>intro h<;>try omega|refine aW pv rfl rfl ?_|refine aW pb rfl rfl ?_|refine aA rfl (by intro h;cases h) (an rfl) (by simp only[List.length_append,List.length_cons,List.length_nil];omega) (by simp only[List.length_append,List.length_cons,List.length_nil];omega) ?_
    rw[HT.out]
    exact⟨i+1, [(1,6)],by omega,by omega,by simp⟩
   ·have HT:=Lib.hid (PX (p:=p) g h0)
    rw[show ru (d5 (fV l[i].1) l[i].2)= .tup [da (d5 (fV l[i].1) l[i].2).1.1 (d5 (fV l[i].1) l[i].2).1.2,Go.Abs.B false] by unfold ru;rw[decide_eq_false h0]]at pb
    clear h0 g1 g2 g3
    generalize d5 (fV l[i].1) l[i].2=r at*
    repeat' first|simp(disch:=omega)only[go_sem, *,ah g,fg,wrap_i64]|apply ab<;>intro h<;>try omega|refine aW pv rfl rfl ?_|refine aW pb rfl rfl ?_|refine aA rfl (by intro h;cases h) (an rfl) (by simp only[List.length_append,List.length_cons,List.length_nil];omega) (by simp only[List.length_append,List.length_cons,List.length_nil];omega) ?_
    rw[HT.out]
    exact⟨i+1, [(1,4)],by omega,by omega,by simp⟩
  ·rw[show rX p l i=(p.wher++p.sizes.map sC++l.flatMap I3).map cP by unfold rX;rw[List.take_of_length_le (by omega)]]
   repeat' first|simp(disch:=omega)only[go_sem, *]|apply ab<;>intro h<;>try omega
   refine⟨[], [(0,1)], ?_⟩
   simp(disch:=omega)only[go_sem,aQ]
   simp
def ON (p:bG) (k:Int):List aU:=if(bn p).2≠0∨k<0 then []else match p.defs[k.toNat]? with
 |some d=>uI p d
 |none=> []
theorem KI {p:bG} {n:Nat} (h0:(bn p).2=0) (h:n<p.defs.length):ON p n=uI p p.defs[n]:=by
 unfold ON
 rw[if_neg (by rintro(h|h);exact h h0;omega),Int.toNat_natCast,List.getElem?_eq_getElem h]
theorem Gx {p:bG} {k:Int} (h:(bn p).2≠0∨k<0∨(p.defs.length:Int)≤k):ON p k= []:=by
 unfold ON
 split
 ·rfl
 ·rename_i hn
  rw[List.getElem?_eq_none (by omega)]
theorem pG {p:bG} {k:Int} (hf:iR p) (C:kI p) (v:(bn p).2=0→ ∀(i:Nat) (h:i<p.defs.length),C7 p p.defs[i]):ac Tryz.prog 54 [gy p,I k] (bB (ON p k)):=by
 refine ac.of qj (by simp) λhb=>aa ?_
 conv in bh _ _=>cbv
 have pv:=io hf C
 by_cases h0:(bn p).2=0
 ·by_cases hk:0≤k∧k<p.defs.length
  ·obtain⟨n,rfl⟩:=Int.eq_ofNat_of_zero_le hk.1
   have D:n<p.defs.length:=by omega
   obtain⟨z1,z2,z3,z4,hs,hx⟩:=v h0 n D
   have A:aK 3 (p.wher.map cP):=ar λx=>rfl
   rw[KI h0 D]
   rw[h0]at pv
   clear v h0 hk
   repeat' first|simp(disch:=omega)only[go_sem, *]|apply ab<;>intro h<;>try omega|refine aq pv rfl rfl ?_|refine ia A (by simp;omega) (by simp;omega) ?_
   refine ai (λi:Nat=>⟨[(8,I i),(7,.c (.ref 1)),(2,.c (.ptr 0 0)),(1,I n)], [(1,.arr 64 3 (rA p i)),(0,eJ p)],2,0⟩) (λi=>i≤p.sizes.length) (λi=>p.sizes.length-i) ⟨0, [],by omega,by simp⟩ ?_
   intro i hi
   refine aa ?_
   by_cases g:i<p.sizes.length
   ·have HT:=Lib.hid (Oq g)
    have u:(rA p i).length≤3000:=by simp;omega
    repeat' first|simp(disch:=omega)only[go_sem, *,ah g,wrap_i64]|apply ab<;>intro h<;>try omega|refine aA rfl (by intro h;cases h) (an rfl) (by simp only[List.length_append,List.length_cons,List.length_nil];omega) (by simp only[List.length_append,List.length_cons,List.length_nil];omega) ?_
    rw[HT.out]
    exact⟨i+1, [(1,2)],by omega,by omega,by simp⟩
   rw[show rA p i=(p.wher++p.sizes.map sC).map cP by unfold rA;rw[List.take_of_length_le (by omega)]]
   have hd:aK 3 (p.defs[n].dims.map fg):=ar λx=>rfl
   have hr:aK 3 (p.defs[n].red.map fg):=ar λx=>rfl
   have HM:=Lib.hid (List.map_append (f:=fg) (l₁:=p.defs[n].dims) (l₂:=p.defs[n].red)).symm
   have H:(p.defs[n].dims++p.defs[n].red).length≤2000:=by simp;omega
   repeat' first|simp(disch:=omega)only[go_sem, *,ah D,di]|apply ab<;>intro h<;>try omega|refine ia hd (by simp;omega) (by simp;omega) ?_|refine aA rfl (by intro h;cases h) hr (by simp;omega) (by simp;omega) ?_
   rw[HM.out]
   generalize hl:p.defs[n].dims++p.defs[n].red=l at*
   rw[PK,hl]
   clear hd hr HM hl hs g hi z3 z4
   refine ai (λi:Nat=>⟨[(10,I i),(9,.c (.ref 3)),(7,.c (.ref 1))], [(3,.arr 92 3 (l.map fg)),(1,.arr 64 3 (rX p l i))],4,0⟩) (λi=>i≤l.length) (λi=>l.length-i) ⟨0, [],by omega,by simp⟩ ?_
   intro i hi
   refine aa ?_
   by_cases g:i<l.length
   ·obtain⟨g1,g2,g3⟩:=hx _ (List.getElem_mem g)
    have pv:=CC g1
    have pb:=ig (a:=fV l[i].1) (b:=l[i].2) (k:= -1) (.inr rfl) ⟨by simp[am],by simp[am]⟩ g2 (by simp) (by omega)
    rw[if_neg (by decide)]at pb
    have u:(rX p l i).length≤100000:=by
     have:=JQ (l:=l.take i)
     simp at this ⊢
     omega
    by_cases h0:(d5 (fV l[i].1) l[i].2).2=0
    ·have HT:=Lib.hid (PH (p:=p) g h0)
     rw[show ru (d5 (fV l[i].1) l[i].2)= .tup [da (d5 (fV l[i].1) l[i].2).1.1 (d5 (fV l[i].1) l[i].2).1.2,Go.Abs.B true] by unfold ru;rw[decide_eq_true h0]]at pb
     clear h0 g1 g2 g3
     generalize d5 (fV l[i].1) l[i].2=r at*
     repeat' first|simp(disch:=omega)only[go_sem, *,ah g,fg,wrap_i64]|apply ab<;>intro h<;>try omega|apply af|(with_reducible refine ag (λh=> ?_) ?_)|refine aW pv rfl rfl ?_|refine aW pb rfl rfl ?_|refine aA rfl (by intro h;cases h) (an rfl) (by simp only[List.length_append,List.length_cons,List.length_nil];omega) (by simp only[List.length_append,List.length_cons,List.length_nil];omega) ?_
     all_goals
      rw[HT.out]
      exact⟨i+1, [(1,7)],by omega,by omega,by simp⟩
    ·have HT:=Lib.hid (PX (p:=p) g h0)
     rw[show ru (d5 (fV l[i].1) l[i].2)= .tup [da (d5 (fV l[i].1) l[i].2).1.1 (d5 (fV l[i].1) l[i].2).1.2,Go.Abs.B false] by unfold ru;rw[decide_eq_false h0]]at pb
     clear h0 g1 g2 g3
     generalize d5 (fV l[i].1) l[i].2=r at*
     repeat' first|simp(disch:=omega)only[go_sem, *,ah g,fg,wrap_i64]|apply ab<;>intro h<;>try omega|apply af|(with_reducible refine ag (λh=> ?_) ?_)|refine aW pv rfl rfl ?_|refine aW pb rfl rfl ?_|refine aA rfl (by intro h;cases h) (an rfl) (by simp only[List.length_append,List.length_cons,List.length_nil];omega) (by simp only[List.length_append,List.length_cons,List.length_nil];omega) ?_
     all_goals
      rw[HT.out]
      exact⟨i+1, [(1,5)],by omega,by omega,by simp⟩
   ·repeat' first|simp(disch:=omega)only[go_sem, *]|apply ab<;>intro h<;>try omega
    unfold rX
    rw[List.take_of_length_le (by omega)]
  ·rw[Gx (by omega)]
   rw[h0]at pv
   clear v h0
   repeat' first|simp(disch:=omega)only[go_sem, *]|apply ab<;>intro h<;>try omega|refine aq pv rfl rfl ?_
   all_goals first|rfl|(exfalso;omega)
 ·rw[Gx (.inl h0)]
  clear v
  generalize (bn p).2=e at*
  repeat' first|simp(disch:=omega)only[go_sem, *,h0]|apply ab<;>intro h<;>try omega|refine aq pv rfl rfl ?_
  all_goals rfl
theorem To {L:List ByteArray}: ∀{l:List ByteArray},l.Nodup→(∀x∈l,x∈L)→l.length≤L.length:=by
 intro l
 induction l generalizing L with
 |nil=>intro _ _;simp
 |cons x r ih=>
  intro hn hs
  obtain⟨s,t,rfl⟩:=List.append_of_mem (hs x List.mem_cons_self)
  have h1:=ih (L:=s++t) (List.nodup_cons.1 hn).2 λy hy=>by
   have z: ¬y=x:= λe=>(List.nodup_cons.1 hn).1 (e▸hy)
   have:=hs y (List.mem_cons_of_mem _ hy)
   simp only[List.mem_append,List.mem_cons]at this ⊢
   rcases this with h|h|h
   ·exact .inl h
   ·exact absurd h z
   ·exact .inr h
  simp only[List.length_append,List.length_cons]at h1 ⊢
  omega
theorem E5 {l:List aR} (h:nL l) {L:List ByteArray} (hk: ∀m∈l,m.1∈L):l.length≤L.length:=by
 have h1:(l.map (·.1)).Nodup:=by
  rw[List.Nodup,List.pairwise_map]
  exact h.imp λh=>d6 h
 have:=To h1 (L:=L) λx hx=>by
  obtain⟨m,hm,rfl⟩:=List.mem_map.1 hx
  exact hk m hm
 simpa using this
section
variable {p : bG}
theorem jU (h:(bn p).2=0):jf p∧(∀s∈p.sizes,fW s)∧(∀j,j<p.params.length→uK p j=0)∧ ∀j,j<p.defs.length→vI p j=0:=by
 have h0:jf p:=Classical.byContradiction λhn=>by rw[tP hn]at h;cases h
 have h1:lW p=0:=Classical.byContradiction λhn=>by rw[wO h0 rfl hn]at h;exact hn h
 have h2:qU p=0:=Classical.byContradiction λhn=>by rw[wV h0 h1 rfl hn]at h;exact hn h
 have h3: ∀j,j<p.params.length→uK p j=0:=by
  intro j
  induction j using Nat.strongRecOn with
  |_ j ih=>
   intro hj
   refine Classical.byContradiction λhn=> ?_
   rw[tu h0 h1 h2 hj (λi hi=>ih i hi (by omega)) rfl hn]at h
   exact hn h
 have h4: ∀j,j<p.defs.length→vI p j=0:=by
  intro j
  induction j using Nat.strongRecOn with
  |_ j ih=>
   intro hj
   refine Classical.byContradiction λhn=> ?_
   rw[tU h0 h1 h2 h3 hj (λi hi=>ih i hi (by omega)) rfl hn]at h
   exact hn h
 refine⟨h0,λs hs=> ?_,h3,h4⟩
 obtain⟨j,hj,rfl⟩:=List.mem_iff_getElem.1 hs
 have h5:PQ p j=0:=iF h1 _ (List.mem_map.2 ⟨j,List.mem_range.2 hj,rfl⟩)
 rw[Jk hj]at h5
 unfold aP at h5
 exact Classical.byContradiction λhn=>by rw[if_pos hn]at h5;cases h5
theorem Dg {sizes:List ByteArray}: ∀{l:List gU} {taken:List ByteArray},bF sizes taken l=0→ ∀a∈l,fW a.1∧aI a.2.2∧fl [] sizes a.2
 | [],_,_,a,ha=>by cases ha
 |x::r,taken,h,a,ha=>by
  unfold bF at h
  split at h
  ·rename_i hn;exact absurd h hn
  ·rename_i hn
   split at h
   ·rename_i hf;exact absurd h hf
   ·rename_i hf
    rcases List.mem_cons.1 ha with rfl|ha
    ·have hn:=Classical.not_not.1 hn
     have hf:=Classical.not_not.1 hf
     unfold aP at hn
     unfold bH at hf
     refine⟨Classical.byContradiction λh=>(by rw[if_pos h]at hn;cases hn),Classical.byContradiction λh=>(by rw[if_pos h]at hf;cases hf),Classical.byContradiction λh=> ?_⟩
     split at hf
     ·cases hf
     ·first|(cases hf;done)|(rw[if_pos h]at hf;cases hf)
    ·exact Dg h a ha
theorem sd {k:Nat} (hk:k<p.defs.length) (h:vI p k=0):(∀a∈p.defs[k].dims++p.defs[k].red,fW a.1∧aI a.2.2∧fl [] p.sizes a.2)∧(bv (cU p k) (aS p.defs[k]) p.defs[k].body).2=0:=by
 rw[yW hk]at h
 unfold bt at h
 split at h
 ·contradiction
 ·split at h
  ·cases h
  ·split at h
   ·cases h
   ·split at h
    ·contradiction
    ·rename_i h1
     split at h
     ·contradiction
     ·split at h
      ·contradiction
      ·rename_i h2
       exact⟨Dg (Classical.not_not.1 h1),Classical.not_not.1 h2⟩
theorem v6 {q:bG} {vars:List ByteArray} {e:Ex} (h:(bv q vars e).2=0):gG e=0∧(eD q vars e).2=0:=by
 unfold bv at h
 split at h
 ·contradiction
 ·rename_i h1
  split at h
  ·cases h
  ·split at h
   ·contradiction
   ·rename_i h2
    exact⟨Classical.not_not.1 h1,Classical.not_not.1 h2⟩
theorem C0 {q:bG} {vars:List ByteArray}: ∀{l:List Ex} {ts:List Ty},dN q vars l= .inr ts→ ∀a∈l,(eD q vars a).2=0
 | [],_,_,a,ha=>by cases ha
 |e::l,ts,h,a,ha=>by
  simp only[dN]at h
  split at h
  ·cases h
  ·rename_i h1
   split at h
   ·cases h
   ·rename_i l' hl
    rcases List.mem_cons.1 ha with rfl|ha
    ·exact Classical.not_not.1 h1
    ·exact C0 hl a ha
theorem C1 {q:bG} {vars:List ByteArray} {e:Ex} (h:(eD q vars e).2=0):(∀a∈e.args,(eD q vars a).2=0)∧ ∃l,(aY q vars e l).2=0:=by
 rw[mE]at h
 split at h
 ·rename_i err hx
  exfalso
  have key: ∀{l:List Ex} {x:Int},dN q vars l= .inl x→x≠0:=by
   intro l
   induction l with
   |nil=>intro x h;cases h
   |cons e r ih=>
    intro x h
    simp only[dN]at h
    split at h
    ·rename_i h1;cases h;exact h1
    ·split at h
     ·rename_i h2;cases h;exact ih h2
     ·cases h
  exact key hx h
 ·rename_i l hx
  exact⟨C0 hx,l,h⟩
theorem qO {q:bG} {vars:List ByteArray} (e:Ex):iy e→(∀a∈e.pre,nK a)→(eD q vars e).2=0→ ∀a∈e.pre,∀l∈a.forms,fl vars q.sizes l:=by
 refine Ex.ind (p:= λe=>iy e→(∀a∈e.pre,nK a)→(eD q vars e).2=0→ ∀a∈e.pre,∀l∈a.forms,fl vars q.sizes l) (λe ih hr hs ht=> ?_) e
 obtain⟨h1,ts,h2⟩:=C1 ht
 intro a ha
 rw[Ex.pre_eq]at ha
 rcases List.mem_cons.1 ha with rfl|ha
 ·have J:=hs a (by rw[Ex.pre_eq];exact List.mem_cons_self)
  obtain⟨s1,s2,s3,s4,s5,s6⟩:=J
  have nilK: ∀{l:bW},Bn l→fl vars q.sizes l:= λh m hm=>by
   have:=List.eq_nil_of_length_eq_zero h.2
   rw[this]at hm;cases hm
  intro l hl
  rcases List.mem_cons.1 hl with rfl|hl
  ·by_cases h0:a.op=2
   ·unfold aY at h2
    rw[if_neg (by omega),if_pos h0]at h2
    unfold dR at h2
    exact Classical.byContradiction λhn=>by rw[if_neg (λh=>hn (h _ List.mem_cons_self))]at h2;cases h2
   ·exact nilK (s4 h0)
  ·obtain⟨x,hx,hl⟩:=List.mem_flatMap.1 hl
   by_cases h0:a.op=3
   ·unfold aY at h2
    rw[if_neg (by omega),if_neg (by omega),if_pos h0]at h2
    unfold gc at h2
    split at h2
    ·cases h2
    ·split at h2
     ·cases h2
     ·split at h2
      ·contradiction
      ·rename_i hz
       have o:=iF (Classical.not_not.1 hz) _ (List.mem_map.2 ⟨x,hx,rfl⟩)
       unfold gB at o
       split at o
       ·rename_i hf
        rcases List.mem_cons.1 hl with rfl|hl
        ·unfold dR at o
         exact Classical.byContradiction λhn=>by rw[if_neg (λh=>hn (h _ List.mem_cons_self))]at o;cases o
        ·have:=List.eq_nil_of_length_eq_zero ((s6 x hx).1 hf)
         rw[this]at hl;cases hl
       ·rename_i hf
        rcases List.mem_cons.1 hl with rfl|hl
        ·exact nilK ((s6 x hx).2 hf)
        ·split at o
         ·cases o
         ·split at o
          ·cases o
          ·split at o
           ·cases o
           ·unfold dR at o
            exact Classical.byContradiction λhn=>by rw[if_neg (λh=>hn (h _ hl))]at o;cases o
   ·have:=List.eq_nil_of_length_eq_zero (s5 h0).2
    rw[this]at hx;cases hx
 ·
  have key: ∀l:List Ex,a∈Ex.pres l→ ∃b∈l,a∈b.pre:=by
   intro l
   induction l with
   |nil=>intro h;simp[Ex.pres]at h
   |cons b r E=>
    intro h
    rw[Ex.pres]at h
    rcases List.mem_append.1 h with h|h
    ·exact⟨b,List.mem_cons_self,h⟩
    ·obtain⟨c,hc,h⟩:=E h
     exact⟨c,List.mem_cons_of_mem _ hc,h⟩
  obtain⟨b,hb,F⟩:=key _ ha
  exact ih b hb (il hr hb) (λc hc=>hs c (by
   rw[Ex.pre_eq]
   refine List.mem_cons_of_mem _ ?_
   clear key ha F ih h1 h2 hr hs ht
   generalize e.args=l at hb
   induction l with
   |nil=>cases hb
   |cons y r E=>
    rw[Ex.pres]
    rcases List.mem_cons.1 hb with rfl|hb
    ·exact List.mem_append_left _ hc
    ·exact List.mem_append_right _ (E hb))) (h1 b hb) a F
theorem GM (hl: ¬iM p) (h:(bn p).2=0):Sx p:=by
 obtain⟨⟨c1,c2,c3,c4,c5⟩,hs,hp,hd⟩:=jU h
 have hf:=mQ hl
 refine⟨⟨by omega,by omega,by omega,by omega,by omega⟩,λc hc=> ?_,λx hx=>⟨by have:=(hf.1 x hx).1;omega,λl w=>by have:=(hf.1 x hx).2 l w;omega⟩,λd G=> ?_⟩
 ·have: ¬20<c.1.2.length:= λhh=>hl (.inr (.inl ⟨c,hc,hh⟩))
  omega
 ·obtain⟨f1,f2,f3,f4⟩:=hf.2 d G
  refine⟨⟨by omega,λa ha=>by have:=f3 a ha;omega⟩,⟨by omega,λa ha=>by have:=f4 a ha;omega⟩, ?_⟩
  obtain⟨k,hk,rfl⟩:=List.mem_iff_getElem.1 G
  obtain⟨_,ht⟩:=sd hk (hd k hk)
  obtain⟨t1,t2⟩:=v6 ht
  have hr:=m0 t1
  have hz: ∀a∈p.defs[k].body.pre,bf a=0:=by
   intro a ha
   unfold gG at t1
   split at t1
   ·cases t1
   ·split at t1
    ·cases t1
    ·exact iF t1 _ (List.mem_map.2 ⟨a,ha,rfl⟩)
  have K:=qO _ hr (λa ha=>(iw (hz a ha)).1) t2
  intro a ha
  obtain⟨r1,r2,r3,r4,r5⟩:=hr a ha
  have O:iW a.op≤3:=by unfold iW;(repeat' split)<;>omega
  refine⟨by omega,by omega,λl w=> ?_,λx hx=>by have:=r5 x hx;omega⟩
  have M:=(bD.1 ((iw (hz a ha)).2.2.2.2.2 l w)).1
  have:=E5 M (L:=aS p.defs[k]++p.sizes) λm hm=>by
   rcases K a ha l w m hm with h|h
   ·exact List.mem_append_left _ h
   ·exact List.mem_append_right _ h
  have P:(aS p.defs[k]).length≤24:=by unfold aS;simp;omega
  simp only[List.length_append]at this
  omega
theorem DP (hl: ¬iM p) (C:Cs p) (h:(bn p).2=0) (i:Nat) (hi:i<p.defs.length):C7 p p.defs[i]:=by
 obtain⟨⟨c1,c2,c3,c4,c5⟩,hs,hp,hd⟩:=jU h
 obtain⟨f1,f2,f3,f4⟩:=(mQ hl).2 _ (List.getElem_mem hi)
 refine⟨by omega,by omega,by omega,by omega,hs,λa ha=>⟨((sd hi (hd i hi)).1 a ha).1,(C.2.2 _ (List.getElem_mem hi)).1 a ha, ?_⟩⟩
 rcases List.mem_append.1 ha with h|h
 ·have:=f3 a h;omega
 ·have:=f4 a h;omega
end
set_option maxRecDepth 20000
open Go.Abs Go.RowKit
abbrev sn:ByteArray:=⟨⟨[110]⟩⟩
abbrev si:ByteArray:=⟨⟨[105]⟩⟩
abbrev sa:ByteArray:=⟨⟨[97]⟩⟩
abbrev sb:ByteArray:=⟨⟨[98]⟩⟩
abbrev se:ByteArray:=⟨⟨[]⟩⟩
def Qj:Ty:=(1,0,0,0,0)
def fN:bW:=(0, [(sn,1)])
def Tw (k:Int):bW:=(k, [(si,1)])
def jW (k:Int):Ex:= .mk 3 sa (0,0) (0,0,0,0,0) (0, []) [(Tw k,se, [])] []
def DT (k:Int):uu:=⟨sb,Qj, [(si,fN)], [],0,jW k⟩
def k7 (k:Int):bG:=⟨[sn], [], [(sa,Qj, [fN])], [DT k], [sb]⟩
theorem EF {c:UInt8} (h1:97≤c.toNat) (h2:c.toNat≤122):fW ⟨⟨[c]⟩⟩:=by
 refine⟨by simp[ByteArray.size],by simp[ByteArray.size], ?_,λi h=> ?_⟩
 ·intro h
  simp[s9]at h
 ·obtain rfl:i=0:=by simp[ByteArray.size]at h;omega
  exact .inl ⟨h1,h2⟩
theorem LR:fW sn:=EF (by decide) (by decide)
theorem Is:fW si:=EF (by decide) (by decide)
theorem T5:fW sa:=EF (by decide) (by decide)
theorem Vp:fW sb:=EF (by decide) (by decide)
theorem ld {s:ByteArray} {k:Int} (h:fW s) (hk:k≠0):aI [(s,k)]:=by
 intro i hi N
 obtain rfl:i=0:=by simpa using N
 exact⟨h,hk,λh=>by omega⟩
theorem OE:aI []:= λi hi=>absurd hi (by simp)
theorem LH {sizes:List ByteArray} {f:bW} {s:ByteArray} {c k:Int} (e:f=(c, [(s,k)])) (h:fW s) (hk:k≠0) (hs:s∈sizes):bH sizes f=0:=by
 subst e
 unfold bH
 have hn:fl [] sizes (c, [(s,k)]):= λm hm=>by
  obtain rfl:=List.mem_singleton.1 hm
  exact .inr hs
 rw[if_neg (not_not_intro (ld h hk)),if_neg (not_not_intro hn)]
theorem EY {l:List ByteArray} {s:ByteArray} (h:fW s) (hs: ¬s∈l):aP l s=0:=by
 unfold aP
 rw[if_neg (not_not_intro h),if_neg hs]
theorem RS:kU Qj:= .inl ⟨.inl rfl,rfl,rfl,rfl,rfl⟩
theorem UB (k:Int):gG (jW k)=0:=by
 have e1:(jW k).dep=1:=by simp[jW,Ex.dep,Ex.deps]
 have e2:(jW k).sz=1:=by simp[jW,Ex.sz,Ex.szs]
 have e3:(jW k).pre= [jW k]:=by rw[jW,Ex.pre,Ex.pres]
 unfold gG i5
 rw[e1,e2,e3,if_neg (by decide),if_neg (by decide)]
 have h1:nK (jW k):=⟨⟨by simp[jW,Ex.op],by simp[jW,Ex.op]⟩,λ_=>⟨rfl,rfl⟩,λ_ _=>⟨rfl,rfl,rfl,rfl,rfl⟩,λ_=>⟨rfl,rfl⟩,λh=>absurd rfl h,λx hx=>by
  obtain rfl:=List.mem_singleton.1 hx
  exact⟨λ_=>rfl,λh=>absurd rfl h⟩⟩
 have h2:rv (jW k):=⟨λ_=>T5,λx hx h=>by
  obtain rfl:=List.mem_singleton.1 hx
  exact absurd rfl h⟩
 have h3:rt (jW k):=⟨rfl,by simp[jW,Ex.idx],λx hx=>by
  obtain rfl:=List.mem_singleton.1 hx
  simp⟩
 have h4:lB (jW k):=⟨λh=>by simp[jW,Ex.op]at h,λi h=>by simp[jW,Ex.args]at h⟩
 have h5:rc (jW k):=by
  refine⟨λh=>by simp[jW,Ex.op]at h,λl hl=> ?_⟩
  simp[jW,Ex.forms,Ex.lin,Ex.idx]at hl
  rcases hl with rfl|rfl
  ·exact OE
  ·exact ld Is (by decide)
 have h:bf (jW k)=0:=by
  unfold bf
  rw[if_neg (not_not_intro h1),if_neg (not_not_intro h2),if_neg (not_not_intro h3),if_neg (not_not_intro h4),if_neg (not_not_intro h5)]
 simp[de,h]
theorem S3 (k:Int) {q:bG} (hs:q.sizes= [sn]) (hp:q.params= [(sa,Qj, [fN])]):bv q [si] (jW k)=(Qj,0):=by
 have hf:dm q sa=some (Qj, [fN]):=by simp[dm,hp]
 have hi:gB q [si] (Tw k,se, [])=0:=by
  unfold gB dR
  rw[if_pos rfl,if_pos]
  intro x hx m hm
  obtain rfl:=List.mem_singleton.1 hx
  obtain rfl:=List.mem_singleton.1 hm
  exact .inl (List.mem_singleton.2 rfl)
 have hr:gc q [si] (jW k)=(Qj,0):=by
  unfold gc
  rw[show(jW k).name=sa from rfl,hf]
  simp only
  rw[if_neg (by simp[jW,Ex.idx]),if_neg]
  show ¬de ([(Tw k,se, [])].map (gB q [si]))≠0
  simp[de,hi]
 have he:eD q [si] (jW k)=(Qj,0):=by
  rw[mE,show(jW k).args= []from rfl,dN]
  simp only
  unfold aY
  rw[show(jW k).op=3 from rfl]
  simp[hr]
 unfold bv
 rw[if_neg (not_not_intro (UB k)),if_neg (by simp[jW,Ex.op,kj]),he]
 simp
theorem xa (k:Int):bn (k7 k)=(0,0):=by
 refine v7 (by simp[jf,k7]) (BS λj hj=> ?_) (by simp[qU,k7,de]) (λj hj=> ?_) (λj hj=> ?_) λj hj=> ?_
 ·obtain rfl:j=0:=by simpa[k7]using hj
  exact EY LR (by simp)
 ·obtain rfl:j=0:=by simpa[k7]using hj
  rw[Fc hj]
  have h1:aP (dT (k7 k) 0) sa=0:=EY T5 (by simp[dT,k7])
  have h2:bH [sn] fN=0:=LH rfl LR (by decide) (List.mem_singleton.2 rfl)
  show dL [sn] (dT (k7 k) 0) (sa,Qj, [fN])=0
  unfold dL
  simp[h1,h2,RS,de]
 ·obtain rfl:j=0:=by simpa[k7]using hj
  rw[yW hj]
  have h1:aP (dY (k7 k) 0) sb=0:=EY Vp (by simp[dY,k7])
  have h2:bH [sn] fN=0:=LH rfl LR (by decide) (List.mem_singleton.2 rfl)
  have h3:aP [sn] si=0:=EY Is (by simp)
  show bt (k7 k) 0 (dY (k7 k) 0) (DT k)=0
  have h4:bF [sn] [sn] [(si,fN)]=0:=by simp[bF,h3,h2]
  have h5:f8 (DT k)=0:=by simp[f8,DT]
  have h6:=S3 k (q:=⟨[sn], [],(k7 k).params,(k7 k).defs.take 0, []⟩) rfl rfl
  unfold bt
  rw[show(DT k).name=sb from rfl,show(DT k).ty=Qj from rfl,show(DT k).dims= [(si,fN)]from rfl,show(DT k).red= []from rfl,show(k7 k).sizes= [sn]from rfl,show aS (DT k)= [si]from rfl,show(DT k).body=jW k from rfl,List.append_nil]
  rw[h1,h4,h5,h6]
  simp[RS]
 ·obtain rfl:j=0:=by simpa[k7]using hj
  rw[FB hj]
  have:dm (k7 k) sb≠none:=by simp[dm,k7,DT]
  show(if dm (k7 k) sb=none then(9:Int)else if sb∈ []then 8 else 0)=0
  rw[if_neg this]
  simp
theorem sm {k:Int}: ¬iM (k7 k):=by
 have hw:lX (jW k) 300=3:=by
  rw[Gq]
  have e1:w0 (jW k)=2:=by unfold w0;simp[jW,Ex.idx,Ex.lin,wrap_i64]
  rw[show(jW k).args= []from rfl,show(jW k).idx= [(Tw k,se, [])]from rfl,e1]
  simp[oT,wL,Nm,Tw,wrap_i64]
 rintro((h|h|h|h|h)|⟨c,hc,_⟩|⟨x,hx,h⟩|⟨d,hd,h⟩)
 ·simp[k7]at h
 ·simp[k7]at h
 ·simp[k7]at h
 ·simp[k7]at h
 ·simp[k7]at h
 ·simp[k7]at hc
 ·obtain rfl:=List.mem_singleton.1 hx
  rcases h with h|⟨l,hl,h⟩
  ·simp at h
  ·obtain rfl:=List.mem_singleton.1 hl
   simp[fN]at h
 ·obtain rfl:=List.mem_singleton.1 hd
  rcases h with h|h|h|⟨a,ha,h⟩
  ·simp[DT]at h
  ·simp[DT]at h
  ·rw[show(DT k).body=jW k from rfl,hw]at h
   omega
  ·obtain rfl:a=(si,fN):=by simpa[DT]using ha
   simp[fN]at h
theorem JE {k:Int}:kI (k7 k):=by
 intro d hd a ha
 obtain rfl:=List.mem_singleton.1 hd
 rw[show(DT k).body=jW k from rfl,show(jW k).pre= [jW k] by rw[jW,Ex.pre,Ex.pres]]at ha
 obtain rfl:=List.mem_singleton.1 ha
 exact⟨by simp[jW,Ex.val,am],by simp[jW,Ex.val,am]⟩
theorem Sd {k:Int} (hk:am k):Cs (k7 k):=by
 have hN:bl fN:=⟨by simp[fN,am],λm hm=>by obtain rfl:=List.mem_singleton.1 hm;simp[am]⟩
 refine⟨λc hc=>by simp[k7]at hc,λx hx l hl=> ?_,λd hd=> ?_⟩
 ·obtain rfl:=List.mem_singleton.1 hx
  obtain rfl:=List.mem_singleton.1 hl
  exact hN
 ·obtain rfl:=List.mem_singleton.1 hd
  refine⟨λa ha=> ?_,λe he l hl=> ?_⟩
  ·obtain rfl:a=(si,fN):=by simpa[DT]using ha
   exact hN
  ·rw[show(DT k).body=jW k from rfl,show(jW k).pre= [jW k] by rw[jW,Ex.pre,Ex.pres]]at he
   obtain rfl:=List.mem_singleton.1 he
   simp[jW,Ex.forms,Ex.lin,Ex.idx]at hl
   rcases hl with rfl|rfl
   ·exact⟨by simp[am],λm hm=>by cases hm⟩
   ·exact⟨hk,λm hm=>by obtain rfl:=List.mem_singleton.1 hm;simp[am]⟩
end
