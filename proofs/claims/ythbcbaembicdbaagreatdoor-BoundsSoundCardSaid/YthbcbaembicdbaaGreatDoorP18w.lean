import Derived.Test.YthbcbaembicdbaaGreatDoorV18m
import Derived.Test.YthbcbaembicdbaaGreatDoorVCq
import Derived.Test.YthbcbaembicdbaaGreatDoorV17m
import Derived.Test.YthbcbaembicdbaaGreatDoorV17x
set_option maxHeartbeats 4000000
set_option linter.unusedVariables false
set_option linter.unusedSimpArgs false
set_option maxRecDepth 1000000
namespace Go.Proofs.YthbcbaembicdbaaGreatDoor
open Go.Abs Go.RowKit
noncomputable section
abbrev fV (s:ByteArray):bU:=(0, [(s,1)])
def PG (a:dW):List aR:=if(fR (fV a.1) a.2).2=0 then [(fV a.1,false),((fR (fV a.1) a.2).1,false)]else [(fV a.1,false)]
def Gi (p:bz) (d:y5):List aR:=p.wher++p.sizes.map (λs=>(((-1, [(s,1)]),false):aR))++(d.dims++d.red).flatMap PG
def Jt (p:bz):Prop:=(∀c∈p.wher,br c.1)∧(∀x∈p.params,∀l∈x.2.2,br l)∧ ∀d∈p.defs,(∀a∈d.dims++d.red,br a.2)∧ ∀e∈d.body.pre,∀l∈e.forms,br l
def SR (p:bz) (d:y5):Prop:=p.wher.length≤1000∧p.sizes.length≤1000∧d.dims.length≤1000∧d.red.length≤1000∧(∀s∈p.sizes,gk s)∧ ∀a∈d.dims++d.red,gk a.1∧br a.2∧a.2.2.length≤1000
theorem XF (a:dW):(PG a).length≤2:=by unfold PG;split<;>simp
theorem Tv {l:List dW}:(l.flatMap PG).length≤2*l.length:=by
 induction l with
 |nil=>simp
 |cons a l ih=>have:=XF a;simp only[List.flatMap_cons,List.length_append,List.length_cons];omega
theorem Ox {l:List dW} {k:Nat} (h:k<l.length):(l.take (k+1)).flatMap PG=(l.take k).flatMap PG++PG l[k]:=by
 rw[List.take_succ_eq_append_getElem h,List.flatMap_append]
 simp
theorem mg (d:y5) (h1:d.dims.length≤1000) (h2:d.red.length≤1000):af Tryz.prog w5 [Qa d] (gG ic (d.dims++d.red)):=by
 refine af.of EJ (by simp) λhb=>aa ?_
 conv in xi=>cbv
 have hd:bC 3 (d.dims.map ic):=aQ λx=>rfl
 have hr:bC 3 (d.red.map ic):=aQ λx=>rfl
 have tk:(d.dims.map ic).take d.dims.length=d.dims.map ic:=List.take_of_length_le (by simp)
 by_cases h:d.red= []
 ·have hl:d.red.map ic= []:=by rw[h];rfl
  have e:d.dims++d.red=d.dims:=by rw[h,List.append_nil]
  rw[e]
  clear h e
  repeat' first|simp(disch:=omega) only[go_sem, *,hd,hl,tk,Int.toNat_zero,Option.getD_none,Option.getD_some]|((with_reducible apply ab)<;>intro h<;>try omega)|(with_reducible apply ah)|(with_reducible refine aj (λh=> ?_) ?_)|(refine gj hd ?_)
  all_goals rfl
 ·have hne:d.red.map ic≠ []:=by simpa using h
  rw[show gG ic (d.dims++d.red)= .c (.pure (.slice (d.dims.map ic++d.red.map ic))) by show AV.c (.pure (.slice (List.map ic (_++_))))=_;rw[List.map_append]]
  clear h
  repeat' first|simp(disch:=omega) only[go_sem, *,hd,tk,Int.toNat_zero,Option.getD_none,Option.getD_some]|((with_reducible apply ab)<;>intro h<;>try omega)|(with_reducible apply ah)|(with_reducible refine aj (λh=> ?_) ?_)|(refine iD hd hr hne (by simp;omega) (by simp;omega) ?_)
  all_goals rfl
def sC (s:ByteArray):aR:=((-1, [(s,1)]),false)
abbrev rA (p:bz) (i:Nat):List (List PC):=(p.wher++(p.sizes.take i).map sC).map cP
theorem Xf {p:bz} {i:Nat} (h:i<p.sizes.length):rA p i++ [[pI (-1),aw [(p.sizes[i],1)],pB false]]=rA p (i+1):=by
 have e:p.wher++(p.sizes.take (i+1)).map sC=(p.wher++(p.sizes.take i).map sC)++ [sC p.sizes[i]]:=by
  rw[List.take_succ_eq_append_getElem h,List.map_append,List.append_assoc]
  rfl
 exact(List.map_append (f:=cP) (l₁:=p.wher++(p.sizes.take i).map sC) (l₂:= [sC p.sizes[i]])).symm.trans (congrArg (List.map cP) e.symm)
abbrev rX (p:bz) (l:List dW) (i:Nat):List (List PC):=(p.wher++p.sizes.map sC++(l.take i).flatMap PG).map cP
theorem ZI {p:bz} {l:List dW} {i:Nat} (h:i<l.length) (h0:(fR (fV l[i].1) l[i].2).2=0):rX p l i++ [[pI 0,aw [(l[i].1,1)],pB false]]++ [[pI (fR (fV l[i].1) l[i].2).1.1,aw (fR (fV l[i].1) l[i].2).1.2,pB false]]=rX p l (i+1):=by
 unfold rX
 rw[Ox h,PG,if_pos h0]
 simp[List.map_append,cP]
theorem Zf {p:bz} {l:List dW} {i:Nat} (h:i<l.length) (h0:(fR (fV l[i].1) l[i].2).2≠0):rX p l i++ [[pI 0,aw [(l[i].1,1)],pB false]]=rX p l (i+1):=by
 unfold rX
 rw[Ox h,PG,if_neg h0]
 simp[List.map_append,cP]
theorem Zb (p:bz) (d:y5):Gi p d=p.wher++p.sizes.map sC++(d.dims++d.red).flatMap PG:=rfl
theorem vw {p:bz} {k:Nat} (hk:k<p.defs.length) (h:SR p p.defs[k]):aq Tryz.prog k7 [jE p,I k] [] 0 (.c (.ref 0)) [(0,.arr 46 3 ((Gi p p.defs[k]).map cP))] 1:=by
 obtain⟨z1,z2,z3,z4,hs,hx⟩:=h
 refine aq.ofZ (ress:= [.c (.ref 0)]) td (by simp) λhb=>aa ?_
 conv in lK=>cbv
 have hok:bC 3 (p.wher.map cP):=aQ λx=>rfl
 repeat' first|simp(disch:=omega) only[go_sem, *]|((with_reducible apply ab)<;>intro h<;>try omega)|(refine z7 hok (by simp;omega) (by simp;omega) ?_)
 refine ap (λi:Nat=>⟨[(21,I i),(20,I p.sizes.length),(19,.c (.pure (gn p.sizes))),(5,.c (.ref 1)),(2,.c (.ptr 0 0)),(1,I k)], [(1,.arr 46 3 (rA p i)),(0,kx p)],2,0⟩) (λi=>i≤p.sizes.length) (λi=>p.sizes.length-i) ⟨0, [],by omega,by simp⟩ ?_
 intro i hi
 refine aa ?_
 by_cases hlt:i<p.sizes.length
 ·have pv:=BS p.sizes[i]
  rw[if_pos (hs _ (List.getElem_mem hlt))]at pv
  have HT:=Lib.hid (Xf hlt)
  have hlen:(rA p i).length≤3000:=by simp;omega
  repeat' first|simp(disch:=omega) only[go_sem, *,ai hlt,wrap_i64]|((with_reducible apply ab)<;>intro h<;>try omega)|(refine el pv rfl rfl ?_)|(refine bf rfl (by intro h;cases h) (aO rfl) (by simp only[List.length_append,List.length_cons,List.length_nil];omega) (by simp only[List.length_append,List.length_cons,List.length_nil];omega) ?_)
  rw[HT.out]
  exact⟨i+1, [(1,3)],by omega,by omega,by simp⟩
 ·have pa:=mg p.defs[k] z3 z4
  rw[show rA p i=(p.wher++p.sizes.map sC).map cP by unfold rA;rw[List.take_of_length_le (by omega)]]
  generalize hl:p.defs[k].dims++p.defs[k].red=l at*
  have hll:l.length≤2000:=by rw[←hl];simp;omega
  rw[Zb,hl]
  clear hs hl
  repeat' first|simp(disch:=omega) only[go_sem, *,ai hk,eh]|((with_reducible apply ab)<;>intro h<;>try omega)|(refine el pa rfl rfl ?_)
  refine ap (λi:Nat=>⟨[(41,I i),(40,I l.length),(39,gG ic l),(5,.c (.ref 1))], [(1,.arr 46 3 (rX p l i))],2,0⟩) (λi=>i≤l.length) (λi=>l.length-i) ⟨0, [],by omega,by simp⟩ ?_
  clear pa hlt hi
  intro i hi
  refine aa ?_
  by_cases hlt:i<l.length
  ·obtain⟨g1,g2,g3⟩:=hx _ (List.getElem_mem hlt)
   have pv:=BS l[i].1
   rw[if_pos g1]at pv
   have pb:=kz (a:=fV l[i].1) (b:=l[i].2) ⟨by simp[ar],by simp[ar]⟩ g2 (by simp) (by omega)
   have hlen:(rX p l i).length≤100000:=by
    have:=Tv (l:=l.take i)
    simp at this ⊢
    omega
   by_cases h0:(fR (fV l[i].1) l[i].2).2=0
   ·have HT:=Lib.hid (ZI (p:=p) hlt h0)
    rw[show Hx (fR (fV l[i].1) l[i].2)= .tup [dR (fR (fV l[i].1) l[i].2).1.1 (fR (fV l[i].1) l[i].2).1.2,Go.Abs.B true] by unfold Hx;rw[decide_eq_true h0]]at pb
    clear h0 g1 g2 g3
    generalize fR (fV l[i].1) l[i].2=r at*
    repeat' first|simp(disch:=omega) only[go_sem, *,ai hlt,ic,wrap_i64]|((with_reducible apply ab)<;>intro h<;>try omega)|(refine el pv rfl rfl ?_)|(refine el pb rfl rfl ?_)|(refine bf rfl (by intro h;cases h) (aO rfl) (by simp only[List.length_append,List.length_cons,List.length_nil];omega) (by simp only[List.length_append,List.length_cons,List.length_nil];omega) ?_)
    rw[HT.out]
    exact⟨i+1, [(1,6)],by omega,by omega,by simp⟩
   ·have HT:=Lib.hid (Zf (p:=p) hlt h0)
    rw[show Hx (fR (fV l[i].1) l[i].2)= .tup [dR (fR (fV l[i].1) l[i].2).1.1 (fR (fV l[i].1) l[i].2).1.2,Go.Abs.B false] by unfold Hx;rw[decide_eq_false h0]]at pb
    clear h0 g1 g2 g3
    generalize fR (fV l[i].1) l[i].2=r at*
    repeat' first|simp(disch:=omega) only[go_sem, *,ai hlt,ic,wrap_i64]|((with_reducible apply ab)<;>intro h<;>try omega)|(refine el pv rfl rfl ?_)|(refine el pb rfl rfl ?_)|(refine bf rfl (by intro h;cases h) (aO rfl) (by simp only[List.length_append,List.length_cons,List.length_nil];omega) (by simp only[List.length_append,List.length_cons,List.length_nil];omega) ?_)
    rw[HT.out]
    exact⟨i+1, [(1,4)],by omega,by omega,by simp⟩
  ·rw[show rX p l i=(p.wher++p.sizes.map sC++l.flatMap PG).map cP by unfold rX;rw[List.take_of_length_le (by omega)]]
   repeat' first|simp(disch:=omega) only[go_sem, *]|((with_reducible apply ab)<;>intro h<;>try omega)
   refine⟨[], [(0,1)], ?_⟩
   simp(disch:=omega) only[go_sem,aP]
   simp
theorem Zq {L:List ByteArray}: ∀{l:List ByteArray},l.Nodup→(∀x∈l,x∈L)→l.length≤L.length:=by
 intro l
 induction l generalizing L with
 |nil=>intro _ _;simp
 |cons x r ih=>
  intro hn hs
  obtain⟨s,t,rfl⟩:=List.append_of_mem (hs x List.mem_cons_self)
  have h1:=ih (L:=s++t) (List.nodup_cons.1 hn).2 λy hy=>by
   have hne: ¬y=x:= λe=>(List.nodup_cons.1 hn).1 (e▸hy)
   have:=hs y (List.mem_cons_of_mem _ hy)
   simp only[List.mem_append,List.mem_cons]at this ⊢
   rcases this with h|h|h
   ·exact .inl h
   ·exact absurd h hne
   ·exact .inr h
  simp only[List.length_append,List.length_cons]at h1 ⊢
  omega
theorem JL {l:List aD} (h:FT l) {L:List ByteArray} (hk: ∀m∈l,m.1∈L):l.length≤L.length:=by
 have h1:(l.map (·.1)).Nodup:=by
  rw[List.Nodup,List.pairwise_map]
  exact h.imp λh=>nh h
 have:=Zq h1 (L:=L) λx hx=>by
  obtain⟨m,hm,rfl⟩:=List.mem_map.1 hx
  exact hk m hm
 simpa using this
section
variable {p : bz}
theorem gC (h:(bB p).2=0):oC p∧(∀s∈p.sizes,gk s)∧(∀j,j<p.params.length→CG p j=0)∧ ∀j,j<p.defs.length→Aj p j=0:=by
 have h0:oC p:=Classical.byContradiction λhn=>by rw[Eu hn]at h;cases h
 have h1:oB p=0:=Classical.byContradiction λhn=>by rw[Ad h0 rfl hn]at h;exact hn h
 have h2:uo p=0:=Classical.byContradiction λhn=>by rw[Ay h0 h1 rfl hn]at h;exact hn h
 have h3: ∀j,j<p.params.length→CG p j=0:=by
  intro j
  induction j using Nat.strongRecOn with
  |_ j ih=>
   intro hj
   refine Classical.byContradiction λhn=> ?_
   rw[FU h0 h1 h2 hj (λi hi=>ih i hi (by omega)) rfl hn]at h
   exact hn h
 have h4: ∀j,j<p.defs.length→Aj p j=0:=by
  intro j
  induction j using Nat.strongRecOn with
  |_ j ih=>
   intro hj
   refine Classical.byContradiction λhn=> ?_
   rw[EN h0 h1 h2 h3 hj (λi hi=>ih i hi (by omega)) rfl hn]at h
   exact hn h
 refine⟨h0,λs hs=> ?_,h3,h4⟩
 obtain⟨j,hj,rfl⟩:=List.mem_iff_getElem.1 hs
 have h5:V4 p j=0:=gN h1 _ (List.mem_map.2 ⟨j,List.mem_range.2 hj,rfl⟩)
 rw[Vr hj]at h5
 unfold be at h5
 exact Classical.byContradiction λhn=>by rw[if_pos hn]at h5;cases h5
theorem A9 {sizes:List ByteArray}: ∀{l:List dW} {taken:List ByteArray},cK sizes taken l=0→ ∀a∈l,gk a.1∧bn a.2.2∧fU [] sizes a.2
 | [],_,_,a,ha=>by cases ha
 |x::r,taken,h,a,ha=>by
  unfold cK at h
  split at h
  ·rename_i hn;exact absurd h hn
  ·rename_i hn
   split at h
   ·rename_i hf;exact absurd h hf
   ·rename_i hf
    rcases List.mem_cons.1 ha with rfl|ha
    ·have hn:=Classical.not_not.1 hn
     have hf:=Classical.not_not.1 hf
     unfold be at hn
     unfold cq at hf
     refine⟨Classical.byContradiction λh=>(by rw[if_pos h]at hn;cases hn),Classical.byContradiction λh=>(by rw[if_pos h]at hf;cases hf),Classical.byContradiction λh=> ?_⟩
     split at hf
     ·cases hf
     ·first|(cases hf;done)|(rw[if_pos h]at hf;cases hf)
    ·exact A9 h a ha
theorem v8 {k:Nat} (hk:k<p.defs.length) (h:Aj p k=0):(∀a∈p.defs[k].dims++p.defs[k].red,gk a.1∧bn a.2.2∧fU [] p.sizes a.2)∧(du (fe p k) (bX p.defs[k]) p.defs[k].body).2=0:=by
 rw[Dh hk]at h
 unfold dE at h
 split at h
 ·contradiction
 ·split at h
  ·cases h
  ·split at h
   ·cases h
   ·split at h
    ·contradiction
    ·rename_i h1
     split at h
     ·contradiction
     ·split at h
      ·contradiction
      ·rename_i h2
       exact⟨A9 (Classical.not_not.1 h1),Classical.not_not.1 h2⟩
theorem An {q:bz} {vars:List ByteArray} {e:Ex} (h:(du q vars e).2=0):jC e=0∧(eS q vars e).2=0:=by
 unfold du at h
 split at h
 ·contradiction
 ·rename_i h1
  split at h
  ·cases h
  ·split at h
   ·contradiction
   ·rename_i h2
    exact⟨Classical.not_not.1 h1,Classical.not_not.1 h2⟩
theorem IA {q:bz} {vars:List ByteArray}: ∀{l:List Ex} {ts:List Ty},d5 q vars l= .inr ts→ ∀a∈l,(eS q vars a).2=0
 | [],_,_,a,ha=>by cases ha
 |e::l,ts,h,a,ha=>by
  simp only[d5]at h
  split at h
  ·cases h
  ·rename_i h1
   split at h
   ·cases h
   ·rename_i l' hl
    rcases List.mem_cons.1 ha with rfl|ha
    ·exact Classical.not_not.1 h1
    ·exact IA hl a ha
theorem Hj {q:bz} {vars:List ByteArray} {e:Ex} (h:(eS q vars e).2=0):(∀a∈e.args,(eS q vars a).2=0)∧ ∃l,(b9 q vars e l).2=0:=by
 rw[vP]at h
 split at h
 ·rename_i err hx
  exfalso
  have key: ∀{l:List Ex} {x:Int},d5 q vars l= .inl x→x≠0:=by
   intro l
   induction l with
   |nil=>intro x h;cases h
   |cons e r ih=>
    intro x h
    simp only[d5]at h
    split at h
    ·rename_i h1;cases h;exact h1
    ·split at h
     ·rename_i h2;cases h;exact ih h2
     ·cases h
  exact key hx h
 ·rename_i l hx
  exact⟨IA hx,l,h⟩
theorem uQ {q:bz} {vars:List ByteArray} (e:Ex):lX e→(∀a∈e.pre,wL a)→(eS q vars e).2=0→ ∀a∈e.pre,∀l∈a.forms,fU vars q.sizes l:=by
 refine Ex.ind (p:= λe=>lX e→(∀a∈e.pre,wL a)→(eS q vars e).2=0→ ∀a∈e.pre,∀l∈a.forms,fU vars q.sizes l) (λe ih hr hs ht=> ?_) e
 obtain⟨h1,ts,h2⟩:=Hj ht
 intro a ha
 rw[Ex.pre_eq]at ha
 rcases List.mem_cons.1 ha with rfl|ha
 ·have hsa:=hs a (by rw[Ex.pre_eq];exact List.mem_cons_self)
  obtain⟨s1,s2,s3,s4,s5,s6⟩:=hsa
  have nilK: ∀{l:bU},QW l→fU vars q.sizes l:= λh m hm=>by
   have:=List.eq_nil_of_length_eq_zero h.2
   rw[this]at hm;cases hm
  intro l hl
  rcases List.mem_cons.1 hl with rfl|hl
  ·by_cases h0:a.op=2
   ·unfold b9 at h2
    rw[if_neg (by omega),if_pos h0]at h2
    unfold eH at h2
    exact Classical.byContradiction λhn=>by rw[if_neg (λh=>hn (h _ List.mem_cons_self))]at h2;cases h2
   ·exact nilK (s4 h0)
  ·obtain⟨x,hx,hl⟩:=List.mem_flatMap.1 hl
   by_cases h0:a.op=3
   ·unfold b9 at h2
    rw[if_neg (by omega),if_neg (by omega),if_pos h0]at h2
    unfold jV at h2
    split at h2
    ·cases h2
    ·split at h2
     ·cases h2
     ·split at h2
      ·contradiction
      ·rename_i hz
       have hix:=gN (Classical.not_not.1 hz) _ (List.mem_map.2 ⟨x,hx,rfl⟩)
       unfold jz at hix
       split at hix
       ·rename_i hf
        rcases List.mem_cons.1 hl with rfl|hl
        ·unfold eH at hix
         exact Classical.byContradiction λhn=>by rw[if_neg (λh=>hn (h _ List.mem_cons_self))]at hix;cases hix
        ·have:=List.eq_nil_of_length_eq_zero ((s6 x hx).1 hf)
         rw[this]at hl;cases hl
       ·rename_i hf
        rcases List.mem_cons.1 hl with rfl|hl
        ·exact nilK ((s6 x hx).2 hf)
        ·split at hix
         ·cases hix
         ·split at hix
          ·cases hix
          ·split at hix
           ·cases hix
           ·unfold eH at hix
            exact Classical.byContradiction λhn=>by rw[if_neg (λh=>hn (h _ hl))]at hix;cases hix
   ·have:=List.eq_nil_of_length_eq_zero (s5 h0).2
    rw[this]at hx;cases hx
 ·
  have key: ∀l:List Ex,a∈Ex.pres l→ ∃b∈l,a∈b.pre:=by
   intro l
   induction l with
   |nil=>intro h;simp[Ex.pres]at h
   |cons b r ihr=>
    intro h
    rw[Ex.pres]at h
    rcases List.mem_append.1 h with h|h
    ·exact⟨b,List.mem_cons_self,h⟩
    ·obtain⟨c,hc,h⟩:=ihr h
     exact⟨c,List.mem_cons_of_mem _ hc,h⟩
  obtain⟨b,hb,hab⟩:=key _ ha
  exact ih b hb (nU hr hb) (λc hc=>hs c (by
   rw[Ex.pre_eq]
   refine List.mem_cons_of_mem _ ?_
   clear key ha hab ih h1 h2 hr hs ht
   generalize e.args=l at hb
   induction l with
   |nil=>cases hb
   |cons y r ihr=>
    rw[Ex.pres]
    rcases List.mem_cons.1 hb with rfl|hb
    ·exact List.mem_append_left _ hc
    ·exact List.mem_append_right _ (ihr hb))) (h1 b hb) a hab
theorem KH (hl: ¬iT p) (h:(bB p).2=0):Zl p:=by
 obtain⟨⟨c1,c2,c3,c4,c5⟩,hs,hp,hd⟩:=gC h
 have hf:=pD hl
 refine⟨⟨by omega,by omega,by omega,by omega,by omega⟩,λc hc=> ?_,λx hx=>⟨by have:=(hf.1 x hx).1;omega,λl hlm=>by have:=(hf.1 x hx).2 l hlm;omega⟩,λd hdm=> ?_⟩
 ·have: ¬20<c.1.2.length:= λhh=>hl (.inr (.inl ⟨c,hc,hh⟩))
  omega
 ·obtain⟨f1,f2,f3,f4⟩:=hf.2 d hdm
  refine⟨⟨by omega,λa ha=>by have:=f3 a ha;omega⟩,⟨by omega,λa ha=>by have:=f4 a ha;omega⟩, ?_⟩
  obtain⟨k,hk,rfl⟩:=List.mem_iff_getElem.1 hdm
  obtain⟨_,ht⟩:=v8 hk (hd k hk)
  obtain⟨t1,t2⟩:=An ht
  have hr:=vU t1
  have hz: ∀a∈p.defs[k].body.pre,co a=0:=by
   intro a ha
   unfold jC at t1
   split at t1
   ·cases t1
   ·split at t1
    ·cases t1
    ·exact gN t1 _ (List.mem_map.2 ⟨a,ha,rfl⟩)
  have hkn:=uQ _ hr (λa ha=>(iO (hz a ha)).1) t2
  intro a ha
  obtain⟨r1,r2,r3,r4,r5⟩:=hr a ha
  have har:nG a.op≤3:=by unfold nG;(repeat' split)<;>omega
  refine⟨by omega,by omega,λl hlm=> ?_,λx hx=>by have:=r5 x hx;omega⟩
  have hsr:=(cp.1 ((iO (hz a ha)).2.2.2.2.2 l hlm)).1
  have:=JL hsr (L:=bX p.defs[k]++p.sizes) λm hm=>by
   rcases hkn a ha l hlm m hm with h|h
   ·exact List.mem_append_left _ h
   ·exact List.mem_append_right _ h
  have hln:(bX p.defs[k]).length≤24:=by unfold bX;simp;omega
  simp only[List.length_append]at this
  omega
theorem Rh (hl: ¬iT p) (h64:Jt p) (h:(bB p).2=0) (i:Nat) (hi:i<p.defs.length):SR p p.defs[i]:=by
 obtain⟨⟨c1,c2,c3,c4,c5⟩,hs,hp,hd⟩:=gC h
 obtain⟨f1,f2,f3,f4⟩:=(pD hl).2 _ (List.getElem_mem hi)
 refine⟨by omega,by omega,by omega,by omega,hs,λa ha=>⟨((v8 hi (hd i hi)).1 a ha).1,(h64.2.2 _ (List.getElem_mem hi)).1 a ha, ?_⟩⟩
 rcases List.mem_append.1 ha with h|h
 ·have:=f3 a h;omega
 ·have:=f4 a h;omega
end
set_option maxRecDepth 20000
open Go.Abs Go.RowKit
abbrev sn:ByteArray:=⟨⟨[110]⟩⟩
abbrev si:ByteArray:=⟨⟨[105]⟩⟩
abbrev sa:ByteArray:=⟨⟨[97]⟩⟩
abbrev sb:ByteArray:=⟨⟨[98]⟩⟩
abbrev se:ByteArray:=⟨⟨[]⟩⟩
def V5:Ty:=(1,0,0,0,0)
def fN:bU:=(0, [(sn,1)])
def fIk (k:Int):bU:=(k, [(si,1)])
def pu (k:Int):Ex:= .mk 3 sa (0,0) (0,0,0,0,0) (0, []) [(fIk k,se, [])] []
def MC (k:Int):y5:=⟨sb,V5, [(si,fN)], [],0,pu k⟩
def tp (k:Int):bz:=⟨[sn], [], [(sa,V5, [fN])], [MC k], [sb]⟩
theorem JT {c:UInt8} (h1:97≤c.toNat) (h2:c.toNat≤122):gk ⟨⟨[c]⟩⟩:=by
 refine⟨by simp[ByteArray.size],by simp[ByteArray.size], ?_,λi h=> ?_⟩
 ·intro h
  simp[xz]at h
 ·obtain rfl:i=0:=by simp[ByteArray.size]at h;omega
  exact .inl ⟨h1,h2⟩
theorem ZD:gk sn:=JT (by decide) (by decide)
theorem aaR:gk si:=JT (by decide) (by decide)
theorem aat:gk sa:=JT (by decide) (by decide)
theorem abS:gk sb:=JT (by decide) (by decide)
theorem PM {s:ByteArray} {k:Int} (h:gk s) (hk:k≠0):bn [(s,k)]:=by
 intro i hi hi2
 obtain rfl:i=0:=by simpa using hi2
 exact⟨h,hk,λh=>by omega⟩
theorem YB:bn []:= λi hi=>absurd hi (by simp)
theorem PN {sizes:List ByteArray} {f:bU} {s:ByteArray} {c k:Int} (e:f=(c, [(s,k)])) (h:gk s) (hk:k≠0) (hs:s∈sizes):cq sizes f=0:=by
 subst e
 unfold cq
 have hn:fU [] sizes (c, [(s,k)]):= λm hm=>by
  obtain rfl:=List.mem_singleton.1 hm
  exact .inr hs
 rw[if_neg (not_not_intro (PM h hk)),if_neg (not_not_intro hn)]
theorem Jw {l:List ByteArray} {s:ByteArray} (h:gk s) (hs: ¬s∈l):be l s=0:=by
 unfold be
 rw[if_neg (not_not_intro h),if_neg hs]
theorem X5:uz V5:= .inl ⟨.inl rfl,rfl,rfl,rfl,rfl⟩
theorem aaO (k:Int):jC (pu k)=0:=by
 have e1:(pu k).dep=1:=by simp[pu,Ex.dep,Ex.deps]
 have e2:(pu k).sz=1:=by simp[pu,Ex.sz,Ex.szs]
 have e3:(pu k).pre= [pu k]:=by rw[pu,Ex.pre,Ex.pres]
 unfold jC Pe
 rw[e1,e2,e3,if_neg (by decide),if_neg (by decide)]
 have h1:wL (pu k):=⟨⟨by simp[pu,Ex.op],by simp[pu,Ex.op]⟩,λ_=>⟨rfl,rfl⟩,λ_ _=>⟨rfl,rfl,rfl,rfl,rfl⟩,λ_=>⟨rfl,rfl⟩,λh=>absurd rfl h,λx hx=>by
  obtain rfl:=List.mem_singleton.1 hx
  exact⟨λ_=>rfl,λh=>absurd rfl h⟩⟩
 have h2:Ch (pu k):=⟨λ_=>aat,λx hx h=>by
  obtain rfl:=List.mem_singleton.1 hx
  exact absurd rfl h⟩
 have h3:B9 (pu k):=⟨rfl,by simp[pu,Ex.idx],λx hx=>by
  obtain rfl:=List.mem_singleton.1 hx
  simp⟩
 have h4:uU (pu k):=⟨λh=>by simp[pu,Ex.op]at h,λi h=>by simp[pu,Ex.args]at h⟩
 have h5:IZ (pu k):=by
  refine⟨λh=>by simp[pu,Ex.op]at h,λl hl=> ?_⟩
  simp[pu,Ex.forms,Ex.lin,Ex.idx]at hl
  rcases hl with rfl|rfl
  ·exact YB
  ·exact PM aaR (by decide)
 have h:co (pu k)=0:=by
  unfold co
  rw[if_neg (not_not_intro h1),if_neg (not_not_intro h2),if_neg (not_not_intro h3),if_neg (not_not_intro h4),if_neg (not_not_intro h5)]
 simp[dV,h]
theorem ZM (k:Int) {q:bz} (hs:q.sizes= [sn]) (hp:q.params= [(sa,V5, [fN])]):du q [si] (pu k)=(V5,0):=by
 have hf:dJ q sa=some (V5, [fN]):=by simp[dJ,hp]
 have hi:jz q [si] (fIk k,se, [])=0:=by
  unfold jz eH
  rw[if_pos rfl,if_pos]
  intro x hx m hm
  obtain rfl:=List.mem_singleton.1 hx
  obtain rfl:=List.mem_singleton.1 hm
  exact .inl (List.mem_singleton.2 rfl)
 have hr:jV q [si] (pu k)=(V5,0):=by
  unfold jV
  rw[show(pu k).name=sa from rfl,hf]
  simp only
  rw[if_neg (by simp[pu,Ex.idx]),if_neg]
  show ¬dV ([(fIk k,se, [])].map (jz q [si]))≠0
  simp[dV,hi]
 have he:eS q [si] (pu k)=(V5,0):=by
  rw[vP,show(pu k).args= []from rfl,d5]
  simp only
  unfold b9
  rw[show(pu k).op=3 from rfl]
  simp[hr]
 unfold du
 rw[if_neg (not_not_intro (aaO k)),if_neg (by simp[pu,Ex.op,vr]),he]
 simp
theorem G9 (k:Int):bB (tp k)=(0,0):=by
 refine Iv (by simp[oC,tp]) (Kq λj hj=> ?_) (by simp[uo,tp,dV]) (λj hj=> ?_) (λj hj=> ?_) λj hj=> ?_
 ·obtain rfl:j=0:=by simpa[tp]using hj
  exact Jw ZD (by simp)
 ·obtain rfl:j=0:=by simpa[tp]using hj
  rw[PY hj]
  have h1:be (vn (tp k) 0) sa=0:=Jw aat (by simp[vn,tp])
  have h2:cq [sn] fN=0:=PN rfl ZD (by decide) (List.mem_singleton.2 rfl)
  show gH [sn] (vn (tp k) 0) (sa,V5, [fN])=0
  unfold gH
  simp[h1,h2,X5,dV]
 ·obtain rfl:j=0:=by simpa[tp]using hj
  rw[Dh hj]
  have h1:be (rW (tp k) 0) sb=0:=Jw abS (by simp[rW,tp])
  have h2:cq [sn] fN=0:=PN rfl ZD (by decide) (List.mem_singleton.2 rfl)
  have h3:be [sn] si=0:=Jw aaR (by simp)
  show dE (tp k) 0 (rW (tp k) 0) (MC k)=0
  have h4:cK [sn] [sn] [(si,fN)]=0:=by simp[cK,h3,h2]
  have h5:oF (MC k)=0:=by simp[oF,MC]
  have h6:=ZM k (q:=⟨[sn], [],(tp k).params,(tp k).defs.take 0, []⟩) rfl rfl
  unfold dE
  rw[show(MC k).name=sb from rfl,show(MC k).ty=V5 from rfl,show(MC k).dims= [(si,fN)]from rfl,show(MC k).red= []from rfl,show(tp k).sizes= [sn]from rfl,show bX (MC k)= [si]from rfl,show(MC k).body=pu k from rfl,List.append_nil]
  rw[h1,h4,h5,h6]
  simp[X5]
 ·obtain rfl:j=0:=by simpa[tp]using hj
  rw[O3 hj]
  have:dJ (tp k) sb≠none:=by simp[dJ,tp,MC]
  show(if dJ (tp k) sb=none then(9:Int)else if sb∈ []then 8 else 0)=0
  rw[if_neg this]
  simp
theorem HV {k:Int}: ¬iT (tp k):=by
 have hw:nu (pu k) 300=3:=by
  rw[KD]
  have e1:w0 (pu k)=2:=by unfold w0;simp[pu,Ex.idx,Ex.lin,wrap_i64]
  rw[show(pu k).args= []from rfl,show(pu k).idx= [(fIk k,se, [])]from rfl,e1]
  simp[sK,AI,R3,fIk,wrap_i64]
 rintro((h|h|h|h|h)|⟨c,hc,_⟩|⟨x,hx,h⟩|⟨d,hd,h⟩)
 ·simp[tp]at h
 ·simp[tp]at h
 ·simp[tp]at h
 ·simp[tp]at h
 ·simp[tp]at h
 ·simp[tp]at hc
 ·obtain rfl:=List.mem_singleton.1 hx
  rcases h with h|⟨l,hl,h⟩
  ·simp at h
  ·obtain rfl:=List.mem_singleton.1 hl
   simp[fN]at h
 ·obtain rfl:=List.mem_singleton.1 hd
  rcases h with h|h|h|⟨a,ha,h⟩
  ·simp[MC]at h
  ·simp[MC]at h
  ·rw[show(MC k).body=pu k from rfl,hw]at h
   omega
  ·obtain rfl:a=(si,fN):=by simpa[MC]using ha
   simp[fN]at h
theorem YG {k:Int}:tP (tp k):=by
 intro d hd a ha
 obtain rfl:=List.mem_singleton.1 hd
 rw[show(MC k).body=pu k from rfl,show(pu k).pre= [pu k] by rw[pu,Ex.pre,Ex.pres]]at ha
 obtain rfl:=List.mem_singleton.1 ha
 exact⟨by simp[pu,Ex.val,ar],by simp[pu,Ex.val,ar]⟩
end
end Go.Proofs.YthbcbaembicdbaaGreatDoor
