import Derived.Test.YthbcbaembicdbaaGreatDoorV18g
set_option maxHeartbeats 4000000
set_option linter.unusedVariables false
set_option linter.unusedSimpArgs false
namespace Go.Proofs.YthbcbaembicdbaaGreatDoor
noncomputable section
def Jh (o:Ob):Prop:=bk o.1∧ ∀c∈o.2,bk c
theorem Pn {f x:bU} (h:br f): ∀c∈m7 f x,bk c:=by
 intro c hc
 simp only[m7,List.mem_cons,List.not_mem_nil,or_false]at hc
 rcases hc with rfl|rfl
 ·exact h
 ·show br (if _ then _ else _)
  split
  ·exact JV _ _
  ·exact⟨by decide,λm hm=>by cases hm⟩
theorem XR {p:bz} {idx:List Ix} {s:ByteArray} (h: ∀x∈idx,br x.1∧ ∀l∈x.2.2,br l): ∀c∈Iy p idx s,bk c:=by
 intro c hc
 obtain⟨q,hq,hc⟩:=List.mem_flatMap.1 hc
 have hx:=h _ (List.of_mem_zip hq).1
 unfold Mz at hc
 split at hc
 ·exact Pn hx.1 c hc
 ·obtain⟨r,hr,hc⟩:=List.mem_flatMap.1 hc
  exact Pn (hx.2 _ (List.of_mem_zip hr).1) c hc
theorem PF {a b:List aR} (ha: ∀c∈a,bk c) (hb: ∀c∈b,bk c): ∀c∈a++b,bk c:= λc hc=>(List.mem_append.1 hc).elim (ha c) (hb c)
theorem VV {p:bz} {cs:List aR}: ∀{l:List Ex},(∀a∈l,∀o∈qq p a cs,Jh o)→ ∀o∈yn p l cs,Jh o
 | [],_,o,ho=>by rw[yn]at ho;cases ho
 |a::r,h,o,ho=>by
  rw[yn]at ho
  rcases List.mem_append.1 ho with ho|ho
  ·exact h a List.mem_cons_self o ho
  ·exact VV (λb hb=>h b (List.mem_cons_of_mem _ hb)) o ho
theorem Yn (p:bz) (e:Ex):nL e→ ∀cs,(∀c∈cs,bk c)→ ∀o∈qq p e cs,Jh o:=by
 refine Ex.ind (p:= λe=>nL e→ ∀cs,(∀c∈cs,bk c)→ ∀o∈qq p e cs,Jh o) (λe ih h cs hcs o ho=> ?_) e
 have ih': ∀a∈e.args,∀cs,(∀c∈cs,bk c)→ ∀o∈qq p a cs,Jh o:= λa ha=>ih a ha (bO h ha)
 rw[yb]at ho
 rcases List.mem_append.1 ho with ho|ho
 ·split at ho
  ·obtain⟨c,hc,rfl⟩:=List.mem_map.1 ho
   refine⟨XR (λx hx=> ?_) c hc,hcs⟩
   have hf:=(h.2 e (nN e)).2
   exact⟨(hf x.1 (List.mem_cons_of_mem _ (List.mem_flatMap.2 ⟨x,hx,List.mem_cons_self⟩))).1,λl hl=>(hf l (List.mem_cons_of_mem _ (List.mem_flatMap.2 ⟨x,hx,List.mem_cons_of_mem _ hl⟩))).1⟩
  ·cases ho
 ·split at ho
  ·have hfa: ∀a∈e.args,∀c∈(cj a).1,bk c:= λa ha c hc=>((tr a (bO h ha)).2 c hc).1
   have hfn: ∀a∈e.args,∀c∈(cj (jJ a)).1,bk c:= λa ha c hc=>((tr _ (Ep (bO h ha))).2 c hc).1
   generalize e.args=l at*
   match l with
   | []=>cases ho
   | [a]=>cases ho
   | [a,b]=>cases ho
   |a::b::c::r=>
    simp only[V6,List.mem_append]at ho
    rcases ho with(ho|ho)|ho
    ·exact ih' a (by simp) cs hcs o ho
    ·exact ih' b (by simp) _ (PF hcs (hfa a (by simp))) o ho
    ·exact ih' c (by simp) _ (PF hcs (hfn a (by simp))) o ho
  ·exact VV (λa ha=>ih' a ha cs hcs) o ho
open Go.Abs Go.RowKit
def R5 (e:Ex):Prop:= ∀a∈e.pre,∀l∈a.forms,l.2.length≤40
theorem vQ {e a:Ex} (h:R5 e) (ha:a∈e.args):R5 a:= λb hb=>h b (NK ha hb)
theorem Xx {e:Ex} (h:R5 e):e.lin.2.length≤40:=h e (nN e) _ List.mem_cons_self
theorem WE {a:Ex} (h:R5 a):R5 (jJ a):= λb hb l hl=>by
 rw[Ex.pre_eq]at hb
 rcases List.mem_cons.1 hb with rfl|hb
 ·simp only[jJ,Ex.forms,Ex.lin,Ex.idx,List.flatMap_nil,List.mem_singleton]at hl
  subst hl
  simp
 ·exact h b (by simpa[jJ,Ex.args,Ex.pres]using hb) l hl
theorem NS {α:Type} {f:Ex→α} {d:α} {g:α→Nat} (hd:g d=0): ∀{l:List Ex},(∀a∈l,g (f a)≤40*a.sz)→g ((l.map f).getD 0 d)+g ((l.map f).getD 1 d)≤40*Ex.szs l
 | [],_=>by simp[hd]
 |[a],h=>by
  have:=h a List.mem_cons_self
  simp[hd,Ex.szs]
  omega
 |a::b::r,h=>by
  have:=h a List.mem_cons_self
  have:=h b (List.mem_cons_of_mem _ List.mem_cons_self)
  simp[Ex.szs]
  omega
theorem aao (e:Ex):R5 e→(dx e).1.2.length≤40*e.sz:=by
 refine Ex.ind (p:= λe=>R5 e→(dx e).1.2.length≤40*e.sz) (λe ih h=> ?_) e
 have h2:=NS (f:=dx) (d:=yz) (g:= λx=>x.1.2.length) rfl λa ha=>ih a ha (vQ h ha)
 have hz:=Ex.sz_eq e
 have hl:=Xx h
 rw[I2]
 unfold zG
 generalize (e.args.map dx).getD 0 yz=a at*
 generalize (e.args.map dx).getD 1 yz=b at*
 repeat' split
 all_goals first
  |(show([]:List aD).length≤_;simp;done)
  |(show e.lin.2.length≤_;omega)
  |(have:=rE a.1 (-1);show(dP a.1 (-1)).1.2.length≤_;omega)
  |(have:=vg b.1 a.1;show(nv b.1 a.1).1.2.length≤_;omega)
  |(have:=zv a.1 b.1;show(nY a.1 b.1).1.2.length≤_;omega)
theorem DX (c:aR):iH [c]=c.1.2.length:=by simp[iH]
theorem Yy (e:Ex):R5 e→iH (cj e).1≤40*e.sz:=by
 refine Ex.ind (p:= λe=>R5 e→iH (cj e).1≤40*e.sz) (λe ih h=> ?_) e
 have h2:=NS (f:=dx) (d:=yz) (g:= λx=>x.1.2.length) rfl λa ha=>aao a (vQ h ha)
 have h3:=NS (f:=cj) (d:=([],false)) (g:= λx=>iH x.1) rfl λa ha=>ih a ha (vQ h ha)
 have hz:=Ex.sz_eq e
 rw[vN]
 unfold LS
 generalize (e.args.map dx).getD 0 yz=a at*
 generalize (e.args.map dx).getD 1 yz=b at*
 generalize (e.args.map cj).getD 0 ([],false)=c at*
 generalize (e.args.map cj).getD 1 ([],false)=d at*
 split
 ·split
  ·have:=(OJ e.op a.1 b.1).2
   unfold okF
   split
   ·rw[DX]
    show(z6 e.op a.1 b.1).1.2.length≤_
    omega
   ·simp[iH]
  ·simp[iH]
 split
 ·show iH (c.1++d.1)≤_
  rw[iK]
  omega
 split
 ·unfold Gp
  split
  ·rename_i x
   rw[DX]at h3
   split
   ·rename_i hh
    obtain⟨y,hy⟩:=List.length_eq_one_iff.1 hh.2
    show iH (fT x).1≤_
    rw[hy,DX,Mi (c:=x) (d:=y) (by rw[hy];exact List.mem_singleton.2 rfl)]
    omega
   ·simp[iH]
  ·simp[iH]
 ·simp[iH]
def upO (n m:Nat) (o:Ob):Prop:=o.2.length≤n∧iH o.2≤m
theorem Yb {p:bz} {cs:List aR}: ∀{l:List Ex},(∀a∈l,∀o∈qq p a cs,upO (cs.length+a.sz) (iH cs+40*a.sz) o)→ ∀o∈yn p l cs,upO (cs.length+Ex.szs l) (iH cs+40*Ex.szs l) o
 | [],_,o,ho=>by rw[yn]at ho;cases ho
 |a::r,h,o,ho=>by
  rw[yn]at ho
  rcases List.mem_append.1 ho with ho|ho
  ·obtain⟨h1,h2⟩:=h a List.mem_cons_self o ho
   exact⟨by simp only[Ex.szs];omega,by simp only[Ex.szs];omega⟩
  ·obtain⟨h1,h2⟩:=Yb (λb hb=>h b (List.mem_cons_of_mem _ hb)) o ho
   exact⟨by simp only[Ex.szs];omega,by simp only[Ex.szs];omega⟩
theorem abU (p:bz) (e:Ex):nL e→R5 e→ ∀cs,∀o∈qq p e cs,upO (cs.length+e.sz) (iH cs+40*e.sz) o:=by
 refine Ex.ind (p:= λe=>nL e→R5 e→ ∀cs,∀o∈qq p e cs,upO (cs.length+e.sz) (iH cs+40*e.sz) o) (λe ih hn h cs o ho=> ?_) e
 have ih': ∀a∈e.args,∀cs,∀o∈qq p a cs,upO (cs.length+a.sz) (iH cs+40*a.sz) o:= λa ha=>ih a ha (bO hn ha) (vQ h ha)
 have hz:=Ex.sz_eq e
 rw[yb]at ho
 rcases List.mem_append.1 ho with ho|ho
 ·split at ho
  ·obtain⟨c,hc,rfl⟩:=List.mem_map.1 ho
   exact⟨by show cs.length≤_;omega,by show iH cs≤_;omega⟩
  ·cases ho
 ·split at ho
  ·have hfa: ∀a∈e.args,iH (cj a).1≤40*a.sz∧(cj a).1.length≤a.sz:= λa ha=>⟨Yy a (vQ h ha),(tr a (bO hn ha)).1⟩
   have hfn: ∀a∈e.args,iH (cj (jJ a)).1≤40*(jJ a).sz∧(cj (jJ a)).1.length≤(jJ a).sz:= λa ha=>⟨Yy _ (WE (vQ h ha)),(tr _ (Ep (bO hn ha))).1⟩
   have hns: ∀a,(jJ a).sz=1+a.sz:= λa=>by rw[Ex.sz_eq];simp[jJ,Ex.args,Ex.szs]
   generalize e.args=l at*
   match l with
   | []=>cases ho
   | [a]=>cases ho
   | [a,b]=>cases ho
   |a::b::c::r=>
    have f1:=hfa a (by simp)
    have f2:=hfn a (by simp)
    rw[hns a]at f2
    simp only[Ex.szs]at hz
    simp only[V6,List.mem_append]at ho
    rcases ho with(ho|ho)|ho
    ·obtain⟨h1,h2⟩:=ih' a (by simp) cs o ho
     exact⟨by omega,by omega⟩
    ·obtain⟨h1,h2⟩:=ih' b (by simp) _ o ho
     rw[List.length_append]at h1
     rw[iK]at h2
     exact⟨by omega,by omega⟩
    ·obtain⟨h1,h2⟩:=ih' c (by simp) _ o ho
     rw[List.length_append]at h1
     rw[iK]at h2
     exact⟨by omega,by omega⟩
  ·obtain⟨h1,h2⟩:=Yb (λa ha=>ih' a ha cs) o ho
   exact⟨by omega,by omega⟩
theorem Kr {f x:bU} (h:f.2.length≤1000) (hx:x.2.length≤1000): ∀c∈m7 f x,c.1.2.length≤2000:=by
 intro c hc
 simp only[m7,List.mem_cons,List.not_mem_nil,or_false]at hc
 rcases hc with rfl|rfl
 ·show f.2.length≤_
  omega
 ·show(if _ then _ else _:bU).2.length≤_
  split
  ·have:=Dl f x
   omega
  ·simp
theorem Xe {p:bz} (hp: ∀s,∀l∈zl p s,l.2.length≤1000) (e:Ex):nL e→ ∀cs,∀o∈qq p e cs,o.1.1.2.length≤2000:=by
 have key: ∀l:List Ex,∀cs,(∀a∈l,∀o∈qq p a cs,o.1.1.2.length≤2000)→ ∀o∈yn p l cs,o.1.1.2.length≤2000:=by
  intro l cs
  induction l with
  |nil=>intro _ o ho;rw[yn]at ho;cases ho
  |cons a r ihr=>
   intro h o ho
   rw[yn]at ho
   rcases List.mem_append.1 ho with ho|ho
   ·exact h a List.mem_cons_self o ho
   ·exact ihr (λb hb=>h b (List.mem_cons_of_mem _ hb)) o ho
 refine Ex.ind (p:= λe=>nL e→ ∀cs,∀o∈qq p e cs,o.1.1.2.length≤2000) (λe ih h cs o ho=> ?_) e
 have ih': ∀a∈e.args,∀cs,∀o∈qq p a cs,o.1.1.2.length≤2000:= λa ha=>ih a ha (bO h ha)
 rw[yb]at ho
 rcases List.mem_append.1 ho with ho|ho
 ·split at ho
  ·obtain⟨c,hc,rfl⟩:=List.mem_map.1 ho
   obtain⟨q,hq,hc⟩:=List.mem_flatMap.1 hc
   have hf:=(h.2 e (nN e)).2
   have hxm:=(List.of_mem_zip hq).1
   unfold Mz at hc
   split at hc
   ·exact Kr (hf q.1.1 (List.mem_cons_of_mem _ (List.mem_flatMap.2 ⟨q.1,hxm,List.mem_cons_self⟩))).2 (hp _ _ (List.of_mem_zip hq).2) c hc
   ·obtain⟨r,hr,hc⟩:=List.mem_flatMap.1 hc
    exact Kr (hf r.1 (List.mem_cons_of_mem _ (List.mem_flatMap.2 ⟨q.1,hxm,List.mem_cons_of_mem _ (List.of_mem_zip hr).1⟩))).2 (hp _ _ (List.of_mem_zip hr).2) c hc
  ·cases ho
 ·split at ho
  ·generalize e.args=l at*
   match l with
   | []=>cases ho
   | [a]=>cases ho
   | [a,b]=>cases ho
   |a::b::c::r=>
    simp only[V6,List.mem_append]at ho
    rcases ho with(ho|ho)|ho
    ·exact ih' a (by simp) _ o ho
    ·exact ih' b (by simp) _ o ho
    ·exact ih' c (by simp) _ o ho
  ·exact key _ cs (λa ha=>ih' a ha cs) o ho
set_option maxRecDepth 1000000
def GN (p:bz) (env:List aD):Prop:=(p.defs.length≤8∧ ¬iT p)∧p.wher.length≤4∧env.length≤20∧(∀m∈env,m.2≤6)∧ ∀d∈p.defs,d.dims.length+d.red.length≤5
instance (p:bz) (env:List aD):Decidable (GN p env):=Classical.propDecidable _
theorem Gx (p:bz) (env:List aD):af Tryz.prog Bn [jE p,gG mP env] (Go.Abs.B (decide (GN p env))):=by
 refine af.of Ji (by simp) λhb=>aa ?_
 conv in B8=>cbv
 have ps:=CW p
 by_cases hs:p.defs.length≤8∧ ¬iT p
 ·rw[decide_eq_true hs]at ps
  by_cases hw:p.wher.length≤4
  ·by_cases hl:env.length≤20
   ·obtain⟨R,hR⟩: ∃R,R=decide (GN p env):=⟨_,rfl⟩
    rw[←hR]
    have hT:(∀m∈env,m.2≤6)→(∀d∈p.defs,d.dims.length+d.red.length≤5)→R=true:= λh1 h2=>by rw[hR,decide_eq_true (show GN p env from⟨hs,hw,hl,h1,h2⟩)]
    have hE: ∀k (h:k<env.length),¬env[k].2≤6→R=false:= λk h h1=>by rw[hR,decide_eq_false];exact λhf=>h1 (hf.2.2.2.1 _ (List.getElem_mem h))
    have hD: ∀k (h:k<p.defs.length),¬p.defs[k].dims.length+p.defs[k].red.length≤5→R=false:= λk h h1=>by rw[hR,decide_eq_false];exact λhf=>h1 (hf.2.2.2.2 _ (List.getElem_mem h))
    have hdl:=hs.1
    have HT:=Lib.hid hT
    have HE:=Lib.hid hE
    have HD:=Lib.hid hD
    have hb1: ∀d∈p.defs,d.dims.length≤300000∧d.red.length≤300000:= λd hd=>⟨by have:=((pD hs.2).2 d hd).1;omega,by have:=((pD hs.2).2 d hd).2.1;omega⟩
    clear hT hE hD hR hs hb
    repeat' first|simp(disch:=omega) only[go_sem, *]|((with_reducible apply ab)<;>intro h<;>try omega)|(with_reducible apply ah)|(with_reducible refine aj (λh=> ?_) ?_)|(refine aY ps rfl rfl ?_)
    refine ap (λk:Nat=>⟨[(1,gG mP env),(2,.c (.ptr 0 0)),(5,I k)], [(0,kx p)],1,0⟩) (λk=>k≤env.length∧fY (λj=> ∀h:j<env.length,env[j].2≤6) k) (λk=>env.length-k) ⟨0, [],⟨by omega,.zero⟩,by simp⟩ ?_
    clear ps
    rintro k ⟨hk,hall⟩
    refine aa ?_
    by_cases hlt:k<env.length
    ·by_cases h6:env[k].2≤6
     ·have HA:=Lib.hid (hall.succ λ_=>h6)
      clear hall
      repeat' first|simp(disch:=omega) only[go_sem, *,ai hlt,mP,wrap_i64]|((with_reducible apply ab)<;>intro h<;>try omega)
      exact⟨k+1, [],⟨by omega,HA.out⟩,by omega,by simp⟩
     ·have e:=HE.out k hlt h6
      subst e
      clear hall
      repeat' first|simp(disch:=omega) only[go_sem, *,ai hlt,mP]|((with_reducible apply ab)<;>intro h<;>try omega)
    ·have HA:=Lib.hid<|show ∀m∈env,m.2≤6 from λm (hm:m∈env)=>by
      obtain⟨j,hj,rfl⟩:=List.mem_iff_getElem.1 hm
      exact hall j (by omega) hj
     clear hall
     repeat' first|simp(disch:=omega) only[go_sem, *]|((with_reducible apply ab)<;>intro h<;>try omega)
     refine ap (λk:Nat=>⟨[(2,.c (.ptr 0 0)),(6,I k)], [(0,kx p)],1,0⟩) (λk=>k≤p.defs.length∧fY (λj=> ∀h:j<p.defs.length,p.defs[j].dims.length+p.defs[j].red.length≤5) k) (λk=>p.defs.length-k) ⟨0, [],⟨by omega,.zero⟩,by simp⟩ ?_
     rintro i ⟨hi,hall⟩
     refine aa ?_
     by_cases hlt:i<p.defs.length
     ·have hbi:=hb1 _ (List.getElem_mem hlt)
      by_cases h6:p.defs[i].dims.length+p.defs[i].red.length≤5
      ·have HB:=Lib.hid (hall.succ λ_=>h6)
       clear hall
       repeat' first|simp(disch:=omega) only[go_sem, *,ai hlt,eh,wrap_i64]|((with_reducible apply ab)<;>intro h<;>try omega)
       exact⟨i+1, [],⟨by omega,HB.out⟩,by omega,by simp⟩
      ·have e:=HD.out i hlt h6
       subst e
       clear hall
       repeat' first|simp(disch:=omega) only[go_sem, *,ai hlt,eh,wrap_i64]|((with_reducible apply ab)<;>intro h<;>try omega)
     ·have e:=HT.out HA.out λm (hm:m∈p.defs)=>by
       obtain⟨j,hj,rfl⟩:=List.mem_iff_getElem.1 hm
       exact hall j (by omega) hj
      subst e
      clear hall
      repeat' first|simp(disch:=omega) only[go_sem, *]|((with_reducible apply ab)<;>intro h<;>try omega)
   ·rw[decide_eq_false (show ¬GN p env from λh=>hl h.2.2.1)]
    clear hs hb
    repeat' first|simp(disch:=omega) only[go_sem, *]|((with_reducible apply ab)<;>intro h<;>try omega)|(with_reducible apply ah)|(with_reducible refine aj (λh=> ?_) ?_)|(refine aY ps rfl rfl ?_)
  ·rw[decide_eq_false (show ¬GN p env from λh=>hw h.2.1)]
   clear hs hb
   repeat' first|simp(disch:=omega) only[go_sem, *]|((with_reducible apply ab)<;>intro h<;>try omega)|(with_reducible apply ah)|(with_reducible refine aj (λh=> ?_) ?_)|(refine aY ps rfl rfl ?_)
 ·rw[decide_eq_false (show ¬GN p env from λh=>hs h.1)]
  rw[decide_eq_false hs]at ps
  clear hs hb
  repeat' first|simp(disch:=omega) only[go_sem, *]|((with_reducible apply ab)<;>intro h<;>try omega)|(with_reducible apply ah)|(with_reducible refine aj (λh=> ?_) ?_)|(refine aY ps rfl rfl ?_)
end
end Go.Proofs.YthbcbaembicdbaaGreatDoor
set_option maxRecDepth 20000
set_option maxRecDepth 1000000
namespace Go.Abs
open Go.RowKit
noncomputable section
theorem aq.lift2 {P:Program} {f:FuncId} {args pargs:List AV} {mem:List (Nat×aU)} {nx e sz:Nat} {rows:List (List PC)} (h:aq P f pargs [] 0 (.c (.ref 0)) [(0,.arr e sz rows)] 1) (hp:aV mem args=some pargs) (hn:args.all fh=true):
  aq P f args mem nx (.c (.ref nx)) ((nx,.arr e sz rows)::mem) (nx+1):=by
 refine⟨h.1,λw0 U ι w vs hs hr=> ?_⟩
 have hB:=hs.below.size
 obtain⟨g1,g2⟩:=yl hs hr hp hn
 refine(h.2 w _ _ w vs g1 g2).mono ?_
 rintro en w' ⟨v,ι',rfl,h1,h2⟩
 obtain⟨cells,k0,k1,k2,k3⟩:=h1.box 0 (.arr e sz rows) rfl
 have hU: ∀ι'':Pl,(∀nm,nm<nx→ι'' nm=ι nm)→ι'' nx=ι' 0→ ∀b,aC w.heap.size (Gh.of (aC w0.heap.size U ι mem)) ι' [(0,.arr e sz rows)] b→aC w0.heap.size U ι'' ((nx,.arr e sz rows)::mem) b:=by
  intro ι'' e1 e2 b hf
  have hnot:=hf.2 0 _ rfl
  obtain⟨hf1,_⟩:=hf
  rcases hf1 with hf1|hf1
  ·refine⟨hf1.1,λnm bx hfm=> ?_⟩
   rw[bF]at hfm
   by_cases hh:nx=nm
   ·subst hh
    rw[e2]
    exact hnot
   ·rw[if_neg hh]at hfm
    rw[e1 _ (hs.names _ _ hfm)]
    exact hf1.2 _ _ hfm
  ·refine⟨.inr (Nat.le_trans hB hf1),λnm bx hfm hc=> ?_⟩
   rw[bF]at hfm
   by_cases hh:nx=nm
   ·subst hh
    rw[e2]at hc
    exact hnot hc
   ·rw[if_neg hh]at hfm
    rw[e1 _ (hs.names _ _ hfm)]at hc
    have:=((hs.box _ _ hfm).block hc).2
    have h9:w.heap.size≤b:=hf1
    exact absurd this (by show ¬b<_;omega)
 obtain⟨ι'',j1,j2,j3,j4⟩:=hs.newBox (pv:=ι' 0) (bx:= .arr e sz rows) h1.below (λb hb=>by
  rcases k1.2 with⟨e,_⟩|⟨g,cap,cur,e,hg,_⟩
  ·rw[e]at hb;cases hb
  ·rw[e]at hb
   simp[bt]at hb
   omega) (λι'' e1 e2 hfree=>⟨cells,k0,by rw[e2];exact rY k1 hB,k2,k3.mono (λb _ hf=>hU ι'' e1 e2 b hf) (λb _ _=>rfl)⟩)
 have hv:v=ι' 0:=by
  cases h2 with
  |c x0=>cases x0 with
   |ref _ _=>rfl
 refine⟨_,ι'',rfl,j1, ?_⟩
 rw[hv,←j2]
 refine .c (.ref (Nat.lt_succ_self _) ?_)
 rw[j2]
 rcases k1.2 with⟨e,_⟩|⟨g,cap,cur,e,_⟩
 ·exact⟨_,_,_,e⟩
 ·exact⟨_,_,_,e⟩
end
end Go.Abs
namespace Go.Proofs.YthbcbaembicdbaaGreatDoor
open Go.Abs Go.RowKit
noncomputable section
def TB (p:bz) (d:Nat):List aR:=match p.defs[d]? with
 |some d=>Gi p d
 |none=> []
theorem tO {p:bz} {d:Nat} (h:d<p.defs.length):TB p d=Gi p p.defs[d]:=by
 unfold TB
 rw[List.getElem?_eq_getElem h]
def iq (p:bz) (x:yA):List aR:=TB p x.1++x.2.2.2
abbrev Z6 (d k:Int) (o:Ob):AV:= .agg [.pure (pI d),.pure (pI k),.pure (pI o.1.1.1),.pure (aw o.1.1.2),.pure (pB o.1.2),.pure (dg cP o.2)]
abbrev bOb (d k:Int) (o:Ob):aU:= .var [.pure (pI d),.pure (pI k),.pure (pI o.1.1.1),.pure (aw o.1.1.2),.pure (pB o.1.2),.pure (dg cP o.2)]
abbrev rw6 (x:yA):List PC:= [pI x.1,pI x.2.1,pI x.2.2.1.1.1,aw x.2.2.1.1.2,pB x.2.2.1.2,dg cP x.2.2.2]
abbrev MB:=yA×List Int
abbrev ZS (y:MB):List PC:= [pI y.1.1,pI y.1.2.1,pI y.1.2.2.1.1.1,aw y.1.2.2.1.1.2,pB y.1.2.2.1.2,mz y.2]
abbrev X7 (l:List MB):AV:=gG ZS l
def Az (p:bz) (fuel:Int):List yA→Nat→List MB→List MB×Int×Int
 | [],_,acc=>(acc,0,0)
 |x::r,i,acc=>if(iZ (iq p x) x.2.2.1 fuel).2.2≠0 then([],i,(iZ (iq p x) x.2.2.1 fuel).2.2)else if(iZ (iq p x) x.2.2.1 fuel).2.1=false then([],i,17)else Az p fuel r (i+1) (acc++ [(x,(iZ (iq p x) x.2.2.1 fuel).1)])
def Fs (p:bz) (fuel:Int):List MB×Int×Int:=if(bB p).2≠0 then([],bB p)else Az p fuel (lG p) 0 []
theorem WB {p:bz} {fuel:Int} {l:List yA} {i:Nat} {acc:List MB} {q:List Int×Bool×Int} (h:i<l.length) (hr:iZ (iq p l[i]) l[i].2.2.1 fuel=q):Az p fuel (l.drop i) i acc=if q.2.2≠0 then([],(i:Int),q.2.2)else if q.2.1=false then([],(i:Int),17)else Az p fuel (l.drop (i+1)) (i+1) (acc++ [(l[i],q.1)]):=by
 rw[List.drop_eq_getElem_cons h,Az,hr]
theorem Tb {p:bz} {fuel:Int} {l:List yA} {i:Nat} {acc:List MB} (h:l.length≤i):Az p fuel (l.drop i) i acc=(acc,0,0):=by
 rw[List.drop_of_length_le h,Az]
def GO (p:bz) (x:yA):Prop:= ∃h:x.1<p.defs.length,SR p p.defs[x.1]∧Jh x.2.2∧(∀c∈iq p x,bk c)∧(iq p x).length≤10000∧iH (iq p x)+x.2.2.1.1.2.length≤1000000
theorem ml {p:bz} {x:yA} (h:GO p x):af Tryz.prog f8 [jE p,Z6 x.1 x.2.1 x.2.2] (bR (iq p x)):=by
 obtain⟨hk,ha,_,_,hl,_⟩:=h
 refine af.of yr (by simp) λhb=>aa ?_
 have pa:=vw hk ha
 have hok:bC 3 (x.2.2.2.map cP):=aQ λx=>rfl
 have HM:=Lib.hid (List.map_append (f:=cP) (l₁:=Gi p p.defs[x.1]) (l₂:=x.2.2.2)).symm
 unfold iq at*
 rw[tO hk]at*
 rw[List.length_append]at hl
 conv in oO=>cbv
 clear hb ha
 repeat' first|simp(disch:=omega) only[go_sem, *]|((with_reducible apply ab)<;>intro h<;>try omega)|(with_reducible apply ah)|(with_reducible refine aj (λh=> ?_) ?_)|(refine an (pa.lift2 rfl rfl) ?_)|(refine bf rfl (by intro h;cases h) hok (by simp;omega) (by simp;omega) ?_)
 all_goals rw[HM.out]
theorem Ab {p:bz} {fuel:Int} (hf:rI p) (h64:tP p) (hcp:(bB p).2=0→Zl p) (hal:(bB p).2=0→Qm p) (hpr:(bB p).2=0→ ∀x∈lG p,GO p x) (hfu:ar fuel):
  af Tryz.prog uv [jE p,I fuel] (.tup [X7 (Fs p fuel).1,I (Fs p fuel).2.1,I (Fs p fuel).2.2]):=by
 refine af.of C2 (by simp) λhb=>aa ?_
 conv in tx=>cbv
 clear hb
 have pv:=eJ hf h64
 unfold Fs
 by_cases h0:(bB p).2=0
 ·have pc:=qn (hcp h0)
  have pa:=nO hf (hal h0)
  have hlen:=FC (hal h0)
  have hp:=hpr h0
  have pm: ∀x∈lG p,af Tryz.prog f8 [jE p,Z6 x.1 x.2.1 x.2.2] (bR (iq p x)):= λx hx=>ml (hp x hx)
  have pi: ∀x∈lG p,af Tryz.prog ky [bR (iq p x),iG x.2.2.1,I fuel] (Zz (iZ (iq p x) x.2.2.1 fuel)):= λx hx=>by
   obtain⟨_,_,q1,q2,q3,q4⟩:=hp x hx
   exact yw q2 q1.1 q3 q4 hfu
  rw[if_neg (not_not_intro h0)]
  rw[h0]at pv
  clear h0 hcp hal hpr hp h64
  generalize lG p=L at*
  obtain⟨R,hR⟩: ∃R,R=Az p fuel L 0 []:=⟨_,rfl⟩
  rw[←hR]
  have HR:Hid (Az p fuel (L.drop 0) 0 []=R):=Lib.hid hR.symm
  clear hR
  repeat' first|simp(disch:=omega) only[go_sem, *]|((with_reducible apply ab)<;>intro h<;>try omega)|(with_reducible apply ah)|(with_reducible refine aj (λh=> ?_) ?_)|(refine aY pv rfl rfl ?_)|(refine el pc rfl rfl ?_)|(refine el pa rfl rfl ?_)
  refine fj 9 53 6 rfl (by decide) ?_
  refine ap (λx:Nat×List MB=>⟨[(1,I fuel),(2,.c (.ptr 0 0)),(9,.c (.ref 1)),(27,gG a6 L),(28,I L.length),(29,I x.1)], [(1,.arr 53 6 (x.2.map ZS)),(0,kx p)],2,0⟩) (λx=>x.1≤L.length∧x.2.length=x.1∧Hid (Az p fuel (L.drop x.1) x.1 x.2=R)) (λx=>L.length-x.1) ⟨(0, []), [],⟨by omega,rfl,HR⟩,by simp⟩ ?_
  clear pv pc pa HR
  rintro⟨i,acc⟩ ⟨hi,hal,hr⟩
  refine aa ?_
  simp only at hi hal
  have hd:=hr.out
  simp only at hd
  clear hr
  by_cases hlt:i<L.length
  ·have p1:=pm _ (List.getElem_mem hlt)
   have p2:=pi _ (List.getElem_mem hlt)
   have g1:(L.map a6)[i]? =some (rw6 L[i]):=ai (f:=a6) hlt
   obtain⟨q,hq⟩: ∃q,q=iZ (iq p L[i]) L[i].2.2.1 fuel:=⟨_,rfl⟩
   rw[WB hlt hq.symm]at hd
   rw[←hq]at p2
   clear hq pm pi
   obtain⟨by',ok,e⟩:=q
   simp only at hd p2
   by_cases h0:e=0
   ·subst h0
    rw[if_neg (by simp)]at hd
    cases ok
    ·rw[if_pos rfl]at hd
     subst hd
     repeat' first|simp(disch:=omega) only[go_sem, *,g1]|((with_reducible apply ab)<;>intro h<;>try omega)|(with_reducible apply ah)|(with_reducible refine aj (λh=> ?_) ?_)|(refine el p1 rfl rfl ?_)|(refine el p2 rfl rfl ?_)
     all_goals rfl
    ·rw[if_neg (by simp)]at hd
     have HD:=Lib.hid hd
     have HT:=Lib.hid (show acc.map ZS++ [ZS (L[i],by')]=(acc++ [(L[i],by')]).map ZS by simp)
     clear hd
     repeat' first|simp(disch:=omega) only[go_sem, *,g1,wrap_i64]|((with_reducible apply ab)<;>intro h<;>try omega)|(with_reducible apply ah)|(with_reducible refine aj (λh=> ?_) ?_)|(refine el p1 rfl rfl ?_)|(refine el p2 rfl rfl ?_)|(refine bf rfl (by intro h;cases h) (aO rfl) (by simp;omega) (by simp;omega) ?_)
     rw[HT.out]
     exact⟨(i+1,acc++ [(L[i],by')]), [(1,3)],⟨by omega,by simp;omega,HD⟩,by show _-_<_-_;omega,by simp⟩
   ·rw[if_pos h0]at hd
    subst hd
    repeat' first|simp(disch:=omega) only[go_sem, *,g1,h0]|((with_reducible apply ab)<;>intro h<;>try omega)|(with_reducible apply ah)|(with_reducible refine aj (λh=> ?_) ?_)|(refine el p1 rfl rfl ?_)|(refine el p2 rfl rfl ?_)
    all_goals rfl
  ·rw[Tb (by omega)]at hd
   subst hd
   repeat' first|simp(disch:=omega) only[go_sem, *]|((with_reducible apply ab)<;>intro h<;>try omega)
   all_goals rfl
 ·rw[if_pos h0]
  clear hcp hal hpr
  repeat' first|simp(disch:=omega) only[go_sem, *,h0]|((with_reducible apply ab)<;>intro h<;>try omega)|(refine aY pv rfl rfl ?_)
  all_goals rfl
theorem QK {p:bz} (hl: ¬iT p) (h:(bB p).2=0) {k:Nat} (hk:k<p.defs.length):R5 p.defs[k].body:=by
 obtain⟨⟨c1,c2,c3,c4,c5⟩,hs,hp,hd⟩:=gC h
 have hf:=pD hl
 obtain⟨f1,f2,f3,f4⟩:=hf.2 _ (List.getElem_mem hk)
 obtain⟨_,ht⟩:=v8 hk (hd k hk)
 obtain⟨t1,t2⟩:=An ht
 have hr:=vU t1
 have hz: ∀a∈p.defs[k].body.pre,co a=0:=by
  intro a ha
  unfold jC at t1
  split at t1
  ·cases t1
  ·split at t1
   ·cases t1
   ·exact gN t1 _ (List.mem_map.2 ⟨a,ha,rfl⟩)
 have hkn:=uQ _ hr (λa ha=>(iO (hz a ha)).1) t2
 intro a ha l hlm
 have hsr:=(cp.1 ((iO (hz a ha)).2.2.2.2.2 l hlm)).1
 have:=JL hsr (L:=bX p.defs[k]++p.sizes) λm hm=>by
  rcases hkn a ha l hlm m hm with h|h
  ·exact List.mem_append_left _ h
  ·exact List.mem_append_right _ h
 have hln:(bX p.defs[k]).length≤24:=by unfold bX;simp;omega
 have hsz:p.sizes.length≤12:=Nat.le_of_not_lt λh=>hl (.inl (.inl h))
 simp only[List.length_append]at this
 omega
theorem OQ {n:Nat}: ∀{t:List aR},(∀c∈t,c.1.2.length≤n)→iH t≤n*t.length
 | [],_=>Nat.zero_le _
 |c::r,h=>by
  have h1:=h c List.mem_cons_self
  have h2:=OQ λd hd=>h d (List.mem_cons_of_mem _ hd)
  rw[iH,List.length_cons,Nat.mul_succ]
  omega
theorem NR {p:bz} (hl: ¬iT p) (hL:Jt p) (h:(bB p).2=0) {k:Nat} (hk:k<p.defs.length):(∀c∈Gi p p.defs[k],bk c∧c.1.2.length≤30)∧(Gi p p.defs[k]).length≤100:=by
 have hf:=(pD hl).2 _ (List.getElem_mem hk)
 have hsz:p.sizes.length≤12:=Nat.le_of_not_lt λh=>hl (.inl (.inl h))
 have hwl:p.wher.length≤12:=Nat.le_of_not_lt λh=>hl (.inl (.inr (.inl h)))
 have hax:=(hL.2.2 _ (List.getElem_mem hk)).1
 have hdr:(p.defs[k].dims++p.defs[k].red).length≤24:=by
  have:=hf.1
  have:=hf.2.1
  simp only[List.length_append]
  omega
 have hal: ∀a∈p.defs[k].dims++p.defs[k].red,a.2.2.length≤20:= λa ha=>(List.mem_append.1 ha).elim (hf.2.2.1 a) (hf.2.2.2 a)
 refine⟨λc hc=> ?_, ?_⟩
 ·unfold Gi at hc
  rcases List.mem_append.1 hc with hc|hc
  ·rcases List.mem_append.1 hc with hc|hc
   ·have h20: ¬20<c.1.2.length:= λhh=>hl (.inr (.inl ⟨c,hc,hh⟩))
    exact⟨hL.1 c hc,by omega⟩
   ·obtain⟨s,_,rfl⟩:=List.mem_map.1 hc
    exact⟨⟨by show ar (-1);decide,λm hm=>by rw[List.mem_singleton.1 hm];show ar 1;decide⟩,by show 1≤30;omega⟩
  ·obtain⟨a,ha,hc⟩:=List.mem_flatMap.1 hc
   have hv:bk (fV a.1,false)∧(fV a.1).2.length≤30:=⟨⟨by show ar 0;decide,λm hm=>by rw[List.mem_singleton.1 hm];show ar 1;decide⟩,by show 1≤30;omega⟩
   unfold PG at hc
   split at hc
   ·rcases List.mem_cons.1 hc with rfl|hc
    ·exact hv
    ·rw[List.mem_singleton.1 hc]
     have:=Dl (fV a.1) a.2
     have:=hal a ha
     have e1:(fV a.1).2.length=1:=rfl
     exact⟨JV _ _,by show(fR (fV a.1) a.2).1.2.length≤30;omega⟩
   ·rw[List.mem_singleton.1 hc]
    exact hv
 ·have:=Tv (l:=p.defs[k].dims++p.defs[k].red)
  unfold Gi
  simp only[List.length_append,List.length_map]at*
  omega
theorem Kp {p:bz} {x:yA} (h:x∈lG p): ∃hd:x.1<p.defs.length,x.2.2∈qq p p.defs[x.1].body []:=by
 obtain⟨⟨d,k⟩,h1,h2⟩:=List.mem_flatMap.1 h
 obtain⟨⟨o,j⟩,h3,rfl⟩:=List.mem_map.1 h2
 obtain⟨hk,h4⟩:=List.getElem?_eq_some_iff.1 (List.mem_zipIdx_iff_getElem?.1 h1)
 refine⟨hk, ?_⟩
 have:=List.mem_of_getElem? (List.mem_zipIdx_iff_getElem?.1 h3)
 simp only at this h4 ⊢
 rw[h4]
 exact this
theorem Sc {p:bz} (hl: ¬iT p) (h64:tP p) (hL:Jt p) (h:(bB p).2=0) {x:yA} (hx:x∈lG p):GO p x:=by
 obtain⟨hd,ho⟩:=Kp hx
 obtain⟨g1,g2⟩:=KR hl h64 hL h hd
 have o64:=Yn p _ g1.1 [] (λc hc=>by cases hc) _ ho
 obtain⟨w1,w2⟩:=abU p _ g1.1 (QK hl h hd) [] _ ho
 obtain⟨a1,a2⟩:=NR hl hL h hd
 have a3:=OQ λc hc=>(a1 c hc).2
 have hgl:=Xe (p:=p) (λs l hm=>by
  unfold zl at hm
  split at hm
  ·rename_i y hy
   exact(xK (pD hl) hL (t:=y.1) (ds:=y.2) hy l hm).2
  ·cases hm) _ g1.1 [] _ ho
 simp only[List.length_nil,iH]at w1 w2
 refine⟨hd,Rh hl hL h _ hd,o64,λc hc=> ?_, ?_, ?_⟩
 ·unfold iq at hc
  rw[tO hd]at hc
  exact(List.mem_append.1 hc).elim (λhc=>(a1 c hc).1) (λhc=>o64.2 c hc)
 ·unfold iq
  rw[tO hd,List.length_append]
  omega
 ·unfold iq
  rw[tO hd,iK]
  omega
end
end Go.Proofs.YthbcbaembicdbaaGreatDoor
