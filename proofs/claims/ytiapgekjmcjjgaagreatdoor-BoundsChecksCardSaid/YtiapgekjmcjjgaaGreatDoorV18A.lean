import Derived.Test.YtiapgekjmcjjgaaGreatDoorV18v
set_option maxHeartbeats 4000000
set_option linter.unusedVariables false
set_option linter.unusedSimpArgs false
open Go.Proofs.Tryz renaming prog→Ya
namespace Go.Proofs.YtiapgekjmcjjgaaGreatDoor
noncomputable section
def Mm (o:Ob):Prop:=br o.1∧ ∀c∈o.2,br c
theorem Le {f x:bW} (h:bl f): ∀c∈d7 f x,br c:=by
 intro c hc
 simp only[d7,List.mem_cons,List.not_mem_nil,or_false]at hc
 rcases hc with rfl|rfl
 ·exact h
 ·show bl (if _ then _ else _)
  split
  ·exact Fi _ _
  ·exact⟨by decide,λm hm=>by cases hm⟩
theorem Rz {p:bG} {idx:List Ix} {s:ByteArray} (h: ∀x∈idx,bl x.1∧ ∀l∈x.2.2,bl l): ∀c∈vd p idx s,br c:=by
 intro c hc
 obtain⟨q,hq,hc⟩:=List.mem_flatMap.1 hc
 have hx:=h _ (List.of_mem_zip hq).1
 unfold u0 at hc
 split at hc
 ·exact Le hx.1 c hc
 ·obtain⟨r,hr,hc⟩:=List.mem_flatMap.1 hc
  exact Le (hx.2 _ (List.of_mem_zip hr).1) c hc
theorem K6 {a b:List aU} (ha: ∀c∈a,br c) (hb: ∀c∈b,br c): ∀c∈a++b,br c:= λc hc=>(List.mem_append.1 hc).elim (ha c) (hb c)
theorem Pp {p:bG} {cs:List aU}: ∀{l:List Ex},(∀a∈l,∀o∈jo p a cs,Mm o)→ ∀o∈m8 p l cs,Mm o
 | [],_,o,ho=>by rw[m8]at ho;cases ho
 |a::r,h,o,ho=>by
  rw[m8]at ho
  rcases List.mem_append.1 ho with ho|ho
  ·exact h a List.mem_cons_self o ho
  ·exact Pp (λb hb=>h b (List.mem_cons_of_mem _ hb)) o ho
theorem UJ (p:bG) (e:Ex):iZ e→ ∀cs,(∀c∈cs,br c)→ ∀o∈jo p e cs,Mm o:=by
 refine Ex.ind (p:= λe=>iZ e→ ∀cs,(∀c∈cs,br c)→ ∀o∈jo p e cs,Mm o) (λe ih h cs G o ho=> ?_) e
 have A: ∀a∈e.args,∀cs,(∀c∈cs,br c)→ ∀o∈jo p a cs,Mm o:= λa ha=>ih a ha (aV h ha)
 rw[lU]at ho
 rcases List.mem_append.1 ho with ho|ho
 ·split at ho
  ·obtain⟨c,hc,rfl⟩:=List.mem_map.1 ho
   refine⟨Rz (λx hx=> ?_) c hc,G⟩
   have hf:=(h.2 e (jh e)).2
   exact⟨(hf x.1 (List.mem_cons_of_mem _ (List.mem_flatMap.2 ⟨x,hx,List.mem_cons_self⟩))).1,λl hl=>(hf l (List.mem_cons_of_mem _ (List.mem_flatMap.2 ⟨x,hx,List.mem_cons_of_mem _ hl⟩))).1⟩
  ·cases ho
 ·split at ho
  ·have K: ∀a∈e.args,∀c∈(bE a).1,br c:= λa ha c hc=>((kf a (aV h ha)).2 c hc).1
   have M: ∀a∈e.args,∀c∈(bE (fc a)).1,br c:= λa ha c hc=>((kf _ (vA (aV h ha))).2 c hc).1
   generalize e.args=l at*
   match l with
   | []=>cases ho
   | [a]=>cases ho
   | [a,b]=>cases ho
   |a::b::c::r=>
    simp only[Qm,List.mem_append]at ho
    rcases ho with(ho|ho)|ho
    ·exact A a (by simp) cs G o ho
    ·exact A b (by simp) _ (K6 G (K a (by simp))) o ho
    ·exact A c (by simp) _ (K6 G (M a (by simp))) o ho
  ·exact Pp (λa ha=>A a ha cs G) o ho
open Go.Abs Go.RowKit
def Nn (e:Ex):Prop:= ∀a∈e.pre,∀l∈a.forms,l.2.length≤40
theorem rR {e a:Ex} (h:Nn e) (ha:a∈e.args):Nn a:= λb hb=>h b (Jg ha hb)
theorem Ra {e:Ex} (h:Nn e):e.lin.2.length≤40:=h e (jh e) _ List.mem_cons_self
theorem Qt {a:Ex} (h:Nn a):Nn (fc a):= λb hb l hl=>by
 rw[Ex.pre_eq]at hb
 rcases List.mem_cons.1 hb with rfl|hb
 ·simp only[fc,Ex.forms,Ex.lin,Ex.idx,List.flatMap_nil,List.mem_singleton]at hl
  subst hl
  simp
 ·exact h b (by simpa[fc,Ex.args,Ex.pres]using hb) l hl
theorem I6 {α:Type} {f:Ex→α} {d:α} {g:α→Nat} (hd:g d=0): ∀{l:List Ex},(∀a∈l,g (f a)≤40*a.sz)→g ((l.map f).getD 0 d)+g ((l.map f).getD 1 d)≤40*Ex.szs l
 | [],_=>by simp[hd]
 |[a],h=>by
  have:=h a List.mem_cons_self
  simp[hd,Ex.szs]
  omega
 |a::b::r,h=>by
  have:=h a List.mem_cons_self
  have:=h b (List.mem_cons_of_mem _ List.mem_cons_self)
  simp[Ex.szs]
  omega
theorem Uc (e:Ex):Nn e→(du e).1.2.length≤40*e.sz:=by
 refine Ex.ind (p:= λe=>Nn e→(du e).1.2.length≤40*e.sz) (λe ih h=> ?_) e
 have h2:=I6 (f:=du) (d:=jn) (g:= λx=>x.1.2.length) rfl λa ha=>ih a ha (rR h ha)
 have hz:=Ex.sz_eq e
 have hl:=Ra h
 rw[yX]
 unfold t8
 generalize (e.args.map du).getD 0 jn=a at*
 generalize (e.args.map du).getD 1 jn=b at*
 repeat' split
 all_goals first
  |(show([]:List aR).length≤_;simp;done)
  |(show e.lin.2.length≤_;omega)
  |(have:=gC a.1 (-1);show(bM a.1 (-1)).1.2.length≤_;omega)
  |(have:=rB b.1 a.1;show(i0 b.1 a.1).1.2.length≤_;omega)
  |(have:=lu a.1 b.1;show(fj a.1 b.1).1.2.length≤_;omega)
theorem Ah (c:aU):gE [c]=c.1.2.length:=by simp[gE]
theorem Sh (e:Ex):Nn e→gE (bE e).1≤40*e.sz:=by
 refine Ex.ind (p:= λe=>Nn e→gE (bE e).1≤40*e.sz) (λe ih h=> ?_) e
 have h2:=I6 (f:=du) (d:=jn) (g:= λx=>x.1.2.length) rfl λa ha=>Uc a (rR h ha)
 have h3:=I6 (f:=bE) (d:=([],false)) (g:= λx=>gE x.1) rfl λa ha=>ih a ha (rR h ha)
 have hz:=Ex.sz_eq e
 rw[rS]
 unfold Ij
 generalize (e.args.map du).getD 0 jn=a at*
 generalize (e.args.map du).getD 1 jn=b at*
 generalize (e.args.map bE).getD 0 ([],false)=c at*
 generalize (e.args.map bE).getD 1 ([],false)=d at*
 split
 ·split
  ·have:=(Lg e.op a.1 b.1).2
   unfold Tg
   split
   ·rw[Ah]
    show(oP e.op a.1 b.1).1.2.length≤_
    omega
   ·simp[gE]
  ·simp[gE]
 split
 ·show gE (c.1++d.1)≤_
  rw[iu]
  omega
 split
 ·unfold uX
  split
  ·rename_i x
   rw[Ah]at h3
   split
   ·rename_i hh
    obtain⟨y,hy⟩:=List.length_eq_one_iff.1 hh.2
    show gE (eT x).1≤_
    rw[hy,Ah,IK (c:=x) (d:=y) (by rw[hy];exact List.mem_singleton.2 rfl)]
    omega
   ·simp[gE]
  ·simp[gE]
 ·simp[gE]
def UZ (n m:Nat) (o:Ob):Prop:=o.2.length≤n∧gE o.2≤m
theorem R5 {p:bG} {cs:List aU}: ∀{l:List Ex},(∀a∈l,∀o∈jo p a cs,UZ (cs.length+a.sz) (gE cs+40*a.sz) o)→ ∀o∈m8 p l cs,UZ (cs.length+Ex.szs l) (gE cs+40*Ex.szs l) o
 | [],_,o,ho=>by rw[m8]at ho;cases ho
 |a::r,h,o,ho=>by
  rw[m8]at ho
  rcases List.mem_append.1 ho with ho|ho
  ·obtain⟨h1,h2⟩:=h a List.mem_cons_self o ho
   exact⟨by simp only[Ex.szs];omega,by simp only[Ex.szs];omega⟩
  ·obtain⟨h1,h2⟩:=R5 (λb hb=>h b (List.mem_cons_of_mem _ hb)) o ho
   exact⟨by simp only[Ex.szs];omega,by simp only[Ex.szs];omega⟩
theorem Vq (p:bG) (e:Ex):iZ e→Nn e→ ∀cs,∀o∈jo p e cs,UZ (cs.length+e.sz) (gE cs+40*e.sz) o:=by
 refine Ex.ind (p:= λe=>iZ e→Nn e→ ∀cs,∀o∈jo p e cs,UZ (cs.length+e.sz) (gE cs+40*e.sz) o) (λe ih hn h cs o ho=> ?_) e
 have A: ∀a∈e.args,∀cs,∀o∈jo p a cs,UZ (cs.length+a.sz) (gE cs+40*a.sz) o:= λa ha=>ih a ha (aV hn ha) (rR h ha)
 have hz:=Ex.sz_eq e
 rw[lU]at ho
 rcases List.mem_append.1 ho with ho|ho
 ·split at ho
  ·obtain⟨c,hc,rfl⟩:=List.mem_map.1 ho
   exact⟨by show cs.length≤_;omega,by show gE cs≤_;omega⟩
  ·cases ho
 ·split at ho
  ·have K: ∀a∈e.args,gE (bE a).1≤40*a.sz∧(bE a).1.length≤a.sz:= λa ha=>⟨Sh a (rR h ha),(kf a (aV hn ha)).1⟩
   have M: ∀a∈e.args,gE (bE (fc a)).1≤40*(fc a).sz∧(bE (fc a)).1.length≤(fc a).sz:= λa ha=>⟨Sh _ (Qt (rR h ha)),(kf _ (vA (aV hn ha))).1⟩
   have W: ∀a,(fc a).sz=1+a.sz:= λa=>by rw[Ex.sz_eq];simp[fc,Ex.args,Ex.szs]
   generalize e.args=l at*
   match l with
   | []=>cases ho
   | [a]=>cases ho
   | [a,b]=>cases ho
   |a::b::c::r=>
    have f1:=K a (by simp)
    have f2:=M a (by simp)
    rw[W a]at f2
    simp only[Ex.szs]at hz
    simp only[Qm,List.mem_append]at ho
    rcases ho with(ho|ho)|ho
    ·obtain⟨h1,h2⟩:=A a (by simp) cs o ho
     exact⟨by omega,by omega⟩
    ·obtain⟨h1,h2⟩:=A b (by simp) _ o ho
     rw[List.length_append]at h1
     rw[iu]at h2
     exact⟨by omega,by omega⟩
    ·obtain⟨h1,h2⟩:=A c (by simp) _ o ho
     rw[List.length_append]at h1
     rw[iu]at h2
     exact⟨by omega,by omega⟩
  ·obtain⟨h1,h2⟩:=R5 (λa ha=>A a ha cs) o ho
   exact⟨by omega,by omega⟩
theorem Hk {f x:bW} (h:f.2.length≤1000) (hx:x.2.length≤1000): ∀c∈d7 f x,c.1.2.length≤2000:=by
 intro c hc
 simp only[d7,List.mem_cons,List.not_mem_nil,or_false]at hc
 rcases hc with rfl|rfl
 ·show f.2.length≤_
  omega
 ·show(if _ then _ else _:bW).2.length≤_
  split
  ·have:=AZ f x
   omega
  ·simp
theorem QY {p:bG} (hp: ∀s,∀l∈nE p s,l.2.length≤1000) (e:Ex):iZ e→ ∀cs,∀o∈jo p e cs,o.1.1.2.length≤2000:=by
 have key: ∀l:List Ex,∀cs,(∀a∈l,∀o∈jo p a cs,o.1.1.2.length≤2000)→ ∀o∈m8 p l cs,o.1.1.2.length≤2000:=by
  intro l cs
  induction l with
  |nil=>intro _ o ho;rw[m8]at ho;cases ho
  |cons a r X=>
   intro h o ho
   rw[m8]at ho
   rcases List.mem_append.1 ho with ho|ho
   ·exact h a List.mem_cons_self o ho
   ·exact X (λb hb=>h b (List.mem_cons_of_mem _ hb)) o ho
 refine Ex.ind (p:= λe=>iZ e→ ∀cs,∀o∈jo p e cs,o.1.1.2.length≤2000) (λe ih h cs o ho=> ?_) e
 have A: ∀a∈e.args,∀cs,∀o∈jo p a cs,o.1.1.2.length≤2000:= λa ha=>ih a ha (aV h ha)
 rw[lU]at ho
 rcases List.mem_append.1 ho with ho|ho
 ·split at ho
  ·obtain⟨c,hc,rfl⟩:=List.mem_map.1 ho
   obtain⟨q,hq,hc⟩:=List.mem_flatMap.1 hc
   have hf:=(h.2 e (jh e)).2
   have Q:=(List.of_mem_zip hq).1
   unfold u0 at hc
   split at hc
   ·exact Hk (hf q.1.1 (List.mem_cons_of_mem _ (List.mem_flatMap.2 ⟨q.1,Q,List.mem_cons_self⟩))).2 (hp _ _ (List.of_mem_zip hq).2) c hc
   ·obtain⟨r,hr,hc⟩:=List.mem_flatMap.1 hc
    exact Hk (hf r.1 (List.mem_cons_of_mem _ (List.mem_flatMap.2 ⟨q.1,Q,List.mem_cons_of_mem _ (List.of_mem_zip hr).1⟩))).2 (hp _ _ (List.of_mem_zip hr).2) c hc
  ·cases ho
 ·split at ho
  ·generalize e.args=l at*
   match l with
   | []=>cases ho
   | [a]=>cases ho
   | [a,b]=>cases ho
   |a::b::c::r=>
    simp only[Qm,List.mem_append]at ho
    rcases ho with(ho|ho)|ho
    ·exact A a (by simp) _ o ho
    ·exact A b (by simp) _ o ho
    ·exact A c (by simp) _ o ho
  ·exact key _ cs (λa ha=>A a ha cs) o ho
set_option maxRecDepth 1000000
def CE (p:bG) (env:List aR):Prop:=(p.defs.length≤8∧ ¬iM p)∧p.wher.length≤4∧env.length≤20∧(∀m∈env,m.2≤6)∧ ∀d∈p.defs,d.dims.length+d.red.length≤5
instance (p:bG) (env:List aR):Decidable (CE p env):=Classical.propDecidable _
theorem Ck (p:bG) (env:List aR):ac Ya 4 [gy p,i6 mP env] (Go.Abs.B (decide (CE p env))):=by
 refine ac.of FI (by simp) λhb=>aa ?_
 conv in bh _ _=>cbv
 have ps:=yb p
 by_cases hs:p.defs.length≤8∧ ¬iM p
 ·rw[decide_eq_true hs]at ps
  by_cases hw:p.wher.length≤4
  ·by_cases hl:env.length≤20
   ·obtain⟨R,hR⟩: ∃R,R=decide (CE p env):=⟨_,rfl⟩
    rw[←hR]
    have hT:(∀m∈env,m.2≤6)→(∀d∈p.defs,d.dims.length+d.red.length≤5)→R=true:= λh1 h2=>by rw[hR,decide_eq_true (show CE p env from⟨hs,hw,hl,h1,h2⟩)]
    have hE: ∀k (h:k<env.length),¬env[k].2≤6→R=false:= λk h h1=>by rw[hR,decide_eq_false];exact λhf=>h1 (hf.2.2.2.1 _ (List.getElem_mem h))
    have hD: ∀k (h:k<p.defs.length),¬p.defs[k].dims.length+p.defs[k].red.length≤5→R=false:= λk h h1=>by rw[hR,decide_eq_false];exact λhf=>h1 (hf.2.2.2.2 _ (List.getElem_mem h))
    have hK:=hs.1
    have HT:=Lib.hid hT
    have HE:=Lib.hid hE
    have HD:=Lib.hid hD
    have Y: ∀d∈p.defs,d.dims.length≤300000∧d.red.length≤300000:= λd hd=>⟨by have:=((mQ hs.2).2 d hd).1;omega,by have:=((mQ hs.2).2 d hd).2.1;omega⟩
    clear hT hE hD hR hs hb
    repeat' first|simp(disch:=omega)only[go_sem, *]|apply ab<;>intro h<;>try omega|apply af|(with_reducible refine ag (λh=> ?_) ?_)|refine aq ps rfl rfl ?_
    refine ai (λk:Nat=>⟨[(1,i6 mP env),(2,.c (.ptr 0 0)),(5,I k)], [(0,eJ p)],1,0⟩) (λk=>k≤env.length∧dZ (λj=> ∀h:j<env.length,env[j].2≤6) k) (λk=>env.length-k) ⟨0, [],⟨by omega,.zero⟩,by simp⟩ ?_
    clear ps
    rintro k ⟨hk,u⟩
    refine aa ?_
    by_cases C:k<env.length
    ·by_cases h6:env[k].2≤6
     ·have HA:=Lib.hid (u.succ λ_=>h6)
      clear u
      repeat' first|simp(disch:=omega)only[go_sem, *,ah C,mP,wrap_i64]|apply ab<;>intro h<;>try omega
      exact⟨k+1, [],⟨by omega,HA.out⟩,by omega,by simp⟩
     ·have e:=HE.out k C h6
      subst e
      clear u
      repeat' first|simp(disch:=omega)only[go_sem, *,ah C,mP]|apply ab<;>intro h<;>try omega
    ·have HA:=Lib.hid<|show ∀m∈env,m.2≤6 from λm (hm:m∈env)=>by
      obtain⟨j,hj,rfl⟩:=List.mem_iff_getElem.1 hm
      exact u j (by omega) hj
     clear u
     repeat' first|simp(disch:=omega)only[go_sem, *]|apply ab<;>intro h<;>try omega
     refine ai (λk:Nat=>⟨[(2,.c (.ptr 0 0)),(6,I k)], [(0,eJ p)],1,0⟩) (λk=>k≤p.defs.length∧dZ (λj=> ∀h:j<p.defs.length,p.defs[j].dims.length+p.defs[j].red.length≤5) k) (λk=>p.defs.length-k) ⟨0, [],⟨by omega,.zero⟩,by simp⟩ ?_
     rintro i ⟨hi,u⟩
     refine aa ?_
     by_cases C:i<p.defs.length
     ·have hM:=Y _ (List.getElem_mem C)
      by_cases h6:p.defs[i].dims.length+p.defs[i].red.length≤5
      ·have HB:=Lib.hid (u.succ λ_=>h6)
       clear u
       repeat' first|simp(disch:=omega)only[go_sem, *,ah C,di,wrap_i64]|apply ab<;>intro h<;>try omega
       exact⟨i+1, [],⟨by omega,HB.out⟩,by omega,by simp⟩
      ·have e:=HD.out i C h6
       subst e
       clear u
       repeat' first|simp(disch:=omega)only[go_sem, *,ah C,di,wrap_i64]|apply ab<;>intro h<;>try omega
     ·have e:=HT.out HA.out λm (hm:m∈p.defs)=>by
       obtain⟨j,hj,rfl⟩:=List.mem_iff_getElem.1 hm
       exact u j (by omega) hj
      subst e
      clear u
      repeat' first|simp(disch:=omega)only[go_sem, *]|apply ab<;>intro h<;>try omega
   ·rw[decide_eq_false (show ¬CE p env from λh=>hl h.2.2.1)]
    clear hs hb
    repeat' first|simp(disch:=omega)only[go_sem, *]|apply ab<;>intro h<;>try omega|apply af|(with_reducible refine ag (λh=> ?_) ?_)|refine aq ps rfl rfl ?_
  ·rw[decide_eq_false (show ¬CE p env from λh=>hw h.2.1)]
   clear hs hb
   repeat' first|simp(disch:=omega)only[go_sem, *]|apply ab<;>intro h<;>try omega|apply af|(with_reducible refine ag (λh=> ?_) ?_)|refine aq ps rfl rfl ?_
 ·rw[decide_eq_false (show ¬CE p env from λh=>hs h.1)]
  rw[decide_eq_false hs]at ps
  clear hs hb
  repeat' first|simp(disch:=omega)only[go_sem, *]|apply ab<;>intro h<;>try omega|apply af|(with_reducible refine ag (λh=> ?_) ?_)|refine aq ps rfl rfl ?_
end
end Go.Proofs.YtiapgekjmcjjgaaGreatDoor
set_option maxRecDepth 20000
set_option maxRecDepth 1000000
namespace Go.Abs
open Go.RowKit
noncomputable section
theorem aw.lift2 {P:Program} {f:FuncId} {args pargs:List AV} {mem:List (Nat×bk)} {nx e sz:Nat} {rows:List (List PC)} (h:aw P f pargs [] 0 (.c (.ref 0)) [(0,.arr e sz rows)] 1) (hp:bN mem args=some pargs) (hn:args.all gA=true):
  aw P f args mem nx (.c (.ref nx)) ((nx,.arr e sz rows)::mem) (nx+1):=by
 refine⟨h.1,λw0 U ι w vs hs hr=> ?_⟩
 have hB:=hs.below.size
 obtain⟨g1,g2⟩:=tJ hs hr hp hn
 refine(h.2 w _ _ w vs g1 g2).mono ?_
 rintro en w' ⟨v,ι',rfl,h1,h2⟩
 obtain⟨cells,k0,k1,k2,k3⟩:=h1.box 0 (.arr e sz rows) rfl
 have hU: ∀ι'':Pl,(∀nm,nm<nx→ι'' nm=ι nm)→ι'' nx=ι' 0→ ∀b,aE w.heap.size (Gh.of (aE w0.heap.size U ι mem)) ι' [(0,.arr e sz rows)] b→aE w0.heap.size U ι'' ((nx,.arr e sz rows)::mem) b:=by
  intro ι'' e1 e2 b hf
  have J:=hf.2 0 _ rfl
  obtain⟨F,_⟩:=hf
  rcases F with F|F
  ·refine⟨F.1,λnm bx E=> ?_⟩
   rw[bT]at E
   by_cases hh:nx=nm
   ·subst hh
    rw[e2]
    exact J
   ·rw[if_neg hh]at E
    rw[e1 _ (hs.names _ _ E)]
    exact F.2 _ _ E
  ·refine⟨.inr (Nat.le_trans hB F),λnm bx E hc=> ?_⟩
   rw[bT]at E
   by_cases hh:nx=nm
   ·subst hh
    rw[e2]at hc
    exact J hc
   ·rw[if_neg hh]at E
    rw[e1 _ (hs.names _ _ E)]at hc
    have:=((hs.box _ _ E).block hc).2
    have h9:w.heap.size≤b:=F
    exact absurd this (by show ¬b<_;omega)
 obtain⟨ι'',j1,j2,j3,j4⟩:=hs.newBox (pv:=ι' 0) (bx:= .arr e sz rows) h1.below (λb hb=>by
  rcases k1.2 with⟨e,_⟩|⟨g,cap,cur,e,hg,_⟩
  ·rw[e]at hb;cases hb
  ·rw[e]at hb
   simp[bI]at hb
   omega) (λι'' e1 e2 Z=>⟨cells,k0,by rw[e2];exact ol k1 hB,k2,k3.mono (λb _ hf=>hU ι'' e1 e2 b hf) (λb _ _=>rfl)⟩)
 have hv:v=ι' 0:=by
  cases h2 with
  |c x0=>cases x0 with
   |ref _ _=>rfl
 refine⟨_,ι'',rfl,j1, ?_⟩
 rw[hv,←j2]
 refine .c (.ref (Nat.lt_succ_self _) ?_)
 rw[j2]
 rcases k1.2 with⟨e,_⟩|⟨g,cap,cur,e,_⟩
 ·exact⟨_,_,_,e⟩
 ·exact⟨_,_,_,e⟩
end
end Go.Abs
namespace Go.Proofs.YtiapgekjmcjjgaaGreatDoor
open Go.Abs Go.RowKit
noncomputable section
def Lv (p:bG) (d:Nat):List aU:=match p.defs[d]? with
 |some d=>uI p d
 |none=> []
theorem ry {p:bG} {d:Nat} (h:d<p.defs.length):Lv p d=uI p p.defs[d]:=by
 unfold Lv
 rw[List.getElem?_eq_getElem h]
def fF (p:bG) (x:ww):List aU:=Lv p x.1++x.2.2.2
abbrev UL (d k:Int) (o:Ob):AV:= .agg [.pure (pI d),.pure (pI k),.pure (pI o.1.1.1),.pure (ay o.1.1.2),.pure (pB o.1.2),.pure (dp cP o.2)]
abbrev VB (x:ww):List PC:= [pI x.1,pI x.2.1,pI x.2.2.1.1.1,ay x.2.2.1.1.2,pB x.2.2.1.2,dp cP x.2.2.2]
abbrev I5:=ww×List Int
abbrev TB (y:I5):List PC:= [pI y.1.1,pI y.1.2.1,pI y.1.2.2.1.1.1,ay y.1.2.2.1.1.2,pB y.1.2.2.1.2,qN y.2]
abbrev NF (l:List I5):AV:=i6 TB l
def pA (p:bG) (fuel:Int):List ww→Nat→List I5→List I5×Int×Int
 | [],_,acc=>(acc,0,0)
 |x::r,i,acc=>if(fS (fF p x) x.2.2.1 fuel).2.2≠0 then([],i,(fS (fF p x) x.2.2.1 fuel).2.2)else if(fS (fF p x) x.2.2.1 fuel).2.1=false then([],i,17)else pA p fuel r (i+1) (acc++ [(x,(fS (fF p x) x.2.2.1 fuel).1)])
def pQ (p:bG) (fuel:Int):List I5×Int×Int:=if(bn p).2≠0 then([],bn p)else pA p fuel (im p) 0 []
theorem Rq {p:bG} {fuel:Int} {l:List ww} {i:Nat} {acc:List I5} {q:List Int×Bool×Int} (h:i<l.length) (hr:fS (fF p l[i]) l[i].2.2.1 fuel=q):pA p fuel (l.drop i) i acc=if q.2.2≠0 then([],(i:Int),q.2.2)else if q.2.1=false then([],(i:Int),17)else pA p fuel (l.drop (i+1)) (i+1) (acc++ [(l[i],q.1)]):=by
 rw[List.drop_eq_getElem_cons h,pA,hr]
theorem O5 {p:bG} {fuel:Int} {l:List ww} {i:Nat} {acc:List I5} (h:l.length≤i):pA p fuel (l.drop i) i acc=(acc,0,0):=by
 rw[List.drop_of_length_le h,pA]
def BE (p:bG) (x:ww):Prop:= ∃h:x.1<p.defs.length,C7 p p.defs[x.1]∧Mm x.2.2∧(∀c∈fF p x,br c)∧(fF p x).length≤10000∧gE (fF p x)+x.2.2.1.1.2.length≤1000000
theorem kC {p:bG} {x:ww} (h:BE p x):ac Ya 16 [gy p,UL x.1 x.2.1 x.2.2] (bB (fF p x)):=by
 obtain⟨hk,ha,_,_,hl,_⟩:=h
 refine ac.of tn (by simp) λhb=>aa ?_
 have pa:=qW hk ha
 have hA:aK 3 (x.2.2.2.map cP):=ar λx=>rfl
 have HM:=Lib.hid (List.map_append (f:=cP) (l₁:=uI p p.defs[x.1]) (l₂:=x.2.2.2)).symm
 unfold fF at*
 rw[ry hk]at*
 rw[List.length_append]at hl
 conv in bh _ _=>cbv
 clear hb ha
 repeat' first|simp(disch:=omega)only[go_sem, *]|apply ab<;>intro h<;>try omega|apply af|(with_reducible refine ag (λh=> ?_) ?_)|refine ap (pa.lift2 rfl rfl) ?_|refine aA rfl (by intro h;cases h) hA (by simp;omega) (by simp;omega) ?_
 all_goals rw[HM.out]
theorem m5 {p:bG} {fuel:Int} (hf:iR p) (H:kI p) (N:(bn p).2=0→Sx p) (D:(bn p).2=0→Ci p) (O:(bn p).2=0→ ∀x∈im p,BE p x) (hC:am fuel):
  ac Ya 6 [gy p,I fuel] (.tup [NF (pQ p fuel).1,I (pQ p fuel).2.1,I (pQ p fuel).2.2]):=by
 refine ac.of yf (by simp) λhb=>aa ?_
 conv in bh _ _=>cbv
 clear hb
 have pv:=kc hf H
 unfold pQ
 by_cases h0:(bn p).2=0
 ·have pc:=wn (N h0)
  have pa:=qe hf (D h0)
  have hJ:=uH (D h0)
  have hp:=O h0
  have pm: ∀x∈im p,ac Ya 16 [gy p,UL x.1 x.2.1 x.2.2] (bB (fF p x)):= λx hx=>kC (hp x hx)
  have pi: ∀x∈im p,ac Ya 15 [bB (fF p x),iS x.2.2.1,I fuel] (SH (fS (fF p x) x.2.2.1 fuel)):= λx hx=>by
   obtain⟨_,_,q1,q2,q3,q4⟩:=hp x hx
   exact tw q2 q1.1 q3 q4 hC
  rw[if_neg (not_not_intro h0)]
  rw[h0]at pv
  clear h0 N D O hp H
  generalize im p=L at*
  obtain⟨R,hR⟩: ∃R,R=pA p fuel L 0 []:=⟨_,rfl⟩
  rw[←hR]
  have HR:Hid (pA p fuel (L.drop 0) 0 []=R):=Lib.hid hR.symm
  clear hR
  repeat' first|simp(disch:=omega)only[go_sem, *]|apply ab<;>intro h<;>try omega|apply af|(with_reducible refine ag (λh=> ?_) ?_)|refine aq pv rfl rfl ?_|refine aW pc rfl rfl ?_|refine aW pa rfl rfl ?_
  refine dv 9 74 6 rfl (by decide) ?_
  refine ai (λx:Nat×List I5=>⟨[(1,I fuel),(2,.c (.ptr 0 0)),(9,.c (.ref 1)),(27,i6 a6 L),(28,I L.length),(29,I x.1)], [(1,.arr 74 6 (x.2.map TB)),(0,eJ p)],2,0⟩) (λx=>x.1≤L.length∧x.2.length=x.1∧Hid (pA p fuel (L.drop x.1) x.1 x.2=R)) (λx=>L.length-x.1) ⟨(0, []), [],⟨by omega,rfl,HR⟩,by simp⟩ ?_
  clear pv pc pa HR
  rintro⟨i,acc⟩ ⟨hi,D,hr⟩
  refine aa ?_
  simp only at hi D
  have hd:=hr.out
  simp only at hd
  clear hr
  by_cases C:i<L.length
  ·have p1:=pm _ (List.getElem_mem C)
   have p2:=pi _ (List.getElem_mem C)
   have g1:(L.map a6)[i]? =some (VB L[i]):=ah (f:=a6) C
   obtain⟨q,hq⟩: ∃q,q=fS (fF p L[i]) L[i].2.2.1 fuel:=⟨_,rfl⟩
   rw[Rq C hq.symm]at hd
   rw[←hq]at p2
   clear hq pm pi
   obtain⟨by',ok,e⟩:=q
   simp only at hd p2
   by_cases h0:e=0
   ·subst h0
    rw[if_neg (by simp)]at hd
    cases ok
    ·rw[if_pos rfl]at hd
     subst hd
     repeat' first|simp(disch:=omega)only[go_sem, *,g1]|apply ab<;>intro h<;>try omega|apply af|(with_reducible refine ag (λh=> ?_) ?_)|refine aW p1 rfl rfl ?_|refine aW p2 rfl rfl ?_
     all_goals rfl
    ·rw[if_neg (by simp)]at hd
     have HD:=Lib.hid hd
     have HT:=Lib.hid (show acc.map TB++ [TB (L[i],by')]=(acc++ [(L[i],by')]).map TB by simp)
     clear hd
     repeat' first|simp(disch:=omega)only[go_sem, *,g1,wrap_i64]|apply ab<;>intro h<;>try omega|apply af|(with_reducible refine ag (λh=> ?_) ?_)|refine aW p1 rfl rfl ?_|refine aW p2 rfl rfl ?_|refine aA rfl (by intro h;cases h) (an rfl) (by simp;omega) (by simp;omega) ?_
     rw[HT.out]
     exact⟨(i+1,acc++ [(L[i],by')]), [(1,3)],⟨by omega,by simp;omega,HD⟩,by show _-_<_-_;omega,by simp⟩
   ·rw[if_pos h0]at hd
    subst hd
    repeat' first|simp(disch:=omega)only[go_sem, *,g1,h0]|apply ab<;>intro h<;>try omega|apply af|(with_reducible refine ag (λh=> ?_) ?_)|refine aW p1 rfl rfl ?_|refine aW p2 rfl rfl ?_
    all_goals rfl
  ·rw[O5 (by omega)]at hd
   subst hd
   repeat' first|simp(disch:=omega)only[go_sem, *]|apply ab<;>intro h<;>try omega
   all_goals rfl
 ·rw[if_pos h0]
  clear N D O
  repeat' first|simp(disch:=omega)only[go_sem, *,h0]|apply ab<;>intro h<;>try omega|refine aq pv rfl rfl ?_
  all_goals rfl
theorem MN {p:bG} (hl: ¬iM p) (h:(bn p).2=0) {k:Nat} (hk:k<p.defs.length):Nn p.defs[k].body:=by
 obtain⟨⟨c1,c2,c3,c4,c5⟩,hs,hp,hd⟩:=jU h
 have hf:=mQ hl
 obtain⟨f1,f2,f3,f4⟩:=hf.2 _ (List.getElem_mem hk)
 obtain⟨_,ht⟩:=sd hk (hd k hk)
 obtain⟨t1,t2⟩:=v6 ht
 have hr:=m0 t1
 have hz: ∀a∈p.defs[k].body.pre,bf a=0:=by
  intro a ha
  unfold gG at t1
  split at t1
  ·cases t1
  ·split at t1
   ·cases t1
   ·exact iF t1 _ (List.mem_map.2 ⟨a,ha,rfl⟩)
 have hF:=qO _ hr (λa ha=>(iw (hz a ha)).1) t2
 intro a ha l V
 have hG:=(bD.1 ((iw (hz a ha)).2.2.2.2.2 l V)).1
 have:=E5 hG (L:=aS p.defs[k]++p.sizes) λm hm=>by
  rcases hF a ha l V m hm with h|h
  ·exact List.mem_append_left _ h
  ·exact List.mem_append_right _ h
 have hN:(aS p.defs[k]).length≤24:=by unfold aS;simp;omega
 have hH:p.sizes.length≤12:=Nat.le_of_not_lt λh=>hl (.inl (.inl h))
 simp only[List.length_append]at this
 omega
theorem Lp {n:Nat}: ∀{t:List aU},(∀c∈t,c.1.2.length≤n)→gE t≤n*t.length
 | [],_=>Nat.zero_le _
 |c::r,h=>by
  have h1:=h c List.mem_cons_self
  have h2:=Lp λd hd=>h d (List.mem_cons_of_mem _ hd)
  rw[gE,List.length_cons,Nat.mul_succ]
  omega
theorem Kg {p:bG} (hl: ¬iM p) (hL:Cs p) (h:(bn p).2=0) {k:Nat} (hk:k<p.defs.length):(∀c∈uI p p.defs[k],br c∧c.1.2.length≤30)∧(uI p p.defs[k]).length≤100:=by
 have hf:=(mQ hl).2 _ (List.getElem_mem hk)
 have hH:p.sizes.length≤12:=Nat.le_of_not_lt λh=>hl (.inl (.inl h))
 have hP:p.wher.length≤12:=Nat.le_of_not_lt λh=>hl (.inl (.inr (.inl h)))
 have hQ:=(hL.2.2 _ (List.getElem_mem hk)).1
 have hS:(p.defs[k].dims++p.defs[k].red).length≤24:=by
  have:=hf.1
  have:=hf.2.1
  simp only[List.length_append]
  omega
 have D: ∀a∈p.defs[k].dims++p.defs[k].red,a.2.2.length≤20:= λa ha=>(List.mem_append.1 ha).elim (hf.2.2.1 a) (hf.2.2.2 a)
 refine⟨λc hc=> ?_, ?_⟩
 ·unfold uI at hc
  rcases List.mem_append.1 hc with hc|hc
  ·rcases List.mem_append.1 hc with hc|hc
   ·have hV: ¬20<c.1.2.length:= λhh=>hl (.inr (.inl ⟨c,hc,hh⟩))
    exact⟨hL.1 c hc,by omega⟩
   ·obtain⟨s,_,rfl⟩:=List.mem_map.1 hc
    exact⟨⟨by show am (-1);decide,λm hm=>by rw[List.mem_singleton.1 hm];show am 1;decide⟩,by show 1≤30;omega⟩
  ·obtain⟨a,ha,hc⟩:=List.mem_flatMap.1 hc
   have hv:br (fV a.1,false)∧(fV a.1).2.length≤30:=⟨⟨by show am 0;decide,λm hm=>by rw[List.mem_singleton.1 hm];show am 1;decide⟩,by show 1≤30;omega⟩
   unfold I3 at hc
   split at hc
   ·rcases List.mem_cons.1 hc with rfl|hc
    ·exact hv
    ·rw[List.mem_singleton.1 hc]
     have:=AZ (fV a.1) a.2
     have:=D a ha
     have e1:(fV a.1).2.length=1:=rfl
     exact⟨Fi _ _,by show(d5 (fV a.1) a.2).1.2.length≤30;omega⟩
   ·rw[List.mem_singleton.1 hc]
    exact hv
 ·have:=JQ (l:=p.defs[k].dims++p.defs[k].red)
  unfold uI
  simp only[List.length_append,List.length_map]at*
  omega
theorem P8 {p:bG} {x:ww} (h:x∈im p): ∃hd:x.1<p.defs.length,x.2.2∈jo p p.defs[x.1].body []:=by
 obtain⟨⟨d,k⟩,h1,h2⟩:=List.mem_flatMap.1 h
 obtain⟨⟨o,j⟩,h3,rfl⟩:=List.mem_map.1 h2
 obtain⟨hk,h4⟩:=List.getElem?_eq_some_iff.1 (List.mem_zipIdx_iff_getElem?.1 h1)
 refine⟨hk, ?_⟩
 have:=List.mem_of_getElem? (List.mem_zipIdx_iff_getElem?.1 h3)
 simp only at this h4 ⊢
 rw[h4]
 exact this
theorem IR {p:bG} (hl: ¬iM p) (H:kI p) (hL:Cs p) (h:(bn p).2=0) {x:ww} (hx:x∈im p):BE p x:=by
 obtain⟨hd,ho⟩:=P8 hx
 obtain⟨g1,g2⟩:=zR hl H hL h hd
 have o64:=UJ p _ g1.1 [] (λc hc=>by cases hc) _ ho
 obtain⟨w1,w2⟩:=Vq p _ g1.1 (MN hl h hd) [] _ ho
 obtain⟨a1,a2⟩:=Kg hl hL h hd
 have a3:=Lp λc hc=>(a1 c hc).2
 have hW:=QY (p:=p) (λs l hm=>by
  unfold nE at hm
  split at hm
  ·rename_i y hy
   exact(ur (mQ hl) hL (t:=y.1) (ds:=y.2) hy l hm).2
  ·cases hm) _ g1.1 [] _ ho
 simp only[List.length_nil,gE]at w1 w2
 refine⟨hd,DP hl hL h _ hd,o64,λc hc=> ?_, ?_, ?_⟩
 ·unfold fF at hc
  rw[ry hd]at hc
  exact(List.mem_append.1 hc).elim (λhc=>(a1 c hc).1) (λhc=>o64.2 c hc)
 ·unfold fF
  rw[ry hd,List.length_append]
  omega
 ·unfold fF
  rw[ry hd,iu]
  omega
set_option maxRecDepth 20000
theorem KV:bC si sn=true:=by rw[bC,show si.toList= [105] by rw[ByteArray.toList_eq],show sn.toList= [110] by rw[ByteArray.toList_eq]];decide
theorem RO:bC sn si=false:=by simpa using jV KV
theorem tj:bC si si=false:=by simpa using eh si
theorem LJ:bC sn sn=false:=by simpa using eh sn
abbrev q1:aU:=((-1, [(sn,1)]),false)
abbrev q2:aU:=((0, [(si,1)]),false)
abbrev q3:aU:=((-1, [(si,-1),(sn,1)]),false)
abbrev qa (c:Int):aU:=((c, [(si,-1)]),false)
abbrev qb (d:Int):aU:=((d, [(si,1),(sn,-1)]),false)
theorem Fg {x y:Int} (h:x≠0) (h':y≠0):aI [(si,x),(sn,y)]:=bD.2 ⟨by simp[nL,KV],by simp;exact⟨⟨Is,h⟩,LR,h'⟩⟩
theorem Vc:aI q1.1.2:=ld LR (by decide)
theorem TG:aI q2.1.2:=ld Is (by decide)
theorem TF:aI q3.1.2:=Fg (by decide) (by decide)
theorem Vm (c:Int):aI (qa c).1.2:=ld Is (by decide)
theorem VG (c:Int):aI (qb c).1.2:=Fg (by decide) (by decide)
theorem V9:cG q1=(q1,0,0):=by have h:aI [(sn,1)]:=Vc;simp[cG,h,fi,sL,eU]
theorem Wf:cG q2=(q2,0,0):=by have h:aI [(si,1)]:=TG;simp[cG,h,fi,sL,eU]
theorem Wd:cG q3=(q3,0,0):=by have h:aI [(si,-1),(sn,1)]:=TF;simp[cG,h,fi,sL,eU]
theorem Wi (c:Int):cG (qa c)=(qa c,0,0):=by have h:aI [(si,-1)]:=Vm c;simp[cG,h,fi,sL,eU]
theorem Wj (c:Int):cG (qb c)=(qb c,0,0):=by have h:aI [(si,1),(sn,-1)]:=VG c;simp[cG,h,fi,sL,eU]
theorem Ui (c:Int):be [q1,q2,q3,qa c]=([q1,q2,q3,qa c],0):=by
 rw[be,if_neg (by simp)]
 simp[fD,V9,Wf,Wd,Wi]
theorem US (c:Int):be [q1,q2,q3,qb c]=([q1,q2,q3,qb c],0):=by
 rw[be,if_neg (by simp)]
 simp[fD,V9,Wf,Wd,Wj]
theorem kS {rows:List cH} {d:cH} (h1:d.1.1.2≠ []∨dM d.1) (h2: ∀r∈rows,r.1.1.2≠d.1.1.2) (hl:rows.length<256):cE rows d=(rows++ [d],0):=by
 have hr: ∀l:List cH,(∀r∈l,r.1.1.2≠d.1.1.2)→pH d l=none:=by
  intro l
  induction l with
  |nil=>intro _;rfl
  |cons r l ih=>
   intro h
   rw[pH,if_neg (λhs=>h r List.mem_cons_self hs.2.1),ih λx hx=>h x (List.mem_cons_of_mem _ hx)]
   rfl
 rw[cE,if_neg (λh=>h1.elim (λh'=>h' h.1) λh'=>h.2 h'),hr _ h2]
 simp only
 rw[if_neg (by omega)]
abbrev r1:cH:=(q1, [1,0,0,0])
abbrev r2:cH:=(q2, [0,1,0,0])
abbrev r3:cH:=(q3, [0,0,1,0])
abbrev ra (c:Int):cH:=(qa c, [0,0,0,1])
abbrev rb (c:Int):cH:=(qb c, [0,0,0,1])
theorem Wa {x:aU} (h:x.1.2≠ []) (n1:q1.1.2≠x.1.2) (n2:q2.1.2≠x.1.2) (n3:q3.1.2≠x.1.2):fG 4 0 [q1,q2,q3,x] []=([r1,r2,r3,(x, [0,0,0,1])],0):=by
 have a1:cE [] (q1,eZ 4 0)=([r1],0):=kS (.inl (by simp)) (λr hr=>by cases hr) (by simp)
 have a2:cE [r1] (q2,eZ 4 1)=([r1,r2],0):=kS (.inl (by simp)) (λr hr=>by rw[List.mem_singleton.1 hr];simp) (by simp)
 have a3:cE [r1,r2] (q3,eZ 4 2)=([r1,r2,r3],0):=kS (.inl (by simp)) (λr hr=>by
  rcases List.mem_cons.1 hr with rfl|hr
  ·simp
  ·rw[List.mem_singleton.1 hr];simp) (by simp)
 have a4:cE [r1,r2,r3] (x,eZ 4 3)=([r1,r2,r3,(x, [0,0,0,1])],0):=kS (.inl h) (λr hr=>by
  rcases List.mem_cons.1 hr with rfl|hr
  ·exact n1
  ·rcases List.mem_cons.1 hr with rfl|hr
   ·exact n2
   ·rw[List.mem_singleton.1 hr];exact n3) (by simp)
 rw[fG,a1,if_neg (by simp),fG,a2,if_neg (by simp),fG,a3,if_neg (by simp),fG,a4,if_neg (by simp),fG]
theorem VM: ¬([110]:List UInt8)≤ [105]:=by decide
theorem VA:([105]:List UInt8)≤ [110]:=by decide
theorem Lt {rows:List cH} {l s c:List (List UInt8)} (h:(eL rows).map (λs=>s.data.toList)=l) (hm:l.mergeSort (λx y=>decide (x≤y))=s) (hc:Lib.compact s=c):f5 rows=c.map λb=>⟨b.toArray⟩:=by
 rw[f5,h,hm,hc]
theorem VW (c:Int):f5 [r1,r2,r3,ra c]= [si,sn]:=Lt (l:= [[110], [105], [105], [110], [105]]) (s:= [[105], [105], [105], [110], [110]]) (c:= [[105], [110]]) rfl (by simp[List.mergeSort,List.MergeSort.Internal.splitInTwo,List.merge,VM,VA]) (by decide)
theorem V0 (c:Int):f5 [r1,r2,r3,rb c]= [si,sn]:=Lt (l:= [[110], [105], [105], [110], [105], [110]]) (s:= [[105], [105], [105], [110], [110], [110]]) (c:= [[105], [110]]) rfl (by simp[List.mergeSort,List.MergeSort.Internal.splitInTwo,List.merge,VM,VA]) (by decide)
theorem VS (c:Int):f5 [r2,ra c]= [si]:=Lt (l:= [[105], [105]]) (s:= [[105], [105]]) (c:= [[105]]) rfl (by simp[List.mergeSort,List.MergeSort.Internal.splitInTwo,List.merge,VM,VA]) (by decide)
theorem VP:f5 [r1]= [sn]:=Lt (l:= [[110]]) (s:= [[110]]) (c:= [[110]]) rfl (by simp[List.mergeSort]) (by decide)
theorem Uh (c:Int):cj [r1,r2,r3,ra c]=(sn,-1,true):=by
 rw[cj,VW]
 simp[cK,mW,cf,qu,Hd]
theorem U4 (c:Int):cj [r1,r2,r3,rb c]=(si,-1,true):=by
 rw[cj,V0]
 simp[cK,mW,cf,qu,Hd]
theorem Uj (c:Int):cj [r2,ra c]=(si,-1,true):=by
 rw[cj,VS]
 simp[cK,mW,cf,qu,Hd]
theorem UM:cj [r1]=(sn,-1,true):=by
 rw[cj,VP]
 simp[cK,mW,cf,qu,Hd]
theorem V7 {p q r s:aU} {x y z w:Int} (hp:aI p.1.2) (hq:aI q.1.2) (hr:aI r.1.2) (hs:aI s.1.2) (hx:0≤x) (hy:0≤y) (hz:0≤z) (hw:0≤w):aD [p,q,r,s] [x,y,z,w]=ep (0, []) true [(p,x),(q,y),(r,z),(s,w)]:=by
 rw[aD,if_neg (by simp),if_neg]
 ·rfl
 ·rintro⟨v,hv,h⟩
  simp only[List.zip_cons_cons,List.zip_nil_right,List.mem_cons,List.not_mem_nil,or_false]at hv
  rcases hv with rfl|rfl|rfl|rfl
  ·exact h.elim (λh=>h hp) λh=>by simp only at h;omega
  ·exact h.elim (λh=>h hq) λh=>by simp only at h;omega
  ·exact h.elim (λh=>h hr) λh=>by simp only at h;omega
  ·exact h.elim (λh=>h hs) λh=>by simp only at h;omega
theorem VT {c:Int} (hc: -10≤c∧c≤10):aD [q2,qa c] [1,1]=(((c, []),false),0):=by
 rw[lZ TG (Vm c) (by decide) (by decide)]
 rw[fe (by simp[bY,am]) (by simp[e7,am,bq,bz]),fe (by simp[bY,am];omega)
  (by simp[e7,am,bq,gz,f7,bz,cM,tj];omega)]
 simp[ep,bq,gz,f7,bz,cM,tj]
theorem Uf:aD [q2,q3] [1,1]=(((-1, [(sn,1)]),false),0):=by
 rw[lZ TG TF (by decide) (by decide)]
 rw[fe (by simp[bY,am]) (by simp[e7,am,bq,bz]),fe (by simp[bY,am])
  (by simp[e7,am,bq,gz,f7,bz,cM,tj])]
 simp[ep,bq,gz,f7,bz,cM,tj]
theorem VE {d:Int} (hd: -10≤d∧d≤10):aD [qb d,q3] [1,1]=(((d-1, []),false),0):=by
 rw[lZ (VG d) TF (by decide) (by decide)]
 rw[fe (by simp[bY,am];omega) (by simp[e7,am,bq,bz];omega),fe (by simp[bY,am])
  (by simp[e7,am,bq,gz,f7,bz,cM,tj,LJ];omega)]
 simp[ep,bq,gz,f7,bz,cM,tj,LJ]
 omega
theorem Vx {c:Int} (hc: -10≤c∧c<0):d4 [q1,q2,q3,qa c] [0,1,0,1]=0:=by
 have e:aD [q1,q2,q3,qa c] [0,1,0,1]=(((c, []),false),0):=by
  rw[V7 Vc TG TF (Vm c) (by decide) (by decide) (by decide) (by decide)]
  rw[fe (by simp[bY,am]) (by simp[e7,am,bq,bz]),fe (by simp[bY,am]) (by simp[e7,am,bq,gz,f7,bz]),
   fe (by simp[bY,am]) (by simp[e7,am,bq,gz,f7,bz,c9]),fe (by simp[bY,am];omega) (by simp[e7,am,bq,gz,f7,bz,c9,cM,tj];omega)]
  simp[ep,bq,gz,f7,bz,c9,cM,tj]
 rw[d4,Ui,if_neg (by simp),e,if_neg (by simp),if_pos ⟨rfl,.inl hc.2⟩]
theorem Vn:d4 [q1,q2,q3,qb 0] [0,0,1,1]=0:=by
 have e:aD [q1,q2,q3,qb 0] [0,0,1,1]=(((-1, []),false),0):=by
  rw[V7 Vc TG TF (VG 0) (by decide) (by decide) (by decide) (by decide)]
  rw[fe (by simp[bY,am]) (by simp[e7,am,bq,bz]),fe (by simp[bY,am]) (by simp[e7,am,bq,gz,f7,bz]),
   fe (by simp[bY,am]) (by simp[e7,am,bq,gz,f7,bz,c9]),fe (by simp[bY,am]) (by simp[e7,am,bq,gz,f7,bz,c9,cM,tj,LJ])]
  simp[ep,bq,gz,f7,bz,c9,cM,tj,LJ]
 rw[d4,US,if_neg (by simp),e,if_neg (by simp),if_pos ⟨rfl,.inl (by decide)⟩]
theorem gQ {α:Type} {step:α→List cH→Int→MG} {x:α} {l:List α} {acc acc1:List cH} {fuel fuel1:Int} (h:step x acc fuel=(acc1,fuel1,0)):cd step (x::l) acc fuel=cd step l acc1 fuel1:=by
 rw[cd,h,if_neg (by simp)]
theorem RQ {n:ByteArray} {r:cH} {acc:List cH} {fuel:Int} (h:cf r.1.1.2 n≠0):gi n r acc fuel=(acc,fuel,0):=by rw[gi,if_neg h]
theorem Tb {n:ByteArray} {r:cH} {acc acc1:List cH} {fuel:Int} (h:cf r.1.1.2 n=0) (ha:cE acc r=(acc1,0)):gi n r acc fuel=(acc1,fuel,0):=by rw[gi,if_pos h,ha]
theorem Sf {n:ByteArray} {a b:cH} {acc:List cH} {fuel:Int} (h:cf a.1.1.2 n≤0∨0≤cf b.1.1.2 n):dx n a b acc fuel=(acc,fuel,0):=by rw[dx,if_pos h]
theorem Tq {n:ByteArray} {a b d:cH} {acc acc1:List cH} {fuel:Int} (h1:cf a.1.1.2 n=1) (h2:cf b.1.1.2 n= -1) (hm:ei fuel a b 1 1=(d,0)) (ha:cE acc d=(acc1,0)):dx n a b acc fuel=(acc1,fuel-1,0):=by
 have f:e9 1 (-1)=(1,1,true):=by simp[e9,jB]
 rw[dx]
 simp only[h1,h2]
 rw[f,if_neg (by decide),if_neg (by decide),ji,hm,if_neg (by simp),ha]
theorem DD {n:ByteArray} {a:cH} {fuel:Int} {acc:List cH}: ∀{l:List cH},(∀b∈l,cf a.1.1.2 n≤0∨0≤cf b.1.1.2 n)→cd (dx n a) l acc fuel=(acc,fuel,0)
 | [],_=>by rw[cd]
 |b::l,h=>by rw[gQ (Sf (h b List.mem_cons_self)),DD λx hx=>h x (List.mem_cons_of_mem _ hx)]
theorem mg {fuel:Int} {a b:cH} {c:aU} {l:List Int} (hf:0<fuel) (hc:aD [a.1,b.1] [1,1]=(c,0)) (hs:gl 1 1 (a.2.zip b.2)=some l) (hg:qC 0 l<2):ei fuel a b 1 1=((c,l),0):=by
 rw[ei,if_neg (by omega),hc,if_neg (by simp),hs]
 simp only
 rw[ny,if_pos (.inl hg)]
theorem TQ (c:Int) {fuel:Int}:gW [r1,r2,r3,ra c] fuel=([r2,ra c],fuel,0):=by
 have a1:cE [] r2=([r2],0):=kS (.inl (by simp)) (λr hr=>by cases hr) (by simp)
 have a2:cE [r2] (ra c)=([r2,ra c],0):=kS (.inl (by simp)) (λr hr=>by rw[List.mem_singleton.1 hr];simp) (by simp)
 have hr:cd (gi sn) [r1,r2,r3,ra c] [] fuel=([r2,ra c],fuel,0):=by
  rw[gQ (RQ (by simp[cf])),gQ (Tb (by simp[cf]) a1),gQ (RQ (by simp[cf])),gQ (Tb (by simp[cf]) a2),cd]
 have hn: ∀a:cH,cd (dx sn a) [r1,r2,r3,ra c] [r2,ra c] fuel=([r2,ra c],fuel,0):= λa=>DD λb hb=> .inr (by
  simp only[List.mem_cons,List.not_mem_nil,or_false]at hb
  rcases hb with rfl|rfl|rfl|rfl<;>simp[cf])
 rw[gW,Uh,if_neg (by simp),ko,hr,if_neg (by simp)]
 show cd (λa=>cd (dx sn a) [r1,r2,r3,ra c]) [r1,r2,r3,ra c] [r2,ra c] fuel=_
 rw[gQ (step:= λa=>cd (dx sn a) [r1,r2,r3,ra c]) (hn _),gQ (step:= λa=>cd (dx sn a) [r1,r2,r3,ra c]) (hn _),gQ (step:= λa=>cd (dx sn a) [r1,r2,r3,ra c]) (hn _),gQ (step:= λa=>cd (dx sn a) [r1,r2,r3,ra c]) (hn _),cd]
theorem TX {c fuel:Int} (hc: -10≤c∧c<0) (hf:0<fuel):gW [r2,ra c] fuel=([(((c, []),false), [0,1,0,1])],fuel-1,0):=by
 have hr:cd (gi si) [r2,ra c] [] fuel=([],fuel,0):=by
  rw[gQ (RQ (by simp[cf])),gQ (RQ (by simp[cf])),cd]
 have hm:ei fuel r2 (ra c) 1 1=((((c, []),false), [0,1,0,1]),0):=mg hf (VT ⟨hc.1,by omega⟩) (by simp[gl,tb,am]) (by decide)
 have ha:cE [] (((c, []),false), [0,1,0,1])=([(((c, []),false), [0,1,0,1])],0):=kS (.inr ⟨rfl,.inl hc.2⟩) (λr hr=>by cases hr) (by simp)
 have i1:cd (dx si r2) [r2,ra c] [] fuel=([(((c, []),false), [0,1,0,1])],fuel-1,0):=by
  rw[gQ (Sf (.inr (by simp[cf]))),gQ (Tq (by simp[cf]) (by simp[cf]) hm ha),cd]
 have i2: ∀acc fuel,cd (dx si (ra c)) [r2,ra c] acc fuel=(acc,fuel,0):= λacc fuel=>DD λb hb=> .inl (by simp[cf])
 rw[gW,Uj,if_neg (by simp),ko,hr,if_neg (by simp)]
 show cd (λa=>cd (dx si a) [r2,ra c]) [r2,ra c] [] fuel=_
 rw[gQ (step:= λa=>cd (dx si a) [r2,ra c]) i1,gQ (step:= λa=>cd (dx si a) [r2,ra c]) (i2 _ _),cd]
theorem Uo {c:Int} (hc: -10≤c∧c<0):fQ [q1,q2,q3,qa c] 1048576=([0,1,0,1],true,0):=by
 have b1:dz [r1,r2,r3,ra c]=none:=by simp[dz,dM]
 have b2:dz [r2,ra c]=none:=by simp[dz,dM]
 have b3:dz [(((c, []),false), [0,1,0,1])]=some [0,1,0,1]:=by rw[dz,if_pos ⟨rfl,.inl hc.2⟩]
 rw[fQ,Ui,if_neg (by simp),if_neg (by omega)]
 have hi:fG [q1,q2,q3,qa c].length 0 ([q1,q2,q3,qa c],(0:Int)).1 []=([r1,r2,r3,ra c],0):=Wa (by simp) (by simp) (by simp) (by simp)
 rw[hi,if_neg (by simp)]
 have hn:(1048576:Int).toNat*300+300=(314573097:Nat)+3:=by decide
 rw[hn,dh,b1]
 simp only
 rw[if_neg (by rw[Uh];simp),TQ,if_neg (by simp)]
 simp only
 rw[dh,b2]
 simp only
 rw[if_neg (by rw[Uj];simp),TX hc (by decide),if_neg (by simp)]
 simp only
 rw[dh,b3]
 simp only
 rw[if_neg (by rw[Vx hc];simp)]
theorem TZ {d fuel:Int} (hd:d=0∨d=1) (hf:1<fuel):gW [r1,r2,r3,rb d] fuel=(if d=0 then [r1,(((-1, []),false), [0,0,1,1])]else [r1],fuel-1-1,0):=by
 have a1:cE [] r1=([r1],0):=kS (.inl (by simp)) (λr hr=>by cases hr) (by simp)
 have hr:cd (gi si) [r1,r2,r3,rb d] [] fuel=([r1],fuel,0):=by
  rw[gQ (Tb (by simp[cf]) a1),gQ (RQ (by simp[cf])),gQ (RQ (by simp[cf])),gQ (RQ (by simp[cf])),cd]
 have m1:ei fuel r2 r3 1 1=((((-1, [(sn,1)]),false), [0,1,1,0]),0):=mg (by omega) Uf (by simp[gl,tb,am]) (by decide)
 have m2:ei (fuel-1) (rb d) r3 1 1=((((d-1, []),false), [0,0,1,1]),0):=mg (by omega) (VE (by omega)) (by simp[gl,tb,am]) (by decide)
 have s1:cE [r1] (((-1, [(sn,1)]),false), [0,1,1,0])=([r1],0):=by
  rw[cE,if_neg (by simp)]
  simp[pH,y3]
 have s2:cE [r1] (((d-1, []),false), [0,0,1,1])=(if d=0 then [r1,(((-1, []),false), [0,0,1,1])]else [r1],0):=by
  rcases hd with rfl|rfl
  ·rw[if_pos rfl]
   exact kS (.inr ⟨rfl,.inl (by decide)⟩) (λr hr=>by rw[List.mem_singleton.1 hr];simp) (by simp)
  ·rw[if_neg (by decide),cE,if_pos ⟨rfl,by simp[dM]⟩]
 have n1: ∀acc fuel,cd (dx si r1) [r1,r2,r3,rb d] acc fuel=(acc,fuel,0):= λacc fuel=>DD λb hb=> .inl (by simp[cf])
 have n3: ∀acc fuel,cd (dx si r3) [r1,r2,r3,rb d] acc fuel=(acc,fuel,0):= λacc fuel=>DD λb hb=> .inl (by simp[cf])
 have i2:cd (dx si r2) [r1,r2,r3,rb d] [r1] fuel=([r1],fuel-1,0):=by
  rw[gQ (Sf (.inr (by simp[cf]))),gQ (Sf (.inr (by simp[cf]))),gQ (Tq (by simp[cf]) (by simp[cf]) m1 s1),gQ (Sf (.inr (by simp[cf]))),cd]
 have i4:cd (dx si (rb d)) [r1,r2,r3,rb d] [r1] (fuel-1)=(if d=0 then [r1,(((-1, []),false), [0,0,1,1])]else [r1],fuel-1-1,0):=by
  rw[gQ (Sf (.inr (by simp[cf]))),gQ (Sf (.inr (by simp[cf]))),gQ (Tq (by simp[cf]) (by simp[cf]) m2 s2),gQ (Sf (.inr (by simp[cf]))),cd]
 rw[gW,U4,if_neg (by simp),ko,hr,if_neg (by simp)]
 show cd (λa=>cd (dx si a) [r1,r2,r3,rb d]) [r1,r2,r3,rb d] [r1] fuel=_
 rw[gQ (step:= λa=>cd (dx si a) [r1,r2,r3,rb d]) (n1 _ _),gQ (step:= λa=>cd (dx si a) [r1,r2,r3,rb d]) i2,gQ (step:= λa=>cd (dx si a) [r1,r2,r3,rb d]) (n3 _ _),gQ (step:= λa=>cd (dx si a) [r1,r2,r3,rb d]) i4,cd]
theorem VK {fuel:Int}:gW [r1] fuel=([],fuel,0):=by
 have hr:cd (gi sn) [r1] [] fuel=([],fuel,0):=by rw[gQ (RQ (by simp[cf])),cd]
 have i1:cd (dx sn r1) [r1] [] fuel=([],fuel,0):=DD λb hb=> .inr (by rw[List.mem_singleton.1 hb];simp[cf])
 rw[gW,UM,if_neg (by simp),ko,hr,if_neg (by simp)]
 show cd (λa=>cd (dx sn a) [r1]) [r1] [] fuel=_
 rw[gQ (step:= λa=>cd (dx sn a) [r1]) i1,cd]
theorem U3 {d:Int} (hd:d=0∨d=1):fQ [q1,q2,q3,qb d] 1048576=if d=0 then([0,0,1,1],true,0)else([],false,0):=by
 have b1:dz [r1,r2,r3,rb d]=none:=by simp[dz,dM]
 rw[fQ,US,if_neg (by simp),if_neg (by omega)]
 have hi:fG [q1,q2,q3,qb d].length 0 ([q1,q2,q3,qb d],(0:Int)).1 []=([r1,r2,r3,rb d],0):=Wa (by simp) (by simp) (by simp) (by simp)
 rw[hi,if_neg (by simp)]
 have hn:(1048576:Int).toNat*300+300=(314573097:Nat)+3:=by decide
 rw[hn,dh,b1]
 simp only
 rw[if_neg (by rw[U4];simp),TZ hd (by decide),if_neg (by simp)]
 simp only
 rcases hd with rfl|rfl
 ·have b2:dz [r1,(((-1, []),false), [0,0,1,1])]=some [0,0,1,1]:=by simp[dz,dM]
  rw[if_pos rfl,if_pos rfl,dh,b2]
  simp only
  rw[if_neg (by rw[Vn];simp)]
 ·have b2:dz [r1]=none:=by simp[dz,dM]
  have hI:f5 []= []:=List.eq_nil_iff_forall_not_mem.2 λn hn=>by
   have:=Ae.1 hn
   simp[eL]at this
  rw[if_neg (by decide),if_neg (by decide),dh,b2]
  simp only
  rw[if_neg (by rw[UM];simp),VK,if_neg (by simp)]
  simp only
  rw[dh,show dz []=none from rfl]
  simp only
  rw[if_pos (by rw[cj,hI,cK];rfl)]
theorem Sm {c:aU} (hc:aI c.1.2) (h0:c.2=false) (hm: ¬kB c.1.2):d9 [q1,q2,q3] c=([kG c.1],0):=by
 have h1:Jx [q1,q2,q3]:= λx hx=>by
  simp only[List.mem_cons,List.not_mem_nil,or_false]at hx
  rcases hx with rfl|rfl|rfl
  ·exact Vc
  ·exact TG
  ·exact TF
 rw[d9,if_neg (by rintro(h|h);exact h h1;exact h hc),eT,if_neg (not_not_intro hc),if_neg hm,if_pos h0]
theorem PN {k:Int} (hk:k=0∨k=1):fS [q1,q2,q3] ((k, [(si,1)]),false) 1048576=([0,1,0,1],true,0):=by
 rw[fS,Sm (ld Is (by decide)) rfl (by rintro⟨m,hm,e⟩;rw[List.mem_singleton.1 hm]at e;exact absurd e (by decide)),if_neg (by simp)]
 simp only
 have h:fQ ([q1,q2,q3]++ [kG (k, [(si,1)])]) 1048576=([0,1,0,1],true,0):=Uo (c:= -1-k) (by omega)
 rw[iJ,h,if_neg (by simp),if_neg (by simp),iJ]
 rfl
theorem Py {k:Int} (hk:k=0∨k=1):fS [q1,q2,q3] ((-k-1, [(si,-1),(sn,1)]),false) 1048576=if k=0 then([0,0,1,1],true,0)else([],false,0):=by
 rw[fS,Sm (Fg (by decide) (by decide)) rfl (by
  rintro⟨m,hm,e⟩
  simp only[List.mem_cons,List.not_mem_nil,or_false]at hm
  rcases hm with rfl|rfl<;>exact absurd e (by decide)),if_neg (by simp)]
 simp only
 have h:fQ ([q1,q2,q3]++ [kG (-k-1, [(si,-1),(sn,1)])]) 1048576=if k=0 then([0,0,1,1],true,0)else([],false,0):=by
  have e:kG (-k-1, [(si,-1),(sn,1)])=qb k:=by
   show((-1-(-k-1), [(si,- -1),(sn,-1)]),false)=_
   rw[show(-1-(-k-1):Int)=k by omega]
   rfl
  rw[e]
  exact U3 hk
 rcases hk with rfl|rfl
 ·rw[if_pos rfl]at h ⊢
  rw[iJ,h,if_neg (by simp),if_neg (by simp),iJ]
  rfl
 ·rw[if_neg (by decide)]at h ⊢
  rw[iJ,h,if_neg (by simp),if_pos rfl]
set_option maxRecDepth 1000000
theorem nN (k:Int):ac Ya 11 [I k] (gy (k7 k)):=by
 refine ac.of xO (by simp) λhb=>aa ?_
 conv in bh _ _=>cbv
 repeat' first|simp(disch:=omega)only[go_sem]|((with_reducible refine ab ?_ ?_)<;>intro h<;>try first|omega|simp(disch:=omega)only[go_sem, *])
 all_goals rfl
theorem Kz {k:Int} (hk:k=0∨k=1):d5 (k, [(si,1)]) fN=((-k-1, [(si,-1),(sn,1)]),0):=by
 have e1:bM (k, [(si,1)]) (-1)=((-k, [(si,-1)]),0):=by
  rw[bM,if_neg (not_not_intro (ld Is (by decide))),iT,if_pos]
  ·simp[bq]
  ·simp[bY,am]
   omega
 have e2:fj fN (-k, [(si,-1)])=((-k, [(si,-1),(sn,1)]),0):=by
  rw[fj,if_neg (by rintro(h|h);exact h (ld LR (by decide));exact h (ld Is (by decide))),fI,if_pos]
  ·simp[gz,f7,fN,bz,c9,cM,RO,KV]
  ·simp[e7,am,fN,bz,c9,cM,RO,KV]
   omega
 have e3:fj (-k, [(si,-1),(sn,1)]) (-1, [])=((-k-1, [(si,-1),(sn,1)]),0):=by
  rw[fj,if_neg (by rintro(h|h);exact h (Fg (by decide) (by decide));exact h OE),fI,if_pos]
  ·simp[gz,f7,c9]
   omega
  ·simp[e7,am,c9]
   omega
 have e4:i0 (k, [(si,1)]) fN=((-k, [(si,-1),(sn,1)]),0):=by
  unfold i0
  rw[e1]
  simp only[ne_eq,not_true_eq_false,if_false]
  exact e2
 unfold d5
 rw[e4]
 simp only[ne_eq,not_true_eq_false,if_false]
 exact e3
abbrev oA (k:Int):ww:=(0,0,(((k, [(si,1)]),false), []))
abbrev oB (k:Int):ww:=(0,1,(((-k-1, [(si,-1),(sn,1)]),false), []))
theorem Of {k:Int} (hk:k=0∨k=1):im (k7 k)= [oA k,oB k]:=by
 have hd:nE (k7 k) sa= [fN]:=by simp[nE,dm,k7]
 have ho:jo (k7 k) (jW k) []= [(((k, [(si,1)]),false), []),(((-k-1, [(si,-1),(sn,1)]),false), [])]:=by
  rw[lU,if_pos (show(jW k).op=3 from rfl),if_neg (show ¬(jW k).op=11 by simp[jW,Ex.op])]
  show(vd (k7 k) [(Tw k,se, [])] sa).map _++m8 (k7 k) [] []=_
  rw[vd,hd]
  simp only[List.zip_cons_cons,List.zip_nil_right,List.flatMap_cons,List.flatMap_nil,List.append_nil,m8]
  obtain⟨T,h1,h2,_⟩:=Gk (k, [(si,1)]) fN
  have h3:d7 (k, [(si,1)]) fN= [((k, [(si,1)]),false),((-k-1, [(si,-1),(sn,1)]),false)]:=by
   rw[h1,h2 (by rw[Kz hk]),Kz hk]
  rw[u0,if_pos rfl]
  show(d7 (k, [(si,1)]) fN).map _=_
  rw[h3]
  rfl
 show [(DT k,0)].flatMap (Eo (k7 k))=_
 rw[List.flatMap_cons,List.flatMap_nil,List.append_nil,Eo]
 show((jo (k7 k) (jW k) []).zipIdx.map _)=_
 rw[ho]
 rfl
theorem Lm (k:Int) {x:ww} (h:x.1=0) (hf:x.2.2.2= []):fF (k7 k) x= [q1,q2,q3]:=by
 have ha:Lv (k7 k) 0= [q1,q2,q3]:=by
  show uI (k7 k) (DT k)=_
  have:I3 (si,fN)= [q2,q3]:=by
   rw[I3]
   show(if(d5 (0, [(si,1)]) fN).2=0 then _ else _)=_
   rw[if_pos (by rw[Kz (.inl rfl)])]
   show [((0, [(si,1)]),false),((d5 (0, [(si,1)]) fN).1,false)]=_
   rw[Kz (.inl rfl)]
   rfl
  show []++ [((-1, [(sn,1)]),false)]++ [(si,fN)].flatMap I3=_
  rw[List.flatMap_cons,List.flatMap_nil,this]
  rfl
 rw[fF,h,hf,ha,List.append_nil]
theorem UU:pQ (k7 0) 1048576=([(oA 0, [0,1,0,1]),(oB 0, [0,0,1,1])],0,0):=by
 rw[pQ,if_neg (by rw[xa];simp),Of (.inl rfl),pA,Lm 0 rfl rfl]
 have h1:fS [q1,q2,q3] (oA 0).2.2.1 1048576=([0,1,0,1],true,0):=PN (.inl rfl)
 rw[h1,if_neg (by simp),if_neg (by simp),pA,Lm 0 rfl rfl]
 have h2:fS [q1,q2,q3] (oB 0).2.2.1 1048576=([0,0,1,1],true,0):=(Py (.inl rfl)).trans (if_pos rfl)
 rw[h2,if_neg (by simp),if_neg (by simp),pA]
 rfl
theorem UP:pQ (k7 1) 1048576=([],1,17):=by
 rw[pQ,if_neg (by rw[xa];simp),Of (.inr rfl),pA,Lm 1 rfl rfl]
 have h1:fS [q1,q2,q3] (oA 1).2.2.1 1048576=([0,1,0,1],true,0):=PN (.inr rfl)
 rw[h1,if_neg (by simp),if_neg (by simp),pA,Lm 1 rfl rfl]
 have h2:fS [q1,q2,q3] (oB 1).2.2.1 1048576=([],false,0):=(Py (.inr rfl)).trans (if_neg (by decide))
 rw[h2,if_neg (by simp),if_pos rfl]
 rfl
theorem ye:ac Ya 5 [] (Go.Abs.B true):=by
 have D: ∀{k:Int},am k→Ci (k7 k):= λ{k} hk=>⟨by show 1≤1000;omega,λd hd=>by
  obtain⟨i,hi,rfl⟩:=List.mem_iff_getElem.1 hd
  obtain⟨g1,g2⟩:=zR sm JE (Sd hk) (by rw[xa]) hi
  exact⟨g1,by omega⟩⟩
 have pp: ∀{k:Int},am k→ac Ya 6 [gy (k7 k),I 1048576] (.tup [NF (pQ (k7 k) 1048576).1,I (pQ (k7 k) 1048576).2.1,I (pQ (k7 k) 1048576).2.2]):= λ{k} hk=>
  m5 (mQ sm) JE (GM sm) (λ_=>D hk) (λh x hx=>IR sm JE (Sd hk) h hx) (by simp[am])
 have p0:=pp (k:=0) (by simp[am])
 have p1:=pp (k:=1) (by simp[am])
 rw[UU]at p0
 rw[UP]at p1
 have c0:=nN 0
 have c1:=nN 1
 clear D pp
 refine ac.of zq (by simp) λhb=>aa ?_
 conv in bh _ _=>cbv
 repeat' first|simp(disch:=omega)only[go_sem]|((with_reducible refine ab ?_ ?_)<;>intro h<;>try first|omega|simp(disch:=omega)only[go_sem, *])|apply af|(with_reducible refine ag (λh=> ?_) ?_)|refine bA c0 rfl (.inr rfl) ?_|refine bA c1 rfl (.inr rfl) ?_|refine bA p0 rfl (.inr rfl) ?_|refine bA p1 rfl (.inr rfl) ?_
 all_goals rfl
end
