import Derived.Test.YthbcbaembicdbaaGreatDoorV18v
set_option linter.unusedVariables false
set_option linter.unusedSimpArgs false
set_option maxHeartbeats 4000000
set_option maxRecDepth 1000000
namespace Go.Proofs.YthbcbaembicdbaaGreatDoor
noncomputable section
def Qo (o:Ob):Prop:=bX o.1∧ ∀c∈o.2,bX c
theorem R9 {f x:bY} (h:bq f): ∀c∈eP f x,bX c:=by
 intro c hc
 simp only[eP,List.mem_cons,List.not_mem_nil,or_false]at hc
 rcases hc with rfl|rfl
 ·exact h
 ·show bq (if _ then _ else _)
  split
  ·exact Ld _ _
  ·exact⟨by decide,λm hm=>by cases hm⟩
theorem YP {p:bI} {idx:List Ix} {s:ByteArray} (h: ∀x∈idx,bq x.1∧ ∀l∈x.2.2,bq l): ∀c∈Gu p idx s,bX c:=by
 intro c hc
 obtain⟨q,hq,hc⟩:=List.mem_flatMap.1 hc
 have hx:=h _ (List.of_mem_zip hq).1
 unfold BJ at hc
 split at hc
 ·exact R9 hx.1 c hc
 ·obtain⟨r,hr,hc⟩:=List.mem_flatMap.1 hc
  exact R9 (hx.2 _ (List.of_mem_zip hr).1) c hc
theorem R3 {a b:List bt} (ha: ∀c∈a,bX c) (hb: ∀c∈b,bX c): ∀c∈a++b,bX c:=λc hc=>(List.mem_append.1 hc).elim (ha c) (hb c)
theorem Vs {p:bI} {cs:List bt}: ∀{l:List Ex},(∀a∈l,∀o∈kF p a cs,Qo o)→ ∀o∈sy p l cs,Qo o
 | [],_,o,ho=>by rw[sy]at ho;cases ho
 |a::r,h,o,ho=>by
  rw[sy]at ho
  rcases List.mem_append.1 ho with ho|ho
  ·exact h a List.mem_cons_self o ho
  ·exact Vs (λb hb=>h b (List.mem_cons_of_mem _ hb)) o ho
theorem Zs (p:bI) (e:Ex):jO e→ ∀cs,(∀c∈cs,bX c)→ ∀o∈kF p e cs,Qo o:=by
 refine Ex.ind (p:=λe=>jO e→ ∀cs,(∀c∈cs,bX c)→ ∀o∈kF p e cs,Qo o) (λe ih h cs F o ho=> ?_) e
 have z: ∀a∈e.args,∀cs,(∀c∈cs,bX c)→ ∀o∈kF p a cs,Qo o:=λa ha=>ih a ha (aV h ha)
 rw[pV]at ho
 rcases List.mem_append.1 ho with ho|ho
 ·split at ho
  ·obtain⟨c,hc,rfl⟩:=List.mem_map.1 ho
   refine⟨YP (λx hx=> ?_) c hc,F⟩
   have hf:=(h.2 e (jG e)).2
   exact⟨(hf x.1 (List.mem_cons_of_mem _ (List.mem_flatMap.2 ⟨x,hx,List.mem_cons_self⟩))).1,λl hl=>(hf l (List.mem_cons_of_mem _ (List.mem_flatMap.2 ⟨x,hx,List.mem_cons_of_mem _ hl⟩))).1⟩
  ·cases ho
 ·split at ho
  ·have J: ∀a∈e.args,∀c∈(bA a).1,bX c:=λa ha c hc=>((mw a (aV h ha)).2 c hc).1
   have K: ∀a∈e.args,∀c∈(bA (fh a)).1,bX c:=λa ha c hc=>((mw _ (AZ (aV h ha))).2 c hc).1
   generalize e.args=l at*
   match l with
   | []=>cases ho
   | [a]=>cases ho
   | [a,b]=>cases ho
   |a::b::c::r=>
    simp only[XN,List.mem_append]at ho
    rcases ho with(ho|ho)|ho
    ·exact z a (by simp) cs F o ho
    ·exact z b (by simp) _ (R3 F (J a (by simp))) o ho
    ·exact z c (by simp) _ (R3 F (K a (by simp))) o ho
  ·exact Vs (λa ha=>z a ha cs F) o ho
open Go.Abs Go.RowKit
def Uj (e:Ex):Prop:= ∀a∈e.pre,∀l∈a.forms,l.2.length≤40
theorem wM {e a:Ex} (h:Uj e) (ha:a∈e.args):Uj a:=λb hb=>h b (Qi ha hb)
theorem YH {e:Ex} (h:Uj e):e.lin.2.length≤40:=h e (jG e) _ List.mem_cons_self
theorem XY {a:Ex} (h:Uj a):Uj (fh a):=λb hb l hl=>by
 rw[Ex.pre_eq]at hb
 rcases List.mem_cons.1 hb with rfl|hb
 ·simp only[fh,Ex.forms,Ex.lin,Ex.idx,List.flatMap_nil,List.mem_singleton]at hl
  subst hl
  simp
 ·exact h b (by simpa[fh,Ex.args,Ex.pres]using hb) l hl
theorem Q6 {α:Type} {f:Ex→α} {d:α} {g:α→Nat} (hd:g d=0): ∀{l:List Ex},(∀a∈l,g (f a)≤40*a.sz)→g ((l.map f).getD 0 d)+g ((l.map f).getD 1 d)≤40*Ex.szs l
 | [],_=>by simp[hd]
 |[a],h=>by
  have:=h a List.mem_cons_self
  simp[hd,Ex.szs]
  omega
 |a::b::r,h=>by
  have:=h a List.mem_cons_self
  have:=h b (List.mem_cons_of_mem _ List.mem_cons_self)
  simp[Ex.szs]
  omega
theorem abQ (e:Ex):Uj e→(dj e).1.2.length≤40*e.sz:=by
 refine Ex.ind (p:=λe=>Uj e→(dj e).1.2.length≤40*e.sz) (λe ih h=> ?_) e
 have h2:=Q6 (f:=dj) (d:=jY) (g:=λx=>x.1.2.length) rfl λa ha=>ih a ha (wM h ha)
 have hz:=Ex.sz_eq e
 have hl:=YH h
 rw[E4]
 unfold zi
 generalize (e.args.map dj).getD 0 jY=a at*
 generalize (e.args.map dj).getD 1 jY=b at*
 repeat' split
 all_goals first
  |(show([]:List bJ).length≤_;simp;done)
  |(show e.lin.2.length≤_;omega)
  |(have:=gR a.1 (-1);show(bO a.1 (-1)).1.2.length≤_;omega)
  |(have:=vI b.1 a.1;show(kC b.1 a.1).1.2.length≤_;omega)
  |(have:=oB a.1 b.1;show(fK a.1 b.1).1.2.length≤_;omega)
theorem Fj (c:bt):jo [c]=c.1.2.length:=by simp[jo]
theorem Z1 (e:Ex):Uj e→jo (bA e).1≤40*e.sz:=by
 refine Ex.ind (p:=λe=>Uj e→jo (bA e).1≤40*e.sz) (λe ih h=> ?_) e
 have h2:=Q6 (f:=dj) (d:=jY) (g:=λx=>x.1.2.length) rfl λa ha=>abQ a (wM h ha)
 have h3:=Q6 (f:=bA) (d:=([],false)) (g:=λx=>jo x.1) rfl λa ha=>ih a ha (wM h ha)
 have hz:=Ex.sz_eq e
 rw[wD]
 unfold N8
 generalize (e.args.map dj).getD 0 jY=a at*
 generalize (e.args.map dj).getD 1 jY=b at*
 generalize (e.args.map bA).getD 0 ([],false)=c at*
 generalize (e.args.map bA).getD 1 ([],false)=d at*
 split
 ·split
  ·have:=(RH e.op a.1 b.1).2
   unfold Nh
   split
   ·rw[Fj]
    show(sK e.op a.1 b.1).1.2.length≤_
    omega
   ·simp[jo]
  ·simp[jo]
 split
 ·show jo (c.1++d.1)≤_
  rw[iV]
  omega
 split
 ·unfold Bt
  split
  ·rename_i x
   rw[Fj]at h3
   split
   ·rename_i hh
    obtain⟨y,hy⟩:=List.length_eq_one_iff.1 hh.2
    show jo (fp x).1≤_
    rw[hy,Fj,OS (c:=x) (d:=y) (by rw[hy];exact List.mem_singleton.2 rfl)]
    omega
   ·simp[jo]
  ·simp[jo]
 ·simp[jo]
def upO (n m:Nat) (o:Ob):Prop:=o.2.length≤n∧jo o.2≤m
theorem ZJ {p:bI} {cs:List bt}: ∀{l:List Ex},(∀a∈l,∀o∈kF p a cs,upO (cs.length+a.sz) (jo cs+40*a.sz) o)→ ∀o∈sy p l cs,upO (cs.length+Ex.szs l) (jo cs+40*Ex.szs l) o
 | [],_,o,ho=>by rw[sy]at ho;cases ho
 |a::r,h,o,ho=>by
  rw[sy]at ho
  rcases List.mem_append.1 ho with ho|ho
  ·obtain⟨h1,h2⟩:=h a List.mem_cons_self o ho
   exact⟨by simp only[Ex.szs];omega,by simp only[Ex.szs];omega⟩
  ·obtain⟨h1,h2⟩:=ZJ (λb hb=>h b (List.mem_cons_of_mem _ hb)) o ho
   exact⟨by simp only[Ex.szs];omega,by simp only[Ex.szs];omega⟩
theorem ack (p:bI) (e:Ex):jO e→Uj e→ ∀cs,∀o∈kF p e cs,upO (cs.length+e.sz) (jo cs+40*e.sz) o:=by
 refine Ex.ind (p:=λe=>jO e→Uj e→ ∀cs,∀o∈kF p e cs,upO (cs.length+e.sz) (jo cs+40*e.sz) o) (λe ih hn h cs o ho=> ?_) e
 have z: ∀a∈e.args,∀cs,∀o∈kF p a cs,upO (cs.length+a.sz) (jo cs+40*a.sz) o:=λa ha=>ih a ha (aV hn ha) (wM h ha)
 have hz:=Ex.sz_eq e
 rw[pV]at ho
 rcases List.mem_append.1 ho with ho|ho
 ·split at ho
  ·obtain⟨c,hc,rfl⟩:=List.mem_map.1 ho
   exact⟨by show cs.length≤_;omega,by show jo cs≤_;omega⟩
  ·cases ho
 ·split at ho
  ·have J: ∀a∈e.args,jo (bA a).1≤40*a.sz∧(bA a).1.length≤a.sz:=λa ha=>⟨Z1 a (wM h ha),(mw a (aV hn ha)).1⟩
   have K: ∀a∈e.args,jo (bA (fh a)).1≤40*(fh a).sz∧(bA (fh a)).1.length≤(fh a).sz:=λa ha=>⟨Z1 _ (XY (wM h ha)),(mw _ (AZ (aV hn ha))).1⟩
   have T: ∀a,(fh a).sz=1+a.sz:=λa=>by rw[Ex.sz_eq];simp[fh,Ex.args,Ex.szs]
   generalize e.args=l at*
   match l with
   | []=>cases ho
   | [a]=>cases ho
   | [a,b]=>cases ho
   |a::b::c::r=>
    have f1:=J a (by simp)
    have f2:=K a (by simp)
    rw[T a]at f2
    simp only[Ex.szs]at hz
    simp only[XN,List.mem_append]at ho
    rcases ho with(ho|ho)|ho
    ·obtain⟨h1,h2⟩:=z a (by simp) cs o ho
     exact⟨by omega,by omega⟩
    ·obtain⟨h1,h2⟩:=z b (by simp) _ o ho
     rw[List.length_append]at h1
     rw[iV]at h2
     exact⟨by omega,by omega⟩
    ·obtain⟨h1,h2⟩:=z c (by simp) _ o ho
     rw[List.length_append]at h1
     rw[iV]at h2
     exact⟨by omega,by omega⟩
  ·obtain⟨h1,h2⟩:=ZJ (λa ha=>z a ha cs) o ho
   exact⟨by omega,by omega⟩
theorem OZ {f x:bY} (h:f.2.length≤1000) (hx:x.2.length≤1000): ∀c∈eP f x,c.1.2.length≤2000:=by
 intro c hc
 simp only[eP,List.mem_cons,List.not_mem_nil,or_false]at hc
 rcases hc with rfl|rfl
 ·show f.2.length≤_
  omega
 ·show(if _ then _ else _:bY).2.length≤_
  split
  ·have:=Fs f x
   omega
  ·simp
theorem Yy {p:bI} (hp: ∀s,∀l∈uW p s,l.2.length≤1000) (e:Ex):jO e→ ∀cs,∀o∈kF p e cs,o.1.1.2.length≤2000:=by
 have key: ∀l:List Ex,∀cs,(∀a∈l,∀o∈kF p a cs,o.1.1.2.length≤2000)→ ∀o∈sy p l cs,o.1.1.2.length≤2000:=by
  intro l cs
  induction l with
  |nil=>intro _ o ho;rw[sy]at ho;cases ho
  |cons a r V=>
   intro h o ho
   rw[sy]at ho
   rcases List.mem_append.1 ho with ho|ho
   ·exact h a List.mem_cons_self o ho
   ·exact V (λb hb=>h b (List.mem_cons_of_mem _ hb)) o ho
 refine Ex.ind (p:=λe=>jO e→ ∀cs,∀o∈kF p e cs,o.1.1.2.length≤2000) (λe ih h cs o ho=> ?_) e
 have z: ∀a∈e.args,∀cs,∀o∈kF p a cs,o.1.1.2.length≤2000:=λa ha=>ih a ha (aV h ha)
 rw[pV]at ho
 rcases List.mem_append.1 ho with ho|ho
 ·split at ho
  ·obtain⟨c,hc,rfl⟩:=List.mem_map.1 ho
   obtain⟨q,hq,hc⟩:=List.mem_flatMap.1 hc
   have hf:=(h.2 e (jG e)).2
   have O:=(List.of_mem_zip hq).1
   unfold BJ at hc
   split at hc
   ·exact OZ (hf q.1.1 (List.mem_cons_of_mem _ (List.mem_flatMap.2 ⟨q.1,O,List.mem_cons_self⟩))).2 (hp _ _ (List.of_mem_zip hq).2) c hc
   ·obtain⟨r,hr,hc⟩:=List.mem_flatMap.1 hc
    exact OZ (hf r.1 (List.mem_cons_of_mem _ (List.mem_flatMap.2 ⟨q.1,O,List.mem_cons_of_mem _ (List.of_mem_zip hr).1⟩))).2 (hp _ _ (List.of_mem_zip hr).2) c hc
  ·cases ho
 ·split at ho
  ·generalize e.args=l at*
   match l with
   | []=>cases ho
   | [a]=>cases ho
   | [a,b]=>cases ho
   |a::b::c::r=>
    simp only[XN,List.mem_append]at ho
    rcases ho with(ho|ho)|ho
    ·exact z a (by simp) _ o ho
    ·exact z b (by simp) _ o ho
    ·exact z c (by simp) _ o ho
  ·exact key _ cs (λa ha=>z a ha cs) o ho
def Jc (p:bI) (env:List bJ):Prop:=(p.defs.length≤8∧ ¬jh p)∧p.wher.length≤4∧env.length≤20∧(∀m∈env,m.2≤6)∧ ∀d∈p.defs,d.dims.length+d.red.length≤5
instance (p:bI) (env:List bJ):Decidable (Jc p env):=Classical.propDecidable _
theorem Jd (p:bI) (env:List bJ):ac Tryz.prog DD [fO p,j5 mP env] (Go.Abs.B (decide (Jc p env))):=by
 refine ac.of Mv (by simp) λhb=>aa ?_
 conv in Dn=>cbv
 have ps:=EH p
 by_cases hs:p.defs.length≤8∧ ¬jh p
 ·rw[decide_eq_true hs]at ps
  by_cases hw:p.wher.length≤4
  ·by_cases hl:env.length≤20
   ·obtain⟨R,hR⟩: ∃R,R=decide (Jc p env):=⟨_,rfl⟩
    rw[←hR]
    have hT:(∀m∈env,m.2≤6)→(∀d∈p.defs,d.dims.length+d.red.length≤5)→R=true:=λh1 h2=>by rw[hR,decide_eq_true (show Jc p env from⟨hs,hw,hl,h1,h2⟩)]
    have hE: ∀k (h:k<env.length),¬env[k].2≤6→R=false:=λk h h1=>by rw[hR,decide_eq_false];exact λhf=>h1 (hf.2.2.2.1 _ (List.getElem_mem h))
    have hD: ∀k (h:k<p.defs.length),¬p.defs[k].dims.length+p.defs[k].red.length≤5→R=false:=λk h h1=>by rw[hR,decide_eq_false];exact λhf=>h1 (hf.2.2.2.2 _ (List.getElem_mem h))
    have hH:=hs.1
    have HT:=Lib.hid hT
    have HE:=Lib.hid hE
    have HD:=Lib.hid hD
    have W: ∀d∈p.defs,d.dims.length≤300000∧d.red.length≤300000:=λd hd=>⟨by have:=((pU hs.2).2 d hd).1;omega,by have:=((pU hs.2).2 d hd).2.1;omega⟩
    clear hT hE hD hR hs hb
    repeat' first|simp(disch:=omega)only[go_sem, *]|(with_reducible apply ab)<;>intro h<;>try omega|with_reducible apply ag|with_reducible refine aj (λh=> ?_) ?_|refine aF ps rfl rfl ?_
    refine an (λk:Nat=>⟨[(1,j5 mP env),(2,.c (.ptr 0 0)),(5,I k)], [(0,eV p)],1,0⟩) (λk=>k≤env.length∧el (λj=> ∀h:j<env.length,env[j].2≤6) k) (λk=>env.length-k) ⟨0, [],⟨by omega,.zero⟩,by simp⟩ ?_
    clear ps
    rintro k ⟨hk,u⟩
    refine aa ?_
    by_cases A:k<env.length
    ·by_cases h6:env[k].2≤6
     ·have HA:=Lib.hid (u.succ λ_=>h6)
      clear u
      repeat' first|simp(disch:=omega)only[go_sem, *,ah A,mP,wrap_i64]|(with_reducible apply ab)<;>intro h<;>try omega
      exact⟨k+1, [],⟨by omega,HA.out⟩,by omega,by simp⟩
     ·have e:=HE.out k A h6
      subst e
      clear u
      repeat' first|simp(disch:=omega)only[go_sem, *,ah A,mP]|(with_reducible apply ab)<;>intro h<;>try omega
    ·have HA:=Lib.hid<|show ∀m∈env,m.2≤6 from λm (hm:m∈env)=>by
      obtain⟨j,hj,rfl⟩:=List.mem_iff_getElem.1 hm
      exact u j (by omega) hj
     clear u
     repeat' first|simp(disch:=omega)only[go_sem, *]|(with_reducible apply ab)<;>intro h<;>try omega
     refine an (λk:Nat=>⟨[(2,.c (.ptr 0 0)),(6,I k)], [(0,eV p)],1,0⟩) (λk=>k≤p.defs.length∧el (λj=> ∀h:j<p.defs.length,p.defs[j].dims.length+p.defs[j].red.length≤5) k) (λk=>p.defs.length-k) ⟨0, [],⟨by omega,.zero⟩,by simp⟩ ?_
     rintro i ⟨hi,u⟩
     refine aa ?_
     by_cases A:i<p.defs.length
     ·have hI:=W _ (List.getElem_mem A)
      by_cases h6:p.defs[i].dims.length+p.defs[i].red.length≤5
      ·have HB:=Lib.hid (u.succ λ_=>h6)
       clear u
       repeat' first|simp(disch:=omega)only[go_sem, *,ah A,da,wrap_i64]|(with_reducible apply ab)<;>intro h<;>try omega
       exact⟨i+1, [],⟨by omega,HB.out⟩,by omega,by simp⟩
      ·have e:=HD.out i A h6
       subst e
       clear u
       repeat' first|simp(disch:=omega)only[go_sem, *,ah A,da,wrap_i64]|(with_reducible apply ab)<;>intro h<;>try omega
     ·have e:=HT.out HA.out λm (hm:m∈p.defs)=>by
       obtain⟨j,hj,rfl⟩:=List.mem_iff_getElem.1 hm
       exact u j (by omega) hj
      subst e
      clear u
      repeat' first|simp(disch:=omega)only[go_sem, *]|(with_reducible apply ab)<;>intro h<;>try omega
   ·rw[decide_eq_false (show ¬Jc p env from λh=>hl h.2.2.1)]
    clear hs hb
    repeat' first|simp(disch:=omega)only[go_sem, *]|(with_reducible apply ab)<;>intro h<;>try omega|with_reducible apply ag|with_reducible refine aj (λh=> ?_) ?_|refine aF ps rfl rfl ?_
  ·rw[decide_eq_false (show ¬Jc p env from λh=>hw h.2.1)]
   clear hs hb
   repeat' first|simp(disch:=omega)only[go_sem, *]|(with_reducible apply ab)<;>intro h<;>try omega|with_reducible apply ag|with_reducible refine aj (λh=> ?_) ?_|refine aF ps rfl rfl ?_
 ·rw[decide_eq_false (show ¬Jc p env from λh=>hs h.1)]
  rw[decide_eq_false hs]at ps
  clear hs hb
  repeat' first|simp(disch:=omega)only[go_sem, *]|(with_reducible apply ab)<;>intro h<;>try omega|with_reducible apply ag|with_reducible refine aj (λh=> ?_) ?_|refine aF ps rfl rfl ?_
end
end Go.Proofs.YthbcbaembicdbaaGreatDoor
namespace Go.Abs
open Go.RowKit
noncomputable section
theorem au.lift2 {P:Program} {f:FuncId} {args pargs:List AV} {mem:List (Nat×bc)} {nx e sz:Nat} {rows:List (List PC)} (h:au P f pargs [] 0 (.c (.ref 0)) [(0,.arr e sz rows)] 1) (hp:bG mem args=some pargs) (hn:args.all fS=true):
  au P f args mem nx (.c (.ref nx)) ((nx,.arr e sz rows)::mem) (nx+1):=by
 refine⟨h.1,λw0 U ι w vs hs hr=> ?_⟩
 have hB:=hs.below.size
 obtain⟨g1,g2⟩:=yV hs hr hp hn
 refine(h.2 w _ _ w vs g1 g2).mono ?_
 rintro en w' ⟨v,ι',rfl,h1,h2⟩
 obtain⟨cells,k0,k1,k2,k3⟩:=h1.box 0 (.arr e sz rows) rfl
 have hU: ∀ι'':Pl,(∀nm,nm<nx→ι'' nm=ι nm)→ι'' nx=ι' 0→ ∀b,aI w.heap.size (Gh.of (aI w0.heap.size U ι mem)) ι' [(0,.arr e sz rows)] b→aI w0.heap.size U ι'' ((nx,.arr e sz rows)::mem) b:=by
  intro ι'' e1 e2 b hf
  have H:=hf.2 0 _ rfl
  obtain⟨E,_⟩:=hf
  rcases E with E|E
  ·refine⟨E.1,λnm bx C=> ?_⟩
   rw[bS]at C
   by_cases hh:nx=nm
   ·subst hh
    rw[e2]
    exact H
   ·rw[if_neg hh]at C
    rw[e1 _ (hs.names _ _ C)]
    exact E.2 _ _ C
  ·refine⟨.inr (Nat.le_trans hB E),λnm bx C hc=> ?_⟩
   rw[bS]at C
   by_cases hh:nx=nm
   ·subst hh
    rw[e2]at hc
    exact H hc
   ·rw[if_neg hh]at C
    rw[e1 _ (hs.names _ _ C)]at hc
    have:=((hs.box _ _ C).block hc).2
    have h9:w.heap.size≤b:=E
    exact absurd this (by show ¬b<_;omega)
 obtain⟨ι'',j1,j2,j3,j4⟩:=hs.newBox (pv:=ι' 0) (bx:= .arr e sz rows) h1.below (λb hb=>by
  rcases k1.2 with⟨e,_⟩|⟨g,cap,cur,e,hg,_⟩
  ·rw[e]at hb;cases hb
  ·rw[e]at hb
   simp[bF]at hb
   omega) (λι'' e1 e2 X=>⟨cells,k0,by rw[e2];exact su k1 hB,k2,k3.mono (λb _ hf=>hU ι'' e1 e2 b hf) (λb _ _=>rfl)⟩)
 have hv:v=ι' 0:=by
  cases h2 with
  |c x0=>cases x0 with
   |ref _ _=>rfl
 refine⟨_,ι'',rfl,j1, ?_⟩
 rw[hv,←j2]
 refine .c (.ref (Nat.lt_succ_self _) ?_)
 rw[j2]
 rcases k1.2 with⟨e,_⟩|⟨g,cap,cur,e,_⟩
 ·exact⟨_,_,_,e⟩
 ·exact⟨_,_,_,e⟩
end
end Go.Abs
namespace Go.Proofs.YthbcbaembicdbaaGreatDoor
open Go.Abs Go.RowKit
noncomputable section
def Uy (p:bI) (d:Nat):List bt:=match p.defs[d]? with
 |some d=>Ci p d
 |none=> []
theorem uA {p:bI} {d:Nat} (h:d<p.defs.length):Uy p d=Ci p p.defs[d]:=by
 unfold Uy
 rw[List.getElem?_eq_getElem h]
def nY (p:bI) (x:Jp):List bt:=Uy p x.1++x.2.2.2
abbrev aOb (d k:Int) (o:Ob):AV:= .agg [.pure (pI d),.pure (pI k),.pure (pI o.1.1.1),.pure (aw o.1.1.2),.pure (pB o.1.2),.pure (du cP o.2)]
abbrev rw6 (x:Jp):List PC:= [pI x.1,pI x.2.1,pI x.2.2.1.1.1,aw x.2.2.1.1.2,pB x.2.2.1.2,du cP x.2.2.2]
abbrev XH:=Jp×List Int
abbrev Zv (y:XH):List PC:= [pI y.1.1,pI y.1.2.1,pI y.1.2.2.1.1.1,aw y.1.2.2.1.1.2,pB y.1.2.2.1.2,yy y.2]
abbrev Zi (l:List XH):AV:=j5 Zv l
def xc (p:bI) (fuel:Int):List Jp→Nat→List XH→List XH×Int×Int
 | [],_,acc=>(acc,0,0)
 |x::r,i,acc=>if(uc (nY p x) x.2.2.1 fuel).2.2≠0 then([],i,(uc (nY p x) x.2.2.1 fuel).2.2)else if(uc (nY p x) x.2.2.1 fuel).2.1=false then([],i,17)else xc p fuel r (i+1) (acc++ [(x,(uc (nY p x) x.2.2.1 fuel).1)])
def Xq (p:bI) (fuel:Int):List XH×Int×Int:=if(bQ p).2≠0 then([],bQ p)else xc p fuel (qM p) 0 []
theorem RN {p:bI} {fuel:Int} {l:List Jp} {i:Nat} {acc:List XH} {q:List Int×Bool×Int} (h:i<l.length) (hr:uc (nY p l[i]) l[i].2.2.1 fuel=q):xc p fuel (l.drop i) i acc=if q.2.2≠0 then([],(i:Int),q.2.2)else if q.2.1=false then([],(i:Int),17)else xc p fuel (l.drop (i+1)) (i+1) (acc++ [(l[i],q.1)]):=by
 rw[List.drop_eq_getElem_cons h,xc,hr]
theorem PA {p:bI} {fuel:Int} {l:List Jp} {i:Nat} {acc:List XH} (h:l.length≤i):xc p fuel (l.drop i) i acc=(acc,0,0):=by
 rw[List.drop_of_length_le h,xc]
def X8 (p:bI) (x:Jp):Prop:= ∃h:x.1<p.defs.length,PG p p.defs[x.1]∧Qo x.2.2∧(∀c∈nY p x,bX c)∧(nY p x).length≤10000∧jo (nY p x)+x.2.2.1.1.2.length≤1000000
theorem w9 {p:bI} {x:Jp} (h:X8 p x):ac Tryz.prog jP [fO p,aOb x.1 x.2.1 x.2.2] (bT (nY p x)):=by
 obtain⟨hk,ha,_,_,hl,_⟩:=h
 refine ac.of yP (by simp) λhb=>aa ?_
 have pa:=uu hk ha
 have Y:bl 3 (x.2.2.2.map cP):=av λx=>rfl
 have HM:=Lib.hid (List.map_append (f:=cP) (l₁:=Ci p p.defs[x.1]) (l₂:=x.2.2.2)).symm
 unfold nY at*
 rw[uA hk]at*
 rw[List.length_append]at hl
 conv in oX=>cbv
 clear hb ha
 repeat' first|simp(disch:=omega)only[go_sem, *]|(with_reducible apply ab)<;>intro h<;>try omega|with_reducible apply ag|with_reducible refine aj (λh=> ?_) ?_|refine ap (pa.lift2 rfl rfl) ?_|refine aJ rfl (by intro h;cases h) Y (by simp;omega) (by simp;omega) ?_
 all_goals rw[HM.out]
theorem Ck {p:bI} {fuel:Int} (hf:j0 p) (G:pR p) (M:(bQ p).2=0→aaf p) (D:(bQ p).2=0→Qb p) (N:(bQ p).2=0→ ∀x∈qM p,X8 p x) (Z:ay fuel):
  ac Tryz.prog uo [fO p,I fuel] (.tup [Zi (Xq p fuel).1,I (Xq p fuel).2.1,I (Xq p fuel).2.2]):=by
 refine ac.of DZ (by simp) λhb=>aa ?_
 conv in vq=>cbv
 clear hb
 have pv:=lQ hf G
 unfold Xq
 by_cases h0:(bQ p).2=0
 ·have pc:=rf (M h0)
  have pa:=Fv hf (D h0)
  have hG:=PI (D h0)
  have hp:=N h0
  have pm: ∀x∈qM p,ac Tryz.prog jP [fO p,aOb x.1 x.2.1 x.2.2] (bT (nY p x)):=λx hx=>w9 (hp x hx)
  have pi: ∀x∈qM p,ac Tryz.prog il [bT (nY p x),jM x.2.2.1,I fuel] (Zb (uc (nY p x) x.2.2.1 fuel)):=λx hx=>by
   obtain⟨_,_,q1,q2,q3,q4⟩:=hp x hx
   exact oD q2 q1.1 q3 q4 Z
  rw[if_neg (not_not_intro h0)]
  rw[h0]at pv
  clear h0 M D N hp G
  generalize qM p=L at*
  obtain⟨R,hR⟩: ∃R,R=xc p fuel L 0 []:=⟨_,rfl⟩
  rw[←hR]
  have HR:Hid (xc p fuel (L.drop 0) 0 []=R):=Lib.hid hR.symm
  clear hR
  repeat' first|simp(disch:=omega)only[go_sem, *]|(with_reducible apply ab)<;>intro h<;>try omega|with_reducible apply ag|with_reducible refine aj (λh=> ?_) ?_|refine aF pv rfl rfl ?_|refine cg pc rfl rfl ?_|refine cg pa rfl rfl ?_
  refine dR 9 53 6 rfl (by decide) ?_
  refine an (λx:Nat×List XH=>⟨[(1,I fuel),(2,.c (.ptr 0 0)),(9,.c (.ref 1)),(27,j5 a6 L),(28,I L.length),(29,I x.1)], [(1,.arr 53 6 (x.2.map Zv)),(0,eV p)],2,0⟩) (λx=>x.1≤L.length∧x.2.length=x.1∧Hid (xc p fuel (L.drop x.1) x.1 x.2=R)) (λx=>L.length-x.1) ⟨(0, []), [],⟨by omega,rfl,HR⟩,by simp⟩ ?_
  clear pv pc pa HR
  rintro⟨i,acc⟩ ⟨hi,D,hr⟩
  refine aa ?_
  simp only at hi D
  have hd:=hr.out
  simp only at hd
  clear hr
  by_cases A:i<L.length
  ·have p1:=pm _ (List.getElem_mem A)
   have p2:=pi _ (List.getElem_mem A)
   have g1:(L.map a6)[i]? =some (rw6 L[i]):=ah (f:=a6) A
   obtain⟨q,hq⟩: ∃q,q=uc (nY p L[i]) L[i].2.2.1 fuel:=⟨_,rfl⟩
   rw[RN A hq.symm]at hd
   rw[←hq]at p2
   clear hq pm pi
   obtain⟨by',ok,e⟩:=q
   simp only at hd p2
   by_cases h0:e=0
   ·subst h0
    rw[if_neg (by simp)]at hd
    cases ok
    ·rw[if_pos rfl]at hd
     subst hd
     repeat' first|simp(disch:=omega)only[go_sem, *,g1]|(with_reducible apply ab)<;>intro h<;>try omega|with_reducible apply ag|with_reducible refine aj (λh=> ?_) ?_|refine cg p1 rfl rfl ?_|refine cg p2 rfl rfl ?_
     all_goals rfl
    ·rw[if_neg (by simp)]at hd
     have HD:=Lib.hid hd
     have HT:=Lib.hid (show acc.map Zv++ [Zv (L[i],by')]=(acc++ [(L[i],by')]).map Zv by simp)
     clear hd
     repeat' first|simp(disch:=omega)only[go_sem, *,g1,wrap_i64]|(with_reducible apply ab)<;>intro h<;>try omega|with_reducible apply ag|with_reducible refine aj (λh=> ?_) ?_|refine cg p1 rfl rfl ?_|refine cg p2 rfl rfl ?_|refine aJ rfl (by intro h;cases h) (aB rfl) (by simp;omega) (by simp;omega) ?_
     rw[HT.out]
     exact⟨(i+1,acc++ [(L[i],by')]), [(1,3)],⟨by omega,by simp;omega,HD⟩,by show _-_<_-_;omega,by simp⟩
   ·rw[if_pos h0]at hd
    subst hd
    repeat' first|simp(disch:=omega)only[go_sem, *,g1,h0]|(with_reducible apply ab)<;>intro h<;>try omega|with_reducible apply ag|with_reducible refine aj (λh=> ?_) ?_|refine cg p1 rfl rfl ?_|refine cg p2 rfl rfl ?_
    all_goals rfl
  ·rw[PA (by omega)]at hd
   subst hd
   repeat' first|simp(disch:=omega)only[go_sem, *]|(with_reducible apply ab)<;>intro h<;>try omega
   all_goals rfl
 ·rw[if_pos h0]
  clear M D N
  repeat' first|simp(disch:=omega)only[go_sem, *,h0]|(with_reducible apply ab)<;>intro h<;>try omega|refine aF pv rfl rfl ?_
  all_goals rfl
theorem SN {p:bI} (hl: ¬jh p) (h:(bQ p).2=0) {k:Nat} (hk:k<p.defs.length):Uj p.defs[k].body:=by
 obtain⟨⟨c1,c2,c3,c4,c5⟩,hs,hp,hd⟩:=lN h
 have hf:=pU hl
 obtain⟨f1,f2,f3,f4⟩:=hf.2 _ (List.getElem_mem hk)
 obtain⟨_,ht⟩:=wF hk (hd k hk)
 obtain⟨t1,t2⟩:=Cm ht
 have hr:=ro t1
 have hz: ∀a∈p.defs[k].body.pre,bh a=0:=by
  intro a ha
  unfold gZ at t1
  split at t1
  ·cases t1
  ·split at t1
   ·cases t1
   ·exact jd t1 _ (List.mem_map.2 ⟨a,ha,rfl⟩)
 have hA:=vr _ hr (λa ha=>(iT (hz a ha)).1) t2
 intro a ha l Q
 have hC:=(cj.1 ((iT (hz a ha)).2.2.2.2.2 l Q)).1
 have:=Li hC (L:=aW p.defs[k]++p.sizes) λm hm=>by
  rcases hA a ha l Q m hm with h|h
  ·exact List.mem_append_left _ h
  ·exact List.mem_append_right _ h
 have hJ:(aW p.defs[k]).length≤24:=by unfold aW;simp;omega
 have hF:p.sizes.length≤12:=Nat.le_of_not_lt λh=>hl (.inl (.inl h))
 simp only[List.length_append]at this
 omega
theorem R8 {n:Nat}: ∀{t:List bt},(∀c∈t,c.1.2.length≤n)→jo t≤n*t.length
 | [],_=>Nat.zero_le _
 |c::r,h=>by
  have h1:=h c List.mem_cons_self
  have h2:=R8 λd hd=>h d (List.mem_cons_of_mem _ hd)
  rw[jo,List.length_cons,Nat.mul_succ]
  omega
theorem Qm {p:bI} (hl: ¬jh p) (hL:LO p) (h:(bQ p).2=0) {k:Nat} (hk:k<p.defs.length):(∀c∈Ci p p.defs[k],bX c∧c.1.2.length≤30)∧(Ci p p.defs[k]).length≤100:=by
 have hf:=(pU hl).2 _ (List.getElem_mem hk)
 have hF:p.sizes.length≤12:=Nat.le_of_not_lt λh=>hl (.inl (.inl h))
 have hK:p.wher.length≤12:=Nat.le_of_not_lt λh=>hl (.inl (.inr (.inl h)))
 have hM:=(hL.2.2 _ (List.getElem_mem hk)).1
 have hN:(p.defs[k].dims++p.defs[k].red).length≤24:=by
  have:=hf.1
  have:=hf.2.1
  simp only[List.length_append]
  omega
 have D: ∀a∈p.defs[k].dims++p.defs[k].red,a.2.2.length≤20:=λa ha=>(List.mem_append.1 ha).elim (hf.2.2.1 a) (hf.2.2.2 a)
 refine⟨λc hc=> ?_, ?_⟩
 ·unfold Ci at hc
  rcases List.mem_append.1 hc with hc|hc
  ·rcases List.mem_append.1 hc with hc|hc
   ·have hO: ¬20<c.1.2.length:=λhh=>hl (.inr (.inl ⟨c,hc,hh⟩))
    exact⟨hL.1 c hc,by omega⟩
   ·obtain⟨s,_,rfl⟩:=List.mem_map.1 hc
    exact⟨⟨by show ay (-1);decide,λm hm=>by rw[List.mem_singleton.1 hm];show ay 1;decide⟩,by show 1≤30;omega⟩
  ·obtain⟨a,ha,hc⟩:=List.mem_flatMap.1 hc
   have hv:bX (fV a.1,false)∧(fV a.1).2.length≤30:=⟨⟨by show ay 0;decide,λm hm=>by rw[List.mem_singleton.1 hm];show ay 1;decide⟩,by show 1≤30;omega⟩
   unfold Tw at hc
   split at hc
   ·rcases List.mem_cons.1 hc with rfl|hc
    ·exact hv
    ·rw[List.mem_singleton.1 hc]
     have:=Fs (fV a.1) a.2
     have:=D a ha
     have e1:(fV a.1).2.length=1:=rfl
     exact⟨Ld _ _,by show(eD (fV a.1) a.2).1.2.length≤30;omega⟩
   ·rw[List.mem_singleton.1 hc]
    exact hv
 ·have:=QK (l:=p.defs[k].dims++p.defs[k].red)
  unfold Ci
  simp only[List.length_append,List.length_map]at*
  omega
theorem Oo {p:bI} {x:Jp} (h:x∈qM p): ∃hd:x.1<p.defs.length,x.2.2∈kF p p.defs[x.1].body []:=by
 obtain⟨⟨d,k⟩,h1,h2⟩:=List.mem_flatMap.1 h
 obtain⟨⟨o,j⟩,h3,rfl⟩:=List.mem_map.1 h2
 obtain⟨hk,h4⟩:=List.getElem?_eq_some_iff.1 (List.mem_zipIdx_iff_getElem?.1 h1)
 refine⟨hk, ?_⟩
 have:=List.mem_of_getElem? (List.mem_zipIdx_iff_getElem?.1 h3)
 simp only at this h4 ⊢
 rw[h4]
 exact this
theorem Gf {p:bI} (hl: ¬jh p) (G:pR p) (hL:LO p) (h:(bQ p).2=0) {x:Jp} (hx:x∈qM p):X8 p x:=by
 obtain⟨hd,ho⟩:=Oo hx
 obtain⟨g1,g2⟩:=HQ hl G hL h hd
 have o64:=Zs p _ g1.1 [] (λc hc=>by cases hc) _ ho
 obtain⟨w1,w2⟩:=ack p _ g1.1 (SN hl h hd) [] _ ho
 obtain⟨a1,a2⟩:=Qm hl hL h hd
 have a3:=R8 λc hc=>(a1 c hc).2
 have hP:=Yy (p:=p) (λs l hm=>by
  unfold uW at hm
  split at hm
  ·rename_i y hy
   exact(y1 (pU hl) hL (t:=y.1) (ds:=y.2) hy l hm).2
  ·cases hm) _ g1.1 [] _ ho
 simp only[List.length_nil,jo]at w1 w2
 refine⟨hd,KV hl hL h _ hd,o64,λc hc=> ?_, ?_, ?_⟩
 ·unfold nY at hc
  rw[uA hd]at hc
  exact(List.mem_append.1 hc).elim (λhc=>(a1 c hc).1) (λhc=>o64.2 c hc)
 ·unfold nY
  rw[uA hd,List.length_append]
  omega
 ·unfold nY
  rw[uA hd,iV]
  omega
