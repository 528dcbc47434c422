import Derived.Test.YtiapgekjmcjjgaaGreatDoorAbsQ
set_option linter.unusedVariables false
set_option linter.unusedSimpArgs false
namespace Go.Abs
open Go.RowKit
section
variable {P : Program} {σ : St} {nt : Nat}
theorem Fe {c:bi} {Q:bP→St→Prop} (nm i:Nat) (xs:List AC) (hf:al σ.mem nm=some (.var xs)) (hi:xs[i]? =some .nils)
  (h:AW P nt c {σ with mem:=dJ σ.mem nm (.var (xs.set i (.pure (.slice []))))} Q):AW P nt c σ Q:=by
 intro c' hc w0 U rd ds ι a w HM hs hz
 obtain⟨b,vs,T,g1,g2,g3,g4⟩:=hs.box _ _ hf
 have H2:=hs.setBox (cs:=vs) hf (b:=b) (by rw[g1];rfl) (bx:= .var (xs.set i (.pure (.slice [])))) ⟨b,vs,T,g1,g2,setRow_heap _ _ _ _ _ _ g3,by
  rw[setRow_self w b vs T _ g3]
  refine aM.of_get (by rw[List.length_set];exact g4.length) λj x v hj hv=> ?_
  rw[List.getElem?_set]at hj
  by_cases e1:i=j
  ·subst e1
   have A:=(List.getElem?_eq_some_iff.1 hi).1
   rw[if_pos rfl,if_pos A]at hj
   cases hj
   obtain⟨v',gD,hr⟩:=g4.get hi
   rw[gD]at hv
   cases hv
   have:v= .slice none 0 0:=by cases hr;rfl
   rw[this]
   exact .pure .nil
  ·rw[if_neg e1]at hj
   obtain⟨v',gD,hr⟩:=g4.get hj
   rw[gD]at hv
   cases hv
   exact hr⟩
 rw[setRow_self w b vs T _ g3]at H2
 exact h c' hc w0 U rd ds ι a w HM H2 hz
theorem vT {c:bi} {Q:bP→St→Prop} (t:Nat) (ht:bc σ.fr t= .c .nils) (h:AW P nt c {σ with fr:=(t,.c (.tsl []))::σ.fr} Q):AW P nt c σ Q:=by
 intro c' hc w0 U rd ds ι a w HM hs hz
 refine h c' hc w0 U rd ds ι a w HM ⟨λs=> ?_,hs.defers,hs.names,hs.box,hs.apart,hs.below,hs.keep,hs.base⟩ hz
 show aX w (aE w0.heap.size U ι σ.mem) ι σ.nx (bc ((t,.c (.tsl []))::σ.fr) s) _
 rw[fy]
 by_cases es:t=s
 ·subst es
  rw[if_pos rfl]
  have hv:=hs.val t
  rw[ht]at hv
  generalize a.tmps.getD t undef=v at hv
  cases hv with
  |c hv=>cases hv;exact .c (.tsl .nil)
 ·rw[if_neg es]
  exact hs.val s
end
theorem aw.perm {P:Program} {f:FuncId} {args:List AV} {mem mem2 mem':List (Nat×bk)} {nx nx':Nat} {res:AV} (h:aw P f args mem nx res mem' nx') (hp: ∀nm,al mem2 nm=al mem nm):aw P f args mem2 nx res mem' nx':=by
 refine⟨h.1,λw0 U ι w vs hs hr=> ?_⟩
 have C:bV w0 U ⟨[],mem,nx,nx⟩ ι {tmps:= #[],defers:= []} w:=hs.sub (mem:=mem) (λn bx hf=>by show al mem2 n=_;rw[hp];exact hf)
 exact h.2 w0 U ι w vs C (hr.mono λa b h=>h.mono (λb _ h=>⟨h.1,λnm bx hf=>h.2 nm bx (by rw[hp];exact hf)⟩) (λ_ _ _=>rfl) (λ_ _=>rfl) (Nat.le_refl _))
def CM:AC→Bool
 | .pure _=>true
 | .nils=>true
 | .tsl _=>true
 |_=>false
def pu:bk→Bool
 | .var xs=>xs.all CM
 | .arr _ _ _=>true
 |_=>false
def dq (N:Nat):List Nat→List (Nat×bk)→Prop
 |_, []=>True
 |seen,(nm,b)::r=>nm<N∧pu b=true∧iI nm seen∧dq N (nm::seen) r
theorem dB {n:Nat}: ∀{l:List Nat},iI n l↔ ∀m∈l,n≠m
 | []=>by simp[iI]
 |m::r=>by simp[iI,dB (l:=r)]
theorem dq.mem {N:Nat}: ∀{F:List (Nat×bk)} {s:List Nat},dq N s F→ ∀x∈F,x.1<N∧pu x.2=true∧iI x.1 s
 | [],s,_,x,hx=>by cases hx
 |(nm,b)::r,s,h,x,hx=>by
  rcases List.mem_cons.1 hx with rfl|hx
  ·exact⟨h.1,h.2.1,h.2.2.1⟩
  ·obtain⟨h1,h2,h3⟩:=dq.mem h.2.2.2 x hx
   exact⟨h1,h2,h3.2⟩
theorem dq.find {N:Nat}: ∀{F:List (Nat×bk)} {s:List Nat},dq N s F→ ∀x∈F,al F x.1=some x.2
 | [],s,_,x,hx=>by cases hx
 |(nm,b)::r,s,h,x,hx=>by
  rcases List.mem_cons.1 hx with rfl|hx
  ·simp[al]
  ·have h3:=(dq.mem h.2.2.2 x hx).2.2.1
   rw[al,if_neg (λe=>h3 e.symm)]
   exact dq.find h.2.2.2 x hx
theorem dq.mono {N N':Nat} (hN:N≤N'): ∀{F:List (Nat×bk)} {s s':List Nat},dq N s F→(∀n,n<N→iI n s→iI n s')→dq N' s' F
 | [],s,s',_,_=>trivial
 |(nm,b)::r,s,s',h,hs=>⟨Nat.lt_of_lt_of_le h.1 hN,h.2.1,hs _ h.1 h.2.2.1,dq.mono hN h.2.2.2 (λn hn h'=>⟨h'.1,hs _ hn h'.2⟩)⟩
theorem Gv {n:Nat}: ∀{F:List (Nat×bk)},(∀x∈F,x.1≠n)→lz F n=F
 | [],_=>rfl
 |(nm,b)::r,h=>by
  rw[lz,if_neg (h _ List.mem_cons_self),Gv (λx hx=>h x (List.mem_cons_of_mem _ hx))]
theorem dq.del {N n:Nat} {F:List (Nat×bk)} {s:List Nat} (h:dq N s F) (hn:n∈s∨N≤n):lz F n=F:=
 Gv λx hx e=>by
  obtain⟨h1,_,h3⟩:=h.mem x hx
  rcases hn with hn|hn
  ·exact dB.1 h3 n hn e
  ·omega
theorem MT {x:AC} (h:CM x=true) (nm:Nat) (rows:List (List PC)):gS nm rows x=x:=by cases x<;>simp_all [CM,gS]
theorem OM {b:bk} (h:pu b=true) (nm:Nat) (rows:List (List PC)):ub nm rows b=b:=by
 cases b with
 |var xs=>
  simp only[pu,List.all_eq_true]at h
  simp only[ub]
  rw[List.map_congr_left (λx hx=>MT (h x hx) nm rows)]
  simp
 |arr=>rfl
 |arn=>cases h
 |map=>cases h
theorem dq.frz {N n:Nat} {rows:List (List PC)}: ∀{F:List (Nat×bk)} {s:List Nat},dq N s F→n∈s∨N≤n→kJ n rows F=F
 | [],s,_,_=>rfl
 |(nm,b)::r,s,h,hn=>by
  have h0: ¬nm=n:=by
   rcases hn with hn|hn
   ·exact dB.1 h.2.2.1 n hn
   ·have:=h.1;omega
  rw[kJ,if_neg h0,OM h.2.1,dq.frz h.2.2.2 (hn.imp_left (List.mem_cons_of_mem _))]
theorem Nx {b:bk} (h:pu b=true) (l:List (Nat×Nat)):MQ l b=b:=by
 cases b with
 |var xs=>
  simp only[pu,List.all_eq_true]at h
  simp only[MQ]
  have: ∀x∈xs,dE l x=x:= λx hx=>by have:=h x hx;cases x<;>simp_all [CM,dE]
  rw[List.map_congr_left this]
  simp
 |arr=>rfl
 |arn=>cases h
 |map=>cases h
theorem Q9 {b:bk} (h:pu b=true) (N:Nat):TA N b:=by
 cases b with
 |var xs=>
  simp only[pu,List.all_eq_true]at h
  simp only[TA]
  induction xs with
  |nil=>trivial
  |cons x xs ih=>exact⟨by have:=h x List.mem_cons_self;cases x<;>simp_all [CM,j8],ih λy hy=>h y (List.mem_cons_of_mem _ hy)⟩
 |arr=>trivial
 |arn=>cases h
 |map=>cases h
theorem aF {α:Type} {k n:Nat} {a b:α} (h: ¬k=n):(if k=n then a else b)=b:=if_neg h
theorem aN {k n:Nat} {a b:Prop} (h: ¬k=n):(if k=n then a else b)=b:=if_neg h
theorem dq.wkAux {base N':Nat} {l:List (Nat×Nat)} {mem:List (Nat×bk)} (hl:eg base l) (hN:base≤N'): ∀{F:List (Nat×bk)} {s seen:List Nat},dq base s F→(∀n∈seen,n∈s∨base≤n)→(∀x∈F,al mem x.1=some x.2)→Qd l mem N' seen F
 | [],s,seen,_,_,_=>trivial
 |(nm,b)::r,s,seen,h,hs,hm=>by
  have e:rn l nm=nm:=Kq hl h.1
  refine⟨?_,Nat.lt_of_lt_of_le h.1 hN,Q9 h.2.1 _, ?_, ?_⟩
  ·rw[e,Nx h.2.1]
   exact hm _ List.mem_cons_self
  ·rw[e]
   refine dB.2 λm hm e=> ?_
   rcases hs m hm with h'|h'
   ·exact dB.1 h.2.2.1 m h' e
   ·have:=h.1;omega
  ·rw[e]
   refine dq.wkAux hl hN h.2.2.2 (λn hn=> ?_) (λx hx=>hm x (List.mem_cons_of_mem _ hx))
   rcases List.mem_cons.1 hn with rfl|hn
   ·exact .inl List.mem_cons_self
   ·exact(hs n hn).imp_left (List.mem_cons_of_mem _)
theorem dq.wk {base N':Nat} {l:List (Nat×Nat)} {mem F:List (Nat×bk)} {s seen:List Nat} (h:dq base s F) (hl:eg base l) (hN:base≤N') (hs: ∀n∈seen,n∈s∨base≤n)
  (hm: ∀nm bx,nm<base→iI nm s→al F nm=some bx→al mem nm=some bx):Qd l mem N' seen F:=
 dq.wkAux hl hN h hs λx hx=>by
  obtain⟨h1,_,h3⟩:=h.mem x hx
  exact hm _ _ h1 h3 (h.find x hx)
theorem dq.wkA {base N':Nat} {l:List (Nat×Nat)} {mem F:List (Nat×bk)} {s seen:List Nat} (h:dq base s F) (hl:eg base l:=by simp[eg];try omega) (hN:base≤N':=by simp;try omega) (hs: ∀n∈seen,n∈s∨base≤n:=by intro n hn;simp(disch:=omega) [rn,aF]at hn ⊢;omega)
  (hm: ∀nm bx,nm<base→iI nm s→al F nm=some bx→al mem nm=some bx:=by intro nm bx h1 h2 h3;simp only[iI]at h2;simp only[al,aj];(repeat(refine(aF (by omega)).trans ?_));exact h3):Qd l mem N' seen F:=h.wk hl hN hs hm
theorem av {l:List (Nat×Nat)} {mem r:List (Nat×bk)} {N nm:Nat} {seen:List Nat} {b:bk} (h1:al mem (rn l nm)=some (MQ l b)) (h2:nm<N) (h3:TA N b) (h4:iI (rn l nm) seen) (h5:Qd l mem N (rn l nm::seen) r):Qd l mem N seen ((nm,b)::r):=⟨h1,h2,h3,h4,h5⟩
theorem au {l:List (Nat×Nat)} {σ σ':St} (h1:kY l σ.fr σ'.nx σ'.fr) (h2:Qd l σ.mem σ'.nx [] σ'.mem) (h3:σ'.base=σ.base) (h4:σ.base≤σ'.nx) (h5:eg σ.base l):Wk l σ σ':=⟨h1,h2,h3,h4,h5⟩
theorem Gn (nm e sz:Nat) (rows:List (List PC)) {P:Program} {g:Bool} {f:FuncId} {args pargs:List AV} {σ:St} {K:mZ (AV→St→Prop)} {res:AV} (h:ac P f pargs res) (hf:al σ.mem nm=some (.arr e sz rows))
  (hp:bN (σ.frz nm rows).mem (args.map (nG nm rows))=some pargs) (hs:nh res=true∨(args.map (nG nm rows)).all gA=true) (hk:K.out res (σ.frz nm rows)): @qi P g true f args σ K:=
 QK [nm] h (by rw[aQ,hf];rfl) hp hs hk
theorem C9 (nm e sz:Nat) (rows:List (List PC)) {P:Program} {f:FuncId} {args:List AV} {σ:St} {K:mZ (AV→St→Prop)} {res:AV} {mem':List (Nat×bk)} {nx':Nat} (hf:al σ.mem nm=some (.arr e sz rows))
  (h:aw P f (args.map (nG nm rows)) (σ.frz nm rows).mem σ.nx res mem' nx') (hk:K.out res {σ.frz nm rows with mem:=mem',nx:=nx'}): @qi P true true f args σ K:=
 Pw [nm] (by rw[aQ,hf];rfl) h hk
open Go.RowKit
structure CS (P:Program) (l:Nat) (w:World) (xs:List (List AV)) (J:Option Nat→(Nat→Prop)→World→Prop):Prop where
 grow: ∀k S W W',J k S W→vC w.heap.size W W'→J k (λb=>S b∨W.heap.size≤b∧b<W'.heap.size) W'
 old: ∀k S W,J k S W→(∀b,S b→b<W.heap.size)∧w.heap.size≤W.heap.size∧qf W
 sub: ∀k S S' W,J k S W→(∀b,S' b→S b)→J k S' W
 round: ∀k x S W us,xs[k]? =some x→J (some k) S W→aM (aX W S (λ_=>undef) 0) x us.toList→ ∀m,YieldAt Fence.wide m P l us W λe W'=>
  ∃b:Bool,e= .returned (.bool b)∧J (if b=true then some (k+1)else none) S W'∧ ∀c,S c→W'.heap[c]? =W.heap[c]?
def ri (P:Program) (f:FuncId) (args:List AV) (xs:List (List AV)):Prop:=
 mz P f∧ ∀(l:Nat) (S:Nat→Prop) (J:Option Nat→(Nat→Prop)→World→Prop) (w:World) (vs:Array Value),qf w→
  aM (aX w S (λ_=>undef) 0) args vs.toList→CS P l w xs J→J (some 0) S w→
  Calls P f (#[.func (.yield l) #[] #[]]++vs) w λe w'=>(∃v,e= .returned v)∧ ∃k S',(k=some xs.length∨k=none)∧J k S' w'
def Gm:List Nat→List AV→List (Nat×AV)→List (Nat×AV)
 |p::ps,x::xs,fr=>Gm ps xs ((p,x)::fr)
 |_,_,fr=>fr
def Vt (P:Program) (nt:Nat) (body:bi) (Q:bP→St→Prop):bP→St→Prop
 | .normal,σ=>AW P nt body σ Q
 |_,_=>False
def Bh {τ:Type} (mk:Nat→τ→List (Nat×bk)×Nat) (I:Nat→τ→Prop) (bs:Nat) (fr0:List (Nat×AV)) (base:Nat) (Q:bP→St→Prop) (k:Nat):bP→St→Prop
 | .normal,σ=> ∃t l,I (k+1) t∧Wk l {σ with fr:= []} ⟨[],(mk (k+1) t).1,(mk (k+1) t).2,bs⟩
 | .exit i,σ=>σ.base=bs∧Q (.exit i) ⟨fr0,σ.mem,σ.nx,base⟩
 | .ret,σ=>σ.base=bs∧Q .ret ⟨fr0,σ.mem,σ.nx,base⟩
def vu:bP→Code
 | .normal=> .skip
 | .exit i=> .exit i
 | .ret=> .ret
section
variable {P : Program} {nt : Nat} {σ : St} {Q : bP → St → Prop}
theorem oL {a:Act}:sh [] a=a:=by
 cases a
 simp[sh]
theorem Dz {rd:Option Nat} {n m:Nat} {c:Code} {Q:Exit→Act→World→Prop} {a:Act} {w:World} (h:c.wpIn (FR rd) n P Q a w):c.wpIn (FR rd) m P Q a w:=
 λb k cs h1 h2 _=>h b k cs h1 h2 (λd hd=>by cases hd)
theorem zy {w:World} {V:Nat→Prop} {ι:Pl} {N:Nat}: ∀{ps:List Nat} {xs:List AV} {us:List Value} {fr:List (Nat×AV)} {tmps:Array Value},aM (aX w V ι N) xs us→(∀p∈ps,p<tmps.size)→
  (∀t,aX w V ι N (bc fr t) (tmps.getD t undef))→ ∀t,aX w V ι N (bc (Gm ps xs fr) t) (((ps.zip us).foldl (λtmps (x:Nat×Value)=>tmps.setIfInBounds x.1 x.2) tmps).getD t undef)
 | [],_,_,_,_,_,_,h,t=>by simpa[Gm]using h t
 |p::ps,_,_,fr,tmps,.nil,_,h,t=>by simpa[Gm]using h t
 |p::ps,_,_,fr,tmps,.cons (a:=x) (b:=u) hx hr,hp,h,t=>by
  refine zy (ps:=ps) (fr:=(p,x)::fr) (tmps:=tmps.setIfInBounds p u) hr (λq hq=>by rw[Array.size_setIfInBounds];exact hp q (List.mem_cons_of_mem _ hq)) (λs=> ?_) t
  have A:=hp p List.mem_cons_self
  rw[fy]
  by_cases e:p=s
  ·subst e
   rw[if_pos rfl]
   have:(tmps.setIfInBounds p u).getD p undef=u:=by simp[Array.getD_eq_getD_getElem?,A]
   rw[this]
   exact hx
  ·rw[if_neg e]
   have:(tmps.setIfInBounds p u).getD s undef=tmps.getD s undef:=by simp[Array.getD_eq_getD_getElem?,Array.getElem?_setIfInBounds,e]
   rw[this]
   exact h s
theorem xq: ∀{ps:List Nat} {us:List Value} {tmps:Array Value},((ps.zip us).foldl (λtmps (x:Nat×Value)=>tmps.setIfInBounds x.1 x.2) tmps).size=tmps.size
 | [],_,_=>by simp
 |_::_, [],_=>by simp
 |p::ps,u::us,tmps=>by
  rw[List.zip_cons_cons,List.foldl_cons,xq,Array.size_setIfInBounds]
theorem L6 {fx:AX} {ps:List Nat} {asg body:bi} {g:FuncId} {caps:List AC} {pcaps:List AV} {xs:List (List AV)} {τ:Type}
  (bs:Nat) (fr0:List (Nat×AV)) (mk:Nat→τ→List (Nat×bk)×Nat) (I:Nat→τ→Prop)
  (hf:fx.ev σ.fr= .c (.clo g caps)) (hp:bN σ.mem (caps.map .c)=some pcaps) (ga:(caps.map AV.c).all gA=true)
  (hY:ri P g pcaps xs) (HB: ∀x∈xs,x.length=ps.length) (hb:σ.base≤bs∧bs≤σ.nx) (HD:kY [] σ.fr bs fr0)
  (h0: ∃t l,I 0 t∧Wk l ⟨[],σ.mem,σ.nx,bs⟩ ⟨[],(mk 0 t).1,(mk 0 t).2,bs⟩)
  (hQ: ∀k x t,xs[k]? =some x→I k t→AW P nt asg ⟨Gm ps x fr0,(mk k t).1,(mk k t).2,bs⟩ (Vt P nt body (Bh mk I bs fr0 σ.base Q k)))
  (HN: ∀t,I xs.length t→Q .normal ⟨fr0,(mk xs.length t).1,(mk xs.length t).2,σ.base⟩):AW P nt (.rangeF fx ps asg body) σ Q:=by
 intro c' hc w0 U rd ds ι a w HM hs hz
 cases c'<;>simp[d8]at hc
 all_goals(try(split at hc<;>simp at hc))
 rename_i f' ps' asg' body' _ _ _ _ x2 x3 x4 gb qm X zg
 obtain⟨rfl,rfl,rfl,rfl⟩:=hc
 have qp: ∀p∈ps'.toList,p<nt:= λp hp=>by simpa using Array.all_eq_true_iff_forall_mem.1 zg p (Array.mem_toList_iff.1 hp)
 have ZR:=hs.below.size
 have hv:=aB gb hs
 rw[hf]at hv
 obtain⟨cv,zs,qs,hu⟩: ∃cv:Array Value,caps.length=cv.size∧(∀(i:Nat) x,caps[i]? =some x→b7 w (aE w0.heap.size U ι σ.mem) ι σ.nx x (cv.toList[i]?.getD undef))∧a.eval f'= .func (.func g) #[] cv:=by
  generalize a.eval f'=u at hv
  cases hv with
  |c h=>
   cases h with
   |clo hl h=>exact⟨_,hl,h,rfl⟩
 have qw:aM (aX w (aE w0.heap.size U ι σ.mem) ι σ.nx) (caps.map .c) cv.toList:=by
  refine aM.of_get (by simp[zs]) λi x v hi z0=> ?_
  rw[List.getElem?_map]at hi
  obtain⟨y,hy,rfl⟩:=Option.map_eq_some_iff.1 hi
  have:=qs i y hy
  rw[z0]at this
  exact .c this
 have z1:=ll (V:=aE w0.heap.size U ι σ.mem) hs qw (λ_ h=>h) (.inl ga) hp
 have hfree_lt: ∀{b:Nat},aE w0.heap.size U ι σ.mem b→True:= λ_=>trivial
 have hF: ∀args w,(callFunc g args).run P w= .ok (.enter g args) w:=by
  obtain⟨fn,gd,X,hH⟩:=hY.1
  have hb: ¬fn.body=none:=by intro e;rw[e]at X;cases X
  have hT : ¬ fn.name = "runtime.NumGoroutine" := by intro e; rw [e] at hH; simp at hH
  intro args w
  simp[callFunc,gd,hT,hb]
 refine wpIn_rangeFunc (F:=FR rd) λfn _=> ?_
 obtain⟨l,D,dfr,mark,w1,q0,HP,ge,z2,ZS,HE,go⟩: ∃(l D dfr:Nat) (mark:List Deferred) (w1:World),
   (Instr.enterLoop fn (sh ds a).tmps ps' asg' body' (FR rd).round).run P w= .ok (l,mark) w1∧Below w.heap.size w w1∧
   w1.heap[l]? =some (.loop {state:= .ready,pending:=none,fn,tmps:=a.tmps,params:=ps',assign:=asg',body:=body',defers:=dfr})∧w.heap.size≤l∧
   w1.heap.size=l+1∧(rd=none→w.heap.size≤D∧D≠l∧w1.heap[D]? =some (.deferred (some [])))∧((rd=none∧mark= [{target:= .collected D,args:= #[]}])∨((∃l0,rd=some l0)∧mark= [])):=by
  cases rd with
  |none=>
   refine⟨w.heap.size+1,w.heap.size,w.heap.size,_,_,run_enterLoop_outer _ _ _ _ _,((Below.refl _ w).alloc (Nat.le_refl _) _).alloc (by simp) _, ?_,by omega,by simp,λ_=>⟨Nat.le_refl _,by omega, ?_⟩,.inl ⟨rfl,rfl⟩⟩
   ·have:=World.alloc_heap_new (w.alloc (.deferred (some []))) (.loop {state:= .ready,pending:=none,fn,tmps:=a.tmps,params:=ps',assign:=asg',body:=body',defers:=w.heap.size})
    rwa [World.size_alloc]at this
   ·exact(Below.heap_alloc _ _ _ (by simp)).trans (World.alloc_heap_new w _)
  |some l0=>
   obtain⟨r0,z3⟩:=HM l0 rfl _ _ hs.keep
   exact⟨w.heap.size,0,r0.defers, [],_,run_enterLoop_inner z3 _ _ _ _ _,(Below.refl _ w).alloc (Nat.le_refl _) _,World.alloc_heap_new w _,Nat.le_refl _,by simp,(λh=>by cases h),.inr ⟨⟨l0,rfl⟩,rfl⟩⟩
 generalize q4:(λ(st:LoopState) (pe:Option Code)=>({state:=st,pending:=pe,fn,tmps:=a.tmps,params:=ps',assign:=asg',body:=body',defers:=dfr}:Loop))=rec
 have L: ∀st pe,rec st pe={state:=st,pending:=pe,fn,tmps:=a.tmps,params:=ps',assign:=asg',body:=body',defers:=dfr}:= λst pe=>by rw[←q4]
 rw[←L]at ge
 have q5:=(Array.getElem?_eq_some_iff.1 ge).1
 refine⟨l,mark,w1,{target:= .fn (.func g) cv,args:= #[.func (.yield l) #[] #[]]},w1,g, #[.func (.yield l) #[] #[]]++cv,w1,q0, ?_,λ_ _=>trivial, ?_,λh=>by simp[FR,Fence.wide]at h, ?_⟩
 ·have he:(sh ds a).eval f'= .func (.func g) #[] cv:=by rw[Ft];exact hu
  simp only[resolve,he]
  simp[go_sem]
 ·simp[invoke,go_sem,hF]
 let Stay:World→(Nat→Prop)→Prop:= λW V=>(∀b,b<w.heap.size→aE w0.heap.size U ι σ.mem b→V b∧W.heap[b]? =w.heap[b]?)∧(rd=none→V D∧W.heap[D]? =some (.deferred (some [])))
 have stay_mono: ∀(W W':World) (V V':Nat→Prop),Stay W V→(∀b,b<W.heap.size→V b→V' b)→(∀b,b<W.heap.size→V b→W'.heap[b]? =W.heap[b]?)→Stay W' V':=by
  rintro W W' V V' ⟨h2,h3⟩ hV hw
  refine⟨λb hb hf=> ?_,λe=> ?_⟩
  ·obtain⟨k1,k2⟩:=h2 b hb hf
   have A:b<W.heap.size:=by
    have:w.heap[b]? =some w.heap[b]:=by simp[hb]
    rw[this]at k2
    exact(Array.getElem?_eq_some_iff.1 k2).1
   exact⟨hV b A k1,(hw b A k1).trans k2⟩
  ·obtain⟨k1,k2⟩:=h3 e
   have A:=(Array.getElem?_eq_some_iff.1 k2).1
   exact⟨hV D A k1,(hw D A k1).trans k2⟩
 let Us:Loop→(Nat→Prop)→World→Gh:= λr S Ws=>⟨U.p,ι,λW V=>Stay W V∧V l∧W.heap[l]? =some (.loop r)∧(∀b,S b→b<Ws.heap.size∧V b∧W.heap[b]? =Ws.heap[b]?),λW W' V V' ⟨h1,h2,h3,h4⟩ hV hw=>by
  have A:=(Array.getElem?_eq_some_iff.1 h3).1
  refine⟨stay_mono W W' V V' h1 hV hw,hV l A h2,(hw l A h2).trans h3,λb hb=> ?_⟩
  obtain⟨q1,q2,q3⟩:=h4 b hb
  have A:b<W.heap.size:=by
   have:Ws.heap[b]? =some Ws.heap[b]:=by simp[q1]
   rw[this]at q3
   exact(Array.getElem?_eq_some_iff.1 q3).1
  exact⟨q1,hV b A q2,(hw b A q2).trans q3⟩⟩
 let Ur:Loop→Gh:= λr=>Us r (λ_=>False) w
 let Ue:Gh:=⟨U.p,U.ι0,λW V=>Stay W V,λW W' V V' h1 hV hw=>stay_mono W W' V V' h1 hV hw⟩
 have stayU: ∀W V,Stay W V→U.G W V:= λW V h=>U.mono w W _ V hs.keep (λb hb hf=>(h.1 b hb hf).1) (λb hb hf=>(h.1 b hb hf).2)
 have vB: ∀{ι':Pl} {mem:List (Nat×bk)} {W:World} {Ub:Gh} {nx b0:Nat} {fr:List (Nat×AV)} {a':Act} {q:Nat},bV w0 Ub ⟨fr,mem,nx,b0⟩ ι' a' W→w.heap.size≤q→W.heap.size≤q→aE w0.heap.size Ub ι' mem q:= λhS h1 h2=>
  ⟨.inr (by omega),λnm bx hn e=>by have:=((hS.box nm bx hn).block e).2;omega⟩
 have free_lp: ∀{ι':Pl} {mem:List (Nat×bk)} {W:World} {Ub:Gh} {nx b0:Nat} {fr:List (Nat×AV)} {a':Act} {q:Nat} {o:Obj},bV w0 Ub ⟨fr,mem,nx,b0⟩ ι' a' W→w.heap.size≤q→W.heap[q]? =some o→Ey o=true→aE w0.heap.size Ub ι' mem q:= λhS h1 h2 h3=>
  ⟨.inr (by omega),λnm bx hn e=>hS.not_lp hn e ⟨_,h2,h3⟩⟩
 have outer: ∀{r:Loop} {S:Nat→Prop} {Ws:World} {σ2:St} {ι2:Pl} {a2:Act} {W:World},bV w0 (Us r S Ws) σ2 ι2 a2 W→σ2.base=bs→bV w0 (Us r S Ws) ⟨fr0,σ2.mem,σ2.nx,bs⟩ ι2 a W:=by
  intro r S Ws σ2 ι2 a2 W h ha
  refine⟨λt=> ?_,hs.defers,h.names,h.box,h.apart,h.below,h.keep,by rw[←ha];exact h.base⟩
  obtain⟨h1,h2⟩:=Bj HD t
  rcases h1 with h1|h1
  ·have hv:=hs.val t
   rw[h1]at hv
   have z4:=hv.cl (V':=aE w0.heap.size U ι σ.mem) (λ_ h=>h) h2
   refine z4.mono (λb A hf=>(h.keep.1.1 b A hf).1) (λb A hf=>(h.keep.1.1 b A hf).2) (λnm HF=> ?_) (by rw[←ha];exact h.base.1)
   have:=h.base.2 nm (by rw[ha];exact HF)
   exact this
  ·show aX _ _ _ _ (bc fr0 t) _
   rw[h1];exact .top
 let rdy:=rec .ready none
 let OkS:(Nat→Prop)→World→Pl→List (Nat×bk)→Prop:= λS W ι' mem=> ∀b,S b→b<W.heap.size∧b≠l∧aE w0.heap.size U ι' mem b
 let J:Option Nat→(Nat→Prop)→World→Prop:= λk S W=>match k with
  |some k=> ∃t ι',I k t∧bV w0 (Ur rdy) ⟨fr0,(mk k t).1,(mk k t).2,bs⟩ ι' a W∧OkS S W ι' (mk k t).1
  |none=> ∃(e:bP) (σ2:St) (ι':Pl),e≠ .normal∧Q e ⟨fr0,σ2.mem,σ2.nx,σ.base⟩∧bV w0 (Ur (rec .done (some (vu e)))) ⟨fr0,σ2.mem,σ2.nx,bs⟩ ι' a W∧OkS S W ι' σ2.mem
 have w1sz:w.heap.size≤w1.heap.size:=HP.size
 have grow: ∀{r:Loop} {σ2:St} {ι2:Pl} {a2:Act} {W W':World},bV w0 (Ur r) σ2 ι2 a2 W→vC w1.heap.size W W'→bV w0 (Ur r) σ2 ι2 a2 W':=by
  intro r σ2 ι2 a2 W W' h hg
  refine h.growL (n:=w1.heap.size) (by omega) hg rfl rfl ?_
  obtain⟨⟨k1,k2⟩,k3,k4,_⟩:=h.keep
  have q6:=(Array.getElem?_eq_some_iff.1 k4).1
  refine⟨⟨λb hb hf=> ?_,λe=> ?_⟩,k3,(hg.old q5 q6).trans k4,λb hb=>hb.elim⟩
  ·obtain⟨q1,q2⟩:=k1 b hb hf
   exact⟨q1,(hg.old (by omega) (by omega)).trans q2⟩
  ·obtain⟨q1,q2⟩:=k2 e
   have h1:=(Array.getElem?_eq_some_iff.1 (HE e).2.2).1
   exact⟨q1,(hg.old h1 (Array.getElem?_eq_some_iff.1 q2).1).trans q2⟩
 have turn: ∀{r r':Loop} {S:Nat→Prop} {Ws:World} {σ2:St} {ι2:Pl} {a2:Act} {W:World},bV w0 (Us r S Ws) σ2 ι2 a2 W→(∀b,S b→b≠l)→bV w0 (Us r' S Ws) σ2 ι2 a2 (W.putObj l (.loop r')):=by
  intro r r' S Ws σ2 ι2 a2 W h hW
  obtain⟨⟨k1,k2⟩,k3,k4,k5⟩:=h.keep
  refine h.turn (.loop r') k4 rfl (by omega) rfl rfl ⟨⟨λb hb hf=> ?_,λe=> ?_⟩,k3,World.putObj_heap_same (Array.getElem?_eq_some_iff.1 k4).1,λb hb=>⟨(k5 b hb).1,(k5 b hb).2.1,(World.putObj_heap_other (hW b hb)).trans (k5 b hb).2.2⟩⟩
  ·obtain⟨q1,q2⟩:=k1 b hb hf
   exact⟨q1,(World.putObj_heap_other (by omega)).trans q2⟩
  ·obtain⟨q1,q2⟩:=k2 e
   exact⟨q1,(World.putObj_heap_other (HE e).2.1).trans q2⟩
 have final: ∀{e':bP} {r r':Loop} {mem:List (Nat×bk)} {nx:Nat} {ι2:Pl} {W:World},bV w0 (Ur r) ⟨fr0,mem,nx,bs⟩ ι2 a W→Q e' ⟨fr0,mem,nx,σ.base⟩→
   vL w0 U rd ds nt Q (nZ e') {sh ds a with defers:=mark++(sh ds a).defers} (W.putObj l (.loop r')):=by
  intro e' r r' mem nx ι2 W h hq
  have h1:=turn (r':=r') h (λ_ hb=>hb.elim)
  have hE:bV w0 Ue ⟨fr0,mem,nx,σ.base⟩ ι2 a (W.putObj l (.loop r')):=
   ⟨h1.val,h1.defers,h1.names,h1.box,h1.apart,h1.below,h1.keep.1,⟨Nat.le_trans hb.1 h1.base.1,λnm HF=>(h1.base.2 nm (Nat.lt_of_lt_of_le HF hb.1)).trans (hs.base.2 nm HF)⟩⟩
  have he:({sh ds a with defers:=mark++(sh ds a).defers}:Act)=sh (mark++ds) a:=by simp[sh,hs.defers.1]
  rw[he]
  rcases go with⟨hn,hm⟩|⟨⟨l0,ZT⟩,hm⟩
  ·refine⟨e',_,ι2,Ue,mark++ds,a,rfl,hq,hE,hz,rfl, ?_⟩
   rw[hm]
   refine Iz.mark (U':=U) (D:=D) .refl hn (by have:=(HE hn).1;omega) rfl rfl λW V h=>⟨stayU W V h,(h.2 hn).1,(h.2 hn).2, ?_⟩
   exact U.mono w _ _ V hs.keep (λb hb hf=>(h.1 b hb hf).1) (λb hb hf=>(World.putObj_heap_other (by have:=(HE hn).1;omega)).trans (h.1 b hb hf).2)
  ·refine⟨e',_,ι2,U,mark++ds,a,rfl,hq,⟨hE.val,hE.defers,hE.names,hE.box,hE.apart,hE.below,stayU _ _ hE.keep,hE.base⟩,hz,rfl, ?_⟩
   rw[hm]
   exact .refl
 have rdRound: ∀r S Ws,O4 (Us r S Ws) (some l):= λr S Ws l' e W V hG=>by
  cases e
  exact⟨_,hG.2.2.1⟩
 have weak: ∀{r:Loop} {S:Nat→Prop} {Ws:World} {σ2:St} {ι2:Pl} {a2:Act} {W:World},bV w0 (Us r S Ws) σ2 ι2 a2 W→bV w0 (Ur r) σ2 ι2 a2 W:= λh=>
  ⟨h.val,h.defers,h.names,h.box,h.apart,h.below,⟨h.keep.1,h.keep.2.1,h.keep.2.2.1,λb hb=>hb.elim⟩,h.base⟩
 have okGrow: ∀{S:Nat→Prop} {W W':World} {ι':Pl} {mem:List (Nat×bk)} {Ub:Gh} {nx b0:Nat} {fr:List (Nat×AV)} {a':Act},Ub.p=U.p→bV w0 Ub ⟨fr,mem,nx,b0⟩ ι' a' W→w1.heap.size≤W.heap.size→W.heap.size≤W'.heap.size→OkS S W ι' mem→OkS (λb=>S b∨W.heap.size≤b∧b<W'.heap.size) W' ι' mem:=by
  intro S W W' ι' mem Ub nx b0 fr a' ZV hS hw hg h b hb
  rcases hb with hb|⟨h1,h2⟩
  ·exact⟨Nat.lt_of_lt_of_le (h b hb).1 hg,(h b hb).2⟩
  ·exact⟨h2,by omega,.inr (by omega),λnm bx hn e=>by have:=((hS.box nm bx hn).block e).2;omega⟩
 have sz: ∀{r:Loop} {S:Nat→Prop} {Ws:World} {σ2:St} {ι2:Pl} {a2:Act} {W:World},bV w0 (Us r S Ws) σ2 ι2 a2 W→w1.heap.size≤W.heap.size:= λh=>by
  have:=(Array.getElem?_eq_some_iff.1 h.keep.2.2.1).1
  omega
 refine EH ((hY.2 l (λb=>aE w0.heap.size U ι σ.mem b∧b<w.heap.size) J w1 cv (hs.glob.below (Nat.le_refl _) HP) ?_ ⟨?_, ?_, ?_, ?_⟩ ?_).mono ?_)
 ·exact z1.mono λ_ _ h=>h.mono (λb hb hf=>⟨hf,hb⟩) (λb hb _=>HP.block b hb) (λ_ _=>rfl) (Nat.le_refl _)
 ·intro k S W W' h hg
  cases k with
  |some k=>
   obtain⟨t,ι',hI,h,O⟩:=h
   exact⟨t,ι',hI,grow h hg,okGrow (Ub:=Ur rdy) rfl h (sz h) hg.size O⟩
  |none=>
   obtain⟨e,σ2,ι',HG,hq,h,O⟩:=h
   exact⟨e,σ2,ι',HG,hq,grow h hg,okGrow (Ub:=Ur (rec .done (some (vu e)))) rfl h (sz h) hg.size O⟩
 ·intro k S W h
  cases k with
  |some k=>
   obtain⟨t,ι',hI,h,O⟩:=h
   exact⟨λb hb=>(O b hb).1,sz h,h.glob⟩
  |none=>
   obtain⟨e,σ2,ι',HG,hq,h,O⟩:=h
   exact⟨λb hb=>(O b hb).1,sz h,h.glob⟩
 ·intro k S S' W h H3
  cases k with
  |some k=>
   obtain⟨t,ι',hI,h,O⟩:=h
   exact⟨t,ι',hI,h,λb hb=>O b (H3 b hb)⟩
  |none=>
   obtain⟨e,σ2,ι',HG,hq,h,O⟩:=h
   exact⟨e,σ2,ι',HG,hq,h,λb hb=>O b (H3 b hb)⟩
 ·rintro k x S W us hx ⟨t,ι',hI,hK,O⟩ HI m
  obtain⟨⟨k1,k2⟩,k3,k4,_⟩:=hK.keep
  have hW: ∀b,S b→b≠l:= λb hb=>(O b hb).2.1
  have z5:=HB x (List.mem_of_getElem? hx)
  have z9:us.size=ps'.size:=by
   rw[←Array.length_toList,←HI.length,z5,Array.length_toList]
  have hy:=run_yield (P:=P) (args:=us) k4 (by simp only[rdy,L];exact z9)
  refine⟨fn,_,asg',body',by simp only[rdy,L]at hy;exact hy,roundIn_of_wpIn trivial ?_⟩
  have etm:(ps'.zip us).foldl (λtmps (x:Nat×Value)=>tmps.setIfInBounds x.1 x.2) a.tmps=(ps'.toList.zip us.toList).foldl (λtmps (x:Nat×Value)=>tmps.setIfInBounds x.1 x.2) a.tmps:=by
   rw[←Array.foldl_toList,Array.toList_zip]
  have q7:aM (aX W (aE w0.heap.size (Us rdy S W) ι' (mk k t).1) ι' (mk k t).2) x us.toList:=HI.mono λ_ _ h=>h.mono (λb A h=>(O b h).2.2) (λ_ _ _=>rfl) (λnm HF=>absurd HF (Nat.not_lt_zero _)) (Nat.zero_le _)
  have ZA:bV w0 (Us rdy S W) ⟨Gm ps'.toList x fr0,(mk k t).1,(mk k t).2,bs⟩ ι' {tmps:=(ps'.zip us).foldl (λtmps (x:Nat×Value)=>tmps.setIfInBounds x.1 x.2) a.tmps,defers:= []} W:=by
   refine⟨λs=> ?_,⟨rfl,hK.defers.2⟩,hK.names,hK.box,hK.apart,hK.below,⟨hK.keep.1,hK.keep.2.1,hK.keep.2.2.1,λb hb=>⟨(O b hb).1,(O b hb).2.2,rfl⟩⟩,hK.base⟩
   rw[etm]
   exact zy q7 (by rw[hz];exact qp) hK.val s
  have h1:=hQ k x t hx hI _ qm w0 (Us rdy S W) (some l) [] ι' _ W (rdRound _ _ _) ZA (by rw[etm,xq];exact hz)
  rw[oL]at h1
  refine wpIn_mono (Dz h1) ?_
  rintro e a1 W1 ⟨e',σ1,ι1,U',ds',a0,rfl,hq,Z,HK,rfl,ZB⟩
  obtain⟨rfl,rfl⟩:=ZB.inRound
  rw[oL]
  cases e' with
  |exit i=>exact hq.elim
  |ret=>exact hq.elim
  |normal=>
   have k4':=Z.keep.2.2.1
   refine⟨_,run_beginRound k4' (by simp only[rdy,L]), ?_⟩
   have HQ:=turn (r':={rdy with state:= .busy}) Z hW
   have h3:=hq _ X w0 (Us {rdy with state:= .busy} S W) (some l) [] ι1 a0 _ (rdRound _ _ _) HQ HK
   rw[oL]at h3
   refine wpIn_mono (Dz h3) ?_
   rintro e a2 W2 ⟨e',σ2,ι2,U',ds',a3,rfl,HR,HS,ZW,rfl,ZC⟩
   obtain⟨rfl,rfl⟩:=ZC.inRound
   have k5:=HS.keep.2.2.1
   have er: ∀jump:Option Code,({({rdy with state:= .busy}:Loop)with state:=if jump.isNone then .ready else .done,pending:=jump}:Loop)=rec (if jump.isNone then .ready else .done) jump:= λjump=>by simp only[rdy,L]
   have hr:= λjump=>run_endRound (P:=P) jump k5
   simp only[er]at hr
   have kept: ∀r' c,S c→(W2.putObj l (.loop r')).heap[c]? =W.heap[c]? := λr' c hc=>(World.putObj_heap_other (hW c hc)).trans (HS.keep.2.2.2 c hc).2.2
   have okS: ∀{ι3:Pl} {mem:List (Nat×bk)} {σ3:St} {a3:Act} {r r':Loop},bV w0 (Us r S W) σ3 ι3 a3 (W2.putObj l (.loop r'))→σ3.mem=mem→OkS S (W2.putObj l (.loop r')) ι3 mem:=by
    intro ι3 mem σ3 a3 r r' h e b hb
    subst e
    obtain⟨q1,q2,q3⟩:=h.keep.2.2.2 b hb
    refine⟨?_,hW b hb,q2⟩
    have:W.heap[b]? =some W.heap[b]:=by simp[q1]
    rw[this]at q3
    exact(Array.getElem?_eq_some_iff.1 q3).1
   cases e' with
   |normal=>
    obtain⟨t',l',ZD,gt⟩:=HR
    have h4:=turn (r':=rdy) HS hW
    have h5:bV w0 (Us rdy S W) {σ2 with fr:= []} ι2 a3 (W2.putObj l (.loop rdy)):=⟨λ_=> .top,h4.defers,h4.names,h4.box,h4.apart,h4.below,h4.keep,h4.base⟩
    have h6:=outer (h5.wk gt) rfl
    exact⟨_,_,hr none,true,rfl,⟨t',_,ZD,weak h6,okS h6 rfl⟩,kept _⟩
   |exit i=>
    obtain⟨ha,g0⟩:=HR
    have h6:=outer (turn (r':=rec .done (some (vu (.exit i)))) HS hW) ha
    exact⟨_,_,hr (some (.exit i)),false,rfl,⟨.exit i,σ2,ι2,(λh=>by cases h),g0,weak h6,okS h6 rfl⟩,kept _⟩
   |ret=>
    obtain⟨ha,g0⟩:=HR
    have h6:=outer (turn (r':=rec .done (some (vu .ret))) HS hW) ha
    exact⟨_,_,hr (some .ret),false,rfl,⟨.ret,σ2,ι2,(λh=>by cases h),g0,weak h6,okS h6 rfl⟩,kept _⟩
 ·obtain⟨t0,l0,ZE,q8⟩:=h0
  have Z:=hs.grow HP
  have HD: ∀q,w.heap.size≤q→aE w0.heap.size U ι σ.mem q:= λq hq=>⟨.inr (by omega),λnm bx hn e=>by have:=((hs.box nm bx hn).block e).2;omega⟩
  have h2:bV w0 (Us rdy (λb=>aE w0.heap.size U ι σ.mem b∧b<w.heap.size) w1) ⟨[],σ.mem,σ.nx,bs⟩ ι a w1:=⟨λ_=> .top,hs.defers,Z.names,Z.box,Z.apart,Z.below,
   ⟨⟨λb hb hf=>⟨hf,HP.block b hb⟩,λe=>⟨HD D (HE e).1,(HE e).2.2⟩⟩,HD l z2,ge,λb hb=>⟨by omega,hb.1,rfl⟩⟩,⟨hb.2,λ_ _=>rfl⟩⟩
  have h3:=outer (h2.wk q8) rfl
  exact⟨t0,_,ZE,weak h3,λb hb=>⟨by omega,by omega,(h3.keep.2.2.2 b hb).2.1⟩⟩
 ·rintro e W3 ⟨⟨v,rfl⟩,k,S',hk,h⟩
  cases k with
  |some k=>
   obtain rfl:k=xs.length:=by simpa using hk
   obtain⟨t,ι',hI,M,_⟩:=h
   have k:=M.keep.2.2.1
   have hr:=run_endLoop (P:=P) k (by simp only[rdy,L];simp)
   exact⟨_,_,hr,by simp only[rdy,L];exact final (e':= .normal) M (HN t hI)⟩
  |none=>
   obtain⟨e,σ2,ι',HG,hq,M,_⟩:=h
   have k:=M.keep.2.2.1
   have hr:=run_endLoop (P:=P) k (by simp only[L];simp)
   refine⟨_,_,hr, ?_⟩
   simp only[L]
   cases e with
   |normal=>exact absurd rfl HG
   |exit i=>exact wpIn_exit (final (e':= .exit i) M hq)
   |ret=>exact wpIn_ret (final (e':= .ret) M hq)
def UI (P:Program) (nt:Nat) (body:bi) (Q:bP→St→Prop):bP→St→Prop
 | .normal,σ=>iO P nt body σ Q
 |_,_=>False
theorem GR {body:bi} {σ:St} {Q:bP→St→Prop}:UI P nt body Q .normal σ=iO P nt body σ Q:=propext ⟨id,id⟩
theorem Cy {τ:Type} {mk:Nat→τ→List (Nat×bk)×Nat} {I:Nat→τ→Prop} {bs:Nat} {fr0:List (Nat×AV)} {base:Nat} {Q:bP→St→Prop} {k:Nat} {σ:St}:Bh mk I bs fr0 base Q k .normal σ= ∃t l,I (k+1) t∧Wk l {σ with fr:= []} ⟨[],(mk (k+1) t).1,(mk (k+1) t).2,bs⟩:=propext ⟨id,id⟩
theorem Ib {τ:Type} {mk:Nat→τ→List (Nat×bk)×Nat} {I:Nat→τ→Prop} {bs:Nat} {fr0:List (Nat×AV)} {base:Nat} {Q:bP→St→Prop} {k i:Nat} {σ:St}:Bh mk I bs fr0 base Q k (.exit i) σ=(σ.base=bs∧Q (.exit i) ⟨fr0,σ.mem,σ.nx,base⟩):=propext ⟨id,id⟩
theorem JC {τ:Type} {mk:Nat→τ→List (Nat×bk)×Nat} {I:Nat→τ→Prop} {bs:Nat} {fr0:List (Nat×AV)} {base:Nat} {Q:bP→St→Prop} {k:Nat} {σ:St}:Bh mk I bs fr0 base Q k .ret σ=(σ.base=bs∧Q .ret ⟨fr0,σ.mem,σ.nx,base⟩):=propext ⟨id,id⟩
attribute [go_sem ↓] GR Cy Ib JC
attribute [go_sem] Gm
theorem rU {fx:AX} {ps:List Nat} {asg body:bi} {g:FuncId} {caps:List AC} {pcaps:List AV} {xs:List (List AV)} {τ:Type}
  (bs:Nat) (fr0:List (Nat×AV)) (mk:Nat→τ→List (Nat×bk)×Nat) (I:Nat→τ→Prop)
  (hf:fx.ev σ.fr= .c (.clo g caps)) (hp:bN σ.mem (caps.map .c)=some pcaps) (ga:(caps.map AV.c).all gA=true)
  (hY:ri P g pcaps xs) (HB: ∀x∈xs,x.length=ps.length) (hb:σ.base≤bs∧bs≤σ.nx) (HD:kY [] σ.fr bs fr0)
  (h0: ∃t l,I 0 t∧Wk l ⟨[],σ.mem,σ.nx,bs⟩ ⟨[],(mk 0 t).1,(mk 0 t).2,bs⟩)
  (hQ: ∀k x t,xs[k]? =some x→I k t→iO P nt asg ⟨Gm ps x fr0,(mk k t).1,(mk k t).2,bs⟩ (UI P nt body (Bh mk I bs fr0 σ.base Q k)))
  (HN: ∀t,I xs.length t→Q .normal ⟨fr0,(mk xs.length t).1,(mk xs.length t).2,σ.base⟩):AW P nt (.rangeF fx ps asg body) σ Q:=
 L6 bs fr0 mk I hf hp ga hY HB hb HD h0 (λk x t hx hI=>(aa (hQ k x t hx hI)).mono λe σ h=>by
  cases e with
  |normal=>exact aa h
  |exit i=>exact h
  |ret=>exact h) HN
end
open Go.RowKit
def yv (l:Nat):AV:= .c (.pure (.val (.func (.yield l) #[] #[])))
section
variable {P : Program}
theorem rC {dr:Bool} {nt:Nat} {ops:Array Oper}: ∀{l:List Oper} {gs:List AG} (n:Nat),gk P dr nt ops l=some gs→gk P dr nt ops (l.take n)=some (gs.take n)∧gk P dr nt ops (l.drop n)=some (gs.drop n)∧
  ∀g,gs[n]? =some g→ ∃o,l[n]? =some o∧tg P dr nt ops o=some g
 |[],gs,n,h=>by
  cases h
  simp[gk]
 |o::l,gs,n,h=>by
  have h0:=h
  unfold gk at h
  split at h
  ·rename_i g gs' h1 h2
   cases h
   cases n with
   |zero=>
    refine⟨rfl,h0,λg' hg=> ?_⟩
    simp at hg
    subst hg
    exact⟨o,rfl,h1⟩
   |succ n=>
    obtain⟨k1,k2,k3⟩:=rC n h2
    refine⟨?_,k2,k3⟩
    simp only[List.take_succ_cons]
    unfold gk
    rw[h1,k1]
  ·cases h
theorem dj {rd:Option Nat} {n:Nat} {ops:Array Oper} {Q1 Q:Exit→Act→World→Prop} {l2:List Oper} (hq: ∀a w,Q1 .normal a w→wpListIn (FR rd) n P ops Q l2 a w) (hx: ∀e a w,Q1 e a w→e= .normal): ∀{l1:List Oper} {a:Act} {w:World},
  wpListIn (FR rd) n P ops Q1 l1 a w→wpListIn (FR rd) n P ops Q (l1++l2) a w
 | [],a,w,h=>hq a w h
 |o::l1,a,w,h=>by
  rw[List.cons_append]
  unfold wpListIn at h ⊢
  split at h
  ·rename_i hw
   rw[if_pos hw]
   obtain⟨h1,h2⟩:=h
   refine⟨h1, ?_⟩
   generalize (o.semAt (FR rd).round a.eval).run P w=r at h2
   cases r with
   |ok nx w'=>
    cases nx<;>simp only[Oper.uponIn]at h2 ⊢
    case value v=>exact dj hq hx h2
    case skip=>exact dj hq hx h2
    case defer d=>exact dj hq hx h2
    case enter f args=>
     refine⟨h2.1,h2.2.mono λe w'' h=> ?_⟩
     cases e with
     |returned v=>exact dj hq hx h
     |panicked ch=>exact absurd (hx _ _ _ h) (by simp)
     |outgrown=>obtain⟨_,_,h⟩:=h;exact absurd (hx _ _ _ h) (by simp)
    case row row args=>exact⟨h2.1,h2.2.mono λv w'' h=>dj hq hx h⟩
    case round l f tmps asg body=>
     refine⟨h2.1,h2.2.mono λe w'' h=> ?_⟩
     cases e with
     |returned v=>exact dj hq hx h
     |panicked ch=>exact absurd (hx _ _ _ h) (by simp)
     |outgrown=>obtain⟨_,_,h⟩:=h;exact absurd (hx _ _ _ h) (by simp)
   |halt hh w'=>
    cases hh<;>simp only[Oper.uponIn]at h2 ⊢
    case panic v=>exact absurd (hx _ _ _ h2) (by simp)
  ·rename_i hw
   rw[if_neg hw]
   exact⟨h.1,dj hq hx h.2⟩
def SY (S:Nat→Prop) (fr:List (Nat×AV)) (a:Act) (W:World):Prop:=(∀t,aX W S (λ_=>undef) 0 (bc fr t) (a.tmps.getD t undef))∧a.defers= []
def uf (S:Nat→Prop) (W:World) (S':Nat→Prop) (W':World):Prop:= ∀b,S b→S' b∧W'.heap[b]? =W.heap[b]?
theorem uf.refl {S:Nat→Prop} {W:World}:uf S W S W:= λ_ h=>⟨h,rfl⟩
theorem uf.trans {S S' S'':Nat→Prop} {W W' W'':World} (h:uf S W S' W') (k:uf S' W' S'' W''):uf S W S'' W'':= λb hb=>⟨(k b (h b hb).1).1,(k b (h b hb).1).2.trans (h b hb).2⟩
theorem SY.kept {S S':Nat→Prop} {fr:List (Nat×AV)} {a:Act} {W W':World} (h:SY S fr a W) (k:uf S W S' W'):SY S' fr a W':=
 ⟨λt=>(h.1 t).mono (λb _ hb=>(k b hb).1) (λb _ hb=>(k b hb).2) (λ_ _=>rfl) (Nat.le_refl _),h.2⟩
def rz (nt:Nat) (J:Option Nat→(Nat→Prop)→World→Prop) (S0:Nat→Prop) (W0:World) (Q:bP→Option Nat→List (Nat×AV)→Prop):Exit→Act→World→Prop:= λe a W=>
 ∃e' k fr S,e=nZ e'∧Q e' k fr∧J k S W∧SY S fr a W∧a.tmps.size=nt∧uf S0 W0 S W
theorem rz.kept {nt:Nat} {J:Option Nat→(Nat→Prop)→World→Prop} {S0 S1:Nat→Prop} {W0 W1:World} {Q:bP→Option Nat→List (Nat×AV)→Prop} {e:Exit} {a:Act} {W:World} (h:rz nt J S1 W1 Q e a W) (k:uf S0 W0 S1 W1):rz nt J S0 W0 Q e a W:=by
 obtain⟨e',k',fr,S,h1,h2,h3,h4,h5,h6⟩:=h
 exact⟨e',k',fr,S,h1,h2,h3,h4,h5,k.trans h6⟩
theorem rz.here {nt:Nat} {J:Option Nat→(Nat→Prop)→World→Prop} {S:Nat→Prop} {W:World} {Q:bP→Option Nat→List (Nat×AV)→Prop} {e':bP} {k:Option Nat} {fr:List (Nat×AV)} {a:Act} (hq:Q e' k fr) (hJ:J k S W) (hs:SY S fr a W) (hz:a.tmps.size=nt):rz nt J S W Q (nZ e') a W:=
 ⟨e',k,fr,S,rfl,hq,hJ,hs,hz,.refl⟩
def AY (P:Program) (nt:Nat) (J:Option Nat→(Nat→Prop)→World→Prop) (c:bi) (k:Option Nat) (fr:List (Nat×AV)) (Q:bP→Option Nat→List (Nat×AV)→Prop):Prop:=
 ∀(c':Code),d8 P nt c'=some c→ ∀S a W,J k S W→SY S fr a W→a.tmps.size=nt→c'.wpIn (FR none) 0 P (rz nt J S W Q) a W
end
section
variable {P : Program} {nt : Nat} {J : Option Nat → (Nat → Prop) → World → Prop} {k : Option Nat} {fr : List (Nat × AV)} {Q : bP → Option Nat → List (Nat × AV) → Prop}
theorem mC (h:Q .normal k fr):AY P nt J .skip k fr Q:=by
 intro c' hc S a W hJ hs hz
 cases c'<;>simp[d8]at hc
 ·exact wpIn_skip (rz.here (e':= .normal) h hJ hs hz)
 all_goals(try(split at hc<;>simp at hc))
theorem vU (h:Q .ret k fr):AY P nt J .ret k fr Q:=by
 intro c' hc S a W hJ hs hz
 cases c'<;>simp[d8]at hc
 all_goals(try(split at hc<;>simp at hc))
 exact wpIn_ret (rz.here (e':= .ret) h hJ hs hz)
theorem Eu {id:Nat} (h:Q (.exit id) k fr):AY P nt J (.exit id) k fr Q:=by
 intro c' hc S a W hJ hs hz
 cases c'<;>simp[d8]at hc
 all_goals(try(split at hc<;>simp at hc))
 subst hc
 exact wpIn_exit (rz.here (e':= .exit _) h hJ hs hz)
def R4 (P:Program) (nt:Nat) (J:Option Nat→(Nat→Prop)→World→Prop) (y:bi) (Q:bP→Option Nat→List (Nat×AV)→Prop):bP→Option Nat→List (Nat×AV)→Prop
 | .normal,k,fr=>AY P nt J y k fr Q
 | .exit i,k,fr=>Q (.exit i) k fr
 | .ret,k,fr=>Q .ret k fr
theorem dG {x y:bi} (h:AY P nt J x k fr (R4 P nt J y Q)):AY P nt J (.seq x y) k fr Q:=by
 intro c' hc S a W hJ hs hz
 cases c'<;>simp[d8]at hc
 all_goals(try(split at hc<;>simp at hc))
 rename_i b1 b2 c1 c2 h1 h2
 obtain⟨rfl,rfl⟩:=hc
 refine wpIn_seq (wpIn_mono (h _ h1 S a W hJ hs hz) ?_)
 rintro e a1 W1 ⟨e',k',fr',S',rfl,hq,hD,C,H,hk⟩
 cases e' with
 |normal=>exact wpIn_mono (hq _ h2 S' a1 W1 hD C H) λe a w h=>h.kept hk
 |exit id=>exact⟨.exit id,k',fr',S',rfl,hq,hD,C,H,hk⟩
 |ret=>exact⟨.ret,k',fr',S',rfl,hq,hD,C,H,hk⟩
def N4 (id:Nat) (Q:bP→Option Nat→List (Nat×AV)→Prop):bP→Option Nat→List (Nat×AV)→Prop
 | .normal,k,fr=>Q .normal k fr
 | .exit i,k,fr=>if i=id then Q .normal k fr else Q (.exit i) k fr
 | .ret,k,fr=>Q .ret k fr
theorem nw {x:bi} {id:Nat} (h:AY P nt J x k fr (N4 id Q)):AY P nt J (.block id x) k fr Q:=by
 intro c' hc S a W hJ hs hz
 cases c'<;>simp[d8]at hc
 all_goals(try(split at hc<;>simp at hc))
 rename_i i1 c1
 obtain⟨rfl,h1⟩:i1=id∧d8 P nt c1=some x:=by simp_all
 refine wpIn_block (wpIn_mono (h _ h1 S a W hJ hs hz) ?_)
 rintro e a1 W1 ⟨e',k',fr',S',rfl,hq,hD,C,H,hk⟩
 cases e' with
 |normal=>exact⟨.normal,k',fr',S',rfl,hq,hD,C,H,hk⟩
 |exit i=>
  simp only[N4]at hq
  by_cases hi:i=i1
  ·rw[if_pos hi]at hq
   simp only[nZ,Exit.inBlock,if_pos hi]
   exact⟨.normal,k',fr',S',rfl,hq,hD,C,H,hk⟩
  ·rw[if_neg hi]at hq
   simp only[nZ,Exit.inBlock,if_neg hi]
   exact⟨.exit i,k',fr',S',rfl,hq,hD,C,H,hk⟩
 |ret=>exact⟨.ret,k',fr',S',rfl,hq,hD,C,H,hk⟩
theorem Rw {W W1:World} {b:Nat} (hl:b<W.heap.size) (h:W1.heap[b]? =W.heap[b]?):b<W1.heap.size:=by
 have:W.heap[b]? =some W.heap[b]:=by simp[hl]
 rw[this]at h
 exact(Array.getElem?_eq_some_iff.1 h).1
def R7 (S:Nat→Prop) (W:World) (A: ∀b,S b→b<W.heap.size):Gh:=⟨S,λ_=>undef,λW' V=> ∀b,S b→V b∧W'.heap[b]? =W.heap[b]?,λW1 W2 V1 V2 h hV hw b hb=>by
 obtain⟨h1,h2⟩:=h b hb
 have hl:=Rw (A b hb) h2
 exact⟨hV b hl h1,(hw b hl h1).trans h2⟩⟩
theorem SY.sim {S:Nat→Prop} {a:Act} {W:World} (hs:SY S fr a W) (A: ∀b,S b→b<W.heap.size) (hG:qf W):bV W (R7 S W A) ⟨fr, [],0,0⟩ (λ_=>undef) a W:=by
 have hf: ∀b,S b→aE W.heap.size (R7 S W A) (λ_=>undef) [] b:= λb hb=>⟨.inl hb,λnm bx hn=>by cases hn⟩
 exact⟨λt=>(hs.1 t).mono (λb _ h=>hf b h) (λ_ _ _=>rfl) (λ_ _=>rfl) (Nat.le_refl _),⟨hs.2,hG⟩,(λnm bx hn=>by cases hn),(λnm bx hn=>by cases hn),(λnm nm' b1 b2 b hn=>by cases hn),Below.refl _ _,λb hb=>⟨hf b hb,rfl⟩,⟨Nat.le_refl _,λ_ h=>absurd h (Nat.not_lt_zero _)⟩⟩
def kR (σ:St):List (Nat×AV)→Prop
 | []=>True
 |(t,v)::r=>(bc σ.fr t=v∨v= .top∨dQ σ.mem (bc σ.fr t)=some v)∧mj 0 v∧kR σ r
theorem Oy {v:AV}:eF [] v=v:=by
 have hC: ∀x:AC,fk [] x=x:= λx=>by cases x<;>rfl
 have hA: ∀x:AC,dE [] x=x:= λx=>by cases x<;>simp[dE,rn,List.map_congr_left (λy _=>hC y)]
 cases v<;>simp[eF,hA,List.map_congr_left (λy _=>hA y)]
theorem OI {σ:St} {fr':List (Nat×AV)} (h:kR σ fr') (t:Nat):(bc σ.fr t=bc fr' t∨bc fr' t= .top∨dQ σ.mem (bc σ.fr t)=some (bc fr' t))∧mj 0 (bc fr' t):=by
 induction fr' with
 |nil=>exact⟨.inr (.inl rfl),trivial⟩
 |cons x r ih=>
  obtain⟨k,v⟩:=x
  obtain⟨h1,h2,h3⟩:=h
  rw[fy]
  by_cases e:k=t
  ·subst e
   rw[if_pos rfl]
   exact⟨h1,h2⟩
  ·rw[if_neg e]
   exact ih h3
theorem SY.back {S:Nat→Prop} {W W':World} {A: ∀b,S b→b<W.heap.size} {σ:St} {ι:Pl} {a:Act} {fr':List (Nat×AV)} (hs:bV W (R7 S W A) σ ι a W') (hw:kR σ fr'):SY (λb=>S b∨W.heap.size≤b∧b<W'.heap.size) fr' a W':=by
 refine⟨λt=> ?_,hs.defers.1⟩
 obtain⟨h1,h2⟩:=OI hw t
 rcases h1 with h1|h1|h1
 ·have:=hs.val t
  rw[h1]at this
  have h3:=(show aX W' (aE W.heap.size (R7 S W A) ι σ.mem) ι σ.nx (eF [] (bc fr' t)) _ by rw[Oy];exact this).cl (V':= λb=>S b∨W.heap.size≤b) (λb h=>h.1) h2
  exact h3.mono (λb hl h=>h.imp id λh=>⟨h,hl⟩) (λ_ _ _=>rfl) (λnm h=>absurd h (Nat.not_lt_zero _)) (Nat.le_refl _)
 ·rw[h1];exact .top
 ·have h3:=vr (V:= λb=>S b∨W.heap.size≤b) hs (hs.val t) h1 (λb h=>h.1) (.inr λb h=> .inr h)
  exact h3.mono (λb hl h=>h.imp id λh=>⟨h,hl⟩) (λ_ _ _=>rfl) (λ_ _=>rfl) (Nat.le_refl _)
theorem wR {S:Nat→Prop} {W W':World} {A: ∀b,S b→b<W.heap.size} {σ:St} {ι:Pl} {a:Act} (hs:bV W (R7 S W A) σ ι a W'):uf S W (λb=>S b∨W.heap.size≤b∧b<W'.heap.size) W':=
 λb hb=>⟨.inl hb,(hs.keep b hb).2⟩
theorem kP {c:AX} {x y:bi} {t:Bool} (hc:c.ev fr= .c (.pure (.val (.bool t)))) (h1:t=true→AY P nt J x k fr Q) (h2:t=false→AY P nt J y k fr Q) (A: ∀k S W,J k S W→(∀b,S b→b<W.heap.size)∧qf W):AY P nt J (.cond c x y) k fr Q:=by
 intro c' HW S a W hJ hs hz
 cases c'<;>simp[d8]at HW
 all_goals(try(split at HW<;>simp at HW))
 rename_i o b1 b2 _ _ _ x1 x2 x3 g1 g2 g3
 obtain⟨rfl,rfl,rfl⟩:=HW
 have M:=hs.sim (A _ _ _ hJ).1 (A _ _ _ hJ).2
 have r1:=aB g1 M
 rw[hc]at r1
 have ho:=(bo r1).1
 cases t with
 |true=>exact wpIn_cond_true ho (h1 rfl _ g2 S a W hJ hs hz)
 |false=>exact wpIn_cond_false ho (h2 rfl _ g3 S a W hJ hs hz)
def TY {τ:Type} (mk:τ→Option Nat×List (Nat×AV)) (I:τ→Prop) (μ:τ→Nat) (t:τ) (Q:bP→Option Nat→List (Nat×AV)→Prop):bP→Option Nat→List (Nat×AV)→Prop
 | .normal,k,fr=> ∃t',I t'∧μ t'<μ t∧(mk t').1=k∧kY [] fr 0 (mk t').2
 | .exit i,k,fr=>Q (.exit i) k fr
 | .ret,k,fr=>Q .ret k fr
theorem SY.wk {S:Nat→Prop} {a:Act} {W:World} {fr':List (Nat×AV)} (hs:SY S fr a W) (h:kY [] fr 0 fr'):SY S fr' a W:=by
 refine⟨λt=> ?_,hs.2⟩
 obtain⟨h1,h2⟩:=Bj h t
 rcases h1 with h1|h1
 ·have:=hs.1 t
  rw[h1]at this
  exact this.cl (λ_ h=>h) h2
 ·rw[h1];exact .top
theorem Ev {τ:Type} {x:bi} (mk:τ→Option Nat×List (Nat×AV)) (I:τ→Prop) (μ:τ→Nat) (h0: ∃t,I t∧(mk t).1=k∧kY [] fr 0 (mk t).2) (h: ∀t,I t→AY P nt J x (mk t).1 (mk t).2 (TY mk I μ t Q)):AY P nt J (.loop x) k fr Q:=by
 intro c' hc S a W hJ hs hz
 cases c'<;>simp[d8]at hc
 all_goals(try(split at hc<;>simp at hc))
 rename_i c1
 obtain⟨t,ht,rfl,hw⟩:=h0
 refine wpIn_loop_rounds (μ t+1) ?_
 have key: ∀n t S1 a1 W1,μ t<n→I t→J (mk t).1 S1 W1→SY S1 (mk t).2 a1 W1→a1.tmps.size=nt→uf S W S1 W1→Code.roundsIn (FR none) 0 P c1 (rz nt J S W Q) n a1 W1:=by
  intro n
  induction n with
  |zero=>intro t S1 a1 W1 hm;omega
  |succ n ih=>
   intro t S1 a1 W1 hm ht ZF Z HK HL
   rw[roundsIn_succ]
   refine wpIn_mono (h t ht _ hc S1 a1 W1 ZF Z HK) ?_
   rintro e a2 W2 ⟨e',k',fr',S',rfl,hq,hD,C,H,hk⟩
   cases e' with
   |normal=>
    obtain⟨t',ZG,A,rfl,gt⟩:=hq
    exact ih t' S' a2 W2 (by omega) ZG hD (C.wk gt) H (HL.trans hk)
   |exit i=>exact⟨.exit i,k',fr',S',rfl,hq,hD,C,H,HL.trans hk⟩
   |ret=>exact⟨.ret,k',fr',S',rfl,hq,hD,C,H,HL.trans hk⟩
 exact key _ t S a W (Nat.lt_succ_self _) ht hJ (hs.wk hw) hz .refl
def KZ (P:Program) (J:Option Nat→(Nat→Prop)→World→Prop) (f:AV) (args:List AV) (k:Option Nat) (R:AV→Option Nat→Prop):Prop:=
 ∀S W fv us,J k S W→aX W S (λ_=>undef) 0 f fv→aM (aX W S (λ_=>undef) 0) args us→ ∀(o:Oper) (a:Act) (c:Call) (fo:Operand) (next:Act→World→Prop) (Q:Exit→Act→World→Prop),o.op= .call c→c.callee= .value fo→a.eval fo=fv→(c.args.map a.eval).toList=us→
  (∀v res k' S' W',R res k'→aX W' S' (λ_=>undef) 0 res v→J k' S' W'→uf S W S' W'→next (a.put o.dst v) W')→o.wpIn (FR none) 0 P a W next Q
theorem dD {gs:List AG} (hJ: ∀k S W,J k S W→(∀b,S b→b<W.heap.size)∧qf W) (hg: ∀k S W W',J k S W→Below W.heap.size W W'→J k (λb=>S b∨W.heap.size≤b∧b<W'.heap.size) W')
  (h:lK P gs ⟨fr, [],0,0⟩ (λσ'=> ∃fr',kR σ' fr'∧Q .normal k fr')):AY P nt J (.region gs false) k fr Q:=by
 intro c' hc S a W hj hs hz
 cases c'<;>simp[d8]at hc
 all_goals(try(split at hc<;>simp at hc))
 rename_i id ops dr
 obtain⟨g1,h1,hL⟩:=hc
 cases dr with
 |false=>
  simp[nQ]at hL
  subst hL
  have M:=hs.sim (hJ _ _ _ hj).1 (hJ _ _ _ hj).2
  have:=rQ (rd:=none) (ds:= []) (n:=0) (qL (nt:=nt) (w0:=W) (U:=R7 S W (hJ _ _ _ hj).1) (Q:= λe σ'=> ∃fr',kR σ' fr'∧Q .normal k fr')) (jE h1) (lk h1 h M hz λσ' ι' a' w' hq C H=>⟨σ',ι',rfl,hq,C,H⟩)
  rw[oL]at this
  refine wpIn_mono (wpIn_region_list this) ?_
  rintro e a1 W1 ⟨a0,rfl,σ',ι',rfl,⟨fr',hw,hq⟩,C,H⟩
  rw[oL]
  exact⟨.normal,k,fr',_,rfl,hq,hg _ _ _ _ hj C.below,SY.back C hw,H,wR C⟩
 |true=>
  simp only[nQ,if_true]at hL
  rcases iX (P:=P) (ops:=ops.toList) (gs:=g1)with⟨x,e⟩|e<;>rw[e]at hL<;>simp at hL
theorem G6 {dr:Bool} {op:Op} {gg z:Bool} {fx:AX} {args:List AX} (h:bZ P dr op=some (.call gg z fx args)): ∃c fo,op= .call c∧c.callee= .value fo∧aL fo=some fx∧kn c.args.toList=some args:=by
 unfold bZ at h
 split at h
 case h_28=>
  rename_i f as _
  split at h
  ·rename_i y xs h1 h2
   cases h
   exact⟨_,f,rfl,rfl,h1,h2⟩
  ·cases h
 all_goals exfalso
 all_goals(try(simp at h;done))
 all_goals(try((repeat' split at h)<;>first|(cases h;done)|(obtain⟨_,_,e⟩:=Option.map_eq_some_iff.1 h;cases e;done)|(simp at h;done)))
theorem DL {gs:List AG} (n:Nat) {dst:Option Nat} {gg z:Bool} {fx:AX} {args:List AX} (hn:gs[n]? =some ⟨dst,none,.call gg z fx args⟩) (hJ: ∀k S W,J k S W→(∀b,S b→b<W.heap.size)∧qf W)
  (hg: ∀k S W W',J k S W→Below W.heap.size W W'→J k (λb=>S b∨W.heap.size≤b∧b<W'.heap.size) W')
  (h:lK P (gs.take n) ⟨fr, [],0,0⟩ (λσ1=> ∃fr1,kR σ1 fr1∧ ∃R,KZ P J (fx.ev fr1) (args.map (·.ev fr1)) k R∧
   ∀res k',R res k'→lK P (gs.drop (n+1)) ((⟨fr1, [],0,0⟩:St).put dst res) (λσ2=> ∃fr2,kR σ2 fr2∧Q .normal k' fr2))):AY P nt J (.region gs false) k fr Q:=by
 intro c' hc S a W hj hs hz
 cases c'<;>simp[d8]at hc
 all_goals(try(split at hc<;>simp at hc))
 rename_i id ops dr
 obtain⟨g1,h1,hL⟩:=hc
 cases dr with
 |true=>
  simp only[nQ,if_true]at hL
  rcases iX (P:=P) (ops:=ops.toList) (gs:=g1)with⟨x,e⟩|e<;>rw[e]at hL<;>simp at hL
 |false=>
  simp[nQ]at hL
  subst hL
  have M:=hs.sim (hJ _ _ _ hj).1 (hJ _ _ _ hj).2
  obtain⟨c1,_,c3⟩:=rC n h1
  obtain⟨_,c2,_⟩:=rC (n+1) h1
  obtain⟨o,ho,Y⟩:=c3 _ hn
  have HY:ops.toList=ops.toList.take n++(o::ops.toList.drop (n+1)):=by
   have A:=(List.getElem?_eq_some_iff.1 ho).1
   have he:=(List.getElem?_eq_some_iff.1 ho).2
   rw[←he,←List.drop_eq_getElem_cons A,List.take_append_drop]
  have hd:=Ho Y
  unfold tg at Y
  by_cases HC:J7 nt o.dst=false
  ·rw[if_pos HC]at Y;cases Y
  rw[if_neg HC]at Y
  split at Y
  ·rename_i ao ZH
   have ZI:o.guard=none∧o.dst=dst∧ao= .call gg z fx args:=by
    cases HZ:o.guard with
    |none=>
     rw[HZ]at Y
     cases Y
     exact⟨rfl,rfl,rfl⟩
    |some q=>
     rw[HZ]at Y
     dsimp only at Y
     split at Y
     ·cases Y
     ·cases Y
   obtain⟨HZ,rfl,rfl⟩:=ZI
   have ZJ: ∀t,o.dst=some t→t<nt:=by
    intro t ht
    rw[ht]at HC
    simpa[J7]using HC
   obtain⟨c,fo,h7,HT,gb,E⟩:=G6 ZH
   refine wpIn_region_list ?_
   rw[HY]
   have h3:=rQ (rd:=none) (ds:= []) (n:=0) (ops:=ops) (qL (nt:=nt) (w0:=W) (U:=R7 S W (hJ _ _ _ hj).1) (Q:= λe σ1=> ∃fr1,kR σ1 fr1∧ ∃R,KZ P J (fx.ev fr1) (args.map (·.ev fr1)) k R∧
    ∀res k',R res k'→lK P (g1.drop (n+1)) ((⟨fr1, [],0,0⟩:St).put o.dst res) (λσ2=> ∃fr2,kR σ2 fr2∧Q .normal k' fr2))) (jE c1) (lk c1 h M hz λσ' ι' a' w' hq C H=>⟨σ',ι',rfl,hq,C,H⟩)
   rw[oL]at h3
   refine dj ?_ ?_ h3
   ·rintro a1 W1 ⟨a0,rfl,σ1,ι1,_,⟨fr1,ZK,R,g5,g6⟩,Z,HK⟩
    rw[oL]
    have H0:=hg _ _ _ _ hj Z.below
    have g7:=SY.back Z ZK
    have HL:=wR Z
    generalize (λb=>S b∨W.heap.size≤b∧b<W1.heap.size)=S1 at H0 g7 HL
    have g8:=g7.sim (hJ _ _ _ H0).1 (hJ _ _ _ H0).2
    have ev: ∀{x:Operand} {y:AX},aL x=some y→aX W1 S1 (λ_=>undef) 0 (y.ev fr1) (a0.eval x):=by
     intro x y hx
     have:=aB hx g8
     exact this.mono (λb A h=>by
      rcases h.1 with h|h
      ·exact h
      ·omega) (λ_ _ _=>rfl) (λ_ _=>rfl) (Nat.le_refl _)
    have evs: ∀{l:List Operand} {ys:List AX},kn l=some ys→aM (aX W1 S1 (λ_=>undef) 0) (ys.map (·.ev fr1)) (l.map a0.eval):=by
     intro l
     induction l with
     |nil=>intro ys h;cases h;exact .nil
     |cons x l ih=>
      intro ys h
      unfold kn at h
      split at h
      ·rename_i y ys' h1 h2
       cases h
       exact .cons (ev h1) (ih h2)
      ·cases h
    show wpListIn (FR none) 0 P ops _ (o::ops.toList.drop (n+1)) a0 W1
    unfold wpListIn
    rw[if_pos (by simp[Region.wanted,HZ])]
    refine g5 S1 W1 _ _ H0 (ev gb) (evs E) o a0 c fo _ _ h7 HT rfl (by simp) ?_
    intro v res k' S' W' hR hX H1 q9
    have g9:=g7.kept q9
    have ZL:SY S' ((⟨fr1, [],0,0⟩:St).put o.dst res).fr (a0.put o.dst v) W':=by
     cases ZM:o.dst with
     |none=>exact g9
     |some t=>
      refine⟨λs=> ?_,g9.2⟩
      have A:t<a0.tmps.size:=by rw[HK];exact ZJ t ZM
      show aX _ _ _ _ (bc ((t,res)::fr1) s) _
      rw[fy]
      by_cases e:t=s
      ·subst e
       rw[if_pos rfl]
       have:(a0.put (some t) v).tmps.getD t undef=v:=by simp[Act.put,Array.getD_eq_getD_getElem?,A]
       rw[this]
       exact hX
      ·rw[if_neg e]
       have:(a0.put (some t) v).tmps.getD s undef=a0.tmps.getD s undef:=by simp[Act.put,Array.getD_eq_getD_getElem?,Array.getElem?_setIfInBounds,e]
       rw[this]
       exact g9.1 s
    have G1:=ZL.sim (hJ _ _ _ H1).1 (hJ _ _ _ H1).2
    have ZN:((⟨fr1, [],0,0⟩:St).put o.dst res)=⟨((⟨fr1, [],0,0⟩:St).put o.dst res).fr, [],0,0⟩:=by cases o.dst<;>rfl
    have h4:=g6 res k' hR
    rw[ZN]at h4
    have h5:=rQ (rd:=none) (ds:= []) (n:=0) (ops:=ops) (qL (nt:=nt) (w0:=W') (U:=R7 S' W' (hJ _ _ _ H1).1) (Q:= λe σ2=> ∃fr2,kR σ2 fr2∧Q .normal k' fr2)) (jE c2) (lk c2 h4 G1 (by rw[rF];exact HK) λσ' ι' a' w' hq C H=>⟨σ',ι',rfl,hq,C,H⟩)
    rw[oL]at h5
    have h6:=dj (Q:=rz nt J S W Q) (l2:= []) ?_ ?_ h5
    ·rw[List.append_nil]at h6
     exact h6
    ·rintro a2 W2 ⟨a3,rfl,σ2,ι2,_,⟨fr2,ZO,HR⟩,HQ,ZP⟩
     rw[oL]
     exact⟨.normal,k',fr2,_,rfl,HR,hg _ _ _ _ H1 HQ.below,SY.back HQ ZO,ZP,(HL.trans q9).trans (wR HQ)⟩
    ·rintro e a2 W2 ⟨a3,rfl,σ2,ι2,e2,_⟩
     exact e2
   ·rintro e a1 W1 ⟨a0,rfl,σ1,ι1,e2,_⟩
    exact e2
  ·cases Y
theorem mA {l:Nat} {w:World} {xs:List (List AV)} {args:List AV} {k:Nat} (hJ:CS P l w xs J) (hx:xs[k]? =some args):
  KZ P J (yv l) args (some k) (λres k'=> ∃b:Bool,res= .c (.pure (.val (.bool b)))∧k'=if b=true then some (k+1)else none):=by
 intro S W fv us hj hf HI o a c fo next Q ho hc G2 E h8
 obtain⟨rfl,_⟩:=bo hf
 obtain⟨fn,tmps,asg,body,hy,hR⟩:=hJ.round k args S W us.toArray hx hj (by simpa using HI) 0
 refine⟨λ_ _=>trivial, ?_⟩
 rw[Oper.semAt_eq _ _ _ (by rw[ho];intro c e;cases e)]
 have hF:(execOp a.eval o).run P W= .ok (.round l fn tmps asg body) W:=by
  have e:c.args.map a.eval=us.toArray:=by rw[←E]
  simp[execOp,ho,resolve,hc,G2,Deferred.ofValue,invoke,e,hy]
 rw[hF,Oper.uponIn_round]
 refine⟨by simp[FR,Fence.wide],hR.mono ?_⟩
 rintro e W' ⟨b,rfl,hP,hk⟩
 exact h8 (.bool b) _ _ S W' ⟨b,rfl,rfl⟩ (.c (.pure (.val rfl))) hP λb hb=>⟨hb,hk b hb⟩
def kX (P:Program) (J:Option Nat→(Nat→Prop)→World→Prop) (f:FuncId) (args:List AV) (k:Option Nat) (R:AV→Option Nat→Prop):Prop:=
 mz P f∧ ∀(S:Nat→Prop) (W:World) (us:Array Value),J k S W→aM (aX W S (λ_=>undef) 0) args us.toList→
  Calls P f us W λe W'=> ∃v res k' S',e= .returned v∧R res k'∧aX W' S' (λ_=>undef) 0 res v∧J k' S' W'∧uf S W S' W'
theorem Bc {f:FuncId} {args:List AV} {R:AV→Option Nat→Prop} (h:kX P J f args k R):KZ P J (.c (.clo f [])) args k R:=by
 intro S W fv us hj hf HI o a c fo next Q ho hc G2 E h8
 obtain rfl:fv= .func (.func f) #[] #[]:=by
  cases hf with
  |c hf=>
   cases hf with
   | @clo _ _ vs hl _=>
    have:vs= #[]:=Array.eq_empty_of_size_eq_zero (by simpa using hl.symm)
    rw[this]
 obtain⟨⟨fn,gd,X,hH⟩,h7⟩:=h
 have hb: ¬fn.body=none:=by intro e;rw[e]at X;cases X
 have hT : ¬ fn.name = "runtime.NumGoroutine" := by intro e; rw [e] at hH; simp at hH
 refine⟨λ_ _=>trivial, ?_⟩
 rw[Oper.semAt_eq _ _ _ (by rw[ho];intro c e;cases e)]
 have hF:(execOp a.eval o).run P W= .ok (.enter f us.toArray) W:=by
  have e:c.args.map a.eval=us.toArray:=by rw[←E]
  simp[execOp,ho,resolve,hc,G2,Deferred.ofValue,invoke,callFunc,gd,hT,hb,e]
 rw[hF,Oper.uponIn_enter]
 refine⟨by simp[FR,Fence.wide],EH ((h7 S W us.toArray hj (by simpa using HI)).mono ?_)⟩
 rintro e W' ⟨v,res,k',S',rfl,hR,hX,hP,hk⟩
 exact h8 v res k' S' W' hR hX hP hk
def VZ (rs:List AR) (R:AV→Option Nat→Prop):bP→Option Nat→List (Nat×AV)→Prop
 | .exit _,_,_=>False
 | .ret,k,fr=>kV ⟨fr, [],0,0⟩ rs [] λvs=>R (fm vs) k
 | .normal,k,fr=>kV ⟨fr, [],0,0⟩ rs [] λvs=>R (fm vs) k
theorem kX.of {f:FuncId} {body:bi} {rs:List AR} {args:List AV} {R:AV→Option Nat→Prop} (hJ: ∀k S W,J k S W→(∀b,S b→b<W.heap.size)∧qf W) (hf:mL P f nt body rs) (HB:args.length≤nt)
  (h:qq args→AY P nt J body k (bO args 0) (VZ rs R)):kX P J f args k R:=by
 obtain⟨fn,c,h1,h2,h3,rfl,h5,h6⟩:=hf.is
 refine⟨⟨fn,h1,by rw[h2];rfl,h3⟩,λS W vs hj E=> ?_⟩
 have ZX:vs.size=args.length:=by rw[←Array.length_toList];exact E.length.symm
 have hs:SY S (bO args 0) {tmps:=vs++Array.replicate (fn.ntmps-vs.size) undef,defers:= []} W:=by
  refine⟨λt=> ?_,rfl⟩
  rcases li (vs:=vs.toList) (k:=0) E t with h|h
  ·by_cases A:t<vs.size
   ·have e:(vs++Array.replicate (fn.ntmps-vs.size) undef).getD t undef=(vs.toList[t-0]?).getD undef:=by
     simp[Array.getD_eq_getD_getElem?,Array.getElem?_append,A]
    rw[e]
    exact h
   ·have:bc (bO args 0) t= .top:=by
     have key: ∀(l:List AV) (j:Nat),j+l.length≤t→bc (bO l j) t= .top:=by
      intro l
      induction l with
      |nil=>intro j _;rfl
      |cons x l ih=>
       intro j hj
       simp only[List.length_cons]at hj
       show(if j=t then x else bc (bO l (j+1)) t)=_
       rw[if_neg (by omega)]
       exact ih _ (by omega)
     exact key args 0 (by omega)
    rw[this]
    exact .top
  ·rw[h]
   exact .top
 have G3:(vs++Array.replicate (fn.ntmps-vs.size) undef).size=fn.ntmps:=by simp;omega
 refine(callsIn_wide (n:=0)).1 (callsIn_of_wp h1 h2 trivial (wpIn_mono (h (u4 E) c h5 S _ W hj hs G3) ?_))
 have fin: ∀{a':Act} {W':World} {fr':List (Nat×AV)} {k':Option Nat} {S':Nat→Prop},kV ⟨fr', [],0,0⟩ rs [] (λvs=>R (fm vs) k')→J k' S' W'→SY S' fr' a' W'→uf S W S' W'→a'.defers= []∧ ∃v,(results fn a'.tmps).run P W'= .ok v W'∧ ∃v' res k' S',Ending.returned v= .returned v'∧R res k'∧aX W' S' (λ_=>undef) 0 res v'∧J k' S' W'∧uf S W S' W':=by
  intro a' W' fr' k' S' hX hP C hk
  obtain⟨vs',us',g1,g2,g3⟩:=nT (C.sim (hJ _ _ _ hP).1 (hJ _ _ _ hP).2) (us:= []) h6 hX .nil
  refine⟨C.2,(if h:us'.toArray.size=1 then us'.toArray[0]else .tuple us'.toArray), ?_,_,_,k',S',rfl,g3, ?_,hP,hk⟩
  ·rw[oH,Array.mapM_eq_mapM_toList]
   simp[g2]
  ·have:=uT (by simpa using g1)
   exact this.mono (λb A h=>by
    rcases h.1 with h|h
    ·exact h
    ·omega) (λ_ _ _=>rfl) (λ_ _=>rfl) (Nat.le_refl _)
 rintro e a' W' ⟨e',k',fr',S',rfl,hq,hP,C,ZU,hk⟩
 cases e' with
 |normal=>exact fin hq hP C hk
 |exit i=>exact hq.elim
 |ret=>exact fin hq hP C hk
theorem ri.of {f:FuncId} {args:List AV} {xs:List (List AV)} (hf:mz P f) (h: ∀(l:Nat) (w:World) (J':Option Nat→(Nat→Prop)→World→Prop),CS P l w xs J'→kX P J' f (yv l::args) (some 0) (λ_ k'=>k'=some xs.length∨k'=none)):ri P f args xs:=by
 refine⟨hf, ?_⟩
 intro l S J' w vs hG E hJ h0
 have h1:=(h l w J' hJ).2 S w (#[.func (.yield l) #[] #[]]++vs) h0
 have e:(#[Value.func (.yield l) #[] #[]]++vs).toList=Value.func (.yield l) #[] #[]::vs.toList:=by simp
 rw[e]at h1
 have h2:=h1 (aM.cons (.c (.pure (.val rfl))) E)
 refine h2.mono ?_
 rintro e w' ⟨v,res,k',S',he,hk,_,hj,_⟩
 exact⟨⟨v,he⟩,k',S',hk,hj⟩
end
open Go.RowKit
section
variable {P : Program} {f : FuncId} {args pargs : List AV} {mem : List (Nat × bk)} {nx : Nat}
theorem tJ {w0 w:World} {U:Gh} {ι:Pl} {vs:Array Value} (hs:bV w0 U ⟨[],mem,nx,nx⟩ ι {tmps:= #[],defers:= []} w) (hr:aM (aX w (aE w0.heap.size U ι mem) ι nx) args vs.toList) (hp:bN mem args=some pargs) (hn:args.all gA=true):
  bV w (Gh.of (aE w0.heap.size U ι mem)) ⟨[], [],0,0⟩ (λ_=>undef) {tmps:= #[],defers:= []} w∧aM (aX w (aE w.heap.size (Gh.of (aE w0.heap.size U ι mem)) (λ_=>undef) []) (λ_=>undef) 0) pargs vs.toList:=
 ⟨⟨λt=> .top,⟨rfl,hs.glob⟩,(λnm bx hn=>by cases hn),(λnm bx hn=>by cases hn),(λnm nm' b1 b2 b hn=>by cases hn),Below.refl _ _,trivial,⟨Nat.le_refl _,λ_ h=>absurd h (Nat.not_lt_zero _)⟩⟩,
  (ll (σ:=⟨[],mem,nx,nx⟩) (V:=aE w0.heap.size U ι mem) hs hr (λ_ h=>h) (.inl hn) hp).mono λ_ _ h=>h.mono (λb _ h=>⟨.inl h,λnm bx hf=>by cases hf⟩) (λ_ _ _=>rfl) (λ_ _=>rfl) (Nat.le_refl _)⟩
theorem aw.lift0 {res:AV} (h:aw P f pargs [] 0 res [] 0) (hp:bN mem args=some pargs) (hn:args.all gA=true):aw P f args mem nx res mem nx:=by
 refine⟨h.1,λw0 U ι w vs hs hr=> ?_⟩
 have hB:=hs.below.size
 obtain⟨g1,g2⟩:=tJ hs hr hp hn
 refine(h.2 w _ _ w vs g1 g2).mono ?_
 rintro en w' ⟨v,ι',rfl,h1,h2⟩
 refine⟨v,ι,rfl,hs.grow h1.below,h2.mono (λb _ hf=> ?_) (λb _ _=>rfl) (λnm hn=>absurd hn (Nat.not_lt_zero _)) (Nat.zero_le _)⟩
 obtain⟨hf|hf,_⟩:=hf
 ·exact hf
 ·refine⟨.inr (Nat.le_trans hB hf),λnm bx hM hc=> ?_⟩
  have:=((hs.box _ _ hM).block hc).2
  omega
theorem aw.lift1 {e sz:Nat} {rows:List (List PC)} {y:Value} (hy:qK y=true) (h:aw P f pargs [] 0 (.tup [.c (.ref 0),.c (.pure (.val y))]) [(0,.arr e sz rows)] 1) (hp:bN mem args=some pargs) (hn:args.all gA=true):
  aw P f args mem nx (.tup [.c (.ref nx),.c (.pure (.val y))]) ((nx,.arr e sz rows)::mem) (nx+1):=by
 refine⟨h.1,λw0 U ι w vs hs hr=> ?_⟩
 have hB:=hs.below.size
 obtain⟨g1,g2⟩:=tJ hs hr hp hn
 refine(h.2 w _ _ w vs g1 g2).mono ?_
 rintro en w' ⟨v,ι',rfl,h1,h2⟩
 obtain⟨cells,k0,k1,k2,k3⟩:=h1.box 0 (.arr e sz rows) rfl
 have hU: ∀ι'':Pl,(∀nm,nm<nx→ι'' nm=ι nm)→ι'' nx=ι' 0→ ∀b,aE w.heap.size (Gh.of (aE w0.heap.size U ι mem)) ι' [(0,.arr e sz rows)] b→aE w0.heap.size U ι'' ((nx,.arr e sz rows)::mem) b:=by
  intro ι'' e1 e2 b hf
  have H7:=hf.2 0 _ rfl
  obtain⟨HA,_⟩:=hf
  rcases HA with HA|HA
  ·refine⟨HA.1,λnm bx hM=> ?_⟩
   rw[bT]at hM
   by_cases hh:nx=nm
   ·subst hh
    rw[e2]
    exact H7
   ·rw[if_neg hh]at hM
    rw[e1 _ (hs.names _ _ hM)]
    exact HA.2 _ _ hM
  ·refine⟨.inr (Nat.le_trans hB HA),λnm bx hM hc=> ?_⟩
   rw[bT]at hM
   by_cases hh:nx=nm
   ·subst hh
    rw[e2]at hc
    exact H7 hc
   ·rw[if_neg hh]at hM
    rw[e1 _ (hs.names _ _ hM)]at hc
    have:=((hs.box _ _ hM).block hc).2
    have h9:w.heap.size≤b:=HA
    exact absurd this (by show ¬b<_;omega)
 obtain⟨ι'',j1,j2,j3,j4⟩:=hs.newBox (pv:=ι' 0) (bx:= .arr e sz rows) h1.below (λb hb=>by
  rcases k1.2 with⟨e,_⟩|⟨g,cap,cur,e,hg,_⟩
  ·rw[e]at hb;cases hb
  ·rw[e]at hb
   simp[bI]at hb
   omega) (λι'' e1 e2 ZQ=>⟨cells,k0,by rw[e2];exact ol k1 hB,k2,k3.mono (λb _ hf=>hU ι'' e1 e2 b hf) (λb _ _=>rfl)⟩)
 cases h2 with
  |tup hl hx=>
   rename_i us
   have x0:=hx 0 _ rfl
   have x1:=hx 1 _ rfl
   refine⟨_,ι'',rfl,j1,.tup hl λi x hi=> ?_⟩
   match i,hi with
   |0,hi=>
    cases hi
    have:us.toList[0]?.getD undef=ι' 0:=by
     generalize us.toList[0]?.getD undef=z at x0
     cases x0 with
     |c x0=>cases x0 with
      |ref _ _=>rfl
    rw[this,←j2]
    refine .c (.ref (Nat.lt_succ_self _) ?_)
    rw[j2]
    rcases k1.2 with⟨e,_⟩|⟨g,cap,cur,e,_⟩
    ·exact⟨_,_,_,e⟩
    ·exact⟨_,_,_,e⟩
   |1,hi=>
    cases hi
    generalize us.toList[1]?.getD undef=z at x1 ⊢
    cases x1 with
    |c x1=>cases x1 with
     |pure x1=>cases x1 with
      |val _=>exact .c (.pure (.val hy))
theorem aw.toP {res pres:AV} {mem':List (Nat×bk)} {nx':Nat} (h:aw P f pargs [] 0 res mem' nx') (hp:J3 mem' res=some pres):ac P f pargs pres:=by
 refine⟨h.1,λw U vs hG E=> ?_⟩
 have hs:bV w (Gh.of U) ⟨[], [],0,0⟩ (λ_=>undef) {tmps:= #[],defers:= []} w:=⟨λt=> .top,⟨rfl,hG⟩,(λnm bx hn=>by cases hn),(λnm bx hn=>by cases hn),(λnm nm' b1 b2 b hn=>by cases hn),Below.refl _ _,trivial,⟨Nat.le_refl _,λ_ h=>absurd h (Nat.not_lt_zero _)⟩⟩
 refine(h.2 w _ _ w vs hs (E.mono λ_ _ h=>h.mono (λb _ h=>⟨.inl h,λnm bx hn=>by cases hn⟩) (λ_ _ _=>rfl) (λ_ _=>rfl) (Nat.le_refl _))).mono ?_
 rintro en w' ⟨v,ι',rfl,h1,h2⟩
 exact⟨v,rfl,GV h1 h2 hp (λb h=>h.1) (λb h=> .inr h),h1.below⟩
theorem GP {w:World} {V:Nat→Prop} {ι:Pl} {N:Nat} {v:Value} (h:aX w V ι N (.c .nils) v):aX w V ι N (.c (.pure (.slice []))) v:=by
 cases h with
 |c h=>cases h with
  |nils=>exact .c (.pure (.slice (sz:=1) (λ_ _=>undef) rfl (Nat.le_refl _) (Nat.zero_le _) (λi row h=>by simp at h) (λi row j p h=>by simp at h) (λi row j p h=>by simp at h)))
theorem aw.alike {args':List AV} {res:AV} {mem':List (Nat×bk)} {nx':Nat} (h:aw P f args mem nx res mem' nx') (hw: ∀(w:World) (V:Nat→Prop) (ι:Pl) (N:Nat) (vs:List Value),aM (aX w V ι N) args' vs→aM (aX w V ι N) args vs):aw P f args' mem nx res mem' nx':=
 ⟨h.1,λw0 U ι w vs hs hr=>h.2 w0 U ι w vs hs (hw _ _ _ _ _ hr)⟩
theorem aw.nil3 {a b:AV} {res:AV} {mem':List (Nat×bk)} {nx':Nat} (h:aw P f [a,b,.c (.pure (.slice []))] mem nx res mem' nx'):aw P f [a,b,.c .nils] mem nx res mem' nx':=
 h.alike λw V ι N vs hr=>by
  cases hr with
  |cons h1 t1=>cases t1 with
   |cons h2 t2=>cases t2 with
    |cons h3 t3=>exact .cons h1 (.cons h2 (.cons (GP h3) t3))
theorem aw.nil4 {a b c d e:AV} {res:AV} {mem':List (Nat×bk)} {nx':Nat} (h:aw P f [a,b,c,.c (.pure (.slice [])),d,e] mem nx res mem' nx'):aw P f [a,b,c,.c .nils,d,e] mem nx res mem' nx':=
 h.alike λw V ι N vs hr=>by
  cases hr with
  |cons h1 t1=>cases t1 with
   |cons h2 t2=>cases t2 with
    |cons h3 t3=>cases t3 with
     |cons h4 t4=>exact .cons h1 (.cons h2 (.cons h3 (.cons (GP h4) t4)))
end
open Go.RowKit
abbrev YJ:=Option Nat→(Nat→Prop)→World→Prop
abbrev YQ:=bP→Option Nat→List (Nat×AV)→Prop
section
variable {P : Program} {nt n0 : Nat} {rd : Option Nat} {Ds : List Nat} {J : YJ} {k : Option Nat} {fr : List (Nat × AV)} {Q : YQ}
end
end Go.Abs
