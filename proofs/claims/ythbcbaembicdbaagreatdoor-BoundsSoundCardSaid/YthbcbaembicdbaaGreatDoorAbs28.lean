import Derived.Test.YthbcbaembicdbaaGreatDoorAbsQ
set_option linter.unusedVariables false
set_option linter.unusedSimpArgs false
namespace Go.Abs
open Go.RowKit
section
variable {P : Program} {σ : St} {nt : Nat}
theorem XC {c:ak} {Q:bc→St→Prop} (nm i:Nat) (xs:List AC) (hf:al σ.mem nm=some (.var xs)) (hi:xs[i]? =some .nils)
  (h:AW P nt c {σ with mem:=cm σ.mem nm (.var (xs.set i (.pure (.slice []))))} Q):AW P nt c σ Q:=by
 intro c' hc w0 U rd ds ι a w hrd hs hz
 obtain⟨b,vs,T,g1,g2,g3,g4⟩:=hs.box _ _ hf
 have hset:=hs.setBox (cs:=vs) hf (b:=b) (by rw[g1];rfl) (bx:= .var (xs.set i (.pure (.slice [])))) ⟨b,vs,T,g1,g2,setRow_heap _ _ _ _ _ _ g3,by
  rw[setRow_self w b vs T _ g3]
  refine aJ.of_get (by rw[List.length_set];exact g4.length) λj x v hj hv=> ?_
  rw[List.getElem?_set]at hj
  by_cases e1:i=j
  ·subst e1
   have hlt:=(List.getElem?_eq_some_iff.1 hi).1
   rw[if_pos rfl,if_pos hlt]at hj
   cases hj
   obtain⟨v',hv',hr⟩:=g4.get hi
   rw[hv']at hv
   cases hv
   have:v= .slice none 0 0:=by cases hr;rfl
   rw[this]
   exact .pure .nil
  ·rw[if_neg e1]at hj
   obtain⟨v',hv',hr⟩:=g4.get hj
   rw[hv']at hv
   cases hv
   exact hr⟩
 rw[setRow_self w b vs T _ g3]at hset
 exact h c' hc w0 U rd ds ι a w hrd hset hz
theorem z8 {c:ak} {Q:bc→St→Prop} (t:Nat) (ht:aI σ.fr t= .c .nils) (h:AW P nt c {σ with fr:=(t,.c (.tsl []))::σ.fr} Q):AW P nt c σ Q:=by
 intro c' hc w0 U rd ds ι a w hrd hs hz
 refine h c' hc w0 U rd ds ι a w hrd ⟨λs=> ?_,hs.defers,hs.names,hs.box,hs.apart,hs.below,hs.keep,hs.base⟩ hz
 show aN w (aC w0.heap.size U ι σ.mem) ι σ.nx (aI ((t,.c (.tsl []))::σ.fr) s) _
 rw[eM]
 by_cases es:t=s
 ·subst es
  rw[if_pos rfl]
  have hv:=hs.val t
  rw[ht]at hv
  generalize a.tmps.getD t undef=v at hv
  cases hv with
  |c hv=>cases hv;exact .c (.tsl .nil)
 ·rw[if_neg es]
  exact hs.val s
end
theorem aq.perm {P:Program} {f:FuncId} {args:List AV} {mem mem2 mem':List (Nat×aU)} {nx nx':Nat} {res:AV} (h:aq P f args mem nx res mem' nx') (hp: ∀nm,al mem2 nm=al mem nm):aq P f args mem2 nx res mem' nx':=by
 refine⟨h.1,λw0 U ι w vs hs hr=> ?_⟩
 have hs':bD w0 U ⟨[],mem,nx,nx⟩ ι {tmps:= #[],defers:= []} w:=hs.sub (mem:=mem) (λn bx hf=>by show al mem2 n=_;rw[hp];exact hf)
 exact h.2 w0 U ι w vs hs' (hr.mono λa b h=>h.mono (λb _ h=>⟨h.1,λnm bx hf=>h.2 nm bx (by rw[hp];exact hf)⟩) (λ_ _ _=>rfl) (λ_ _=>rfl) (Nat.le_refl _))
def GY:AC→Bool
 | .pure _=>true
 | .nils=>true
 | .tsl _=>true
 |_=>false
def ux:aU→Bool
 | .var xs=>xs.all GY
 | .arr _ _ _=>true
 |_=>false
def dO (N:Nat):List Nat→List (Nat×aU)→Prop
 |_, []=>True
 |seen,(nm,b)::r=>nm<N∧ux b=true∧jO nm seen∧dO N (nm::seen) r
theorem dU {n:Nat}: ∀{l:List Nat},jO n l↔ ∀m∈l,n≠m
 | []=>by simp[jO]
 |m::r=>by simp[jO,dU (l:=r)]
theorem dO.mem {N:Nat}: ∀{F:List (Nat×aU)} {s:List Nat},dO N s F→ ∀x∈F,x.1<N∧ux x.2=true∧jO x.1 s
 | [],s,_,x,hx=>by cases hx
 |(nm,b)::r,s,h,x,hx=>by
  rcases List.mem_cons.1 hx with rfl|hx
  ·exact⟨h.1,h.2.1,h.2.2.1⟩
  ·obtain⟨h1,h2,h3⟩:=dO.mem h.2.2.2 x hx
   exact⟨h1,h2,h3.2⟩
theorem dO.find {N:Nat}: ∀{F:List (Nat×aU)} {s:List Nat},dO N s F→ ∀x∈F,al F x.1=some x.2
 | [],s,_,x,hx=>by cases hx
 |(nm,b)::r,s,h,x,hx=>by
  rcases List.mem_cons.1 hx with rfl|hx
  ·simp[al]
  ·have h3:=(dO.mem h.2.2.2 x hx).2.2.1
   rw[al,if_neg (λe=>h3 e.symm)]
   exact dO.find h.2.2.2 x hx
theorem dO.mono {N N':Nat} (hN:N≤N'): ∀{F:List (Nat×aU)} {s s':List Nat},dO N s F→(∀n,n<N→jO n s→jO n s')→dO N' s' F
 | [],s,s',_,_=>trivial
 |(nm,b)::r,s,s',h,hs=>⟨Nat.lt_of_lt_of_le h.1 hN,h.2.1,hs _ h.1 h.2.2.1,dO.mono hN h.2.2.2 (λn hn h'=>⟨h'.1,hs _ hn h'.2⟩)⟩
theorem Mw {n:Nat}: ∀{F:List (Nat×aU)},(∀x∈F,x.1≠n)→oc F n=F
 | [],_=>rfl
 |(nm,b)::r,h=>by
  rw[oc,if_neg (h _ List.mem_cons_self),Mw (λx hx=>h x (List.mem_cons_of_mem _ hx))]
theorem dO.del {N n:Nat} {F:List (Nat×aU)} {s:List Nat} (h:dO N s F) (hn:n∈s∨N≤n):oc F n=F:=
 Mw λx hx e=>by
  obtain⟨h1,_,h3⟩:=h.mem x hx
  rcases hn with hn|hn
  ·exact dU.1 h3 n hn e
  ·omega
theorem RR {x:AC} (h:GY x=true) (nm:Nat) (rows:List (List PC)):jp nm rows x=x:=by cases x<;>simp_all [GY,jp]
theorem TI {b:aU} (h:ux b=true) (nm:Nat) (rows:List (List PC)):Cm nm rows b=b:=by
 cases b with
 |var xs=>
  simp only[ux,List.all_eq_true]at h
  simp only[Cm]
  rw[List.map_congr_left (λx hx=>RR (h x hx) nm rows)]
  simp
 |arr=>rfl
 |arn=>cases h
 |map=>cases h
theorem dO.frz {N n:Nat} {rows:List (List PC)}: ∀{F:List (Nat×aU)} {s:List Nat},dO N s F→n∈s∨N≤n→rv n rows F=F
 | [],s,_,_=>rfl
 |(nm,b)::r,s,h,hn=>by
  have h0: ¬nm=n:=by
   rcases hn with hn|hn
   ·exact dU.1 h.2.2.1 n hn
   ·have:=h.1;omega
  rw[rv,if_neg h0,TI h.2.1,dO.frz h.2.2.2 (hn.imp_left (List.mem_cons_of_mem _))]
theorem Ve {b:aU} (h:ux b=true) (l:List (Nat×Nat)):QH l b=b:=by
 cases b with
 |var xs=>
  simp only[ux,List.all_eq_true]at h
  simp only[QH]
  have: ∀x∈xs,b8 l x=x:= λx hx=>by have:=h x hx;cases x<;>simp_all [GY,b8]
  rw[List.map_congr_left this]
  simp
 |arr=>rfl
 |arn=>cases h
 |map=>cases h
theorem Xs {b:aU} (h:ux b=true) (N:Nat):ZT N b:=by
 cases b with
 |var xs=>
  simp only[ux,List.all_eq_true]at h
  simp only[ZT]
  induction xs with
  |nil=>trivial
  |cons x xs ih=>exact⟨by have:=h x List.mem_cons_self;cases x<;>simp_all [GY,gQ],ih λy hy=>h y (List.mem_cons_of_mem _ hy)⟩
 |arr=>trivial
 |arn=>cases h
 |map=>cases h
theorem aG {α:Type} {k n:Nat} {a b:α} (h: ¬k=n):(if k=n then a else b)=b:=if_neg h
theorem aH {k n:Nat} {a b:Prop} (h: ¬k=n):(if k=n then a else b)=b:=if_neg h
theorem dO.wkAux {base N':Nat} {l:List (Nat×Nat)} {mem:List (Nat×aU)} (hl:e7 base l) (hN:base≤N'): ∀{F:List (Nat×aU)} {s seen:List Nat},dO base s F→(∀n∈seen,n∈s∨base≤n)→(∀x∈F,al mem x.1=some x.2)→VN l mem N' seen F
 | [],s,seen,_,_,_=>trivial
 |(nm,b)::r,s,seen,h,hs,hm=>by
  have e:rn l nm=nm:=MS hl h.1
  refine⟨?_,Nat.lt_of_lt_of_le h.1 hN,Xs h.2.1 _, ?_, ?_⟩
  ·rw[e,Ve h.2.1]
   exact hm _ List.mem_cons_self
  ·rw[e]
   refine dU.2 λm hm e=> ?_
   rcases hs m hm with h'|h'
   ·exact dU.1 h.2.2.1 m h' e
   ·have:=h.1;omega
  ·rw[e]
   refine dO.wkAux hl hN h.2.2.2 (λn hn=> ?_) (λx hx=>hm x (List.mem_cons_of_mem _ hx))
   rcases List.mem_cons.1 hn with rfl|hn
   ·exact .inl List.mem_cons_self
   ·exact(hs n hn).imp_left (List.mem_cons_of_mem _)
theorem dO.wk {base N':Nat} {l:List (Nat×Nat)} {mem F:List (Nat×aU)} {s seen:List Nat} (h:dO base s F) (hl:e7 base l) (hN:base≤N') (hs: ∀n∈seen,n∈s∨base≤n)
  (hm: ∀nm bx,nm<base→jO nm s→al F nm=some bx→al mem nm=some bx):VN l mem N' seen F:=
 dO.wkAux hl hN h hs λx hx=>by
  obtain⟨h1,_,h3⟩:=h.mem x hx
  exact hm _ _ h1 h3 (h.find x hx)
theorem dO.wkA {base N':Nat} {l:List (Nat×Nat)} {mem F:List (Nat×aU)} {s seen:List Nat} (h:dO base s F) (hl:e7 base l:=by simp[e7];try omega) (hN:base≤N':=by simp;try omega) (hs: ∀n∈seen,n∈s∨base≤n:=by intro n hn;simp(disch:=omega) [rn,aG]at hn ⊢;omega)
  (hm: ∀nm bx,nm<base→jO nm s→al F nm=some bx→al mem nm=some bx:=by intro nm bx h1 h2 h3;simp only[jO]at h2;simp only[al,am];(repeat(refine(aG (by omega)).trans ?_));exact h3):VN l mem N' seen F:=h.wk hl hN hs hm
theorem au {l:List (Nat×Nat)} {mem r:List (Nat×aU)} {N nm:Nat} {seen:List Nat} {b:aU} (h1:al mem (rn l nm)=some (QH l b)) (h2:nm<N) (h3:ZT N b) (h4:jO (rn l nm) seen) (h5:VN l mem N (rn l nm::seen) r):VN l mem N seen ((nm,b)::r):=⟨h1,h2,h3,h4,h5⟩
theorem av {l:List (Nat×Nat)} {σ σ':St} (h1:ij l σ.fr σ'.nx σ'.fr) (h2:VN l σ.mem σ'.nx [] σ'.mem) (h3:σ'.base=σ.base) (h4:σ.base≤σ'.nx) (h5:e7 σ.base l):Wk l σ σ':=⟨h1,h2,h3,h4,h5⟩
theorem K7 (nm e sz:Nat) (rows:List (List PC)) {P:Program} {g:Bool} {f:FuncId} {args pargs:List AV} {σ:St} {K:nV (AV→St→Prop)} {res:AV} (h:af P f pargs res) (hf:al σ.mem nm=some (.arr e sz rows))
  (hp:aV (σ.frz nm rows).mem (args.map (vJ nm rows))=some pargs) (hs:oZ res=true∨(args.map (vJ nm rows)).all fh=true) (hk:K.out res (σ.frz nm rows)): @sG P g true f args σ K:=
 Wd [nm] h (by rw[aP,hf];rfl) hp hs hk
theorem Ic (nm e sz:Nat) (rows:List (List PC)) {P:Program} {f:FuncId} {args:List AV} {σ:St} {K:nV (AV→St→Prop)} {res:AV} {mem':List (Nat×aU)} {nx':Nat} (hf:al σ.mem nm=some (.arr e sz rows))
  (h:aq P f (args.map (vJ nm rows)) (σ.frz nm rows).mem σ.nx res mem' nx') (hk:K.out res {σ.frz nm rows with mem:=mem',nx:=nx'}): @sG P true true f args σ K:=
 TQ [nm] (by rw[aP,hf];rfl) h hk
open Go.RowKit
structure w9 (P:Program) (l:Nat) (w:World) (xs:List (List AV)) (J:Option Nat→(Nat→Prop)→World→Prop):Prop where
 grow: ∀k S W W',J k S W→fc w.heap.size W W'→J k (λb=>S b∨W.heap.size≤b∧b<W'.heap.size) W'
 old: ∀k S W,J k S W→(∀b,S b→b<W.heap.size)∧w.heap.size≤W.heap.size∧mN W
 sub: ∀k S S' W,J k S W→(∀b,S' b→S b)→J k S' W
 round: ∀k x S W us,xs[k]? =some x→J (some k) S W→aJ (aN W S (λ_=>undef) 0) x us.toList→ ∀m,YieldAt Fence.wide m P l us W λe W'=>
  ∃b:Bool,e= .returned (.bool b)∧J (if b=true then some (k+1)else none) S W'∧ ∀c,S c→W'.heap[c]? =W.heap[c]?
def iS (P:Program) (f:FuncId) (args:List AV) (xs:List (List AV)):Prop:=
 mJ P f∧ ∀(l:Nat) (S:Nat→Prop) (J:Option Nat→(Nat→Prop)→World→Prop) (w:World) (vs:Array Value),mN w→
  aJ (aN w S (λ_=>undef) 0) args vs.toList→w9 P l w xs J→J (some 0) S w→
  Calls P f (#[.func (.yield l) #[] #[]]++vs) w λe w'=>(∃v,e= .returned v)∧ ∃k S',(k=some xs.length∨k=none)∧J k S' w'
def EF:List Nat→List AV→List (Nat×AV)→List (Nat×AV)
 |p::ps,x::xs,fr=>EF ps xs ((p,x)::fr)
 |_,_,fr=>fr
def abA (P:Program) (nt:Nat) (body:ak) (Q:bc→St→Prop):bc→St→Prop
 | .normal,σ=>AW P nt body σ Q
 |_,_=>False
def DL {τ:Type} (mk:Nat→τ→List (Nat×aU)×Nat) (I:Nat→τ→Prop) (bs:Nat) (fr0:List (Nat×AV)) (base:Nat) (Q:bc→St→Prop) (k:Nat):bc→St→Prop
 | .normal,σ=> ∃t l,I (k+1) t∧Wk l {σ with fr:= []} ⟨[],(mk (k+1) t).1,(mk (k+1) t).2,bs⟩
 | .exit i,σ=>σ.base=bs∧Q (.exit i) ⟨fr0,σ.mem,σ.nx,base⟩
 | .ret,σ=>σ.base=bs∧Q .ret ⟨fr0,σ.mem,σ.nx,base⟩
def tV:bc→Code
 | .normal=> .skip
 | .exit i=> .exit i
 | .ret=> .ret
section
variable {P : Program} {nt : Nat} {σ : St} {Q : bc → St → Prop}
theorem kI {a:Act}:sh [] a=a:=by
 cases a
 simp[sh]
theorem vR {rd:Option Nat} {n m:Nat} {c:Code} {Q:Exit→Act→World→Prop} {a:Act} {w:World} (h:c.wpIn (FR rd) n P Q a w):c.wpIn (FR rd) m P Q a w:=
 λb k cs h1 h2 _=>h b k cs h1 h2 (λd hd=>by cases hd)
theorem xY {w:World} {V:Nat→Prop} {ι:Pl} {N:Nat}: ∀{ps:List Nat} {xs:List AV} {us:List Value} {fr:List (Nat×AV)} {tmps:Array Value},aJ (aN w V ι N) xs us→(∀p∈ps,p<tmps.size)→
  (∀t,aN w V ι N (aI fr t) (tmps.getD t undef))→ ∀t,aN w V ι N (aI (EF ps xs fr) t) (((ps.zip us).foldl (λtmps (x:Nat×Value)=>tmps.setIfInBounds x.1 x.2) tmps).getD t undef)
 | [],_,_,_,_,_,_,h,t=>by simpa[EF]using h t
 |p::ps,_,_,fr,tmps,.nil,_,h,t=>by simpa[EF]using h t
 |p::ps,_,_,fr,tmps,.cons (a:=x) (b:=u) hx hr,hp,h,t=>by
  refine xY (ps:=ps) (fr:=(p,x)::fr) (tmps:=tmps.setIfInBounds p u) hr (λq hq=>by rw[Array.size_setIfInBounds];exact hp q (List.mem_cons_of_mem _ hq)) (λs=> ?_) t
  have hlt:=hp p List.mem_cons_self
  rw[eM]
  by_cases e:p=s
  ·subst e
   rw[if_pos rfl]
   have:(tmps.setIfInBounds p u).getD p undef=u:=by simp[Array.getD_eq_getD_getElem?,hlt]
   rw[this]
   exact hx
  ·rw[if_neg e]
   have:(tmps.setIfInBounds p u).getD s undef=tmps.getD s undef:=by simp[Array.getD_eq_getD_getElem?,Array.getElem?_setIfInBounds,e]
   rw[this]
   exact h s
theorem uD: ∀{ps:List Nat} {us:List Value} {tmps:Array Value},((ps.zip us).foldl (λtmps (x:Nat×Value)=>tmps.setIfInBounds x.1 x.2) tmps).size=tmps.size
 | [],_,_=>by simp
 |_::_, [],_=>by simp
 |p::ps,u::us,tmps=>by
  rw[List.zip_cons_cons,List.foldl_cons,uD,Array.size_setIfInBounds]
theorem Q9 {fx:AX} {ps:List Nat} {asg body:ak} {g:FuncId} {caps:List AC} {pcaps:List AV} {xs:List (List AV)} {τ:Type}
  (bs:Nat) (fr0:List (Nat×AV)) (mk:Nat→τ→List (Nat×aU)×Nat) (I:Nat→τ→Prop)
  (hf:fx.ev σ.fr= .c (.clo g caps)) (hp:aV σ.mem (caps.map .c)=some pcaps) (hnr:(caps.map AV.c).all fh=true)
  (hY:iS P g pcaps xs) (hlen: ∀x∈xs,x.length=ps.length) (hb:σ.base≤bs∧bs≤σ.nx) (hfr:ij [] σ.fr bs fr0)
  (h0: ∃t l,I 0 t∧Wk l ⟨[],σ.mem,σ.nx,bs⟩ ⟨[],(mk 0 t).1,(mk 0 t).2,bs⟩)
  (hround: ∀k x t,xs[k]? =some x→I k t→AW P nt asg ⟨EF ps x fr0,(mk k t).1,(mk k t).2,bs⟩ (abA P nt body (DL mk I bs fr0 σ.base Q k)))
  (hend: ∀t,I xs.length t→Q .normal ⟨fr0,(mk xs.length t).1,(mk xs.length t).2,σ.base⟩):AW P nt (.rangeF fx ps asg body) σ Q:=by
 intro c' hc w0 U rd ds ι a w hrd hs hz
 cases c'<;>simp[cQ]at hc
 all_goals(try(split at hc<;>simp at hc))
 rename_i f' ps' asg' body' _ _ _ _ x2 x3 x4 hfx hasg hbody hps
 obtain⟨rfl,rfl,rfl,rfl⟩:=hc
 have hps': ∀p∈ps'.toList,p<nt:= λp hp=>by simpa using Array.all_eq_true_iff_forall_mem.1 hps p (Array.mem_toList_iff.1 hp)
 have hsz0:=hs.below.size
 have hv:=ay hfx hs
 rw[hf]at hv
 obtain⟨cv,hcl,hcap,hu⟩: ∃cv:Array Value,caps.length=cv.size∧(∀(i:Nat) x,caps[i]? =some x→bK w (aC w0.heap.size U ι σ.mem) ι σ.nx x (cv.toList[i]?.getD undef))∧a.eval f'= .func (.func g) #[] cv:=by
  generalize a.eval f'=u at hv
  cases hv with
  |c h=>
   cases h with
   |clo hl h=>exact⟨_,hl,h,rfl⟩
 have hall:aJ (aN w (aC w0.heap.size U ι σ.mem) ι σ.nx) (caps.map .c) cv.toList:=by
  refine aJ.of_get (by simp[hcl]) λi x v hi hvi=> ?_
  rw[List.getElem?_map]at hi
  obtain⟨y,hy,rfl⟩:=Option.map_eq_some_iff.1 hi
  have:=hcap i y hy
  rw[hvi]at this
  exact .c this
 have hpc:=kK (V:=aC w0.heap.size U ι σ.mem) hs hall (λ_ h=>h) (.inl hnr) hp
 have hfree_lt: ∀{b:Nat},aC w0.heap.size U ι σ.mem b→True:= λ_=>trivial
 have hexec: ∀args w,(callFunc g args).run P w= .ok (.enter g args) w:=by
  obtain⟨fn,hfn,hbody,hname⟩:=hY.1
  have hb: ¬fn.body=none:=by intro e;rw[e]at hbody;cases hbody
  have hname' : ¬ fn.name = "runtime.NumGoroutine" := by intro e; rw [e] at hname; simp at hname
  intro args w
  simp[callFunc,hfn,hname',hb]
 refine wpIn_rangeFunc (F:=FR rd) λfn _=> ?_
 obtain⟨l,D,dfr,mark,w1,hent,hg1,hl1,hl0,hw1l,hD1,hmark⟩: ∃(l D dfr:Nat) (mark:List Deferred) (w1:World),
   (Instr.enterLoop fn (sh ds a).tmps ps' asg' body' (FR rd).round).run P w= .ok (l,mark) w1∧Below w.heap.size w w1∧
   w1.heap[l]? =some (.loop {state:= .ready,pending:=none,fn,tmps:=a.tmps,params:=ps',assign:=asg',body:=body',defers:=dfr})∧w.heap.size≤l∧
   w1.heap.size=l+1∧(rd=none→w.heap.size≤D∧D≠l∧w1.heap[D]? =some (.deferred (some [])))∧((rd=none∧mark= [{target:= .collected D,args:= #[]}])∨((∃l0,rd=some l0)∧mark= [])):=by
  cases rd with
  |none=>
   refine⟨w.heap.size+1,w.heap.size,w.heap.size,_,_,run_enterLoop_outer _ _ _ _ _,((Below.refl _ w).alloc (Nat.le_refl _) _).alloc (by simp) _, ?_,by omega,by simp,λ_=>⟨Nat.le_refl _,by omega, ?_⟩,.inl ⟨rfl,rfl⟩⟩
   ·have:=World.alloc_heap_new (w.alloc (.deferred (some []))) (.loop {state:= .ready,pending:=none,fn,tmps:=a.tmps,params:=ps',assign:=asg',body:=body',defers:=w.heap.size})
    rwa [World.size_alloc]at this
   ·exact(Below.heap_alloc _ _ _ (by simp)).trans (World.alloc_heap_new w _)
  |some l0=>
   obtain⟨r0,hr0⟩:=hrd l0 rfl _ _ hs.keep
   exact⟨w.heap.size,0,r0.defers, [],_,run_enterLoop_inner hr0 _ _ _ _ _,(Below.refl _ w).alloc (Nat.le_refl _) _,World.alloc_heap_new w _,Nat.le_refl _,by simp,(λh=>by cases h),.inr ⟨⟨l0,rfl⟩,rfl⟩⟩
 generalize hrec:(λ(st:LoopState) (pe:Option Code)=>({state:=st,pending:=pe,fn,tmps:=a.tmps,params:=ps',assign:=asg',body:=body',defers:=dfr}:Loop))=rec
 have hrec': ∀st pe,rec st pe={state:=st,pending:=pe,fn,tmps:=a.tmps,params:=ps',assign:=asg',body:=body',defers:=dfr}:= λst pe=>by rw[←hrec]
 rw[←hrec']at hl1
 have hl1':=(Array.getElem?_eq_some_iff.1 hl1).1
 refine⟨l,mark,w1,{target:= .fn (.func g) cv,args:= #[.func (.yield l) #[] #[]]},w1,g, #[.func (.yield l) #[] #[]]++cv,w1,hent, ?_,λ_ _=>trivial, ?_,λh=>by simp[FR,Fence.wide]at h, ?_⟩
 ·have he:(sh ds a).eval f'= .func (.func g) #[] cv:=by rw[rx];exact hu
  simp only[resolve,he]
  simp[go_sem]
 ·simp[invoke,go_sem,hexec]
 let Stay:World→(Nat→Prop)→Prop:= λW V=>(∀b,b<w.heap.size→aC w0.heap.size U ι σ.mem b→V b∧W.heap[b]? =w.heap[b]?)∧(rd=none→V D∧W.heap[D]? =some (.deferred (some [])))
 have stay_mono: ∀(W W':World) (V V':Nat→Prop),Stay W V→(∀b,b<W.heap.size→V b→V' b)→(∀b,b<W.heap.size→V b→W'.heap[b]? =W.heap[b]?)→Stay W' V':=by
  rintro W W' V V' ⟨h2,h3⟩ hV hw
  refine⟨λb hb hf=> ?_,λe=> ?_⟩
  ·obtain⟨k1,k2⟩:=h2 b hb hf
   have hlt:b<W.heap.size:=by
    have:w.heap[b]? =some w.heap[b]:=by simp[hb]
    rw[this]at k2
    exact(Array.getElem?_eq_some_iff.1 k2).1
   exact⟨hV b hlt k1,(hw b hlt k1).trans k2⟩
  ·obtain⟨k1,k2⟩:=h3 e
   have hlt:=(Array.getElem?_eq_some_iff.1 k2).1
   exact⟨hV D hlt k1,(hw D hlt k1).trans k2⟩
 let Us:Loop→(Nat→Prop)→World→Gh:= λr S Ws=>⟨U.p,ι,λW V=>Stay W V∧V l∧W.heap[l]? =some (.loop r)∧(∀b,S b→b<Ws.heap.size∧V b∧W.heap[b]? =Ws.heap[b]?),λW W' V V' ⟨h1,h2,h3,h4⟩ hV hw=>by
  have hlt:=(Array.getElem?_eq_some_iff.1 h3).1
  refine⟨stay_mono W W' V V' h1 hV hw,hV l hlt h2,(hw l hlt h2).trans h3,λb hb=> ?_⟩
  obtain⟨q1,q2,q3⟩:=h4 b hb
  have hlt:b<W.heap.size:=by
   have:Ws.heap[b]? =some Ws.heap[b]:=by simp[q1]
   rw[this]at q3
   exact(Array.getElem?_eq_some_iff.1 q3).1
  exact⟨q1,hV b hlt q2,(hw b hlt q2).trans q3⟩⟩
 let Ur:Loop→Gh:= λr=>Us r (λ_=>False) w
 let Ue:Gh:=⟨U.p,U.ι0,λW V=>Stay W V,λW W' V V' h1 hV hw=>stay_mono W W' V V' h1 hV hw⟩
 have stayU: ∀W V,Stay W V→U.G W V:= λW V h=>U.mono w W _ V hs.keep (λb hb hf=>(h.1 b hb hf).1) (λb hb hf=>(h.1 b hb hf).2)
 have zF: ∀{ι':Pl} {mem:List (Nat×aU)} {W:World} {Ub:Gh} {nx b0:Nat} {fr:List (Nat×AV)} {a':Act} {q:Nat},bD w0 Ub ⟨fr,mem,nx,b0⟩ ι' a' W→w.heap.size≤q→W.heap.size≤q→aC w0.heap.size Ub ι' mem q:= λhS h1 h2=>
  ⟨.inr (by omega),λnm bx hn e=>by have:=((hS.box nm bx hn).block e).2;omega⟩
 have free_lp: ∀{ι':Pl} {mem:List (Nat×aU)} {W:World} {Ub:Gh} {nx b0:Nat} {fr:List (Nat×AV)} {a':Act} {q:Nat} {o:Obj},bD w0 Ub ⟨fr,mem,nx,b0⟩ ι' a' W→w.heap.size≤q→W.heap[q]? =some o→Gn o=true→aC w0.heap.size Ub ι' mem q:= λhS h1 h2 h3=>
  ⟨.inr (by omega),λnm bx hn e=>hS.not_lp hn e ⟨_,h2,h3⟩⟩
 have outer: ∀{r:Loop} {S:Nat→Prop} {Ws:World} {σ2:St} {ι2:Pl} {a2:Act} {W:World},bD w0 (Us r S Ws) σ2 ι2 a2 W→σ2.base=bs→bD w0 (Us r S Ws) ⟨fr0,σ2.mem,σ2.nx,bs⟩ ι2 a W:=by
  intro r S Ws σ2 ι2 a2 W h hbs
  refine⟨λt=> ?_,hs.defers,h.names,h.box,h.apart,h.below,h.keep,by rw[←hbs];exact h.base⟩
  obtain⟨h1,h2⟩:=Fg hfr t
  rcases h1 with h1|h1
  ·have hv:=hs.val t
   rw[h1]at hv
   have hv2:=hv.cl (V':=aC w0.heap.size U ι σ.mem) (λ_ h=>h) h2
   refine hv2.mono (λb hlt hf=>(h.keep.1.1 b hlt hf).1) (λb hlt hf=>(h.keep.1.1 b hlt hf).2) (λnm hnm=> ?_) (by rw[←hbs];exact h.base.1)
   have:=h.base.2 nm (by rw[hbs];exact hnm)
   exact this
  ·show aN _ _ _ _ (aI fr0 t) _
   rw[h1];exact .top
 let rdy:=rec .ready none
 let OkS:(Nat→Prop)→World→Pl→List (Nat×aU)→Prop:= λS W ι' mem=> ∀b,S b→b<W.heap.size∧b≠l∧aC w0.heap.size U ι' mem b
 let J:Option Nat→(Nat→Prop)→World→Prop:= λk S W=>match k with
  |some k=> ∃t ι',I k t∧bD w0 (Ur rdy) ⟨fr0,(mk k t).1,(mk k t).2,bs⟩ ι' a W∧OkS S W ι' (mk k t).1
  |none=> ∃(e:bc) (σ2:St) (ι':Pl),e≠ .normal∧Q e ⟨fr0,σ2.mem,σ2.nx,σ.base⟩∧bD w0 (Ur (rec .done (some (tV e)))) ⟨fr0,σ2.mem,σ2.nx,bs⟩ ι' a W∧OkS S W ι' σ2.mem
 have w1sz:w.heap.size≤w1.heap.size:=hg1.size
 have grow: ∀{r:Loop} {σ2:St} {ι2:Pl} {a2:Act} {W W':World},bD w0 (Ur r) σ2 ι2 a2 W→fc w1.heap.size W W'→bD w0 (Ur r) σ2 ι2 a2 W':=by
  intro r σ2 ι2 a2 W W' h hg
  refine h.growL (n:=w1.heap.size) (by omega) hg rfl rfl ?_
  obtain⟨⟨k1,k2⟩,k3,k4,_⟩:=h.keep
  have hltl:=(Array.getElem?_eq_some_iff.1 k4).1
  refine⟨⟨λb hb hf=> ?_,λe=> ?_⟩,k3,(hg.old hl1' hltl).trans k4,λb hb=>hb.elim⟩
  ·obtain⟨q1,q2⟩:=k1 b hb hf
   exact⟨q1,(hg.old (by omega) (by omega)).trans q2⟩
  ·obtain⟨q1,q2⟩:=k2 e
   have h1:=(Array.getElem?_eq_some_iff.1 (hD1 e).2.2).1
   exact⟨q1,(hg.old h1 (Array.getElem?_eq_some_iff.1 q2).1).trans q2⟩
 have turn: ∀{r r':Loop} {S:Nat→Prop} {Ws:World} {σ2:St} {ι2:Pl} {a2:Act} {W:World},bD w0 (Us r S Ws) σ2 ι2 a2 W→(∀b,S b→b≠l)→bD w0 (Us r' S Ws) σ2 ι2 a2 (W.putObj l (.loop r')):=by
  intro r r' S Ws σ2 ι2 a2 W h hSl
  obtain⟨⟨k1,k2⟩,k3,k4,k5⟩:=h.keep
  refine h.turn (.loop r') k4 rfl (by omega) rfl rfl ⟨⟨λb hb hf=> ?_,λe=> ?_⟩,k3,World.putObj_heap_same (Array.getElem?_eq_some_iff.1 k4).1,λb hb=>⟨(k5 b hb).1,(k5 b hb).2.1,(World.putObj_heap_other (hSl b hb)).trans (k5 b hb).2.2⟩⟩
  ·obtain⟨q1,q2⟩:=k1 b hb hf
   exact⟨q1,(World.putObj_heap_other (by omega)).trans q2⟩
  ·obtain⟨q1,q2⟩:=k2 e
   exact⟨q1,(World.putObj_heap_other (hD1 e).2.1).trans q2⟩
 have final: ∀{e':bc} {r r':Loop} {mem:List (Nat×aU)} {nx:Nat} {ι2:Pl} {W:World},bD w0 (Ur r) ⟨fr0,mem,nx,bs⟩ ι2 a W→Q e' ⟨fr0,mem,nx,σ.base⟩→
   xM w0 U rd ds nt Q (jN e') {sh ds a with defers:=mark++(sh ds a).defers} (W.putObj l (.loop r')):=by
  intro e' r r' mem nx ι2 W h hq
  have h1:=turn (r':=r') h (λ_ hb=>hb.elim)
  have hE:bD w0 Ue ⟨fr0,mem,nx,σ.base⟩ ι2 a (W.putObj l (.loop r')):=
   ⟨h1.val,h1.defers,h1.names,h1.box,h1.apart,h1.below,h1.keep.1,⟨Nat.le_trans hb.1 h1.base.1,λnm hnm=>(h1.base.2 nm (Nat.lt_of_lt_of_le hnm hb.1)).trans (hs.base.2 nm hnm)⟩⟩
  have he:({sh ds a with defers:=mark++(sh ds a).defers}:Act)=sh (mark++ds) a:=by simp[sh,hs.defers.1]
  rw[he]
  rcases hmark with⟨hn,hm⟩|⟨⟨l0,hl0'⟩,hm⟩
  ·refine⟨e',_,ι2,Ue,mark++ds,a,rfl,hq,hE,hz,rfl, ?_⟩
   rw[hm]
   refine J2.mark (U':=U) (D:=D) .refl hn (by have:=(hD1 hn).1;omega) rfl rfl λW V h=>⟨stayU W V h,(h.2 hn).1,(h.2 hn).2, ?_⟩
   exact U.mono w _ _ V hs.keep (λb hb hf=>(h.1 b hb hf).1) (λb hb hf=>(World.putObj_heap_other (by have:=(hD1 hn).1;omega)).trans (h.1 b hb hf).2)
  ·refine⟨e',_,ι2,U,mark++ds,a,rfl,hq,⟨hE.val,hE.defers,hE.names,hE.box,hE.apart,hE.below,stayU _ _ hE.keep,hE.base⟩,hz,rfl, ?_⟩
   rw[hm]
   exact .refl
 have rdRound: ∀r S Ws,Ux (Us r S Ws) (some l):= λr S Ws l' e W V hG=>by
  cases e
  exact⟨_,hG.2.2.1⟩
 have weak: ∀{r:Loop} {S:Nat→Prop} {Ws:World} {σ2:St} {ι2:Pl} {a2:Act} {W:World},bD w0 (Us r S Ws) σ2 ι2 a2 W→bD w0 (Ur r) σ2 ι2 a2 W:= λh=>
  ⟨h.val,h.defers,h.names,h.box,h.apart,h.below,⟨h.keep.1,h.keep.2.1,h.keep.2.2.1,λb hb=>hb.elim⟩,h.base⟩
 have okGrow: ∀{S:Nat→Prop} {W W':World} {ι':Pl} {mem:List (Nat×aU)} {Ub:Gh} {nx b0:Nat} {fr:List (Nat×AV)} {a':Act},Ub.p=U.p→bD w0 Ub ⟨fr,mem,nx,b0⟩ ι' a' W→w1.heap.size≤W.heap.size→W.heap.size≤W'.heap.size→OkS S W ι' mem→OkS (λb=>S b∨W.heap.size≤b∧b<W'.heap.size) W' ι' mem:=by
  intro S W W' ι' mem Ub nx b0 fr a' hUp hS hw hg h b hb
  rcases hb with hb|⟨h1,h2⟩
  ·exact⟨Nat.lt_of_lt_of_le (h b hb).1 hg,(h b hb).2⟩
  ·exact⟨h2,by omega,.inr (by omega),λnm bx hn e=>by have:=((hS.box nm bx hn).block e).2;omega⟩
 have sz: ∀{r:Loop} {S:Nat→Prop} {Ws:World} {σ2:St} {ι2:Pl} {a2:Act} {W:World},bD w0 (Us r S Ws) σ2 ι2 a2 W→w1.heap.size≤W.heap.size:= λh=>by
  have:=(Array.getElem?_eq_some_iff.1 h.keep.2.2.1).1
  omega
 refine Da ((hY.2 l (λb=>aC w0.heap.size U ι σ.mem b∧b<w.heap.size) J w1 cv (hs.glob.below (Nat.le_refl _) hg1) ?_ ⟨?_, ?_, ?_, ?_⟩ ?_).mono ?_)
 ·exact hpc.mono λ_ _ h=>h.mono (λb hb hf=>⟨hf,hb⟩) (λb hb _=>hg1.block b hb) (λ_ _=>rfl) (Nat.le_refl _)
 ·intro k S W W' h hg
  cases k with
  |some k=>
   obtain⟨t,ι',hI,h,hok⟩:=h
   exact⟨t,ι',hI,grow h hg,okGrow (Ub:=Ur rdy) rfl h (sz h) hg.size hok⟩
  |none=>
   obtain⟨e,σ2,ι',hne,hq,h,hok⟩:=h
   exact⟨e,σ2,ι',hne,hq,grow h hg,okGrow (Ub:=Ur (rec .done (some (tV e)))) rfl h (sz h) hg.size hok⟩
 ·intro k S W h
  cases k with
  |some k=>
   obtain⟨t,ι',hI,h,hok⟩:=h
   exact⟨λb hb=>(hok b hb).1,sz h,h.glob⟩
  |none=>
   obtain⟨e,σ2,ι',hne,hq,h,hok⟩:=h
   exact⟨λb hb=>(hok b hb).1,sz h,h.glob⟩
 ·intro k S S' W h hsub
  cases k with
  |some k=>
   obtain⟨t,ι',hI,h,hok⟩:=h
   exact⟨t,ι',hI,h,λb hb=>hok b (hsub b hb)⟩
  |none=>
   obtain⟨e,σ2,ι',hne,hq,h,hok⟩:=h
   exact⟨e,σ2,ι',hne,hq,h,λb hb=>hok b (hsub b hb)⟩
 ·rintro k x S W us hx ⟨t,ι',hI,hsW,hok⟩ hus m
  obtain⟨⟨k1,k2⟩,k3,k4,_⟩:=hsW.keep
  have hSl: ∀b,S b→b≠l:= λb hb=>(hok b hb).2.1
  have hxl:=hlen x (List.mem_of_getElem? hx)
  have hul:us.size=ps'.size:=by
   rw[←Array.length_toList,←hus.length,hxl,Array.length_toList]
  have hy:=run_yield (P:=P) (args:=us) k4 (by simp only[rdy,hrec'];exact hul)
  refine⟨fn,_,asg',body',by simp only[rdy,hrec']at hy;exact hy,roundIn_of_wpIn trivial ?_⟩
  have etm:(ps'.zip us).foldl (λtmps (x:Nat×Value)=>tmps.setIfInBounds x.1 x.2) a.tmps=(ps'.toList.zip us.toList).foldl (λtmps (x:Nat×Value)=>tmps.setIfInBounds x.1 x.2) a.tmps:=by
   rw[←Array.foldl_toList,Array.toList_zip]
  have hus':aJ (aN W (aC w0.heap.size (Us rdy S W) ι' (mk k t).1) ι' (mk k t).2) x us.toList:=hus.mono λ_ _ h=>h.mono (λb hlt h=>(hok b h).2.2) (λ_ _ _=>rfl) (λnm hnm=>absurd hnm (Nat.not_lt_zero _)) (Nat.zero_le _)
  have hsr:bD w0 (Us rdy S W) ⟨EF ps'.toList x fr0,(mk k t).1,(mk k t).2,bs⟩ ι' {tmps:=(ps'.zip us).foldl (λtmps (x:Nat×Value)=>tmps.setIfInBounds x.1 x.2) a.tmps,defers:= []} W:=by
   refine⟨λs=> ?_,⟨rfl,hsW.defers.2⟩,hsW.names,hsW.box,hsW.apart,hsW.below,⟨hsW.keep.1,hsW.keep.2.1,hsW.keep.2.2.1,λb hb=>⟨(hok b hb).1,(hok b hb).2.2,rfl⟩⟩,hsW.base⟩
   rw[etm]
   exact xY hus' (by rw[hz];exact hps') hsW.val s
  have h1:=hround k x t hx hI _ hasg w0 (Us rdy S W) (some l) [] ι' _ W (rdRound _ _ _) hsr (by rw[etm,uD];exact hz)
  rw[kI]at h1
  refine wpIn_mono (vR h1) ?_
  rintro e a1 W1 ⟨e',σ1,ι1,U',ds',a0,rfl,hq,hs1,hz1,rfl,hx1⟩
  obtain⟨rfl,rfl⟩:=hx1.inRound
  rw[kI]
  cases e' with
  |exit i=>exact hq.elim
  |ret=>exact hq.elim
  |normal=>
   have k4':=hs1.keep.2.2.1
   refine⟨_,run_beginRound k4' (by simp only[rdy,hrec']), ?_⟩
   have hs2:=turn (r':={rdy with state:= .busy}) hs1 hSl
   have h3:=hq _ hbody w0 (Us {rdy with state:= .busy} S W) (some l) [] ι1 a0 _ (rdRound _ _ _) hs2 hz1
   rw[kI]at h3
   refine wpIn_mono (vR h3) ?_
   rintro e a2 W2 ⟨e',σ2,ι2,U',ds',a3,rfl,hq2,hs3,hz3,rfl,hx2⟩
   obtain⟨rfl,rfl⟩:=hx2.inRound
   have k5:=hs3.keep.2.2.1
   have er: ∀jump:Option Code,({({rdy with state:= .busy}:Loop)with state:=if jump.isNone then .ready else .done,pending:=jump}:Loop)=rec (if jump.isNone then .ready else .done) jump:= λjump=>by simp only[rdy,hrec']
   have hr:= λjump=>run_endRound (P:=P) jump k5
   simp only[er]at hr
   have kept: ∀r' c,S c→(W2.putObj l (.loop r')).heap[c]? =W.heap[c]? := λr' c hc=>(World.putObj_heap_other (hSl c hc)).trans (hs3.keep.2.2.2 c hc).2.2
   have okS: ∀{ι3:Pl} {mem:List (Nat×aU)} {σ3:St} {a3:Act} {r r':Loop},bD w0 (Us r S W) σ3 ι3 a3 (W2.putObj l (.loop r'))→σ3.mem=mem→OkS S (W2.putObj l (.loop r')) ι3 mem:=by
    intro ι3 mem σ3 a3 r r' h e b hb
    subst e
    obtain⟨q1,q2,q3⟩:=h.keep.2.2.2 b hb
    refine⟨?_,hSl b hb,q2⟩
    have:W.heap[b]? =some W.heap[b]:=by simp[q1]
    rw[this]at q3
    exact(Array.getElem?_eq_some_iff.1 q3).1
   cases e' with
   |normal=>
    obtain⟨t',l',hI',hwk⟩:=hq2
    have h4:=turn (r':=rdy) hs3 hSl
    have h5:bD w0 (Us rdy S W) {σ2 with fr:= []} ι2 a3 (W2.putObj l (.loop rdy)):=⟨λ_=> .top,h4.defers,h4.names,h4.box,h4.apart,h4.below,h4.keep,h4.base⟩
    have h6:=outer (h5.wk hwk) rfl
    exact⟨_,_,hr none,true,rfl,⟨t',_,hI',weak h6,okS h6 rfl⟩,kept _⟩
   |exit i=>
    obtain⟨hbs,hq3⟩:=hq2
    have h6:=outer (turn (r':=rec .done (some (tV (.exit i)))) hs3 hSl) hbs
    exact⟨_,_,hr (some (.exit i)),false,rfl,⟨.exit i,σ2,ι2,(λh=>by cases h),hq3,weak h6,okS h6 rfl⟩,kept _⟩
   |ret=>
    obtain⟨hbs,hq3⟩:=hq2
    have h6:=outer (turn (r':=rec .done (some (tV .ret))) hs3 hSl) hbs
    exact⟨_,_,hr (some .ret),false,rfl,⟨.ret,σ2,ι2,(λh=>by cases h),hq3,weak h6,okS h6 rfl⟩,kept _⟩
 ·obtain⟨t0,l0,hI0,hwk0⟩:=h0
  have hs1:=hs.grow hg1
  have hfr: ∀q,w.heap.size≤q→aC w0.heap.size U ι σ.mem q:= λq hq=>⟨.inr (by omega),λnm bx hn e=>by have:=((hs.box nm bx hn).block e).2;omega⟩
  have h2:bD w0 (Us rdy (λb=>aC w0.heap.size U ι σ.mem b∧b<w.heap.size) w1) ⟨[],σ.mem,σ.nx,bs⟩ ι a w1:=⟨λ_=> .top,hs.defers,hs1.names,hs1.box,hs1.apart,hs1.below,
   ⟨⟨λb hb hf=>⟨hf,hg1.block b hb⟩,λe=>⟨hfr D (hD1 e).1,(hD1 e).2.2⟩⟩,hfr l hl0,hl1,λb hb=>⟨by omega,hb.1,rfl⟩⟩,⟨hb.2,λ_ _=>rfl⟩⟩
  have h3:=outer (h2.wk hwk0) rfl
  exact⟨t0,_,hI0,weak h3,λb hb=>⟨by omega,by omega,(h3.keep.2.2.2 b hb).2.1⟩⟩
 ·rintro e W3 ⟨⟨v,rfl⟩,k,S',hk,h⟩
  cases k with
  |some k=>
   obtain rfl:k=xs.length:=by simpa using hk
   obtain⟨t,ι',hI,hsim,_⟩:=h
   have k:=hsim.keep.2.2.1
   have hr:=run_endLoop (P:=P) k (by simp only[rdy,hrec'];simp)
   exact⟨_,_,hr,by simp only[rdy,hrec'];exact final (e':= .normal) hsim (hend t hI)⟩
  |none=>
   obtain⟨e,σ2,ι',hne,hq,hsim,_⟩:=h
   have k:=hsim.keep.2.2.1
   have hr:=run_endLoop (P:=P) k (by simp only[hrec'];simp)
   refine⟨_,_,hr, ?_⟩
   simp only[hrec']
   cases e with
   |normal=>exact absurd rfl hne
   |exit i=>exact wpIn_exit (final (e':= .exit i) hsim hq)
   |ret=>exact wpIn_ret (final (e':= .ret) hsim hq)
def Z5 (P:Program) (nt:Nat) (body:ak) (Q:bc→St→Prop):bc→St→Prop
 | .normal,σ=>jo P nt body σ Q
 |_,_=>False
theorem LA {body:ak} {σ:St} {Q:bc→St→Prop}:Z5 P nt body Q .normal σ=jo P nt body σ Q:=propext ⟨id,id⟩
theorem Gy {τ:Type} {mk:Nat→τ→List (Nat×aU)×Nat} {I:Nat→τ→Prop} {bs:Nat} {fr0:List (Nat×AV)} {base:Nat} {Q:bc→St→Prop} {k:Nat} {σ:St}:DL mk I bs fr0 base Q k .normal σ= ∃t l,I (k+1) t∧Wk l {σ with fr:= []} ⟨[],(mk (k+1) t).1,(mk (k+1) t).2,bs⟩:=propext ⟨id,id⟩
theorem KP {τ:Type} {mk:Nat→τ→List (Nat×aU)×Nat} {I:Nat→τ→Prop} {bs:Nat} {fr0:List (Nat×AV)} {base:Nat} {Q:bc→St→Prop} {k i:Nat} {σ:St}:DL mk I bs fr0 base Q k (.exit i) σ=(σ.base=bs∧Q (.exit i) ⟨fr0,σ.mem,σ.nx,base⟩):=propext ⟨id,id⟩
theorem ME {τ:Type} {mk:Nat→τ→List (Nat×aU)×Nat} {I:Nat→τ→Prop} {bs:Nat} {fr0:List (Nat×AV)} {base:Nat} {Q:bc→St→Prop} {k:Nat} {σ:St}:DL mk I bs fr0 base Q k .ret σ=(σ.base=bs∧Q .ret ⟨fr0,σ.mem,σ.nx,base⟩):=propext ⟨id,id⟩
attribute [go_sem ↓] LA Gy KP ME
attribute [go_sem] EF
theorem qc {fx:AX} {ps:List Nat} {asg body:ak} {g:FuncId} {caps:List AC} {pcaps:List AV} {xs:List (List AV)} {τ:Type}
  (bs:Nat) (fr0:List (Nat×AV)) (mk:Nat→τ→List (Nat×aU)×Nat) (I:Nat→τ→Prop)
  (hf:fx.ev σ.fr= .c (.clo g caps)) (hp:aV σ.mem (caps.map .c)=some pcaps) (hnr:(caps.map AV.c).all fh=true)
  (hY:iS P g pcaps xs) (hlen: ∀x∈xs,x.length=ps.length) (hb:σ.base≤bs∧bs≤σ.nx) (hfr:ij [] σ.fr bs fr0)
  (h0: ∃t l,I 0 t∧Wk l ⟨[],σ.mem,σ.nx,bs⟩ ⟨[],(mk 0 t).1,(mk 0 t).2,bs⟩)
  (hround: ∀k x t,xs[k]? =some x→I k t→jo P nt asg ⟨EF ps x fr0,(mk k t).1,(mk k t).2,bs⟩ (Z5 P nt body (DL mk I bs fr0 σ.base Q k)))
  (hend: ∀t,I xs.length t→Q .normal ⟨fr0,(mk xs.length t).1,(mk xs.length t).2,σ.base⟩):AW P nt (.rangeF fx ps asg body) σ Q:=
 Q9 bs fr0 mk I hf hp hnr hY hlen hb hfr h0 (λk x t hx hI=>(aa (hround k x t hx hI)).mono λe σ h=>by
  cases e with
  |normal=>exact aa h
  |exit i=>exact h
  |ret=>exact h) hend
end
open Go.RowKit
def yv (l:Nat):AV:= .c (.pure (.val (.func (.yield l) #[] #[])))
section
variable {P : Program}
theorem lA {dr:Bool} {nt:Nat} {ops:Array Oper}: ∀{l:List Oper} {gs:List AG} (n:Nat),gw P dr nt ops l=some gs→gw P dr nt ops (l.take n)=some (gs.take n)∧gw P dr nt ops (l.drop n)=some (gs.drop n)∧
  ∀g,gs[n]? =some g→ ∃o,l[n]? =some o∧ui P dr nt ops o=some g
 |[],gs,n,h=>by
  cases h
  simp[gw]
 |o::l,gs,n,h=>by
  have h0:=h
  unfold gw at h
  split at h
  ·rename_i g gs' h1 h2
   cases h
   cases n with
   |zero=>
    refine⟨rfl,h0,λg' hg=> ?_⟩
    simp at hg
    subst hg
    exact⟨o,rfl,h1⟩
   |succ n=>
    obtain⟨k1,k2,k3⟩:=lA n h2
    refine⟨?_,k2,k3⟩
    simp only[List.take_succ_cons]
    unfold gw
    rw[h1,k1]
  ·cases h
theorem bV {rd:Option Nat} {n:Nat} {ops:Array Oper} {Q1 Q:Exit→Act→World→Prop} {l2:List Oper} (hq: ∀a w,Q1 .normal a w→wpListIn (FR rd) n P ops Q l2 a w) (hx: ∀e a w,Q1 e a w→e= .normal): ∀{l1:List Oper} {a:Act} {w:World},
  wpListIn (FR rd) n P ops Q1 l1 a w→wpListIn (FR rd) n P ops Q (l1++l2) a w
 | [],a,w,h=>hq a w h
 |o::l1,a,w,h=>by
  rw[List.cons_append]
  unfold wpListIn at h ⊢
  split at h
  ·rename_i hw
   rw[if_pos hw]
   obtain⟨h1,h2⟩:=h
   refine⟨h1, ?_⟩
   generalize (o.semAt (FR rd).round a.eval).run P w=r at h2
   cases r with
   |ok nx w'=>
    cases nx<;>simp only[Oper.uponIn]at h2 ⊢
    case value v=>exact bV hq hx h2
    case skip=>exact bV hq hx h2
    case defer d=>exact bV hq hx h2
    case enter f args=>
     refine⟨h2.1,h2.2.mono λe w'' h=> ?_⟩
     cases e with
     |returned v=>exact bV hq hx h
     |panicked ch=>exact absurd (hx _ _ _ h) (by simp)
     |outgrown=>obtain⟨_,_,h⟩:=h;exact absurd (hx _ _ _ h) (by simp)
    case row row args=>exact⟨h2.1,h2.2.mono λv w'' h=>bV hq hx h⟩
    case round l f tmps asg body=>
     refine⟨h2.1,h2.2.mono λe w'' h=> ?_⟩
     cases e with
     |returned v=>exact bV hq hx h
     |panicked ch=>exact absurd (hx _ _ _ h) (by simp)
     |outgrown=>obtain⟨_,_,h⟩:=h;exact absurd (hx _ _ _ h) (by simp)
   |halt hh w'=>
    cases hh<;>simp only[Oper.uponIn]at h2 ⊢
    case panic v=>exact absurd (hx _ _ _ h2) (by simp)
  ·rename_i hw
   rw[if_neg hw]
   exact⟨h.1,bV hq hx h.2⟩
def SY (S:Nat→Prop) (fr:List (Nat×AV)) (a:Act) (W:World):Prop:=(∀t,aN W S (λ_=>undef) 0 (aI fr t) (a.tmps.getD t undef))∧a.defers= []
def rc (S:Nat→Prop) (W:World) (S':Nat→Prop) (W':World):Prop:= ∀b,S b→S' b∧W'.heap[b]? =W.heap[b]?
theorem rc.refl {S:Nat→Prop} {W:World}:rc S W S W:= λ_ h=>⟨h,rfl⟩
theorem rc.trans {S S' S'':Nat→Prop} {W W' W'':World} (h:rc S W S' W') (k:rc S' W' S'' W''):rc S W S'' W'':= λb hb=>⟨(k b (h b hb).1).1,(k b (h b hb).1).2.trans (h b hb).2⟩
theorem SY.kept {S S':Nat→Prop} {fr:List (Nat×AV)} {a:Act} {W W':World} (h:SY S fr a W) (k:rc S W S' W'):SY S' fr a W':=
 ⟨λt=>(h.1 t).mono (λb _ hb=>(k b hb).1) (λb _ hb=>(k b hb).2) (λ_ _=>rfl) (Nat.le_refl _),h.2⟩
def tQ (nt:Nat) (J:Option Nat→(Nat→Prop)→World→Prop) (S0:Nat→Prop) (W0:World) (Q:bc→Option Nat→List (Nat×AV)→Prop):Exit→Act→World→Prop:= λe a W=>
 ∃e' k fr S,e=jN e'∧Q e' k fr∧J k S W∧SY S fr a W∧a.tmps.size=nt∧rc S0 W0 S W
theorem tQ.kept {nt:Nat} {J:Option Nat→(Nat→Prop)→World→Prop} {S0 S1:Nat→Prop} {W0 W1:World} {Q:bc→Option Nat→List (Nat×AV)→Prop} {e:Exit} {a:Act} {W:World} (h:tQ nt J S1 W1 Q e a W) (k:rc S0 W0 S1 W1):tQ nt J S0 W0 Q e a W:=by
 obtain⟨e',k',fr,S,h1,h2,h3,h4,h5,h6⟩:=h
 exact⟨e',k',fr,S,h1,h2,h3,h4,h5,k.trans h6⟩
theorem tQ.here {nt:Nat} {J:Option Nat→(Nat→Prop)→World→Prop} {S:Nat→Prop} {W:World} {Q:bc→Option Nat→List (Nat×AV)→Prop} {e':bc} {k:Option Nat} {fr:List (Nat×AV)} {a:Act} (hq:Q e' k fr) (hJ:J k S W) (hs:SY S fr a W) (hz:a.tmps.size=nt):tQ nt J S W Q (jN e') a W:=
 ⟨e',k,fr,S,rfl,hq,hJ,hs,hz,.refl⟩
def AY (P:Program) (nt:Nat) (J:Option Nat→(Nat→Prop)→World→Prop) (c:ak) (k:Option Nat) (fr:List (Nat×AV)) (Q:bc→Option Nat→List (Nat×AV)→Prop):Prop:=
 ∀(c':Code),cQ P nt c'=some c→ ∀S a W,J k S W→SY S fr a W→a.tmps.size=nt→c'.wpIn (FR none) 0 P (tQ nt J S W Q) a W
end
section
variable {P : Program} {nt : Nat} {J : Option Nat → (Nat → Prop) → World → Prop} {k : Option Nat} {fr : List (Nat × AV)} {Q : bc → Option Nat → List (Nat × AV) → Prop}
theorem kN (h:Q .normal k fr):AY P nt J .skip k fr Q:=by
 intro c' hc S a W hJ hs hz
 cases c'<;>simp[cQ]at hc
 ·exact wpIn_skip (tQ.here (e':= .normal) h hJ hs hz)
 all_goals(try(split at hc<;>simp at hc))
theorem xT (h:Q .ret k fr):AY P nt J .ret k fr Q:=by
 intro c' hc S a W hJ hs hz
 cases c'<;>simp[cQ]at hc
 all_goals(try(split at hc<;>simp at hc))
 exact wpIn_ret (tQ.here (e':= .ret) h hJ hs hz)
theorem C8 {id:Nat} (h:Q (.exit id) k fr):AY P nt J (.exit id) k fr Q:=by
 intro c' hc S a W hJ hs hz
 cases c'<;>simp[cQ]at hc
 all_goals(try(split at hc<;>simp at hc))
 subst hc
 exact wpIn_exit (tQ.here (e':= .exit _) h hJ hs hz)
def Yi (P:Program) (nt:Nat) (J:Option Nat→(Nat→Prop)→World→Prop) (y:ak) (Q:bc→Option Nat→List (Nat×AV)→Prop):bc→Option Nat→List (Nat×AV)→Prop
 | .normal,k,fr=>AY P nt J y k fr Q
 | .exit i,k,fr=>Q (.exit i) k fr
 | .ret,k,fr=>Q .ret k fr
theorem cE {x y:ak} (h:AY P nt J x k fr (Yi P nt J y Q)):AY P nt J (.seq x y) k fr Q:=by
 intro c' hc S a W hJ hs hz
 cases c'<;>simp[cQ]at hc
 all_goals(try(split at hc<;>simp at hc))
 rename_i b1 b2 c1 c2 h1 h2
 obtain⟨rfl,rfl⟩:=hc
 refine wpIn_seq (wpIn_mono (h _ h1 S a W hJ hs hz) ?_)
 rintro e a1 W1 ⟨e',k',fr',S',rfl,hq,hJ',hs',hz',hk⟩
 cases e' with
 |normal=>exact wpIn_mono (hq _ h2 S' a1 W1 hJ' hs' hz') λe a w h=>h.kept hk
 |exit id=>exact⟨.exit id,k',fr',S',rfl,hq,hJ',hs',hz',hk⟩
 |ret=>exact⟨.ret,k',fr',S',rfl,hq,hJ',hs',hz',hk⟩
def VY (id:Nat) (Q:bc→Option Nat→List (Nat×AV)→Prop):bc→Option Nat→List (Nat×AV)→Prop
 | .normal,k,fr=>Q .normal k fr
 | .exit i,k,fr=>if i=id then Q .normal k fr else Q (.exit i) k fr
 | .ret,k,fr=>Q .ret k fr
theorem ll {x:ak} {id:Nat} (h:AY P nt J x k fr (VY id Q)):AY P nt J (.block id x) k fr Q:=by
 intro c' hc S a W hJ hs hz
 cases c'<;>simp[cQ]at hc
 all_goals(try(split at hc<;>simp at hc))
 rename_i i1 c1
 obtain⟨rfl,h1⟩:i1=id∧cQ P nt c1=some x:=by simp_all
 refine wpIn_block (wpIn_mono (h _ h1 S a W hJ hs hz) ?_)
 rintro e a1 W1 ⟨e',k',fr',S',rfl,hq,hJ',hs',hz',hk⟩
 cases e' with
 |normal=>exact⟨.normal,k',fr',S',rfl,hq,hJ',hs',hz',hk⟩
 |exit i=>
  simp only[VY]at hq
  by_cases hi:i=i1
  ·rw[if_pos hi]at hq
   simp only[jN,Exit.inBlock,if_pos hi]
   exact⟨.normal,k',fr',S',rfl,hq,hJ',hs',hz',hk⟩
  ·rw[if_neg hi]at hq
   simp only[jN,Exit.inBlock,if_neg hi]
   exact⟨.exit i,k',fr',S',rfl,hq,hJ',hs',hz',hk⟩
 |ret=>exact⟨.ret,k',fr',S',rfl,hq,hJ',hs',hz',hk⟩
theorem Ow {W W1:World} {b:Nat} (hl:b<W.heap.size) (h:W1.heap[b]? =W.heap[b]?):b<W1.heap.size:=by
 have:W.heap[b]? =some W.heap[b]:=by simp[hl]
 rw[this]at h
 exact(Array.getElem?_eq_some_iff.1 h).1
def OG (S:Nat→Prop) (W:World) (hlt: ∀b,S b→b<W.heap.size):Gh:=⟨S,λ_=>undef,λW' V=> ∀b,S b→V b∧W'.heap[b]? =W.heap[b]?,λW1 W2 V1 V2 h hV hw b hb=>by
 obtain⟨h1,h2⟩:=h b hb
 have hl:=Ow (hlt b hb) h2
 exact⟨hV b hl h1,(hw b hl h1).trans h2⟩⟩
theorem SY.sim {S:Nat→Prop} {a:Act} {W:World} (hs:SY S fr a W) (hlt: ∀b,S b→b<W.heap.size) (hG:mN W):bD W (OG S W hlt) ⟨fr, [],0,0⟩ (λ_=>undef) a W:=by
 have hf: ∀b,S b→aC W.heap.size (OG S W hlt) (λ_=>undef) [] b:= λb hb=>⟨.inl hb,λnm bx hn=>by cases hn⟩
 exact⟨λt=>(hs.1 t).mono (λb _ h=>hf b h) (λ_ _ _=>rfl) (λ_ _=>rfl) (Nat.le_refl _),⟨hs.2,hG⟩,(λnm bx hn=>by cases hn),(λnm bx hn=>by cases hn),(λnm nm' b1 b2 b hn=>by cases hn),Below.refl _ _,λb hb=>⟨hf b hb,rfl⟩,⟨Nat.le_refl _,λ_ h=>absurd h (Nat.not_lt_zero _)⟩⟩
def gi (σ:St):List (Nat×AV)→Prop
 | []=>True
 |(t,v)::r=>(aI σ.fr t=v∨v= .top∨ct σ.mem (aI σ.fr t)=some v)∧ja 0 v∧gi σ r
theorem UL {v:AV}:c7 [] v=v:=by
 have hC: ∀x:AC,dp [] x=x:= λx=>by cases x<;>rfl
 have hA: ∀x:AC,b8 [] x=x:= λx=>by cases x<;>simp[b8,rn,List.map_congr_left (λy _=>hC y)]
 cases v<;>simp[c7,hA,List.map_congr_left (λy _=>hA y)]
theorem Vu {σ:St} {fr':List (Nat×AV)} (h:gi σ fr') (t:Nat):(aI σ.fr t=aI fr' t∨aI fr' t= .top∨ct σ.mem (aI σ.fr t)=some (aI fr' t))∧ja 0 (aI fr' t):=by
 induction fr' with
 |nil=>exact⟨.inr (.inl rfl),trivial⟩
 |cons x r ih=>
  obtain⟨k,v⟩:=x
  obtain⟨h1,h2,h3⟩:=h
  rw[eM]
  by_cases e:k=t
  ·subst e
   rw[if_pos rfl]
   exact⟨h1,h2⟩
  ·rw[if_neg e]
   exact ih h3
theorem SY.back {S:Nat→Prop} {W W':World} {hlt: ∀b,S b→b<W.heap.size} {σ:St} {ι:Pl} {a:Act} {fr':List (Nat×AV)} (hs:bD W (OG S W hlt) σ ι a W') (hw:gi σ fr'):SY (λb=>S b∨W.heap.size≤b∧b<W'.heap.size) fr' a W':=by
 refine⟨λt=> ?_,hs.defers.1⟩
 obtain⟨h1,h2⟩:=Vu hw t
 rcases h1 with h1|h1|h1
 ·have:=hs.val t
  rw[h1]at this
  have h3:=(show aN W' (aC W.heap.size (OG S W hlt) ι σ.mem) ι σ.nx (c7 [] (aI fr' t)) _ by rw[UL];exact this).cl (V':= λb=>S b∨W.heap.size≤b) (λb h=>h.1) h2
  exact h3.mono (λb hl h=>h.imp id λh=>⟨h,hl⟩) (λ_ _ _=>rfl) (λnm h=>absurd h (Nat.not_lt_zero _)) (Nat.le_refl _)
 ·rw[h1];exact .top
 ·have h3:=zb (V:= λb=>S b∨W.heap.size≤b) hs (hs.val t) h1 (λb h=>h.1) (.inr λb h=> .inr h)
  exact h3.mono (λb hl h=>h.imp id λh=>⟨h,hl⟩) (λ_ _ _=>rfl) (λ_ _=>rfl) (Nat.le_refl _)
theorem iU {S:Nat→Prop} {W W':World} {hlt: ∀b,S b→b<W.heap.size} {σ:St} {ι:Pl} {a:Act} (hs:bD W (OG S W hlt) σ ι a W'):rc S W (λb=>S b∨W.heap.size≤b∧b<W'.heap.size) W':=
 λb hb=>⟨.inl hb,(hs.keep b hb).2⟩
theorem jP {c:AX} {x y:ak} {t:Bool} (hc:c.ev fr= .c (.pure (.val (.bool t)))) (h1:t=true→AY P nt J x k fr Q) (h2:t=false→AY P nt J y k fr Q) (hlt: ∀k S W,J k S W→(∀b,S b→b<W.heap.size)∧mN W):AY P nt J (.cond c x y) k fr Q:=by
 intro c' hc' S a W hJ hs hz
 cases c'<;>simp[cQ]at hc'
 all_goals(try(split at hc'<;>simp at hc'))
 rename_i o b1 b2 _ _ _ x1 x2 x3 g1 g2 g3
 obtain⟨rfl,rfl,rfl⟩:=hc'
 have hsim:=hs.sim (hlt _ _ _ hJ).1 (hlt _ _ _ hJ).2
 have r1:=ay g1 hsim
 rw[hc]at r1
 have ho:=(aZ r1).1
 cases t with
 |true=>exact wpIn_cond_true ho (h1 rfl _ g2 S a W hJ hs hz)
 |false=>exact wpIn_cond_false ho (h2 rfl _ g3 S a W hJ hs hz)
def aaY {τ:Type} (mk:τ→Option Nat×List (Nat×AV)) (I:τ→Prop) (μ:τ→Nat) (t:τ) (Q:bc→Option Nat→List (Nat×AV)→Prop):bc→Option Nat→List (Nat×AV)→Prop
 | .normal,k,fr=> ∃t',I t'∧μ t'<μ t∧(mk t').1=k∧ij [] fr 0 (mk t').2
 | .exit i,k,fr=>Q (.exit i) k fr
 | .ret,k,fr=>Q .ret k fr
theorem SY.wk {S:Nat→Prop} {a:Act} {W:World} {fr':List (Nat×AV)} (hs:SY S fr a W) (h:ij [] fr 0 fr'):SY S fr' a W:=by
 refine⟨λt=> ?_,hs.2⟩
 obtain⟨h1,h2⟩:=Fg h t
 rcases h1 with h1|h1
 ·have:=hs.1 t
  rw[h1]at this
  exact this.cl (λ_ h=>h) h2
 ·rw[h1];exact .top
theorem Di {τ:Type} {x:ak} (mk:τ→Option Nat×List (Nat×AV)) (I:τ→Prop) (μ:τ→Nat) (h0: ∃t,I t∧(mk t).1=k∧ij [] fr 0 (mk t).2) (h: ∀t,I t→AY P nt J x (mk t).1 (mk t).2 (aaY mk I μ t Q)):AY P nt J (.loop x) k fr Q:=by
 intro c' hc S a W hJ hs hz
 cases c'<;>simp[cQ]at hc
 all_goals(try(split at hc<;>simp at hc))
 rename_i c1
 obtain⟨t,ht,rfl,hw⟩:=h0
 refine wpIn_loop_rounds (μ t+1) ?_
 have key: ∀n t S1 a1 W1,μ t<n→I t→J (mk t).1 S1 W1→SY S1 (mk t).2 a1 W1→a1.tmps.size=nt→rc S W S1 W1→Code.roundsIn (FR none) 0 P c1 (tQ nt J S W Q) n a1 W1:=by
  intro n
  induction n with
  |zero=>intro t S1 a1 W1 hm;omega
  |succ n ih=>
   intro t S1 a1 W1 hm ht hJ1 hs1 hz1 hk1
   rw[roundsIn_succ]
   refine wpIn_mono (h t ht _ hc S1 a1 W1 hJ1 hs1 hz1) ?_
   rintro e a2 W2 ⟨e',k',fr',S',rfl,hq,hJ',hs',hz',hk⟩
   cases e' with
   |normal=>
    obtain⟨t',ht',hlt,rfl,hwk⟩:=hq
    exact ih t' S' a2 W2 (by omega) ht' hJ' (hs'.wk hwk) hz' (hk1.trans hk)
   |exit i=>exact⟨.exit i,k',fr',S',rfl,hq,hJ',hs',hz',hk1.trans hk⟩
   |ret=>exact⟨.ret,k',fr',S',rfl,hq,hJ',hs',hz',hk1.trans hk⟩
 exact key _ t S a W (Nat.lt_succ_self _) ht hJ (hs.wk hw) hz .refl
def PD (P:Program) (J:Option Nat→(Nat→Prop)→World→Prop) (f:AV) (args:List AV) (k:Option Nat) (R:AV→Option Nat→Prop):Prop:=
 ∀S W fv us,J k S W→aN W S (λ_=>undef) 0 f fv→aJ (aN W S (λ_=>undef) 0) args us→ ∀(o:Oper) (a:Act) (c:Call) (fo:Operand) (next:Act→World→Prop) (Q:Exit→Act→World→Prop),o.op= .call c→c.callee= .value fo→a.eval fo=fv→(c.args.map a.eval).toList=us→
  (∀v res k' S' W',R res k'→aN W' S' (λ_=>undef) 0 res v→J k' S' W'→rc S W S' W'→next (a.put o.dst v) W')→o.wpIn (FR none) 0 P a W next Q
theorem cg {gs:List AG} (hJ: ∀k S W,J k S W→(∀b,S b→b<W.heap.size)∧mN W) (hg: ∀k S W W',J k S W→Below W.heap.size W W'→J k (λb=>S b∨W.heap.size≤b∧b<W'.heap.size) W')
  (h:jG P gs ⟨fr, [],0,0⟩ (λσ'=> ∃fr',gi σ' fr'∧Q .normal k fr')):AY P nt J (.region gs false) k fr Q:=by
 intro c' hc S a W hj hs hz
 cases c'<;>simp[cQ]at hc
 all_goals(try(split at hc<;>simp at hc))
 rename_i id ops dr
 obtain⟨g1,h1,hgs⟩:=hc
 cases dr with
 |false=>
  simp[mW]at hgs
  subst hgs
  have hsim:=hs.sim (hJ _ _ _ hj).1 (hJ _ _ _ hj).2
  have:=mQ (rd:=none) (ds:= []) (n:=0) (kW (nt:=nt) (w0:=W) (U:=OG S W (hJ _ _ _ hj).1) (Q:= λe σ'=> ∃fr',gi σ' fr'∧Q .normal k fr')) (fp h1) (gP h1 h hsim hz λσ' ι' a' w' hq hs' hz'=>⟨σ',ι',rfl,hq,hs',hz'⟩)
  rw[kI]at this
  refine wpIn_mono (wpIn_region_list this) ?_
  rintro e a1 W1 ⟨a0,rfl,σ',ι',rfl,⟨fr',hw,hq⟩,hs',hz'⟩
  rw[kI]
  exact⟨.normal,k,fr',_,rfl,hq,hg _ _ _ _ hj hs'.below,SY.back hs' hw,hz',iU hs'⟩
 |true=>
  simp only[mW,if_true]at hgs
  rcases ff (P:=P) (ops:=ops.toList) (gs:=g1)with⟨x,e⟩|e<;>rw[e]at hgs<;>simp at hgs
theorem Bv {dr:Bool} {op:Op} {gg z:Bool} {fx:AX} {args:List AX} (h:bN P dr op=some (.call gg z fx args)): ∃c fo,op= .call c∧c.callee= .value fo∧aK fo=some fx∧jD c.args.toList=some args:=by
 unfold bN at h
 split at h
 case h_28=>
  rename_i f as _
  split at h
  ·rename_i y xs h1 h2
   cases h
   exact⟨_,f,rfl,rfl,h1,h2⟩
  ·cases h
 all_goals exfalso
 all_goals(try(simp at h;done))
 all_goals(try((repeat' split at h)<;>first|(cases h;done)|(obtain⟨_,_,e⟩:=Option.map_eq_some_iff.1 h;cases e;done)|(simp at h;done)))
theorem FE {gs:List AG} (n:Nat) {dst:Option Nat} {gg z:Bool} {fx:AX} {args:List AX} (hn:gs[n]? =some ⟨dst,none,.call gg z fx args⟩) (hJ: ∀k S W,J k S W→(∀b,S b→b<W.heap.size)∧mN W)
  (hg: ∀k S W W',J k S W→Below W.heap.size W W'→J k (λb=>S b∨W.heap.size≤b∧b<W'.heap.size) W')
  (h:jG P (gs.take n) ⟨fr, [],0,0⟩ (λσ1=> ∃fr1,gi σ1 fr1∧ ∃R,PD P J (fx.ev fr1) (args.map (·.ev fr1)) k R∧
   ∀res k',R res k'→jG P (gs.drop (n+1)) ((⟨fr1, [],0,0⟩:St).put dst res) (λσ2=> ∃fr2,gi σ2 fr2∧Q .normal k' fr2))):AY P nt J (.region gs false) k fr Q:=by
 intro c' hc S a W hj hs hz
 cases c'<;>simp[cQ]at hc
 all_goals(try(split at hc<;>simp at hc))
 rename_i id ops dr
 obtain⟨g1,h1,hgs⟩:=hc
 cases dr with
 |true=>
  simp only[mW,if_true]at hgs
  rcases ff (P:=P) (ops:=ops.toList) (gs:=g1)with⟨x,e⟩|e<;>rw[e]at hgs<;>simp at hgs
 |false=>
  simp[mW]at hgs
  subst hgs
  have hsim:=hs.sim (hJ _ _ _ hj).1 (hJ _ _ _ hj).2
  obtain⟨c1,_,c3⟩:=lA n h1
  obtain⟨_,c2,_⟩:=lA (n+1) h1
  obtain⟨o,ho,hog⟩:=c3 _ hn
  have hsplit:ops.toList=ops.toList.take n++(o::ops.toList.drop (n+1)):=by
   have hlt:=(List.getElem?_eq_some_iff.1 ho).1
   have he:=(List.getElem?_eq_some_iff.1 ho).2
   rw[←he,←List.drop_eq_getElem_cons hlt,List.take_append_drop]
  have hd:=FV hog
  unfold ui at hog
  by_cases hdst:Jr nt o.dst=false
  ·rw[if_pos hdst]at hog;cases hog
  rw[if_neg hdst]at hog
  split at hog
  ·rename_i ao hao
   have hgd:o.guard=none∧o.dst=dst∧ao= .call gg z fx args:=by
    cases hgu:o.guard with
    |none=>
     rw[hgu]at hog
     cases hog
     exact⟨rfl,rfl,rfl⟩
    |some q=>
     rw[hgu]at hog
     dsimp only at hog
     split at hog
     ·cases hog
     ·cases hog
   obtain⟨hgu,rfl,rfl⟩:=hgd
   have hdt: ∀t,o.dst=some t→t<nt:=by
    intro t ht
    rw[ht]at hdst
    simpa[Jr]using hdst
   obtain⟨c,fo,hcall,hcallee,hfx,hargs⟩:=Bv hao
   refine wpIn_region_list ?_
   rw[hsplit]
   have h3:=mQ (rd:=none) (ds:= []) (n:=0) (ops:=ops) (kW (nt:=nt) (w0:=W) (U:=OG S W (hJ _ _ _ hj).1) (Q:= λe σ1=> ∃fr1,gi σ1 fr1∧ ∃R,PD P J (fx.ev fr1) (args.map (·.ev fr1)) k R∧
    ∀res k',R res k'→jG P (g1.drop (n+1)) ((⟨fr1, [],0,0⟩:St).put o.dst res) (λσ2=> ∃fr2,gi σ2 fr2∧Q .normal k' fr2))) (fp c1) (gP c1 h hsim hz λσ' ι' a' w' hq hs' hz'=>⟨σ',ι',rfl,hq,hs',hz'⟩)
   rw[kI]at h3
   refine bV ?_ ?_ h3
   ·rintro a1 W1 ⟨a0,rfl,σ1,ι1,_,⟨fr1,hw1,R,hstep,hrest⟩,hs1,hz1⟩
    rw[kI]
    have hj1:=hg _ _ _ _ hj hs1.below
    have hy1:=SY.back hs1 hw1
    have hk1:=iU hs1
    generalize (λb=>S b∨W.heap.size≤b∧b<W1.heap.size)=S1 at hj1 hy1 hk1
    have hsim1:=hy1.sim (hJ _ _ _ hj1).1 (hJ _ _ _ hj1).2
    have ev: ∀{x:Operand} {y:AX},aK x=some y→aN W1 S1 (λ_=>undef) 0 (y.ev fr1) (a0.eval x):=by
     intro x y hx
     have:=ay hx hsim1
     exact this.mono (λb hlt h=>by
      rcases h.1 with h|h
      ·exact h
      ·omega) (λ_ _ _=>rfl) (λ_ _=>rfl) (Nat.le_refl _)
    have evs: ∀{l:List Operand} {ys:List AX},jD l=some ys→aJ (aN W1 S1 (λ_=>undef) 0) (ys.map (·.ev fr1)) (l.map a0.eval):=by
     intro l
     induction l with
     |nil=>intro ys h;cases h;exact .nil
     |cons x l ih=>
      intro ys h
      unfold jD at h
      split at h
      ·rename_i y ys' h1 h2
       cases h
       exact .cons (ev h1) (ih h2)
      ·cases h
    show wpListIn (FR none) 0 P ops _ (o::ops.toList.drop (n+1)) a0 W1
    unfold wpListIn
    rw[if_pos (by simp[Region.wanted,hgu])]
    refine hstep S1 W1 _ _ hj1 (ev hfx) (evs hargs) o a0 c fo _ _ hcall hcallee rfl (by simp) ?_
    intro v res k' S' W' hR hres hj2 hk2
    have hy2:=hy1.kept hk2
    have hy3:SY S' ((⟨fr1, [],0,0⟩:St).put o.dst res).fr (a0.put o.dst v) W':=by
     cases hdo:o.dst with
     |none=>exact hy2
     |some t=>
      refine⟨λs=> ?_,hy2.2⟩
      have hlt:t<a0.tmps.size:=by rw[hz1];exact hdt t hdo
      show aN _ _ _ _ (aI ((t,res)::fr1) s) _
      rw[eM]
      by_cases e:t=s
      ·subst e
       rw[if_pos rfl]
       have:(a0.put (some t) v).tmps.getD t undef=v:=by simp[Act.put,Array.getD_eq_getD_getElem?,hlt]
       rw[this]
       exact hres
      ·rw[if_neg e]
       have:(a0.put (some t) v).tmps.getD s undef=a0.tmps.getD s undef:=by simp[Act.put,Array.getD_eq_getD_getElem?,Array.getElem?_setIfInBounds,e]
       rw[this]
       exact hy2.1 s
    have hsim3:=hy3.sim (hJ _ _ _ hj2).1 (hJ _ _ _ hj2).2
    have hst:((⟨fr1, [],0,0⟩:St).put o.dst res)=⟨((⟨fr1, [],0,0⟩:St).put o.dst res).fr, [],0,0⟩:=by cases o.dst<;>rfl
    have h4:=hrest res k' hR
    rw[hst]at h4
    have h5:=mQ (rd:=none) (ds:= []) (n:=0) (ops:=ops) (kW (nt:=nt) (w0:=W') (U:=OG S' W' (hJ _ _ _ hj2).1) (Q:= λe σ2=> ∃fr2,gi σ2 fr2∧Q .normal k' fr2)) (fp c2) (gP c2 h4 hsim3 (by rw[pR];exact hz1) λσ' ι' a' w' hq hs' hz'=>⟨σ',ι',rfl,hq,hs',hz'⟩)
    rw[kI]at h5
    have h6:=bV (Q:=tQ nt J S W Q) (l2:= []) ?_ ?_ h5
    ·rw[List.append_nil]at h6
     exact h6
    ·rintro a2 W2 ⟨a3,rfl,σ2,ι2,_,⟨fr2,hw2,hq2⟩,hs2,hz2⟩
     rw[kI]
     exact⟨.normal,k',fr2,_,rfl,hq2,hg _ _ _ _ hj2 hs2.below,SY.back hs2 hw2,hz2,(hk1.trans hk2).trans (iU hs2)⟩
    ·rintro e a2 W2 ⟨a3,rfl,σ2,ι2,e2,_⟩
     exact e2
   ·rintro e a1 W1 ⟨a0,rfl,σ1,ι1,e2,_⟩
    exact e2
  ·cases hog
theorem lD {l:Nat} {w:World} {xs:List (List AV)} {args:List AV} {k:Nat} (hJ:w9 P l w xs J) (hx:xs[k]? =some args):
  PD P J (yv l) args (some k) (λres k'=> ∃b:Bool,res= .c (.pure (.val (.bool b)))∧k'=if b=true then some (k+1)else none):=by
 intro S W fv us hj hf hus o a c fo next Q ho hc hfo hargs hnext
 obtain⟨rfl,_⟩:=aZ hf
 obtain⟨fn,tmps,asg,body,hy,hR⟩:=hJ.round k args S W us.toArray hx hj (by simpa using hus) 0
 refine⟨λ_ _=>trivial, ?_⟩
 rw[Oper.semAt_eq _ _ _ (by rw[ho];intro c e;cases e)]
 have hexec:(execOp a.eval o).run P W= .ok (.round l fn tmps asg body) W:=by
  have e:c.args.map a.eval=us.toArray:=by rw[←hargs]
  simp[execOp,ho,resolve,hc,hfo,Deferred.ofValue,invoke,e,hy]
 rw[hexec,Oper.uponIn_round]
 refine⟨by simp[FR,Fence.wide],hR.mono ?_⟩
 rintro e W' ⟨b,rfl,hj',hk⟩
 exact hnext (.bool b) _ _ S W' ⟨b,rfl,rfl⟩ (.c (.pure (.val rfl))) hj' λb hb=>⟨hb,hk b hb⟩
def kP (P:Program) (J:Option Nat→(Nat→Prop)→World→Prop) (f:FuncId) (args:List AV) (k:Option Nat) (R:AV→Option Nat→Prop):Prop:=
 mJ P f∧ ∀(S:Nat→Prop) (W:World) (us:Array Value),J k S W→aJ (aN W S (λ_=>undef) 0) args us.toList→
  Calls P f us W λe W'=> ∃v res k' S',e= .returned v∧R res k'∧aN W' S' (λ_=>undef) 0 res v∧J k' S' W'∧rc S W S' W'
theorem DY {f:FuncId} {args:List AV} {R:AV→Option Nat→Prop} (h:kP P J f args k R):PD P J (.c (.clo f [])) args k R:=by
 intro S W fv us hj hf hus o a c fo next Q ho hc hfo hargs hnext
 obtain rfl:fv= .func (.func f) #[] #[]:=by
  cases hf with
  |c hf=>
   cases hf with
   | @clo _ _ vs hl _=>
    have:vs= #[]:=Array.eq_empty_of_size_eq_zero (by simpa using hl.symm)
    rw[this]
 obtain⟨⟨fn,hfn,hbody,hname⟩,hcall⟩:=h
 have hb: ¬fn.body=none:=by intro e;rw[e]at hbody;cases hbody
 have hname' : ¬ fn.name = "runtime.NumGoroutine" := by intro e; rw [e] at hname; simp at hname
 refine⟨λ_ _=>trivial, ?_⟩
 rw[Oper.semAt_eq _ _ _ (by rw[ho];intro c e;cases e)]
 have hexec:(execOp a.eval o).run P W= .ok (.enter f us.toArray) W:=by
  have e:c.args.map a.eval=us.toArray:=by rw[←hargs]
  simp[execOp,ho,resolve,hc,hfo,Deferred.ofValue,invoke,callFunc,hfn,hname',hb,e]
 rw[hexec,Oper.uponIn_enter]
 refine⟨by simp[FR,Fence.wide],Da ((hcall S W us.toArray hj (by simpa using hus)).mono ?_)⟩
 rintro e W' ⟨v,res,k',S',rfl,hR,hres,hj',hk⟩
 exact hnext v res k' S' W' hR hres hj' hk
def aaB (rs:List AR) (R:AV→Option Nat→Prop):bc→Option Nat→List (Nat×AV)→Prop
 | .exit _,_,_=>False
 | .ret,k,fr=>jU ⟨fr, [],0,0⟩ rs [] λvs=>R (eo vs) k
 | .normal,k,fr=>jU ⟨fr, [],0,0⟩ rs [] λvs=>R (eo vs) k
theorem kP.of {f:FuncId} {body:ak} {rs:List AR} {args:List AV} {R:AV→Option Nat→Prop} (hJ: ∀k S W,J k S W→(∀b,S b→b<W.heap.size)∧mN W) (hf:aB P f nt body rs) (hlen:args.length≤nt)
  (h:ol args→AY P nt J body k (aW args 0) (aaB rs R)):kP P J f args k R:=by
 obtain⟨fn,c,h1,h2,h3,rfl,h5,h6⟩:=hf.is
 refine⟨⟨fn,h1,by rw[h2];rfl,h3⟩,λS W vs hj hargs=> ?_⟩
 have hsz:vs.size=args.length:=by rw[←Array.length_toList];exact hargs.length.symm
 have hs:SY S (aW args 0) {tmps:=vs++Array.replicate (fn.ntmps-vs.size) undef,defers:= []} W:=by
  refine⟨λt=> ?_,rfl⟩
  rcases jh (vs:=vs.toList) (k:=0) hargs t with h|h
  ·by_cases hlt:t<vs.size
   ·have e:(vs++Array.replicate (fn.ntmps-vs.size) undef).getD t undef=(vs.toList[t-0]?).getD undef:=by
     simp[Array.getD_eq_getD_getElem?,Array.getElem?_append,hlt]
    rw[e]
    exact h
   ·have:aI (aW args 0) t= .top:=by
     have key: ∀(l:List AV) (j:Nat),j+l.length≤t→aI (aW l j) t= .top:=by
      intro l
      induction l with
      |nil=>intro j _;rfl
      |cons x l ih=>
       intro j hj
       simp only[List.length_cons]at hj
       show(if j=t then x else aI (aW l (j+1)) t)=_
       rw[if_neg (by omega)]
       exact ih _ (by omega)
     exact key args 0 (by omega)
    rw[this]
    exact .top
  ·rw[h]
   exact .top
 have hsize:(vs++Array.replicate (fn.ntmps-vs.size) undef).size=fn.ntmps:=by simp;omega
 refine(callsIn_wide (n:=0)).1 (callsIn_of_wp h1 h2 trivial (wpIn_mono (h (uX hargs) c h5 S _ W hj hs hsize) ?_))
 have fin: ∀{a':Act} {W':World} {fr':List (Nat×AV)} {k':Option Nat} {S':Nat→Prop},jU ⟨fr', [],0,0⟩ rs [] (λvs=>R (eo vs) k')→J k' S' W'→SY S' fr' a' W'→rc S W S' W'→a'.defers= []∧ ∃v,(results fn a'.tmps).run P W'= .ok v W'∧ ∃v' res k' S',Ending.returned v= .returned v'∧R res k'∧aN W' S' (λ_=>undef) 0 res v'∧J k' S' W'∧rc S W S' W':=by
  intro a' W' fr' k' S' hres hj' hs' hk
  obtain⟨vs',us',g1,g2,g3⟩:=kr (hs'.sim (hJ _ _ _ hj').1 (hJ _ _ _ hj').2) (us:= []) h6 hres .nil
  refine⟨hs'.2,(if h:us'.toArray.size=1 then us'.toArray[0]else .tuple us'.toArray), ?_,_,_,k',S',rfl,g3, ?_,hj',hk⟩
  ·rw[kw,Array.mapM_eq_mapM_toList]
   simp[g2]
  ·have:=um (by simpa using g1)
   exact this.mono (λb hlt h=>by
    rcases h.1 with h|h
    ·exact h
    ·omega) (λ_ _ _=>rfl) (λ_ _=>rfl) (Nat.le_refl _)
 rintro e a' W' ⟨e',k',fr',S',rfl,hq,hj',hs',hsz',hk⟩
 cases e' with
 |normal=>exact fin hq hj' hs' hk
 |exit i=>exact hq.elim
 |ret=>exact fin hq hj' hs' hk
theorem iS.of {f:FuncId} {args:List AV} {xs:List (List AV)} (hf:mJ P f) (h: ∀(l:Nat) (w:World) (J':Option Nat→(Nat→Prop)→World→Prop),w9 P l w xs J'→kP P J' f (yv l::args) (some 0) (λ_ k'=>k'=some xs.length∨k'=none)):iS P f args xs:=by
 refine⟨hf, ?_⟩
 intro l S J' w vs hG hargs hJ h0
 have h1:=(h l w J' hJ).2 S w (#[.func (.yield l) #[] #[]]++vs) h0
 have e:(#[Value.func (.yield l) #[] #[]]++vs).toList=Value.func (.yield l) #[] #[]::vs.toList:=by simp
 rw[e]at h1
 have h2:=h1 (aJ.cons (.c (.pure (.val rfl))) hargs)
 refine h2.mono ?_
 rintro e w' ⟨v,res,k',S',he,hk,_,hj,_⟩
 exact⟨⟨v,he⟩,k',S',hk,hj⟩
end
open Go.RowKit
section
variable {P : Program} {f : FuncId} {args pargs : List AV} {mem : List (Nat × aU)} {nx : Nat}
theorem yl {w0 w:World} {U:Gh} {ι:Pl} {vs:Array Value} (hs:bD w0 U ⟨[],mem,nx,nx⟩ ι {tmps:= #[],defers:= []} w) (hr:aJ (aN w (aC w0.heap.size U ι mem) ι nx) args vs.toList) (hp:aV mem args=some pargs) (hn:args.all fh=true):
  bD w (Gh.of (aC w0.heap.size U ι mem)) ⟨[], [],0,0⟩ (λ_=>undef) {tmps:= #[],defers:= []} w∧aJ (aN w (aC w.heap.size (Gh.of (aC w0.heap.size U ι mem)) (λ_=>undef) []) (λ_=>undef) 0) pargs vs.toList:=
 ⟨⟨λt=> .top,⟨rfl,hs.glob⟩,(λnm bx hn=>by cases hn),(λnm bx hn=>by cases hn),(λnm nm' b1 b2 b hn=>by cases hn),Below.refl _ _,trivial,⟨Nat.le_refl _,λ_ h=>absurd h (Nat.not_lt_zero _)⟩⟩,
  (kK (σ:=⟨[],mem,nx,nx⟩) (V:=aC w0.heap.size U ι mem) hs hr (λ_ h=>h) (.inl hn) hp).mono λ_ _ h=>h.mono (λb _ h=>⟨.inl h,λnm bx hf=>by cases hf⟩) (λ_ _ _=>rfl) (λ_ _=>rfl) (Nat.le_refl _)⟩
theorem aq.lift0 {res:AV} (h:aq P f pargs [] 0 res [] 0) (hp:aV mem args=some pargs) (hn:args.all fh=true):aq P f args mem nx res mem nx:=by
 refine⟨h.1,λw0 U ι w vs hs hr=> ?_⟩
 have hB:=hs.below.size
 obtain⟨g1,g2⟩:=yl hs hr hp hn
 refine(h.2 w _ _ w vs g1 g2).mono ?_
 rintro en w' ⟨v,ι',rfl,h1,h2⟩
 refine⟨v,ι,rfl,hs.grow h1.below,h2.mono (λb _ hf=> ?_) (λb _ _=>rfl) (λnm hn=>absurd hn (Nat.not_lt_zero _)) (Nat.zero_le _)⟩
 obtain⟨hf|hf,_⟩:=hf
 ·exact hf
 ·refine⟨.inr (Nat.le_trans hB hf),λnm bx hfm hc=> ?_⟩
  have:=((hs.box _ _ hfm).block hc).2
  omega
theorem aq.lift1 {e sz:Nat} {rows:List (List PC)} {y:Value} (hy:vF y=true) (h:aq P f pargs [] 0 (.tup [.c (.ref 0),.c (.pure (.val y))]) [(0,.arr e sz rows)] 1) (hp:aV mem args=some pargs) (hn:args.all fh=true):
  aq P f args mem nx (.tup [.c (.ref nx),.c (.pure (.val y))]) ((nx,.arr e sz rows)::mem) (nx+1):=by
 refine⟨h.1,λw0 U ι w vs hs hr=> ?_⟩
 have hB:=hs.below.size
 obtain⟨g1,g2⟩:=yl hs hr hp hn
 refine(h.2 w _ _ w vs g1 g2).mono ?_
 rintro en w' ⟨v,ι',rfl,h1,h2⟩
 obtain⟨cells,k0,k1,k2,k3⟩:=h1.box 0 (.arr e sz rows) rfl
 have hU: ∀ι'':Pl,(∀nm,nm<nx→ι'' nm=ι nm)→ι'' nx=ι' 0→ ∀b,aC w.heap.size (Gh.of (aC w0.heap.size U ι mem)) ι' [(0,.arr e sz rows)] b→aC w0.heap.size U ι'' ((nx,.arr e sz rows)::mem) b:=by
  intro ι'' e1 e2 b hf
  have hnot:=hf.2 0 _ rfl
  obtain⟨hf1,_⟩:=hf
  rcases hf1 with hf1|hf1
  ·refine⟨hf1.1,λnm bx hfm=> ?_⟩
   rw[bF]at hfm
   by_cases hh:nx=nm
   ·subst hh
    rw[e2]
    exact hnot
   ·rw[if_neg hh]at hfm
    rw[e1 _ (hs.names _ _ hfm)]
    exact hf1.2 _ _ hfm
  ·refine⟨.inr (Nat.le_trans hB hf1),λnm bx hfm hc=> ?_⟩
   rw[bF]at hfm
   by_cases hh:nx=nm
   ·subst hh
    rw[e2]at hc
    exact hnot hc
   ·rw[if_neg hh]at hfm
    rw[e1 _ (hs.names _ _ hfm)]at hc
    have:=((hs.box _ _ hfm).block hc).2
    have h9:w.heap.size≤b:=hf1
    exact absurd this (by show ¬b<_;omega)
 obtain⟨ι'',j1,j2,j3,j4⟩:=hs.newBox (pv:=ι' 0) (bx:= .arr e sz rows) h1.below (λb hb=>by
  rcases k1.2 with⟨e,_⟩|⟨g,cap,cur,e,hg,_⟩
  ·rw[e]at hb;cases hb
  ·rw[e]at hb
   simp[bt]at hb
   omega) (λι'' e1 e2 hfree=>⟨cells,k0,by rw[e2];exact rY k1 hB,k2,k3.mono (λb _ hf=>hU ι'' e1 e2 b hf) (λb _ _=>rfl)⟩)
 cases h2 with
  |tup hl hx=>
   rename_i us
   have x0:=hx 0 _ rfl
   have x1:=hx 1 _ rfl
   refine⟨_,ι'',rfl,j1,.tup hl λi x hi=> ?_⟩
   match i,hi with
   |0,hi=>
    cases hi
    have:us.toList[0]?.getD undef=ι' 0:=by
     generalize us.toList[0]?.getD undef=z at x0
     cases x0 with
     |c x0=>cases x0 with
      |ref _ _=>rfl
    rw[this,←j2]
    refine .c (.ref (Nat.lt_succ_self _) ?_)
    rw[j2]
    rcases k1.2 with⟨e,_⟩|⟨g,cap,cur,e,_⟩
    ·exact⟨_,_,_,e⟩
    ·exact⟨_,_,_,e⟩
   |1,hi=>
    cases hi
    generalize us.toList[1]?.getD undef=z at x1 ⊢
    cases x1 with
    |c x1=>cases x1 with
     |pure x1=>cases x1 with
      |val _=>exact .c (.pure (.val hy))
theorem aq.toP {res pres:AV} {mem':List (Nat×aU)} {nx':Nat} (h:aq P f pargs [] 0 res mem' nx') (hp:K0 mem' res=some pres):af P f pargs pres:=by
 refine⟨h.1,λw U vs hG hargs=> ?_⟩
 have hs:bD w (Gh.of U) ⟨[], [],0,0⟩ (λ_=>undef) {tmps:= #[],defers:= []} w:=⟨λt=> .top,⟨rfl,hG⟩,(λnm bx hn=>by cases hn),(λnm bx hn=>by cases hn),(λnm nm' b1 b2 b hn=>by cases hn),Below.refl _ _,trivial,⟨Nat.le_refl _,λ_ h=>absurd h (Nat.not_lt_zero _)⟩⟩
 refine(h.2 w _ _ w vs hs (hargs.mono λ_ _ h=>h.mono (λb _ h=>⟨.inl h,λnm bx hn=>by cases hn⟩) (λ_ _ _=>rfl) (λ_ _=>rfl) (Nat.le_refl _))).mono ?_
 rintro en w' ⟨v,ι',rfl,h1,h2⟩
 exact⟨v,rfl,K9 h1 h2 hp (λb h=>h.1) (λb h=> .inr h),h1.below⟩
theorem Ts {w:World} {V:Nat→Prop} {ι:Pl} {N:Nat} {v:Value} (h:aN w V ι N (.c .nils) v):aN w V ι N (.c (.pure (.slice []))) v:=by
 cases h with
 |c h=>cases h with
  |nils=>exact .c (.pure (.slice (sz:=1) (λ_ _=>undef) rfl (Nat.le_refl _) (Nat.zero_le _) (λi row h=>by simp at h) (λi row j p h=>by simp at h) (λi row j p h=>by simp at h)))
theorem aq.alike {args':List AV} {res:AV} {mem':List (Nat×aU)} {nx':Nat} (h:aq P f args mem nx res mem' nx') (hw: ∀(w:World) (V:Nat→Prop) (ι:Pl) (N:Nat) (vs:List Value),aJ (aN w V ι N) args' vs→aJ (aN w V ι N) args vs):aq P f args' mem nx res mem' nx':=
 ⟨h.1,λw0 U ι w vs hs hr=>h.2 w0 U ι w vs hs (hw _ _ _ _ _ hr)⟩
theorem aq.nil3 {a b:AV} {res:AV} {mem':List (Nat×aU)} {nx':Nat} (h:aq P f [a,b,.c (.pure (.slice []))] mem nx res mem' nx'):aq P f [a,b,.c .nils] mem nx res mem' nx':=
 h.alike λw V ι N vs hr=>by
  cases hr with
  |cons h1 t1=>cases t1 with
   |cons h2 t2=>cases t2 with
    |cons h3 t3=>exact .cons h1 (.cons h2 (.cons (Ts h3) t3))
end
open Go.RowKit
def GS (D:Nat):Deferred:={target:= .collected D,args:= #[]}
def XX (n0:Nat) (S:Nat→Prop) (W:World) (Ds:List Nat):Prop:=Ds.Nodup∧ ∀D∈Ds,n0≤D∧S D∧W.heap[D]? =some (.deferred (some []))
theorem XX.kept {n0:Nat} {S S':Nat→Prop} {W W':World} {Ds:List Nat} (h:XX n0 S W Ds) (k:rc S W S' W'):XX n0 S' W' Ds:=
 ⟨h.1,λD hD=>⟨(h.2 D hD).1,(k D (h.2 D hD).2.1).1,(k D (h.2 D hD).2.1).2.trans (h.2 D hD).2.2⟩⟩
abbrev YJ:=Option Nat→(Nat→Prop)→World→Prop
abbrev YQ:=bc→Option Nat→List (Nat×AV)→Prop
def xc (nt n0:Nat) (rd:Option Nat) (Ds:List Nat) (J:YJ) (S0:Nat→Prop) (W0:World) (Q:YQ):Exit→Act→World→Prop:= λe a W=>
 ∃e' k fr S E a0,e=jN e'∧Q e' k fr∧J k S W∧SY S fr a0 W∧a0.tmps.size=nt∧rc S0 W0 S W∧a=sh ((E++Ds).map GS) a0∧XX n0 S W (E++Ds)∧(rd.isSome=true→E= [])
def My (P:Program) (nt n0:Nat) (rd:Option Nat) (J:YJ) (c:ak) (k:Option Nat) (fr:List (Nat×AV)) (Q:YQ):Prop:=
 ∀(c':Code),cQ P nt c'=some c→ ∀S a W Ds,J k S W→SY S fr a W→a.tmps.size=nt→XX n0 S W Ds→c'.wpIn (FR rd) 0 P (xc nt n0 rd Ds J S W Q) (sh (Ds.map GS) a) W
section
variable {P : Program} {nt n0 : Nat} {rd : Option Nat} {Ds : List Nat} {J : YJ} {k : Option Nat} {fr : List (Nat × AV)} {Q : YQ}
theorem xc.here {S:Nat→Prop} {W:World} {e':bc} {a:Act} (hq:Q e' k fr) (hJ:J k S W) (hs:SY S fr a W) (hz:a.tmps.size=nt) (hm:XX n0 S W Ds):xc nt n0 rd Ds J S W Q (jN e') (sh (Ds.map GS) a) W:=
 ⟨e',k,fr,S, [],a,rfl,hq,hJ,hs,hz,.refl,rfl,hm,λ_=>rfl⟩
theorem xc.kept {S0 S1:Nat→Prop} {W0 W1:World} {E:List Nat} {e:Exit} {a:Act} {W:World} (h:xc nt n0 rd (E++Ds) J S1 W1 Q e a W) (k:rc S0 W0 S1 W1) (hE:rd.isSome=true→E= []):xc nt n0 rd Ds J S0 W0 Q e a W:=by
 obtain⟨e',k',fr',S,E',a0,h1,h2,h3,h4,h5,h6,h7,h8,h9⟩:=h
 exact⟨e',k',fr',S,E'++E,a0,h1,h2,h3,h4,h5,k.trans h6,by rw[List.append_assoc];exact h7,by rw[List.append_assoc];exact h8,λh=>by rw[h9 h,hE h];rfl⟩
theorem SK (h:Q .normal k fr):My P nt n0 rd J .skip k fr Q:=by
 intro c' hc S a W Ds hJ hs hz hm
 cases c'<;>simp[cQ]at hc
 ·exact wpIn_skip (xc.here (e':= .normal) h hJ hs hz hm)
 all_goals(try(split at hc<;>simp at hc))
theorem Wg (h:Q .ret k fr):My P nt n0 rd J .ret k fr Q:=by
 intro c' hc S a W Ds hJ hs hz hm
 cases c'<;>simp[cQ]at hc
 all_goals(try(split at hc<;>simp at hc))
 exact wpIn_ret (xc.here (e':= .ret) h hJ hs hz hm)
def aau (P:Program) (nt n0:Nat) (rd:Option Nat) (J:YJ) (y:ak) (Q:YQ):YQ
 | .normal,k,fr=>My P nt n0 rd J y k fr Q
 | .exit i,k,fr=>Q (.exit i) k fr
 | .ret,k,fr=>Q .ret k fr
theorem C9 {x y:ak} (h:My P nt n0 rd J x k fr (aau P nt n0 rd J y Q)):My P nt n0 rd J (.seq x y) k fr Q:=by
 intro c' hc S a W Ds hJ hs hz hm
 cases c'<;>simp[cQ]at hc
 all_goals(try(split at hc<;>simp at hc))
 rename_i b1 b2 c1 c2 h1 h2
 obtain⟨rfl,rfl⟩:=hc
 refine wpIn_seq (wpIn_mono (h _ h1 S a W Ds hJ hs hz hm) ?_)
 rintro e a1 W1 ⟨e',k',fr',S',E,a0,rfl,hq,hJ',hs',hz',hk,rfl,hm',hE⟩
 cases e' with
 |normal=>exact wpIn_mono (hq _ h2 S' a0 W1 (E++Ds) hJ' hs' hz' hm') λe a w h=>h.kept hk hE
 |exit id=>exact⟨.exit id,k',fr',S',E,a0,rfl,hq,hJ',hs',hz',hk,rfl,hm',hE⟩
 |ret=>exact⟨.ret,k',fr',S',E,a0,rfl,hq,hJ',hs',hz',hk,rfl,hm',hE⟩
def Ui (id:Nat) (Q:YQ):YQ
 | .normal,k,fr=>Q .normal k fr
 | .exit i,k,fr=>if i=id then Q .normal k fr else Q (.exit i) k fr
 | .ret,k,fr=>Q .ret k fr
theorem Is {x:ak} {id:Nat} (h:My P nt n0 rd J x k fr (Ui id Q)):My P nt n0 rd J (.block id x) k fr Q:=by
 intro c' hc S a W Ds hJ hs hz hm
 cases c'<;>simp[cQ]at hc
 all_goals(try(split at hc<;>simp at hc))
 rename_i i1 c1
 obtain⟨rfl,h1⟩:i1=id∧cQ P nt c1=some x:=by simp_all
 refine wpIn_block (wpIn_mono (h _ h1 S a W Ds hJ hs hz hm) ?_)
 rintro e a1 W1 ⟨e',k',fr',S',E,a0,rfl,hq,hJ',hs',hz',hk,rfl,hm',hE⟩
 cases e' with
 |normal=>exact⟨.normal,k',fr',S',E,a0,rfl,hq,hJ',hs',hz',hk,rfl,hm',hE⟩
 |exit i=>
  simp only[Ui]at hq
  by_cases hi:i=i1
  ·rw[if_pos hi]at hq
   simp only[jN,Exit.inBlock,if_pos hi]
   exact⟨.normal,k',fr',S',E,a0,rfl,hq,hJ',hs',hz',hk,rfl,hm',hE⟩
  ·rw[if_neg hi]at hq
   simp only[jN,Exit.inBlock,if_neg hi]
   exact⟨.exit i,k',fr',S',E,a0,rfl,hq,hJ',hs',hz',hk,rfl,hm',hE⟩
 |ret=>exact⟨.ret,k',fr',S',E,a0,rfl,hq,hJ',hs',hz',hk,rfl,hm',hE⟩
theorem VP {c:AX} {x y:ak} {t:Bool} (hc:c.ev fr= .c (.pure (.val (.bool t)))) (h1:t=true→My P nt n0 rd J x k fr Q) (h2:t=false→My P nt n0 rd J y k fr Q) (hlt: ∀k S W,J k S W→(∀b,S b→b<W.heap.size)∧mN W):My P nt n0 rd J (.cond c x y) k fr Q:=by
 intro c' hc' S a W Ds hJ hs hz hm
 cases c'<;>simp[cQ]at hc'
 all_goals(try(split at hc'<;>simp at hc'))
 rename_i o b1 b2 _ _ _ x1 x2 x3 g1 g2 g3
 obtain⟨rfl,rfl,rfl⟩:=hc'
 have hsim:=hs.sim (hlt _ _ _ hJ).1 (hlt _ _ _ hJ).2
 have r1:=ay g1 hsim
 rw[hc]at r1
 have ho:=(aZ r1).1
 rw[←rx (ds:=Ds.map GS)]at ho
 cases t with
 |true=>exact wpIn_cond_true ho (h1 rfl _ g2 S a W Ds hJ hs hz hm)
 |false=>exact wpIn_cond_false ho (h2 rfl _ g3 S a W Ds hJ hs hz hm)
theorem ru {gs:List AG} (hJ: ∀k S W,J k S W→(∀b,S b→b<W.heap.size)∧mN W) (hg: ∀k S W W',J k S W→Below W.heap.size W W'→J k (λb=>S b∨W.heap.size≤b∧b<W'.heap.size) W')
  (h:jG P gs ⟨fr, [],0,0⟩ (λσ'=> ∃fr',gi σ' fr'∧Q .normal k fr')):My P nt n0 rd J (.region gs false) k fr Q:=by
 intro c' hc S a W Ds hj hs hz hm
 cases c'<;>simp[cQ]at hc
 all_goals(try(split at hc<;>simp at hc))
 rename_i id ops dr
 obtain⟨g1,h1,hgs⟩:=hc
 cases dr with
 |false=>
  simp[mW]at hgs
  subst hgs
  have hsim:=hs.sim (hJ _ _ _ hj).1 (hJ _ _ _ hj).2
  have:=mQ (rd:=rd) (ds:=Ds.map GS) (n:=0) (kW (nt:=nt) (w0:=W) (U:=OG S W (hJ _ _ _ hj).1) (Q:= λe σ'=> ∃fr',gi σ' fr'∧Q .normal k fr')) (fp h1) (gP h1 h hsim hz λσ' ι' a' w' hq hs' hz'=>⟨σ',ι',rfl,hq,hs',hz'⟩)
  refine wpIn_mono (wpIn_region_list this) ?_
  rintro e a1 W1 ⟨a0,rfl,σ',ι',rfl,⟨fr',hw,hq⟩,hs',hz'⟩
  exact⟨.normal,k,fr',_, [],a0,rfl,hq,hg _ _ _ _ hj hs'.below,SY.back hs' hw,hz',iU hs',rfl,hm.kept (iU hs'),λ_=>rfl⟩
 |true=>
  simp only[mW,if_true]at hgs
  rcases ff (P:=P) (ops:=ops.toList) (gs:=g1)with⟨x,e⟩|e<;>rw[e]at hgs<;>simp at hgs
def Sb (P:Program) (rd:Option Nat) (J:Option Nat→(Nat→Prop)→World→Prop) (f:AV) (args:List AV) (k:Option Nat) (R:AV→Option Nat→Prop):Prop:=
 ∀S W fv us,J k S W→aN W S (λ_=>undef) 0 f fv→aJ (aN W S (λ_=>undef) 0) args us→ ∀(o:Oper) (a:Act) (c:Call) (fo:Operand) (next:Act→World→Prop) (Q:Exit→Act→World→Prop),o.op= .call c→c.callee= .value fo→a.eval fo=fv→(c.args.map a.eval).toList=us→
  (∀v res k' S' W',R res k'→aN W' S' (λ_=>undef) 0 res v→J k' S' W'→rc S W S' W'→next (a.put o.dst v) W')→o.wpIn (FR rd) 0 P a W next Q
theorem ZG {gs:List AG} (n:Nat) {dst:Option Nat} {gg z:Bool} {fx:AX} {args:List AX} (hn:gs[n]? =some ⟨dst,none,.call gg z fx args⟩) (hJ: ∀k S W,J k S W→(∀b,S b→b<W.heap.size)∧mN W)
  (hg: ∀k S W W',J k S W→Below W.heap.size W W'→J k (λb=>S b∨W.heap.size≤b∧b<W'.heap.size) W')
  (h:jG P (gs.take n) ⟨fr, [],0,0⟩ (λσ1=> ∃fr1,gi σ1 fr1∧ ∃R,Sb P rd J (fx.ev fr1) (args.map (·.ev fr1)) k R∧
   ∀res k',R res k'→jG P (gs.drop (n+1)) ((⟨fr1, [],0,0⟩:St).put dst res) (λσ2=> ∃fr2,gi σ2 fr2∧Q .normal k' fr2))):My P nt n0 rd J (.region gs false) k fr Q:=by
 intro c' hc S a W Ds hj hs hz hm
 cases c'<;>simp[cQ]at hc
 all_goals(try(split at hc<;>simp at hc))
 rename_i id ops dr
 obtain⟨g1,h1,hgs⟩:=hc
 cases dr with
 |true=>
  simp only[mW,if_true]at hgs
  rcases ff (P:=P) (ops:=ops.toList) (gs:=g1)with⟨x,e⟩|e<;>rw[e]at hgs<;>simp at hgs
 |false=>
  simp[mW]at hgs
  subst hgs
  have hsim:=hs.sim (hJ _ _ _ hj).1 (hJ _ _ _ hj).2
  obtain⟨c1,_,c3⟩:=lA n h1
  obtain⟨_,c2,_⟩:=lA (n+1) h1
  obtain⟨o,ho,hog⟩:=c3 _ hn
  have hsplit:ops.toList=ops.toList.take n++(o::ops.toList.drop (n+1)):=by
   have hlt:=(List.getElem?_eq_some_iff.1 ho).1
   have he:=(List.getElem?_eq_some_iff.1 ho).2
   rw[←he,←List.drop_eq_getElem_cons hlt,List.take_append_drop]
  have hd:=FV hog
  unfold ui at hog
  by_cases hdst:Jr nt o.dst=false
  ·rw[if_pos hdst]at hog;cases hog
  rw[if_neg hdst]at hog
  split at hog
  ·rename_i ao hao
   have hgd:o.guard=none∧o.dst=dst∧ao= .call gg z fx args:=by
    cases hgu:o.guard with
    |none=>
     rw[hgu]at hog
     cases hog
     exact⟨rfl,rfl,rfl⟩
    |some q=>
     rw[hgu]at hog
     dsimp only at hog
     split at hog
     ·cases hog
     ·cases hog
   obtain⟨hgu,rfl,rfl⟩:=hgd
   have hdt: ∀t,o.dst=some t→t<nt:=by
    intro t ht
    rw[ht]at hdst
    simpa[Jr]using hdst
   obtain⟨c,fo,hcall,hcallee,hfx,hargs⟩:=Bv hao
   refine wpIn_region_list ?_
   rw[hsplit]
   have h3:=mQ (rd:=rd) (ds:=Ds.map GS) (n:=0) (ops:=ops) (kW (nt:=nt) (w0:=W) (U:=OG S W (hJ _ _ _ hj).1) (Q:= λe σ1=> ∃fr1,gi σ1 fr1∧ ∃R,Sb P rd J (fx.ev fr1) (args.map (·.ev fr1)) k R∧
    ∀res k',R res k'→jG P (g1.drop (n+1)) ((⟨fr1, [],0,0⟩:St).put o.dst res) (λσ2=> ∃fr2,gi σ2 fr2∧Q .normal k' fr2))) (fp c1) (gP c1 h hsim hz λσ' ι' a' w' hq hs' hz'=>⟨σ',ι',rfl,hq,hs',hz'⟩)
   refine bV ?_ ?_ h3
   ·rintro a1 W1 ⟨a0,rfl,σ1,ι1,_,⟨fr1,hw1,R,hstep,hrest⟩,hs1,hz1⟩
    have hj1:=hg _ _ _ _ hj hs1.below
    have hy1:=SY.back hs1 hw1
    have hk1:=iU hs1
    generalize (λb=>S b∨W.heap.size≤b∧b<W1.heap.size)=S1 at hj1 hy1 hk1
    have hsim1:=hy1.sim (hJ _ _ _ hj1).1 (hJ _ _ _ hj1).2
    have ev: ∀{x:Operand} {y:AX},aK x=some y→aN W1 S1 (λ_=>undef) 0 (y.ev fr1) (a0.eval x):=by
     intro x y hx
     have:=ay hx hsim1
     exact this.mono (λb hlt h=>by
      rcases h.1 with h|h
      ·exact h
      ·omega) (λ_ _ _=>rfl) (λ_ _=>rfl) (Nat.le_refl _)
    have evs: ∀{l:List Operand} {ys:List AX},jD l=some ys→aJ (aN W1 S1 (λ_=>undef) 0) (ys.map (·.ev fr1)) (l.map a0.eval):=by
     intro l
     induction l with
     |nil=>intro ys h;cases h;exact .nil
     |cons x l ih=>
      intro ys h
      unfold jD at h
      split at h
      ·rename_i y ys' h1 h2
       cases h
       exact .cons (ev h1) (ih h2)
      ·cases h
    show wpListIn (FR rd) 0 P ops _ (o::ops.toList.drop (n+1)) (sh (Ds.map GS) a0) W1
    unfold wpListIn
    rw[if_pos (by simp[Region.wanted,hgu])]
    refine hstep S1 W1 _ _ hj1 (ev hfx) (evs hargs) o (sh (Ds.map GS) a0) c fo _ _ hcall hcallee (by rw[rx]) (by simp[rx]) ?_
    intro v res k' S' W' hR hres hj2 hk2
    have hy2:=hy1.kept hk2
    have hy3:SY S' ((⟨fr1, [],0,0⟩:St).put o.dst res).fr (a0.put o.dst v) W':=by
     cases hdo:o.dst with
     |none=>exact hy2
     |some t=>
      refine⟨λs=> ?_,hy2.2⟩
      have hlt:t<a0.tmps.size:=by rw[hz1];exact hdt t hdo
      show aN _ _ _ _ (aI ((t,res)::fr1) s) _
      rw[eM]
      by_cases e:t=s
      ·subst e
       rw[if_pos rfl]
       have:(a0.put (some t) v).tmps.getD t undef=v:=by simp[Act.put,Array.getD_eq_getD_getElem?,hlt]
       rw[this]
       exact hres
      ·rw[if_neg e]
       have:(a0.put (some t) v).tmps.getD s undef=a0.tmps.getD s undef:=by simp[Act.put,Array.getD_eq_getD_getElem?,Array.getElem?_setIfInBounds,e]
       rw[this]
       exact hy2.1 s
    have hsim3:=hy3.sim (hJ _ _ _ hj2).1 (hJ _ _ _ hj2).2
    have hst:((⟨fr1, [],0,0⟩:St).put o.dst res)=⟨((⟨fr1, [],0,0⟩:St).put o.dst res).fr, [],0,0⟩:=by cases o.dst<;>rfl
    have h4:=hrest res k' hR
    rw[hst]at h4
    have h5:=mQ (rd:=rd) (ds:=Ds.map GS) (n:=0) (ops:=ops) (kW (nt:=nt) (w0:=W') (U:=OG S' W' (hJ _ _ _ hj2).1) (Q:= λe σ2=> ∃fr2,gi σ2 fr2∧Q .normal k' fr2)) (fp c2) (gP c2 h4 hsim3 (by rw[pR];exact hz1) λσ' ι' a' w' hq hs' hz'=>⟨σ',ι',rfl,hq,hs',hz'⟩)
    have h6:=bV (Q:=xc nt n0 rd Ds J S W Q) (l2:= []) ?_ ?_ h5
    ·rw[List.append_nil]at h6
     rw[xU]
     exact h6
    ·rintro a2 W2 ⟨a3,rfl,σ2,ι2,_,⟨fr2,hw2,hq2⟩,hs2,hz2⟩
     exact⟨.normal,k',fr2,_, [],a3,rfl,hq2,hg _ _ _ _ hj2 hs2.below,SY.back hs2 hw2,hz2,(hk1.trans hk2).trans (iU hs2),rfl,hm.kept ((hk1.trans hk2).trans (iU hs2)),λ_=>rfl⟩
    ·rintro e a2 W2 ⟨a3,rfl,σ2,ι2,e2,_⟩
     exact e2
   ·rintro e a1 W1 ⟨a0,rfl,σ1,ι1,e2,_⟩
    exact e2
  ·cases hog
theorem Kk {l:Nat} {w:World} {xs:List (List AV)} {args:List AV} {k:Nat} (hJ:w9 P l w xs J) (hx:xs[k]? =some args):
  Sb P rd J (yv l) args (some k) (λres k'=> ∃b:Bool,res= .c (.pure (.val (.bool b)))∧k'=if b=true then some (k+1)else none):=by
 intro S W fv us hj hf hus o a c fo next Q ho hc hfo hargs hnext
 obtain⟨rfl,_⟩:=aZ hf
 obtain⟨fn,tmps,asg,body,hy,hR⟩:=hJ.round k args S W us.toArray hx hj (by simpa using hus) 0
 refine⟨λ_ _=>trivial, ?_⟩
 rw[Oper.semAt_eq _ _ _ (by rw[ho];intro c e;cases e)]
 have hexec:(execOp a.eval o).run P W= .ok (.round l fn tmps asg body) W:=by
  have e:c.args.map a.eval=us.toArray:=by rw[←hargs]
  simp[execOp,ho,resolve,hc,hfo,Deferred.ofValue,invoke,e,hy]
 rw[hexec,Oper.uponIn_round]
 refine⟨by simp[FR,Fence.wide],hR.mono ?_⟩
 rintro e W' ⟨b,rfl,hj',hk⟩
 exact hnext (.bool b) _ _ S W' ⟨b,rfl,rfl⟩ (.c (.pure (.val rfl))) hj' λb hb=>⟨hb,hk b hb⟩
theorem fc.le {n n':Nat} {w w':World} (h:fc n w w') (hn:n'≤n):fc n' w w':=⟨h.os,h.tape,h.output,h.size,λb hb=>(h.block b hb).imp id λ⟨h1,h2⟩=>⟨Nat.le_trans hn h1,h2⟩⟩
theorem SY.growL {S:Nat→Prop} {a:Act} {W W':World} {n:Nat} (h:SY S fr a W) (hg:fc n W W'):SY S fr a W':=by
 have hS: ∀b,(b<W.heap.size∧W'.heap[b]? ≠W.heap[b]?)→ ∃o,W.heap[b]? =some o∧Gn o=true:=by
  rintro b ⟨h1,h2⟩
  rcases hg.block b h1 with e|⟨_,e⟩
  ·exact absurd e h2
  ·exact e
 exact⟨λt=>((h.1 t).ne hS).mono (λb _ h=>h.1) (λb hb h=>Classical.byContradiction λe=>h.2 ⟨hb,e⟩) (λ_ _=>rfl) (Nat.le_refl _),h.2⟩
structure Sx (n0:Nat) (J:YJ):Prop where
 old: ∀k S W,J k S W→(∀b,S b→b<W.heap.size)∧n0≤W.heap.size∧mN W
 grow: ∀k S W W',J k S W→fc n0 W W'→J k (λb=>S b∨W.heap.size≤b∧b<W'.heap.size) W'
 sub: ∀k S S' W,J k S W→(∀b,S' b→S b)→J k S' W
theorem w9.ok {l:Nat} {w:World} {xs:List (List AV)} (h:w9 P l w xs J):Sx w.heap.size J:=⟨h.old,h.grow,h.sub⟩
theorem Nj {fx:AX} {ps:List Nat} {asg body:ak} {g:FuncId} {caps:List AC} {pcaps:List AV} {xs:List (List AV)} (hok:Sx n0 J) (I:Nat→Option Nat→Prop) (fr0:List (Nat×AV))
  (hf:fx.ev fr= .c (.clo g caps)) (hp:aV [] (caps.map .c)=some pcaps) (hnr:(caps.map AV.c).all fh=true) (hY:iS P g pcaps xs) (hlen: ∀x∈xs,x.length=ps.length) (hfr:ij [] fr 0 fr0) (h0:I 0 k)
  (hround: ∀l k1 x kout,xs[k1]? =some x→I k1 kout→My P nt n0 (some l) J asg kout (EF ps x fr0) (λe k' fr'=>e= .normal∧My P nt n0 (some l) J body k' fr' (λe k'' fr''=>match e with
   | .normal=>I (k1+1) k''
   |e=>Q e k'' fr0)))
  (hend: ∀kout,I xs.length kout→Q .normal kout fr0):My P nt n0 none J (.rangeF fx ps asg body) k fr Q:=by
 intro c' hc S a W Ds hj hs hz hm
 cases c'<;>simp[cQ]at hc
 all_goals(try(split at hc<;>simp at hc))
 rename_i f' ps' asg' body' _ _ _ _ x2 x3 x4 hfx hasg hbody hps
 obtain⟨rfl,rfl,rfl,rfl⟩:=hc
 have hps': ∀p∈ps'.toList,p<nt:= λp hp=>by simpa using Array.all_eq_true_iff_forall_mem.1 hps p (Array.mem_toList_iff.1 hp)
 obtain⟨hlt,hn0,hG⟩:=hok.old _ _ _ hj
 have hsim:=hs.sim hlt hG
 have hv:=ay hfx hsim
 rw[hf]at hv
 obtain⟨cv,hcl,hcap,hu⟩: ∃cv:Array Value,caps.length=cv.size∧(∀(i:Nat) x,caps[i]? =some x→bK W (aC W.heap.size (OG S W hlt) (λ_=>undef) []) (λ_=>undef) 0 x (cv.toList[i]?.getD undef))∧a.eval f'= .func (.func g) #[] cv:=by
  generalize a.eval f'=u at hv
  cases hv with
  |c h=>
   cases h with
   |clo hl h=>exact⟨_,hl,h,rfl⟩
 have hall:aJ (aN W (aC W.heap.size (OG S W hlt) (λ_=>undef) []) (λ_=>undef) 0) (caps.map .c) cv.toList:=by
  refine aJ.of_get (by simp[hcl]) λi x v hi hvi=> ?_
  rw[List.getElem?_map]at hi
  obtain⟨y,hy,rfl⟩:=Option.map_eq_some_iff.1 hi
  have:=hcap i y hy
  rw[hvi]at this
  exact .c this
 have hpc:=kK (V:=aC W.heap.size (OG S W hlt) (λ_=>undef) []) hsim hall (λ_ h=>h) (.inl hnr) hp
 have hexec: ∀args w,(callFunc g args).run P w= .ok (.enter g args) w:=by
  obtain⟨fn,hfn,hbody,hname⟩:=hY.1
  have hb: ¬fn.body=none:=by intro e;rw[e]at hbody;cases hbody
  have hname' : ¬ fn.name = "runtime.NumGoroutine" := by intro e; rw [e] at hname; simp at hname
  intro args w
  simp[callFunc,hfn,hname',hb]
 refine wpIn_rangeFunc (F:=FR none) λfn _=> ?_
 obtain⟨l,D,dfr,w1,hent,hg1,hl1,hl0,hw1l,hD0,hDl,hD1⟩: ∃(l D dfr:Nat) (w1:World),
   (Instr.enterLoop fn (sh (Ds.map GS) a).tmps ps' asg' body' (FR none).round).run P W= .ok (l, [GS D]) w1∧Below W.heap.size W w1∧
   w1.heap[l]? =some (.loop {state:= .ready,pending:=none,fn,tmps:=a.tmps,params:=ps',assign:=asg',body:=body',defers:=dfr})∧W.heap.size≤l∧
   w1.heap.size=l+1∧W.heap.size≤D∧D≠l∧w1.heap[D]? =some (.deferred (some [])):=by
  refine⟨W.heap.size+1,W.heap.size,W.heap.size,_,run_enterLoop_outer _ _ _ _ _,((Below.refl _ W).alloc (Nat.le_refl _) _).alloc (by simp) _, ?_,by omega,by simp,Nat.le_refl _,by omega, ?_⟩
  ·have:=World.alloc_heap_new (W.alloc (.deferred (some []))) (.loop {state:= .ready,pending:=none,fn,tmps:=a.tmps,params:=ps',assign:=asg',body:=body',defers:=W.heap.size})
   rwa [World.size_alloc]at this
  ·exact(Below.heap_alloc _ _ _ (by simp)).trans (World.alloc_heap_new W _)
 generalize hrec:(λ(st:LoopState) (pe:Option Code)=>({state:=st,pending:=pe,fn,tmps:=a.tmps,params:=ps',assign:=asg',body:=body',defers:=dfr}:Loop))=rec
 have hrec': ∀st pe,rec st pe={state:=st,pending:=pe,fn,tmps:=a.tmps,params:=ps',assign:=asg',body:=body',defers:=dfr}:= λst pe=>by rw[←hrec]
 rw[←hrec']at hl1
 have hl1':=(Array.getElem?_eq_some_iff.1 hl1).1
 have hD1':=(Array.getElem?_eq_some_iff.1 hD1).1
 refine⟨l, [GS D],w1,{target:= .fn (.func g) cv,args:= #[.func (.yield l) #[] #[]]},w1,g, #[.func (.yield l) #[] #[]]++cv,w1,hent, ?_,λ_ _=>trivial, ?_,λh=>by simp[FR,Fence.wide]at h, ?_⟩
 ·have he:(sh (Ds.map GS) a).eval f'= .func (.func g) #[] cv:=by rw[rx];exact hu
  simp only[resolve,he]
  simp[go_sem]
 ·simp[invoke,go_sem,hexec]
 let rdy:=rec .ready none
 let Mid:Option Nat→(Nat→Prop)→World→Loop→(Nat→Prop)→Prop:= λkout S' W2 r S2=>J kout S' W2∧SY S' fr0 a W2∧S' l∧W2.heap[l]? =some (.loop r)∧XX n0 S' W2 (D::Ds)∧rc S W S' W2∧ ∀b,S2 b→S' b∧b≠l
 let J1:YJ:= λk1 S2 W2=>match k1 with
  |some k1=> ∃kout S',I k1 kout∧Mid kout S' W2 rdy S2
  |none=> ∃(e:bc) (kout:Option Nat) (S':Nat→Prop),e≠ .normal∧Q e kout fr0∧Mid kout S' W2 (rec .done (some (tV e))) S2
 have hSl: ¬S l:= λh=>by have:=hlt l h;omega
 have hDnot:D∉Ds:= λh=>by have:=hlt D (hm.2 D h).2.1;omega
 have turn: ∀{kout:Option Nat} {S':Nat→Prop} {W2:World} {r r':Loop} {S2:Nat→Prop},Mid kout S' W2 r S2→Mid kout S' (W2.putObj l (.loop r')) r' S2:=by
  rintro kout S' W2 r r' S2 ⟨h1,h2,h3,h4,h5,h6,h7⟩
  have hgl:fc n0 W2 (W2.putObj l (.loop r')):= .putObj _ (by omega) h4 rfl
  refine⟨hok.sub _ _ _ _ (hok.grow _ _ _ _ h1 hgl) λb h=> .inl h,h2.growL hgl,h3,World.putObj_heap_same (Array.getElem?_eq_some_iff.1 h4).1,⟨h5.1,λD' hD'=>⟨(h5.2 D' hD').1,(h5.2 D' hD').2.1, ?_⟩⟩,λb hb=>⟨(h6 b hb).1, ?_⟩,h7⟩
  ·refine(World.putObj_heap_other ?_).trans (h5.2 D' hD').2.2
   rcases List.mem_cons.1 hD' with rfl|h
   ·exact hDl
   ·have:=hlt D' (hm.2 D' h).2.1;omega
  ·exact(World.putObj_heap_other (show b≠l from λe=>hSl (by rw[←e];exact hb))).trans (h6 b hb).2
 have grow: ∀{kout:Option Nat} {S':Nat→Prop} {W2 W3:World} {r:Loop} {S2:Nat→Prop},Mid kout S' W2 r S2→fc w1.heap.size W2 W3→Mid kout (λb=>S' b∨W2.heap.size≤b∧b<W3.heap.size) W3 r (λb=>S2 b∨W2.heap.size≤b∧b<W3.heap.size):=by
  rintro kout S' W2 W3 r S2 ⟨h1,h2,h3,h4,h5,h6,h7⟩ hg
  have hl2:=(Array.getElem?_eq_some_iff.1 h4).1
  have hsz:=hg1.size
  refine⟨hok.grow _ _ _ _ h1 (hg.le (by omega)), ?_,.inl h3,(hg.old hl1' hl2).trans h4,⟨h5.1,λD' hD'=>⟨(h5.2 D' hD').1,.inl (h5.2 D' hD').2.1, ?_⟩⟩,λb hb=>⟨.inl (h6 b hb).1, ?_⟩,λb hb=> ?_⟩
  ·have:=h2.growL hg
   exact⟨λt=>(this.1 t).mono (λb _ h=> .inl h) (λ_ _ _=>rfl) (λ_ _=>rfl) (Nat.le_refl _),this.2⟩
  ·have h8:=(h5.2 D' hD').2.2
   refine(hg.old ?_ (Array.getElem?_eq_some_iff.1 h8).1).trans h8
   rcases List.mem_cons.1 hD' with rfl|h
   ·exact hD1'
   ·have:=hlt D' (hm.2 D' h).2.1;omega
  ·have h8:=(h6 b hb).2
   have h9:b<W.heap.size:=hlt b hb
   exact(hg.old (by omega) (Ow h9 h8)).trans h8
  ·rcases hb with hb|⟨q1,q2⟩
   ·exact⟨.inl (h7 b hb).1,(h7 b hb).2⟩
   ·exact⟨.inr ⟨q1,q2⟩,by omega⟩
 have midOld: ∀{kout:Option Nat} {S':Nat→Prop} {W2:World} {r:Loop} {S2:Nat→Prop},Mid kout S' W2 r S2→(∀b,S2 b→b<W2.heap.size)∧w1.heap.size≤W2.heap.size∧mN W2:=by
  rintro kout S' W2 r S2 ⟨h1,h2,h3,h4,h5,h6,h7⟩
  have hl2:=(Array.getElem?_eq_some_iff.1 h4).1
  exact⟨λb hb=>(hok.old _ _ _ h1).1 b (h7 b hb).1,by omega,(hok.old _ _ _ h1).2.2⟩
 refine Da ((hY.2 l S J1 w1 cv (hG.below (Nat.le_refl _) hg1) ?_ ⟨?_, ?_, ?_, ?_⟩ ?_).mono ?_)
 ·exact hpc.mono λ_ _ h=>h.mono (λb hb hf=>by
   rcases hf.1 with hf|hf
   ·exact hf
   ·omega) (λb hb _=>hg1.block b hb) (λ_ _=>rfl) (Nat.le_refl _)
 ·intro k1 S2 W2 W3 h hg
  cases k1 with
  |some k1=>
   obtain⟨kout,S',hI,h⟩:=h
   exact⟨kout,_,hI,grow h hg⟩
  |none=>
   obtain⟨e,kout,S',hne,hq,h⟩:=h
   exact⟨e,kout,_,hne,hq,grow h hg⟩
 ·intro k1 S2 W2 h
  cases k1 with
  |some k1=>
   obtain⟨kout,S',hI,h⟩:=h
   exact midOld h
  |none=>
   obtain⟨e,kout,S',hne,hq,h⟩:=h
   exact midOld h
 ·intro k1 S2 S3 W2 h hsub
  cases k1 with
  |some k1=>
   obtain⟨kout,S',hI,h1,h2,h3,h4,h5,h6,h7⟩:=h
   exact⟨kout,S',hI,h1,h2,h3,h4,h5,h6,λb hb=>h7 b (hsub b hb)⟩
  |none=>
   obtain⟨e,kout,S',hne,hq,h1,h2,h3,h4,h5,h6,h7⟩:=h
   exact⟨e,kout,S',hne,hq,h1,h2,h3,h4,h5,h6,λb hb=>h7 b (hsub b hb)⟩
 ·rintro k1 x S2 W2 us hx ⟨kout,S',hI,hmid⟩ hus m
  obtain⟨g1,g2,g3,g4,g5,g6,g7⟩:=hmid
  have hxl:=hlen x (List.mem_of_getElem? hx)
  have hul:us.size=ps'.size:=by
   rw[←Array.length_toList,←hus.length,hxl,Array.length_toList]
  have hy:=run_yield (P:=P) (args:=us) g4 (by simp only[rdy,hrec'];exact hul)
  refine⟨fn,_,asg',body',by simp only[rdy,hrec']at hy;exact hy,roundIn_of_wpIn trivial ?_⟩
  have etm:(ps'.zip us).foldl (λtmps (x:Nat×Value)=>tmps.setIfInBounds x.1 x.2) a.tmps=(ps'.toList.zip us.toList).foldl (λtmps (x:Nat×Value)=>tmps.setIfInBounds x.1 x.2) a.tmps:=by
   rw[←Array.foldl_toList,Array.toList_zip]
  have hus':aJ (aN W2 S' (λ_=>undef) 0) x us.toList:=hus.mono λ_ _ h=>h.mono (λb hlt h=>(g7 b h).1) (λ_ _ _=>rfl) (λ_ _=>rfl) (Nat.le_refl _)
  have hsr:SY S' (EF ps'.toList x fr0) {tmps:=(ps'.zip us).foldl (λtmps (x:Nat×Value)=>tmps.setIfInBounds x.1 x.2) a.tmps,defers:= []} W2:=by
   refine⟨λs=> ?_,rfl⟩
   rw[etm]
   exact xY hus' (by rw[hz];exact hps') g2.1 s
  have h1:=hround l k1 x kout hx hI _ hasg S' _ W2 [] g1 hsr (by rw[etm,uD];exact hz) ⟨List.nodup_nil,λD hD=>by cases hD⟩
  rw[List.map_nil,kI]at h1
  refine wpIn_mono (vR h1) ?_
  rintro e a1 W3 ⟨e',k',fr',S3,E,a0,rfl,⟨rfl,hq⟩,hJ3,hs3,hz3,hk3,rfl,hm3,hE⟩
  obtain rfl:=hE rfl
  rw[List.nil_append,List.map_nil,kI]
  have k4:W3.heap[l]? =some (.loop rdy):=(hk3 l g3).2.trans g4
  refine⟨_,run_beginRound k4 (by simp only[rdy,hrec']), ?_⟩
  have mid3:Mid k' S3 W3 rdy S2:=⟨hJ3,g2.kept hk3,(hk3 l g3).1,k4,g5.kept hk3,g6.trans hk3,λb hb=>⟨(hk3 b (g7 b hb).1).1,(g7 b hb).2⟩⟩
  have mid3b:=turn (r':={rdy with state:= .busy}) mid3
  have hgl:fc n0 W3 (W3.putObj l (.loop {rdy with state:= .busy})):= .putObj _ (by omega) k4 rfl
  have h3:=hq _ hbody S3 a0 _ [] mid3b.1 (hs3.growL hgl) hz3 ⟨List.nodup_nil,λD hD=>by cases hD⟩
  rw[List.map_nil,kI]at h3
  refine wpIn_mono (vR h3) ?_
  rintro e a2 W4 ⟨e'',k'',fr'',S4,E,a3,rfl,hq2,hJ4,hs4,hz4,hk4,rfl,hm4,hE⟩
  obtain rfl:=hE rfl
  obtain⟨q1,q2,q3,q4,q5,q6,q7⟩:=mid3b
  have k5:W4.heap[l]? =some (.loop {rdy with state:= .busy}):=(hk4 l q3).2.trans q4
  have mid4:Mid k'' S4 W4 {rdy with state:= .busy} S2:=⟨hJ4,q2.kept hk4,(hk4 l q3).1,k5,q5.kept hk4,q6.trans hk4,λb hb=>⟨(hk4 b (q7 b hb).1).1,(q7 b hb).2⟩⟩
  have er: ∀jump:Option Code,({({rdy with state:= .busy}:Loop)with state:=if jump.isNone then .ready else .done,pending:=jump}:Loop)=rec (if jump.isNone then .ready else .done) jump:= λjump=>by simp only[rdy,hrec']
  have hr:= λjump=>run_endRound (P:=P) jump k5
  simp only[er]at hr
  have kept: ∀r' c,S2 c→(W4.putObj l (.loop r')).heap[c]? =W2.heap[c]? := λr' c hc=>by
   obtain⟨c1,c2⟩:=g7 c hc
   have e1:=(hk3 c c1).2
   have e2:(W3.putObj l (.loop {rdy with state:= .busy})).heap[c]? =W3.heap[c]? :=World.putObj_heap_other c2
   have e3:=(hk4 c (hk3 c c1).1).2
   exact(World.putObj_heap_other c2).trans (e3.trans (e2.trans e1))
  cases e'' with
  |normal=>exact⟨_,_,hr none,true,rfl,⟨k'',S4,hq2,turn mid4⟩,kept _⟩
  |exit i=>exact⟨_,_,hr (some (.exit i)),false,rfl,⟨.exit i,k'',S4,(λh=>by cases h),hq2,turn mid4⟩,kept _⟩
  |ret=>exact⟨_,_,hr (some .ret),false,rfl,⟨.ret,k'',S4,(λh=>by cases h),hq2,turn mid4⟩,kept _⟩
 ·have hgl:fc n0 W w1:=(fc.of_below hg1).le hn0
  refine⟨k,λb=>S b∨W.heap.size≤b∧b<w1.heap.size,h0,hok.grow _ _ _ _ hj hgl, ?_,.inr ⟨hl0,by omega⟩,hl1,⟨List.nodup_cons.2 ⟨hDnot,hm.1⟩,λD' hD'=> ?_⟩,λb hb=>⟨.inl hb,hg1.block b (hlt b hb)⟩,λb hb=>⟨.inl hb,λe=>hSl (by rw[←e];exact hb)⟩⟩
  ·exact(hs.wk hfr).kept λb hb=>⟨.inl hb,hg1.block b (hlt b hb)⟩
  ·rcases List.mem_cons.1 hD' with rfl|h
   ·exact⟨by omega,.inr ⟨hD0,hD1'⟩,hD1⟩
   ·exact⟨(hm.2 D' h).1,.inl (hm.2 D' h).2.1,(hg1.block D' (hlt D' (hm.2 D' h).2.1)).trans (hm.2 D' h).2.2⟩
 ·have final: ∀{e':bc} {kout:Option Nat} {S' S2:Nat→Prop} {W3:World} {r r':Loop},Mid kout S' W3 r S2→Q e' kout fr0→
    xc nt n0 none Ds J S W Q (jN e') {sh (Ds.map GS) a with defers:= [GS D]++(sh (Ds.map GS) a).defers} (W3.putObj l (.loop r')):=by
   intro e' kout S' S2 W3 r r' h hq
   obtain⟨h1,h2,h3,h4,h5,h6,h7⟩:=turn (r':=r') h
   exact⟨e',kout,fr0,S', [D],a,rfl,hq,h1,h2,hz,h6,by simp[sh,hs.2],h5,λh=>by cases h⟩
  rintro e W3 ⟨⟨v,rfl⟩,k1,S2,hk,h⟩
  cases k1 with
  |some k1=>
   obtain rfl:k1=xs.length:=by simpa using hk
   obtain⟨kout,S',hI,hmid⟩:=h
   have hr:=run_endLoop (P:=P) hmid.2.2.2.1 (by simp only[rdy,hrec'];simp)
   exact⟨_,_,hr,by simp only[rdy,hrec'];exact final (e':= .normal) hmid (hend kout hI)⟩
  |none=>
   obtain⟨e,kout,S',hne,hq,hmid⟩:=h
   have hr:=run_endLoop (P:=P) hmid.2.2.2.1 (by simp only[hrec'];simp)
   refine⟨_,_,hr, ?_⟩
   simp only[hrec']
   cases e with
   |normal=>exact absurd rfl hne
   |exit i=>exact wpIn_exit (final (e':= .exit i) hmid hq)
   |ret=>exact wpIn_ret (final (e':= .ret) hmid hq)
theorem PU {fn:Func} {tmps:Array Value} {R:Ending→World→Prop} (hok:Sx n0 J) {S:Nat→Prop} {a:Act} (hfin: ∀W,J k S W→SY S fr a W→ ∃v,(results fn tmps).run P W= .ok v W∧R (.returned v) W): ∀{E:List Nat} {W:World},J k S W→SY S fr a W→XX n0 S W E→LeavesInM Fence.wide 0 P fn tmps R (E.map GS) .returning W
 | [],W,hj,hs,_=>hfin W hj hs
 |D::E,W,hj,hs,hm=>by
  obtain⟨h1,h2,h3⟩:=hm.2 D List.mem_cons_self
  have hg:fc n0 W (W.putObj D (.deferred none)):= .putObj _ h1 h3 rfl
  obtain⟨n1,n2⟩:=List.nodup_cons.1 hm.1
  exact⟨by simp,.inl ⟨D,_,rfl,run_takeDeferred h3,PU hok hfin (hok.sub _ _ _ _ (hok.grow _ _ _ _ hj hg) λb h=> .inl h) (hs.growL hg) ⟨n2,λD' hD'=>by
   obtain⟨q1,q2,q3⟩:=hm.2 D' (List.mem_cons_of_mem _ hD')
   exact⟨q1,q2,(World.putObj_heap_other (show D'≠D from λe=>n1 (by rw[←e];exact hD'))).trans q3⟩⟩⟩⟩
theorem iS.of2 {f:FuncId} {body:ak} {rs:List AR} {args:List AV} {xs:List (List AV)} (hf:aB P f nt body rs) (hlen:args.length+1≤nt)
  (h: ∀(l:Nat) (w:World) (J':YJ),w9 P l w xs J'→My P nt w.heap.size none J' body (some 0) (aW (yv l::args) 0) (aaB rs λ_ k'=>k'=some xs.length∨k'=none)):iS P f args xs:=by
 obtain⟨fn,c,h1,h2,h3,rfl,h5,h6⟩:=hf.is
 refine⟨⟨fn,h1,by rw[h2];rfl,h3⟩,λl S J' w vs hG hargs hJ h0=> ?_⟩
 have hok:=hJ.ok
 have hargs':aJ (aN w S (λ_=>undef) 0) (yv l::args) (#[Value.func (.yield l) #[] #[]]++vs).toList:=by
  have e:(#[Value.func (.yield l) #[] #[]]++vs).toList=Value.func (.yield l) #[] #[]::vs.toList:=by simp
  rw[e]
  exact .cons (.c (.pure (.val rfl))) hargs
 generalize (#[Value.func (.yield l) #[] #[]]++vs)=us at hargs'
 have hsz:us.size=args.length+1:=by rw[←Array.length_toList];exact hargs'.length.symm
 have hs:SY S (aW (yv l::args) 0) {tmps:=us++Array.replicate (fn.ntmps-us.size) undef,defers:= []} w:=by
  refine⟨λt=> ?_,rfl⟩
  rcases jh (vs:=us.toList) (k:=0) hargs' t with h|h
  ·by_cases hlt:t<us.size
   ·have e:(us++Array.replicate (fn.ntmps-us.size) undef).getD t undef=(us.toList[t-0]?).getD undef:=by
     simp[Array.getD_eq_getD_getElem?,Array.getElem?_append,hlt]
    rw[e]
    exact h
   ·have:aI (aW (yv l::args) 0) t= .top:=by
     have key: ∀(l:List AV) (j:Nat),j+l.length≤t→aI (aW l j) t= .top:=by
      intro l
      induction l with
      |nil=>intro j _;rfl
      |cons x l ih=>
       intro j hj
       simp only[List.length_cons]at hj
       show(if j=t then x else aI (aW l (j+1)) t)=_
       rw[if_neg (by omega)]
       exact ih _ (by omega)
     exact key (yv l::args) 0 (by simp only[List.length_cons];omega)
    rw[this]
    exact .top
  ·rw[h]
   exact .top
 have hsize:(us++Array.replicate (fn.ntmps-us.size) undef).size=fn.ntmps:=by simp;omega
 have hw:=h l w J' hJ c h5 S _ w [] h0 hs hsize ⟨List.nodup_nil,λD hD=>by cases hD⟩
 rw[List.map_nil,kI]at hw
 refine(callsIn_wide (n:=0)).1 (callsIn_of_wp_marks h1 h2 trivial (wpIn_mono hw ?_))
 have fin: ∀{a':Act} {fr':List (Nat×AV)} {k':Option Nat} {S':Nat→Prop} {W':World},jU ⟨fr', [],0,0⟩ rs [] (λvs=>k'=some xs.length∨k'=none)→J' k' S' W'→SY S' fr' a' W'→ ∃v,(results fn a'.tmps).run P W'= .ok v W'∧(∃v',Ending.returned v= .returned v')∧ ∃k S',(k=some xs.length∨k=none)∧J' k S' W':=by
  intro a' fr' k' S' W' hres hj' hs'
  obtain⟨vs',us',g1,g2,g3⟩:=kr (hs'.sim (hok.old _ _ _ hj').1 (hok.old _ _ _ hj').2.2) (us:= []) h6 hres .nil
  refine⟨(if h:us'.toArray.size=1 then us'.toArray[0]else .tuple us'.toArray), ?_,⟨_,rfl⟩,k',S',g3,hj'⟩
  rw[kw,Array.mapM_eq_mapM_toList]
  simp[g2]
 rintro e a' W' ⟨e',k',fr',S',E,a0,rfl,hq,hj',hs',hsz',hk,rfl,hm,_⟩
 have hd:(sh ((E++ []).map GS) a0).defers=E.map GS:=by simp[sh,hs'.2]
 rw[List.append_nil]at hm
 have key:(∀W,J' k' S' W→SY S' fr' a0 W→ ∃v,(results fn a0.tmps).run P W= .ok v W∧(∃v',Ending.returned v= .returned v')∧ ∃k S',(k=some xs.length∨k=none)∧J' k S' W)→LeavesInM Fence.wide 0 P fn (sh ((E++ []).map GS) a0).tmps (λe w'=>(∃v,e= .returned v)∧ ∃k S',(k=some xs.length∨k=none)∧J' k S' w') (sh ((E++ []).map GS) a0).defers .returning W':= λhf=>by
  rw[hd]
  exact PU hok (a:=a0) hf hj' hs' hm
 cases e' with
 |normal=>exact key λW hj hs=>fin hq hj hs
 |exit i=>exact hq.elim
 |ret=>exact key λW hj hs=>fin hq hj hs
end
end Go.Abs
