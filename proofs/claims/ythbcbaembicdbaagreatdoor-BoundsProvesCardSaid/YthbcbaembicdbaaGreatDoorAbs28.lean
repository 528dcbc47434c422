import Derived.Test.YthbcbaembicdbaaGreatDoorAbsQ
set_option linter.unusedVariables false
set_option linter.unusedSimpArgs false
namespace Go.Abs
open Go.RowKit
section
variable {P : Program} {σ : St} {nt : Nat}
theorem XV {c:ak} {Q:bk→St→Prop} (nm i:Nat) (xs:List AC) (hf:am σ.mem nm=some (.var xs)) (hi:xs[i]? =some .nils)
  (h:AW P nt c {σ with mem:=dJ σ.mem nm (.var (xs.set i (.pure (.slice []))))} Q):AW P nt c σ Q:=by
 intro c' hc w0 U rd ds ι a w hrd hs hz
 obtain⟨b,vs,T,g1,g2,g3,g4⟩:=hs.box _ _ hf
 have hset:=hs.setBox (cs:=vs) hf (b:=b) (by rw[g1];rfl) (bx:= .var (xs.set i (.pure (.slice [])))) ⟨b,vs,T,g1,g2,setRow_heap _ _ _ _ _ _ g3,by
  rw[setRow_self w b vs T _ g3]
  refine aP.of_get (by rw[List.length_set];exact g4.length) fun j x v hj hv=> ?_
  rw[List.getElem?_set]at hj
  by_cases e1:i=j
  ·subst e1
   have hlt:=(List.getElem?_eq_some_iff.1 hi).1
   rw[if_pos rfl,if_pos hlt]at hj
   cases hj
   obtain⟨v',hv',hr⟩:=g4.get hi
   rw[hv']at hv
   cases hv
   have:v= .slice none 0 0:=by cases hr;rfl
   rw[this]
   exact .pure .nil
  ·rw[if_neg e1]at hj
   obtain⟨v',hv',hr⟩:=g4.get hj
   rw[hv']at hv
   cases hv
   exact hr⟩
 rw[setRow_self w b vs T _ g3]at hset
 exact h c' hc w0 U rd ds ι a w hrd hset hz
theorem z8 {c:ak} {Q:bk→St→Prop} (t:Nat) (ht:aN σ.fr t= .c .nils) (h:AW P nt c {σ with fr:=(t,.c (.tsl []))::σ.fr} Q):AW P nt c σ Q:=by
 intro c' hc w0 U rd ds ι a w hrd hs hz
 refine h c' hc w0 U rd ds ι a w hrd ⟨fun s=> ?_,hs.defers,hs.names,hs.box,hs.apart,hs.below,hs.keep,hs.base⟩ hz
 show aU w (aI w0.heap.size U ι σ.mem) ι σ.nx (aN ((t,.c (.tsl []))::σ.fr) s) _
 rw[fH]
 by_cases es:t=s
 ·subst es
  rw[if_pos rfl]
  have hv:=hs.val t
  rw[ht]at hv
  generalize a.tmps.getD t undef=v at hv
  cases hv with
  |c hv=>cases hv;exact .c (.tsl .nil)
 ·rw[if_neg es]
  exact hs.val s
end
theorem au.perm {P:Program} {f:FuncId} {args:List AV} {mem mem2 mem':List (Nat×bc)} {nx nx':Nat} {res:AV} (h:au P f args mem nx res mem' nx') (hp: ∀nm,am mem2 nm=am mem nm):au P f args mem2 nx res mem' nx':=by
 refine⟨h.1,fun w0 U ι w vs hs hr=> ?_⟩
 have hs':bP w0 U ⟨[],mem,nx,nx⟩ ι {tmps:= #[],defers:= []} w:=hs.sub (mem:=mem) (fun n bx hf=>by show am mem2 n=_;rw[hp];exact hf)
 exact h.2 w0 U ι w vs hs' (hr.mono fun a b h=>h.mono (fun b _ h=>⟨h.1,fun nm bx hf=>h.2 nm bx (by rw[hp];exact hf)⟩) (fun _ _ _=>rfl) (fun _ _=>rfl) (Nat.le_refl _))
def Kz:AC→Bool
 | .pure _=>true
 | .nils=>true
 | .tsl _=>true
 |_=>false
def tz:bc→Bool
 | .var xs=>xs.all Kz
 | .arr _ _ _=>true
 |_=>false
def dk (N:Nat):List Nat→List (Nat×bc)→Prop
 |_, []=>True
 |seen,(nm,b)::r=>nm<N∧tz b=true∧ju nm seen∧dk N (nm::seen) r
theorem dz {n:Nat}: ∀{l:List Nat},ju n l↔ ∀m∈l,n≠m
 | []=>by simp[ju]
 |m::r=>by simp[ju,dz (l:=r)]
theorem dk.mem {N:Nat}: ∀{F:List (Nat×bc)} {s:List Nat},dk N s F→ ∀x∈F,x.1<N∧tz x.2=true∧ju x.1 s
 | [],s,_,x,hx=>by cases hx
 |(nm,b)::r,s,h,x,hx=>by
  rcases List.mem_cons.1 hx with rfl|hx
  ·exact⟨h.1,h.2.1,h.2.2.1⟩
  ·obtain⟨h1,h2,h3⟩:=dk.mem h.2.2.2 x hx
   exact⟨h1,h2,h3.2⟩
theorem dk.find {N:Nat}: ∀{F:List (Nat×bc)} {s:List Nat},dk N s F→ ∀x∈F,am F x.1=some x.2
 | [],s,_,x,hx=>by cases hx
 |(nm,b)::r,s,h,x,hx=>by
  rcases List.mem_cons.1 hx with rfl|hx
  ·simp[am]
  ·have h3:=(dk.mem h.2.2.2 x hx).2.2.1
   rw[am,if_neg (fun e=>h3 e.symm)]
   exact dk.find h.2.2.2 x hx
theorem dk.mono {N N':Nat} (hN:N≤N'): ∀{F:List (Nat×bc)} {s s':List Nat},dk N s F→(∀n,n<N→ju n s→ju n s')→dk N' s' F
 | [],s,s',_,_=>trivial
 |(nm,b)::r,s,s',h,hs=>⟨Nat.lt_of_lt_of_le h.1 hN,h.2.1,hs _ h.1 h.2.2.1,dk.mono hN h.2.2.2 (fun n hn h'=>⟨h'.1,hs _ hn h'.2⟩)⟩
theorem OD {n:Nat}: ∀{F:List (Nat×bc)},(∀x∈F,x.1≠n)→mz F n=F
 | [],_=>rfl
 |(nm,b)::r,h=>by
  rw[mz,if_neg (h _ List.mem_cons_self),OD (fun x hx=>h x (List.mem_cons_of_mem _ hx))]
theorem dk.del {N n:Nat} {F:List (Nat×bc)} {s:List Nat} (h:dk N s F) (hn:n∈s∨N≤n):mz F n=F:=
 OD fun x hx e=>by
  obtain⟨h1,_,h3⟩:=h.mem x hx
  rcases hn with hn|hn
  ·exact dz.1 h3 n hn e
  ·omega
theorem TM {x:AC} (h:Kz x=true) (nm:Nat) (rows:List (List PC)):iw nm rows x=x:=by cases x<;>simp_all [Kz,iw]
theorem Wa {b:bc} (h:tz b=true) (nm:Nat) (rows:List (List PC)):BG nm rows b=b:=by
 cases b with
 |var xs=>
  simp only[tz,List.all_eq_true]at h
  simp only[BG]
  rw[List.map_congr_left (fun x hx=>TM (h x hx) nm rows)]
  simp
 |arr=>rfl
 |arn=>cases h
 |map=>cases h
theorem dk.frz {N n:Nat} {rows:List (List PC)}: ∀{F:List (Nat×bc)} {s:List Nat},dk N s F→n∈s∨N≤n→nH n rows F=F
 | [],s,_,_=>rfl
 |(nm,b)::r,s,h,hn=>by
  have h0: ¬nm=n:=by
   rcases hn with hn|hn
   ·exact dz.1 h.2.2.1 n hn
   ·have:=h.1;omega
  rw[nH,if_neg h0,Wa h.2.1,dk.frz h.2.2.2 (hn.imp_left (List.mem_cons_of_mem _))]
theorem VD {b:bc} (h:tz b=true) (l:List (Nat×Nat)):SP l b=b:=by
 cases b with
 |var xs=>
  simp only[tz,List.all_eq_true]at h
  simp only[SP]
  have: ∀x∈xs,dB l x=x:=fun x hx=>by have:=h x hx;cases x<;>simp_all [Kz,dB]
  rw[List.map_congr_left this]
  simp
 |arr=>rfl
 |arn=>cases h
 |map=>cases h
theorem X2 {b:bc} (h:tz b=true) (N:Nat):clB N b:=by
 cases b with
 |var xs=>
  simp only[tz,List.all_eq_true]at h
  simp only[clB]
  induction xs with
  |nil=>trivial
  |cons x xs ih=>exact⟨by have:=h x List.mem_cons_self;cases x<;>simp_all [Kz,k7],ih fun y hy=>h y (List.mem_cons_of_mem _ hy)⟩
 |arr=>trivial
 |arn=>cases h
 |map=>cases h
theorem aD {α:Type} {k n:Nat} {a b:α} (h: ¬k=n):(if k=n then a else b)=b:=if_neg h
theorem aE {k n:Nat} {a b:Prop} (h: ¬k=n):(if k=n then a else b)=b:=if_neg h
theorem dk.wkAux {base N':Nat} {l:List (Nat×Nat)} {mem:List (Nat×bc)} (hl:eg base l) (hN:base≤N'): ∀{F:List (Nat×bc)} {s seen:List Nat},dk base s F→(∀n∈seen,n∈s∨base≤n)→(∀x∈F,am mem x.1=some x.2)→WP l mem N' seen F
 | [],s,seen,_,_,_=>trivial
 |(nm,b)::r,s,seen,h,hs,hm=>by
  have e:rn l nm=nm:=Q9 hl h.1
  refine⟨?_,Nat.lt_of_lt_of_le h.1 hN,X2 h.2.1 _, ?_, ?_⟩
  ·rw[e,VD h.2.1]
   exact hm _ List.mem_cons_self
  ·rw[e]
   refine dz.2 fun m hm e=> ?_
   rcases hs m hm with h'|h'
   ·exact dz.1 h.2.2.1 m h' e
   ·have:=h.1;omega
  ·rw[e]
   refine dk.wkAux hl hN h.2.2.2 (fun n hn=> ?_) (fun x hx=>hm x (List.mem_cons_of_mem _ hx))
   rcases List.mem_cons.1 hn with rfl|hn
   ·exact .inl List.mem_cons_self
   ·exact(hs n hn).imp_left (List.mem_cons_of_mem _)
theorem dk.wk {base N':Nat} {l:List (Nat×Nat)} {mem F:List (Nat×bc)} {s seen:List Nat} (h:dk base s F) (hl:eg base l) (hN:base≤N') (hs: ∀n∈seen,n∈s∨base≤n)
  (hm: ∀nm bx,nm<base→ju nm s→am F nm=some bx→am mem nm=some bx):WP l mem N' seen F:=
 dk.wkAux hl hN h hs fun x hx=>by
  obtain⟨h1,_,h3⟩:=h.mem x hx
  exact hm _ _ h1 h3 (h.find x hx)
theorem dk.wkA {base N':Nat} {l:List (Nat×Nat)} {mem F:List (Nat×bc)} {s seen:List Nat} (h:dk base s F) (hl:eg base l:=by simp[eg];try omega) (hN:base≤N':=by simp;try omega) (hs: ∀n∈seen,n∈s∨base≤n:=by intro n hn;simp(disch:=omega) [rn,aD]at hn ⊢;omega)
  (hm: ∀nm bx,nm<base→ju nm s→am F nm=some bx→am mem nm=some bx:=by intro nm bx h1 h2 h3;simp only[ju]at h2;simp only[am,al];(repeat(refine(aD (by omega)).trans ?_));exact h3):WP l mem N' seen F:=h.wk hl hN hs hm
theorem ar {l:List (Nat×Nat)} {mem r:List (Nat×bc)} {N nm:Nat} {seen:List Nat} {b:bc} (h1:am mem (rn l nm)=some (SP l b)) (h2:nm<N) (h3:clB N b) (h4:ju (rn l nm) seen) (h5:WP l mem N (rn l nm::seen) r):WP l mem N seen ((nm,b)::r):=⟨h1,h2,h3,h4,h5⟩
theorem aq {l:List (Nat×Nat)} {σ σ':St} (h1:m6 l σ.fr σ'.nx σ'.fr) (h2:WP l σ.mem σ'.nx [] σ'.mem) (h3:σ'.base=σ.base) (h4:σ.base≤σ'.nx) (h5:eg σ.base l):Wk l σ σ':=⟨h1,h2,h3,h4,h5⟩
theorem Nv (nm e sz:Nat) (rows:List (List PC)) {P:Program} {g:Bool} {f:FuncId} {args pargs:List AV} {σ:St} {K:nR (AV→St→Prop)} {res:AV} (h:ac P f pargs res) (hf:am σ.mem nm=some (.arr e sz rows))
  (hp:bG (σ.frz nm rows).mem (args.map (sH nm rows))=some pargs) (hs:oS res=true∨(args.map (sH nm rows)).all fS=true) (hk:K.out res (σ.frz nm rows)): @sU P g true f args σ K:=
 XW [nm] h (by rw[aR,hf];rfl) hp hs hk
theorem JP (nm e sz:Nat) (rows:List (List PC)) {P:Program} {f:FuncId} {args:List AV} {σ:St} {K:nR (AV→St→Prop)} {res:AV} {mem':List (Nat×bc)} {nx':Nat} (hf:am σ.mem nm=some (.arr e sz rows))
  (h:au P f (args.map (sH nm rows)) (σ.frz nm rows).mem σ.nx res mem' nx') (hk:K.out res {σ.frz nm rows with mem:=mem',nx:=nx'}): @sU P true true f args σ K:=
 WF [nm] (by rw[aR,hf];rfl) h hk
open Go.RowKit
structure Dg (P:Program) (l:Nat) (w:World) (xs:List (List AV)) (J:Option Nat→(Nat→Prop)→World→Prop):Prop where
 grow: ∀k S W W',J k S W→ji w.heap.size W W'→J k (fun b=>S b∨W.heap.size≤b∧b<W'.heap.size) W'
 old: ∀k S W,J k S W→(∀b,S b→b<W.heap.size)∧w.heap.size≤W.heap.size∧rS W
 sub: ∀k S S' W,J k S W→(∀b,S' b→S b)→J k S' W
 round: ∀k x S W us,xs[k]? =some x→J (some k) S W→aP (aU W S (fun _=>undef) 0) x us.toList→ ∀m,YieldAt Fence.wide m P l us W fun e W'=>
  ∃b:Bool,e= .returned (.bool b)∧J (if b=true then some (k+1)else none) S W'∧ ∀c,S c→W'.heap[c]? =W.heap[c]?
def wh (P:Program) (f:FuncId) (args:List AV) (xs:List (List AV)):Prop:=
 m8 P f∧ ∀(l:Nat) (S:Nat→Prop) (J:Option Nat→(Nat→Prop)→World→Prop) (w:World) (vs:Array Value),rS w→
  aP (aU w S (fun _=>undef) 0) args vs.toList→Dg P l w xs J→J (some 0) S w→
  Calls P f (#[.func (.yield l) #[] #[]]++vs) w fun e w'=>(∃v,e= .returned v)∧ ∃k S',(k=some xs.length∨k=none)∧J k S' w'
def No:List Nat→List AV→List (Nat×AV)→List (Nat×AV)
 |p::ps,x::xs,fr=>No ps xs ((p,x)::fr)
 |_,_,fr=>fr
def acl (P:Program) (nt:Nat) (body:ak) (Q:bk→St→Prop):bk→St→Prop
 | .normal,σ=>AW P nt body σ Q
 |_,_=>False
def IA {τ:Type} (mk:Nat→τ→List (Nat×bc)×Nat) (I:Nat→τ→Prop) (bs:Nat) (fr0:List (Nat×AV)) (base:Nat) (Q:bk→St→Prop) (k:Nat):bk→St→Prop
 | .normal,σ=> ∃t l,I (k+1) t∧Wk l {σ with fr:= []} ⟨[],(mk (k+1) t).1,(mk (k+1) t).2,bs⟩
 | .exit i,σ=>σ.base=bs∧Q (.exit i) ⟨fr0,σ.mem,σ.nx,base⟩
 | .ret,σ=>σ.base=bs∧Q .ret ⟨fr0,σ.mem,σ.nx,base⟩
def Al:bk→Code
 | .normal=> .skip
 | .exit i=> .exit i
 | .ret=> .ret
section
variable {P : Program} {nt : Nat} {σ : St} {Q : bk → St → Prop}
theorem sP {a:Act}:sh [] a=a:=by
 cases a
 simp[sh]
theorem JY {rd:Option Nat} {n m:Nat} {c:Code} {Q:Exit→Act→World→Prop} {a:Act} {w:World} (h:c.wpIn (FR rd) n P Q a w):c.wpIn (FR rd) m P Q a w:=
 fun b k cs h1 h2 _=>h b k cs h1 h2 (fun d hd=>by cases hd)
theorem HV {w:World} {V:Nat→Prop} {ι:Pl} {N:Nat}: ∀{ps:List Nat} {xs:List AV} {us:List Value} {fr:List (Nat×AV)} {tmps:Array Value},aP (aU w V ι N) xs us→(∀p∈ps,p<tmps.size)→
  (∀t,aU w V ι N (aN fr t) (tmps.getD t undef))→ ∀t,aU w V ι N (aN (No ps xs fr) t) (((ps.zip us).foldl (fun tmps (x:Nat×Value)=>tmps.setIfInBounds x.1 x.2) tmps).getD t undef)
 | [],_,_,_,_,_,_,h,t=>by simpa[No]using h t
 |p::ps,_,_,fr,tmps,.nil,_,h,t=>by simpa[No]using h t
 |p::ps,_,_,fr,tmps,.cons (a:=x) (b:=u) hx hr,hp,h,t=>by
  refine HV (ps:=ps) (fr:=(p,x)::fr) (tmps:=tmps.setIfInBounds p u) hr (fun q hq=>by rw[Array.size_setIfInBounds];exact hp q (List.mem_cons_of_mem _ hq)) (fun s=> ?_) t
  have hlt:=hp p List.mem_cons_self
  rw[fH]
  by_cases e:p=s
  ·subst e
   rw[if_pos rfl]
   have:(tmps.setIfInBounds p u).getD p undef=u:=by simp[Array.getD_eq_getD_getElem?,hlt]
   rw[this]
   exact hx
  ·rw[if_neg e]
   have:(tmps.setIfInBounds p u).getD s undef=tmps.getD s undef:=by simp[Array.getD_eq_getD_getElem?,Array.getElem?_setIfInBounds,e]
   rw[this]
   exact h s
theorem C2: ∀{ps:List Nat} {us:List Value} {tmps:Array Value},((ps.zip us).foldl (fun tmps (x:Nat×Value)=>tmps.setIfInBounds x.1 x.2) tmps).size=tmps.size
 | [],_,_=>by simp
 |_::_, [],_=>by simp
 |p::ps,u::us,tmps=>by
  rw[List.zip_cons_cons,List.foldl_cons,C2,Array.size_setIfInBounds]
theorem Tk {fx:AX} {ps:List Nat} {asg body:ak} {g:FuncId} {caps:List AC} {pcaps:List AV} {xs:List (List AV)} {τ:Type}
  (bs:Nat) (fr0:List (Nat×AV)) (mk:Nat→τ→List (Nat×bc)×Nat) (I:Nat→τ→Prop)
  (hf:fx.ev σ.fr= .c (.clo g caps)) (hp:bG σ.mem (caps.map .c)=some pcaps) (hnr:(caps.map AV.c).all fS=true)
  (hY:wh P g pcaps xs) (hlen: ∀x∈xs,x.length=ps.length) (hb:σ.base≤bs∧bs≤σ.nx) (hfr:m6 [] σ.fr bs fr0)
  (h0: ∃t l,I 0 t∧Wk l ⟨[],σ.mem,σ.nx,bs⟩ ⟨[],(mk 0 t).1,(mk 0 t).2,bs⟩)
  (hround: ∀k x t,xs[k]? =some x→I k t→AW P nt asg ⟨No ps x fr0,(mk k t).1,(mk k t).2,bs⟩ (acl P nt body (IA mk I bs fr0 σ.base Q k)))
  (hend: ∀t,I xs.length t→Q .normal ⟨fr0,(mk xs.length t).1,(mk xs.length t).2,σ.base⟩):AW P nt (.rangeF fx ps asg body) σ Q:=by
 intro c' hc w0 U rd ds ι a w hrd hs hz
 cases c'<;>simp[ed]at hc
 all_goals(try(split at hc<;>simp at hc))
 rename_i f' ps' asg' body' _ _ _ _ x2 x3 x4 hfx hasg hbody hps
 obtain⟨rfl,rfl,rfl,rfl⟩:=hc
 have hps': ∀p∈ps'.toList,p<nt:=fun p hp=>by simpa using Array.all_eq_true_iff_forall_mem.1 hps p (Array.mem_toList_iff.1 hp)
 have hsz0:=hs.below.size
 have hv:=aC hfx hs
 rw[hf]at hv
 obtain⟨cv,hcl,hcap,hu⟩: ∃cv:Array Value,caps.length=cv.size∧(∀(i:Nat) x,caps[i]? =some x→bZ w (aI w0.heap.size U ι σ.mem) ι σ.nx x (cv.toList[i]?.getD undef))∧a.eval f'= .func (.func g) #[] cv:=by
  generalize a.eval f'=u at hv
  cases hv with
  |c h=>
   cases h with
   |clo hl h=>exact⟨_,hl,h,rfl⟩
 have hall:aP (aU w (aI w0.heap.size U ι σ.mem) ι σ.nx) (caps.map .c) cv.toList:=by
  refine aP.of_get (by simp[hcl]) fun i x v hi hvi=> ?_
  rw[List.getElem?_map]at hi
  obtain⟨y,hy,rfl⟩:=Option.map_eq_some_iff.1 hi
  have:=hcap i y hy
  rw[hvi]at this
  exact .c this
 have hpc:=nl (V:=aI w0.heap.size U ι σ.mem) hs hall (fun _ h=>h) (.inl hnr) hp
 have hfree_lt: ∀{b:Nat},aI w0.heap.size U ι σ.mem b→True:=fun _=>trivial
 have hexec: ∀args w,(callFunc g args).run P w= .ok (.enter g args) w:=by
  obtain⟨fn,hfn,hbody,hname⟩:=hY.1
  have hb: ¬fn.body=none:=by intro e;rw[e]at hbody;cases hbody
  have hname' : ¬ fn.name = "runtime.NumGoroutine" := by intro e; rw [e] at hname; simp at hname
  intro args w
  simp[callFunc,hfn,hname',hb]
 refine wpIn_rangeFunc (F:=FR rd) fun fn _=> ?_
 obtain⟨l,D,dfr,mark,w1,hent,hg1,hl1,hl0,hw1l,hD1,hmark⟩: ∃(l D dfr:Nat) (mark:List Deferred) (w1:World),
   (Instr.enterLoop fn (sh ds a).tmps ps' asg' body' (FR rd).round).run P w= .ok (l,mark) w1∧Below w.heap.size w w1∧
   w1.heap[l]? =some (.loop {state:= .ready,pending:=none,fn,tmps:=a.tmps,params:=ps',assign:=asg',body:=body',defers:=dfr})∧w.heap.size≤l∧
   w1.heap.size=l+1∧(rd=none→w.heap.size≤D∧D≠l∧w1.heap[D]? =some (.deferred (some [])))∧((rd=none∧mark= [{target:= .collected D,args:= #[]}])∨((∃l0,rd=some l0)∧mark= [])):=by
  cases rd with
  |none=>
   refine⟨w.heap.size+1,w.heap.size,w.heap.size,_,_,run_enterLoop_outer _ _ _ _ _,((Below.refl _ w).alloc (Nat.le_refl _) _).alloc (by simp) _, ?_,by omega,by simp,fun _=>⟨Nat.le_refl _,by omega, ?_⟩,.inl ⟨rfl,rfl⟩⟩
   ·have:=World.alloc_heap_new (w.alloc (.deferred (some []))) (.loop {state:= .ready,pending:=none,fn,tmps:=a.tmps,params:=ps',assign:=asg',body:=body',defers:=w.heap.size})
    rwa [World.size_alloc]at this
   ·exact(Below.heap_alloc _ _ _ (by simp)).trans (World.alloc_heap_new w _)
  |some l0=>
   obtain⟨r0,hr0⟩:=hrd l0 rfl _ _ hs.keep
   exact⟨w.heap.size,0,r0.defers, [],_,run_enterLoop_inner hr0 _ _ _ _ _,(Below.refl _ w).alloc (Nat.le_refl _) _,World.alloc_heap_new w _,Nat.le_refl _,by simp,(fun h=>by cases h),.inr ⟨⟨l0,rfl⟩,rfl⟩⟩
 generalize hrec:(fun(st:LoopState) (pe:Option Code)=>({state:=st,pending:=pe,fn,tmps:=a.tmps,params:=ps',assign:=asg',body:=body',defers:=dfr}:Loop))=rec
 have hrec': ∀st pe,rec st pe={state:=st,pending:=pe,fn,tmps:=a.tmps,params:=ps',assign:=asg',body:=body',defers:=dfr}:=fun st pe=>by rw[←hrec]
 rw[←hrec']at hl1
 have hl1':=(Array.getElem?_eq_some_iff.1 hl1).1
 refine⟨l,mark,w1,{target:= .fn (.func g) cv,args:= #[.func (.yield l) #[] #[]]},w1,g, #[.func (.yield l) #[] #[]]++cv,w1,hent, ?_,fun _ _=>trivial, ?_,fun h=>by simp[FR,Fence.wide]at h, ?_⟩
 ·have he:(sh ds a).eval f'= .func (.func g) #[] cv:=by rw[L6];exact hu
  simp only[resolve,he]
  simp[go_sem]
 ·simp[invoke,go_sem,hexec]
 let Stay:World→(Nat→Prop)→Prop:=fun W V=>(∀b,b<w.heap.size→aI w0.heap.size U ι σ.mem b→V b∧W.heap[b]? =w.heap[b]?)∧(rd=none→V D∧W.heap[D]? =some (.deferred (some [])))
 have stay_mono: ∀(W W':World) (V V':Nat→Prop),Stay W V→(∀b,b<W.heap.size→V b→V' b)→(∀b,b<W.heap.size→V b→W'.heap[b]? =W.heap[b]?)→Stay W' V':=by
  rintro W W' V V' ⟨h2,h3⟩ hV hw
  refine⟨fun b hb hf=> ?_,fun e=> ?_⟩
  ·obtain⟨k1,k2⟩:=h2 b hb hf
   have hlt:b<W.heap.size:=by
    have:w.heap[b]? =some w.heap[b]:=by simp[hb]
    rw[this]at k2
    exact(Array.getElem?_eq_some_iff.1 k2).1
   exact⟨hV b hlt k1,(hw b hlt k1).trans k2⟩
  ·obtain⟨k1,k2⟩:=h3 e
   have hlt:=(Array.getElem?_eq_some_iff.1 k2).1
   exact⟨hV D hlt k1,(hw D hlt k1).trans k2⟩
 let Us:Loop→(Nat→Prop)→World→Gh:=fun r S Ws=>⟨U.p,ι,fun W V=>Stay W V∧V l∧W.heap[l]? =some (.loop r)∧(∀b,S b→b<Ws.heap.size∧V b∧W.heap[b]? =Ws.heap[b]?),fun W W' V V' ⟨h1,h2,h3,h4⟩ hV hw=>by
  have hlt:=(Array.getElem?_eq_some_iff.1 h3).1
  refine⟨stay_mono W W' V V' h1 hV hw,hV l hlt h2,(hw l hlt h2).trans h3,fun b hb=> ?_⟩
  obtain⟨q1,q2,q3⟩:=h4 b hb
  have hlt:b<W.heap.size:=by
   have:Ws.heap[b]? =some Ws.heap[b]:=by simp[q1]
   rw[this]at q3
   exact(Array.getElem?_eq_some_iff.1 q3).1
  exact⟨q1,hV b hlt q2,(hw b hlt q2).trans q3⟩⟩
 let Ur:Loop→Gh:=fun r=>Us r (fun _=>False) w
 let Ue:Gh:=⟨U.p,U.ι0,fun W V=>Stay W V,fun W W' V V' h1 hV hw=>stay_mono W W' V V' h1 hV hw⟩
 have stayU: ∀W V,Stay W V→U.G W V:=fun W V h=>U.mono w W _ V hs.keep (fun b hb hf=>(h.1 b hb hf).1) (fun b hb hf=>(h.1 b hb hf).2)
 have Ae: ∀{ι':Pl} {mem:List (Nat×bc)} {W:World} {Ub:Gh} {nx b0:Nat} {fr:List (Nat×AV)} {a':Act} {q:Nat},bP w0 Ub ⟨fr,mem,nx,b0⟩ ι' a' W→w.heap.size≤q→W.heap.size≤q→aI w0.heap.size Ub ι' mem q:=fun hS h1 h2=>
  ⟨.inr (by omega),fun nm bx hn e=>by have:=((hS.box nm bx hn).block e).2;omega⟩
 have free_lp: ∀{ι':Pl} {mem:List (Nat×bc)} {W:World} {Ub:Gh} {nx b0:Nat} {fr:List (Nat×AV)} {a':Act} {q:Nat} {o:Obj},bP w0 Ub ⟨fr,mem,nx,b0⟩ ι' a' W→w.heap.size≤q→W.heap[q]? =some o→IZ o=true→aI w0.heap.size Ub ι' mem q:=fun hS h1 h2 h3=>
  ⟨.inr (by omega),fun nm bx hn e=>hS.not_lp hn e ⟨_,h2,h3⟩⟩
 have outer: ∀{r:Loop} {S:Nat→Prop} {Ws:World} {σ2:St} {ι2:Pl} {a2:Act} {W:World},bP w0 (Us r S Ws) σ2 ι2 a2 W→σ2.base=bs→bP w0 (Us r S Ws) ⟨fr0,σ2.mem,σ2.nx,bs⟩ ι2 a W:=by
  intro r S Ws σ2 ι2 a2 W h hbs
  refine⟨fun t=> ?_,hs.defers,h.names,h.box,h.apart,h.below,h.keep,by rw[←hbs];exact h.base⟩
  obtain⟨h1,h2⟩:=FE hfr t
  rcases h1 with h1|h1
  ·have hv:=hs.val t
   rw[h1]at hv
   have hv2:=hv.cl (V':=aI w0.heap.size U ι σ.mem) (fun _ h=>h) h2
   refine hv2.mono (fun b hlt hf=>(h.keep.1.1 b hlt hf).1) (fun b hlt hf=>(h.keep.1.1 b hlt hf).2) (fun nm hnm=> ?_) (by rw[←hbs];exact h.base.1)
   have:=h.base.2 nm (by rw[hbs];exact hnm)
   exact this
  ·show aU _ _ _ _ (aN fr0 t) _
   rw[h1];exact .top
 let rdy:=rec .ready none
 let OkS:(Nat→Prop)→World→Pl→List (Nat×bc)→Prop:=fun S W ι' mem=> ∀b,S b→b<W.heap.size∧b≠l∧aI w0.heap.size U ι' mem b
 let J:Option Nat→(Nat→Prop)→World→Prop:=fun k S W=>match k with
  |some k=> ∃t ι',I k t∧bP w0 (Ur rdy) ⟨fr0,(mk k t).1,(mk k t).2,bs⟩ ι' a W∧OkS S W ι' (mk k t).1
  |none=> ∃(e:bk) (σ2:St) (ι':Pl),e≠ .normal∧Q e ⟨fr0,σ2.mem,σ2.nx,σ.base⟩∧bP w0 (Ur (rec .done (some (Al e)))) ⟨fr0,σ2.mem,σ2.nx,bs⟩ ι' a W∧OkS S W ι' σ2.mem
 have w1sz:w.heap.size≤w1.heap.size:=hg1.size
 have grow: ∀{r:Loop} {σ2:St} {ι2:Pl} {a2:Act} {W W':World},bP w0 (Ur r) σ2 ι2 a2 W→ji w1.heap.size W W'→bP w0 (Ur r) σ2 ι2 a2 W':=by
  intro r σ2 ι2 a2 W W' h hg
  refine h.growL (n:=w1.heap.size) (by omega) hg rfl rfl ?_
  obtain⟨⟨k1,k2⟩,k3,k4,_⟩:=h.keep
  have hltl:=(Array.getElem?_eq_some_iff.1 k4).1
  refine⟨⟨fun b hb hf=> ?_,fun e=> ?_⟩,k3,(hg.old hl1' hltl).trans k4,fun b hb=>hb.elim⟩
  ·obtain⟨q1,q2⟩:=k1 b hb hf
   exact⟨q1,(hg.old (by omega) (by omega)).trans q2⟩
  ·obtain⟨q1,q2⟩:=k2 e
   have h1:=(Array.getElem?_eq_some_iff.1 (hD1 e).2.2).1
   exact⟨q1,(hg.old h1 (Array.getElem?_eq_some_iff.1 q2).1).trans q2⟩
 have turn: ∀{r r':Loop} {S:Nat→Prop} {Ws:World} {σ2:St} {ι2:Pl} {a2:Act} {W:World},bP w0 (Us r S Ws) σ2 ι2 a2 W→(∀b,S b→b≠l)→bP w0 (Us r' S Ws) σ2 ι2 a2 (W.putObj l (.loop r')):=by
  intro r r' S Ws σ2 ι2 a2 W h hSl
  obtain⟨⟨k1,k2⟩,k3,k4,k5⟩:=h.keep
  refine h.turn (.loop r') k4 rfl (by omega) rfl rfl ⟨⟨fun b hb hf=> ?_,fun e=> ?_⟩,k3,World.putObj_heap_same (Array.getElem?_eq_some_iff.1 k4).1,fun b hb=>⟨(k5 b hb).1,(k5 b hb).2.1,(World.putObj_heap_other (hSl b hb)).trans (k5 b hb).2.2⟩⟩
  ·obtain⟨q1,q2⟩:=k1 b hb hf
   exact⟨q1,(World.putObj_heap_other (by omega)).trans q2⟩
  ·obtain⟨q1,q2⟩:=k2 e
   exact⟨q1,(World.putObj_heap_other (hD1 e).2.1).trans q2⟩
 have final: ∀{e':bk} {r r':Loop} {mem:List (Nat×bc)} {nx:Nat} {ι2:Pl} {W:World},bP w0 (Ur r) ⟨fr0,mem,nx,bs⟩ ι2 a W→Q e' ⟨fr0,mem,nx,σ.base⟩→
   zh w0 U rd ds nt Q (oq e') {sh ds a with defers:=mark++(sh ds a).defers} (W.putObj l (.loop r')):=by
  intro e' r r' mem nx ι2 W h hq
  have h1:=turn (r':=r') h (fun _ hb=>hb.elim)
  have hE:bP w0 Ue ⟨fr0,mem,nx,σ.base⟩ ι2 a (W.putObj l (.loop r')):=
   ⟨h1.val,h1.defers,h1.names,h1.box,h1.apart,h1.below,h1.keep.1,⟨Nat.le_trans hb.1 h1.base.1,fun nm hnm=>(h1.base.2 nm (Nat.lt_of_lt_of_le hnm hb.1)).trans (hs.base.2 nm hnm)⟩⟩
  have he:({sh ds a with defers:=mark++(sh ds a).defers}:Act)=sh (mark++ds) a:=by simp[sh,hs.defers.1]
  rw[he]
  rcases hmark with⟨hn,hm⟩|⟨⟨l0,hl0'⟩,hm⟩
  ·refine⟨e',_,ι2,Ue,mark++ds,a,rfl,hq,hE,hz,rfl, ?_⟩
   rw[hm]
   refine MC.mark (U':=U) (D:=D) .refl hn (by have:=(hD1 hn).1;omega) rfl rfl fun W V h=>⟨stayU W V h,(h.2 hn).1,(h.2 hn).2, ?_⟩
   exact U.mono w _ _ V hs.keep (fun b hb hf=>(h.1 b hb hf).1) (fun b hb hf=>(World.putObj_heap_other (by have:=(hD1 hn).1;omega)).trans (h.1 b hb hf).2)
  ·refine⟨e',_,ι2,U,mark++ds,a,rfl,hq,⟨hE.val,hE.defers,hE.names,hE.box,hE.apart,hE.below,stayU _ _ hE.keep,hE.base⟩,hz,rfl, ?_⟩
   rw[hm]
   exact .refl
 have rdRound: ∀r S Ws,VY (Us r S Ws) (some l):=fun r S Ws l' e W V hG=>by
  cases e
  exact⟨_,hG.2.2.1⟩
 have weak: ∀{r:Loop} {S:Nat→Prop} {Ws:World} {σ2:St} {ι2:Pl} {a2:Act} {W:World},bP w0 (Us r S Ws) σ2 ι2 a2 W→bP w0 (Ur r) σ2 ι2 a2 W:=fun h=>
  ⟨h.val,h.defers,h.names,h.box,h.apart,h.below,⟨h.keep.1,h.keep.2.1,h.keep.2.2.1,fun b hb=>hb.elim⟩,h.base⟩
 have okGrow: ∀{S:Nat→Prop} {W W':World} {ι':Pl} {mem:List (Nat×bc)} {Ub:Gh} {nx b0:Nat} {fr:List (Nat×AV)} {a':Act},Ub.p=U.p→bP w0 Ub ⟨fr,mem,nx,b0⟩ ι' a' W→w1.heap.size≤W.heap.size→W.heap.size≤W'.heap.size→OkS S W ι' mem→OkS (fun b=>S b∨W.heap.size≤b∧b<W'.heap.size) W' ι' mem:=by
  intro S W W' ι' mem Ub nx b0 fr a' hUp hS hw hg h b hb
  rcases hb with hb|⟨h1,h2⟩
  ·exact⟨Nat.lt_of_lt_of_le (h b hb).1 hg,(h b hb).2⟩
  ·exact⟨h2,by omega,.inr (by omega),fun nm bx hn e=>by have:=((hS.box nm bx hn).block e).2;omega⟩
 have sz: ∀{r:Loop} {S:Nat→Prop} {Ws:World} {σ2:St} {ι2:Pl} {a2:Act} {W:World},bP w0 (Us r S Ws) σ2 ι2 a2 W→w1.heap.size≤W.heap.size:=fun h=>by
  have:=(Array.getElem?_eq_some_iff.1 h.keep.2.2.1).1
  omega
 refine Ls ((hY.2 l (fun b=>aI w0.heap.size U ι σ.mem b∧b<w.heap.size) J w1 cv (hs.glob.below (Nat.le_refl _) hg1) ?_ ⟨?_, ?_, ?_, ?_⟩ ?_).mono ?_)
 ·exact hpc.mono fun _ _ h=>h.mono (fun b hb hf=>⟨hf,hb⟩) (fun b hb _=>hg1.block b hb) (fun _ _=>rfl) (Nat.le_refl _)
 ·intro k S W W' h hg
  cases k with
  |some k=>
   obtain⟨t,ι',hI,h,hok⟩:=h
   exact⟨t,ι',hI,grow h hg,okGrow (Ub:=Ur rdy) rfl h (sz h) hg.size hok⟩
  |none=>
   obtain⟨e,σ2,ι',hne,hq,h,hok⟩:=h
   exact⟨e,σ2,ι',hne,hq,grow h hg,okGrow (Ub:=Ur (rec .done (some (Al e)))) rfl h (sz h) hg.size hok⟩
 ·intro k S W h
  cases k with
  |some k=>
   obtain⟨t,ι',hI,h,hok⟩:=h
   exact⟨fun b hb=>(hok b hb).1,sz h,h.glob⟩
  |none=>
   obtain⟨e,σ2,ι',hne,hq,h,hok⟩:=h
   exact⟨fun b hb=>(hok b hb).1,sz h,h.glob⟩
 ·intro k S S' W h hsub
  cases k with
  |some k=>
   obtain⟨t,ι',hI,h,hok⟩:=h
   exact⟨t,ι',hI,h,fun b hb=>hok b (hsub b hb)⟩
  |none=>
   obtain⟨e,σ2,ι',hne,hq,h,hok⟩:=h
   exact⟨e,σ2,ι',hne,hq,h,fun b hb=>hok b (hsub b hb)⟩
 ·rintro k x S W us hx ⟨t,ι',hI,hsW,hok⟩ hus m
  obtain⟨⟨k1,k2⟩,k3,k4,_⟩:=hsW.keep
  have hSl: ∀b,S b→b≠l:=fun b hb=>(hok b hb).2.1
  have hxl:=hlen x (List.mem_of_getElem? hx)
  have hul:us.size=ps'.size:=by
   rw[←Array.length_toList,←hus.length,hxl,Array.length_toList]
  have hy:=run_yield (P:=P) (args:=us) k4 (by simp only[rdy,hrec'];exact hul)
  refine⟨fn,_,asg',body',by simp only[rdy,hrec']at hy;exact hy,roundIn_of_wpIn trivial ?_⟩
  have etm:(ps'.zip us).foldl (fun tmps (x:Nat×Value)=>tmps.setIfInBounds x.1 x.2) a.tmps=(ps'.toList.zip us.toList).foldl (fun tmps (x:Nat×Value)=>tmps.setIfInBounds x.1 x.2) a.tmps:=by
   rw[←Array.foldl_toList,Array.toList_zip]
  have hus':aP (aU W (aI w0.heap.size (Us rdy S W) ι' (mk k t).1) ι' (mk k t).2) x us.toList:=hus.mono fun _ _ h=>h.mono (fun b hlt h=>(hok b h).2.2) (fun _ _ _=>rfl) (fun nm hnm=>absurd hnm (Nat.not_lt_zero _)) (Nat.zero_le _)
  have hsr:bP w0 (Us rdy S W) ⟨No ps'.toList x fr0,(mk k t).1,(mk k t).2,bs⟩ ι' {tmps:=(ps'.zip us).foldl (fun tmps (x:Nat×Value)=>tmps.setIfInBounds x.1 x.2) a.tmps,defers:= []} W:=by
   refine⟨fun s=> ?_,⟨rfl,hsW.defers.2⟩,hsW.names,hsW.box,hsW.apart,hsW.below,⟨hsW.keep.1,hsW.keep.2.1,hsW.keep.2.2.1,fun b hb=>⟨(hok b hb).1,(hok b hb).2.2,rfl⟩⟩,hsW.base⟩
   rw[etm]
   exact HV hus' (by rw[hz];exact hps') hsW.val s
  have h1:=hround k x t hx hI _ hasg w0 (Us rdy S W) (some l) [] ι' _ W (rdRound _ _ _) hsr (by rw[etm,C2];exact hz)
  rw[sP]at h1
  refine wpIn_mono (JY h1) ?_
  rintro e a1 W1 ⟨e',σ1,ι1,U',ds',a0,rfl,hq,hs1,hz1,rfl,hx1⟩
  obtain⟨rfl,rfl⟩:=hx1.inRound
  rw[sP]
  cases e' with
  |exit i=>exact hq.elim
  |ret=>exact hq.elim
  |normal=>
   have k4':=hs1.keep.2.2.1
   refine⟨_,run_beginRound k4' (by simp only[rdy,hrec']), ?_⟩
   have hs2:=turn (r':={rdy with state:= .busy}) hs1 hSl
   have h3:=hq _ hbody w0 (Us {rdy with state:= .busy} S W) (some l) [] ι1 a0 _ (rdRound _ _ _) hs2 hz1
   rw[sP]at h3
   refine wpIn_mono (JY h3) ?_
   rintro e a2 W2 ⟨e',σ2,ι2,U',ds',a3,rfl,hq2,hs3,hz3,rfl,hx2⟩
   obtain⟨rfl,rfl⟩:=hx2.inRound
   have k5:=hs3.keep.2.2.1
   have er: ∀jump:Option Code,({({rdy with state:= .busy}:Loop)with state:=if jump.isNone then .ready else .done,pending:=jump}:Loop)=rec (if jump.isNone then .ready else .done) jump:=fun jump=>by simp only[rdy,hrec']
   have hr:=fun jump=>run_endRound (P:=P) jump k5
   simp only[er]at hr
   have kept: ∀r' c,S c→(W2.putObj l (.loop r')).heap[c]? =W.heap[c]? :=fun r' c hc=>(World.putObj_heap_other (hSl c hc)).trans (hs3.keep.2.2.2 c hc).2.2
   have okS: ∀{ι3:Pl} {mem:List (Nat×bc)} {σ3:St} {a3:Act} {r r':Loop},bP w0 (Us r S W) σ3 ι3 a3 (W2.putObj l (.loop r'))→σ3.mem=mem→OkS S (W2.putObj l (.loop r')) ι3 mem:=by
    intro ι3 mem σ3 a3 r r' h e b hb
    subst e
    obtain⟨q1,q2,q3⟩:=h.keep.2.2.2 b hb
    refine⟨?_,hSl b hb,q2⟩
    have:W.heap[b]? =some W.heap[b]:=by simp[q1]
    rw[this]at q3
    exact(Array.getElem?_eq_some_iff.1 q3).1
   cases e' with
   |normal=>
    obtain⟨t',l',hI',hwk⟩:=hq2
    have h4:=turn (r':=rdy) hs3 hSl
    have h5:bP w0 (Us rdy S W) {σ2 with fr:= []} ι2 a3 (W2.putObj l (.loop rdy)):=⟨fun _=> .top,h4.defers,h4.names,h4.box,h4.apart,h4.below,h4.keep,h4.base⟩
    have h6:=outer (h5.wk hwk) rfl
    exact⟨_,_,hr none,true,rfl,⟨t',_,hI',weak h6,okS h6 rfl⟩,kept _⟩
   |exit i=>
    obtain⟨hbs,hq3⟩:=hq2
    have h6:=outer (turn (r':=rec .done (some (Al (.exit i)))) hs3 hSl) hbs
    exact⟨_,_,hr (some (.exit i)),false,rfl,⟨.exit i,σ2,ι2,(fun h=>by cases h),hq3,weak h6,okS h6 rfl⟩,kept _⟩
   |ret=>
    obtain⟨hbs,hq3⟩:=hq2
    have h6:=outer (turn (r':=rec .done (some (Al .ret))) hs3 hSl) hbs
    exact⟨_,_,hr (some .ret),false,rfl,⟨.ret,σ2,ι2,(fun h=>by cases h),hq3,weak h6,okS h6 rfl⟩,kept _⟩
 ·obtain⟨t0,l0,hI0,hwk0⟩:=h0
  have hs1:=hs.grow hg1
  have hfr: ∀q,w.heap.size≤q→aI w0.heap.size U ι σ.mem q:=fun q hq=>⟨.inr (by omega),fun nm bx hn e=>by have:=((hs.box nm bx hn).block e).2;omega⟩
  have h2:bP w0 (Us rdy (fun b=>aI w0.heap.size U ι σ.mem b∧b<w.heap.size) w1) ⟨[],σ.mem,σ.nx,bs⟩ ι a w1:=⟨fun _=> .top,hs.defers,hs1.names,hs1.box,hs1.apart,hs1.below,
   ⟨⟨fun b hb hf=>⟨hf,hg1.block b hb⟩,fun e=>⟨hfr D (hD1 e).1,(hD1 e).2.2⟩⟩,hfr l hl0,hl1,fun b hb=>⟨by omega,hb.1,rfl⟩⟩,⟨hb.2,fun _ _=>rfl⟩⟩
  have h3:=outer (h2.wk hwk0) rfl
  exact⟨t0,_,hI0,weak h3,fun b hb=>⟨by omega,by omega,(h3.keep.2.2.2 b hb).2.1⟩⟩
 ·rintro e W3 ⟨⟨v,rfl⟩,k,S',hk,h⟩
  cases k with
  |some k=>
   obtain rfl:k=xs.length:=by simpa using hk
   obtain⟨t,ι',hI,hsim,_⟩:=h
   have k:=hsim.keep.2.2.1
   have hr:=run_endLoop (P:=P) k (by simp only[rdy,hrec'];simp)
   exact⟨_,_,hr,by simp only[rdy,hrec'];exact final (e':= .normal) hsim (hend t hI)⟩
  |none=>
   obtain⟨e,σ2,ι',hne,hq,hsim,_⟩:=h
   have k:=hsim.keep.2.2.1
   have hr:=run_endLoop (P:=P) k (by simp only[hrec'];simp)
   refine⟨_,_,hr, ?_⟩
   simp only[hrec']
   cases e with
   |normal=>exact absurd rfl hne
   |exit i=>exact wpIn_exit (final (e':= .exit i) hsim hq)
   |ret=>exact wpIn_ret (final (e':= .ret) hsim hq)
def abT (P:Program) (nt:Nat) (body:ak) (Q:bk→St→Prop):bk→St→Prop
 | .normal,σ=>jx P nt body σ Q
 |_,_=>False
theorem Ou {body:ak} {σ:St} {Q:bk→St→Prop}:abT P nt body Q .normal σ=jx P nt body σ Q:=propext ⟨id,id⟩
theorem IW {τ:Type} {mk:Nat→τ→List (Nat×bc)×Nat} {I:Nat→τ→Prop} {bs:Nat} {fr0:List (Nat×AV)} {base:Nat} {Q:bk→St→Prop} {k:Nat} {σ:St}:IA mk I bs fr0 base Q k .normal σ= ∃t l,I (k+1) t∧Wk l {σ with fr:= []} ⟨[],(mk (k+1) t).1,(mk (k+1) t).2,bs⟩:=propext ⟨id,id⟩
theorem O7 {τ:Type} {mk:Nat→τ→List (Nat×bc)×Nat} {I:Nat→τ→Prop} {bs:Nat} {fr0:List (Nat×AV)} {base:Nat} {Q:bk→St→Prop} {k i:Nat} {σ:St}:IA mk I bs fr0 base Q k (.exit i) σ=(σ.base=bs∧Q (.exit i) ⟨fr0,σ.mem,σ.nx,base⟩):=propext ⟨id,id⟩
theorem PT {τ:Type} {mk:Nat→τ→List (Nat×bc)×Nat} {I:Nat→τ→Prop} {bs:Nat} {fr0:List (Nat×AV)} {base:Nat} {Q:bk→St→Prop} {k:Nat} {σ:St}:IA mk I bs fr0 base Q k .ret σ=(σ.base=bs∧Q .ret ⟨fr0,σ.mem,σ.nx,base⟩):=propext ⟨id,id⟩
attribute [go_sem ↓] Ou IW O7 PT
attribute [go_sem] No
theorem wH {fx:AX} {ps:List Nat} {asg body:ak} {g:FuncId} {caps:List AC} {pcaps:List AV} {xs:List (List AV)} {τ:Type}
  (bs:Nat) (fr0:List (Nat×AV)) (mk:Nat→τ→List (Nat×bc)×Nat) (I:Nat→τ→Prop)
  (hf:fx.ev σ.fr= .c (.clo g caps)) (hp:bG σ.mem (caps.map .c)=some pcaps) (hnr:(caps.map AV.c).all fS=true)
  (hY:wh P g pcaps xs) (hlen: ∀x∈xs,x.length=ps.length) (hb:σ.base≤bs∧bs≤σ.nx) (hfr:m6 [] σ.fr bs fr0)
  (h0: ∃t l,I 0 t∧Wk l ⟨[],σ.mem,σ.nx,bs⟩ ⟨[],(mk 0 t).1,(mk 0 t).2,bs⟩)
  (hround: ∀k x t,xs[k]? =some x→I k t→jx P nt asg ⟨No ps x fr0,(mk k t).1,(mk k t).2,bs⟩ (abT P nt body (IA mk I bs fr0 σ.base Q k)))
  (hend: ∀t,I xs.length t→Q .normal ⟨fr0,(mk xs.length t).1,(mk xs.length t).2,σ.base⟩):AW P nt (.rangeF fx ps asg body) σ Q:=
 Tk bs fr0 mk I hf hp hnr hY hlen hb hfr h0 (fun k x t hx hI=>(aa (hround k x t hx hI)).mono fun e σ h=>by
  cases e with
  |normal=>exact aa h
  |exit i=>exact h
  |ret=>exact h) hend
end
open Go.RowKit
def yv (l:Nat):AV:= .c (.pure (.val (.func (.yield l) #[] #[])))
section
variable {P : Program}
theorem vm {dr:Bool} {nt:Nat} {ops:Array Oper}: ∀{l:List Oper} {gs:List AG} (n:Nat),gI P dr nt ops l=some gs→gI P dr nt ops (l.take n)=some (gs.take n)∧gI P dr nt ops (l.drop n)=some (gs.drop n)∧
  ∀g,gs[n]? =some g→ ∃o,l[n]? =some o∧x8 P dr nt ops o=some g
 |[],gs,n,h=>by
  cases h
  simp[gI]
 |o::l,gs,n,h=>by
  have h0:=h
  unfold gI at h
  split at h
  ·rename_i g gs' h1 h2
   cases h
   cases n with
   |zero=>
    refine⟨rfl,h0,fun g' hg=> ?_⟩
    simp at hg
    subst hg
    exact⟨o,rfl,h1⟩
   |succ n=>
    obtain⟨k1,k2,k3⟩:=vm n h2
    refine⟨?_,k2,k3⟩
    simp only[List.take_succ_cons]
    unfold gI
    rw[h1,k1]
  ·cases h
theorem df {rd:Option Nat} {n:Nat} {ops:Array Oper} {Q1 Q:Exit→Act→World→Prop} {l2:List Oper} (hq: ∀a w,Q1 .normal a w→wpListIn (FR rd) n P ops Q l2 a w) (hx: ∀e a w,Q1 e a w→e= .normal): ∀{l1:List Oper} {a:Act} {w:World},
  wpListIn (FR rd) n P ops Q1 l1 a w→wpListIn (FR rd) n P ops Q (l1++l2) a w
 | [],a,w,h=>hq a w h
 |o::l1,a,w,h=>by
  rw[List.cons_append]
  unfold wpListIn at h ⊢
  split at h
  ·rename_i hw
   rw[if_pos hw]
   obtain⟨h1,h2⟩:=h
   refine⟨h1, ?_⟩
   generalize (o.semAt (FR rd).round a.eval).run P w=r at h2
   cases r with
   |ok nx w'=>
    cases nx<;>simp only[Oper.uponIn]at h2 ⊢
    case value v=>exact df hq hx h2
    case skip=>exact df hq hx h2
    case defer d=>exact df hq hx h2
    case enter f args=>
     refine⟨h2.1,h2.2.mono fun e w'' h=> ?_⟩
     cases e with
     |returned v=>exact df hq hx h
     |panicked ch=>exact absurd (hx _ _ _ h) (by simp)
     |outgrown=>obtain⟨_,_,h⟩:=h;exact absurd (hx _ _ _ h) (by simp)
    case row row args=>exact⟨h2.1,h2.2.mono fun v w'' h=>df hq hx h⟩
    case round l f tmps asg body=>
     refine⟨h2.1,h2.2.mono fun e w'' h=> ?_⟩
     cases e with
     |returned v=>exact df hq hx h
     |panicked ch=>exact absurd (hx _ _ _ h) (by simp)
     |outgrown=>obtain⟨_,_,h⟩:=h;exact absurd (hx _ _ _ h) (by simp)
   |halt hh w'=>
    cases hh<;>simp only[Oper.uponIn]at h2 ⊢
    case panic v=>exact absurd (hx _ _ _ h2) (by simp)
  ·rename_i hw
   rw[if_neg hw]
   exact⟨h.1,df hq hx h.2⟩
def SY (S:Nat→Prop) (fr:List (Nat×AV)) (a:Act) (W:World):Prop:=(∀t,aU W S (fun _=>undef) 0 (aN fr t) (a.tmps.getD t undef))∧a.defers= []
def tP (S:Nat→Prop) (W:World) (S':Nat→Prop) (W':World):Prop:= ∀b,S b→S' b∧W'.heap[b]? =W.heap[b]?
theorem tP.refl {S:Nat→Prop} {W:World}:tP S W S W:=fun _ h=>⟨h,rfl⟩
theorem tP.trans {S S' S'':Nat→Prop} {W W' W'':World} (h:tP S W S' W') (k:tP S' W' S'' W''):tP S W S'' W'':=fun b hb=>⟨(k b (h b hb).1).1,(k b (h b hb).1).2.trans (h b hb).2⟩
theorem SY.kept {S S':Nat→Prop} {fr:List (Nat×AV)} {a:Act} {W W':World} (h:SY S fr a W) (k:tP S W S' W'):SY S' fr a W':=
 ⟨fun t=>(h.1 t).mono (fun b _ hb=>(k b hb).1) (fun b _ hb=>(k b hb).2) (fun _ _=>rfl) (Nat.le_refl _),h.2⟩
def vh (nt:Nat) (J:Option Nat→(Nat→Prop)→World→Prop) (S0:Nat→Prop) (W0:World) (Q:bk→Option Nat→List (Nat×AV)→Prop):Exit→Act→World→Prop:=fun e a W=>
 ∃e' k fr S,e=oq e'∧Q e' k fr∧J k S W∧SY S fr a W∧a.tmps.size=nt∧tP S0 W0 S W
theorem vh.kept {nt:Nat} {J:Option Nat→(Nat→Prop)→World→Prop} {S0 S1:Nat→Prop} {W0 W1:World} {Q:bk→Option Nat→List (Nat×AV)→Prop} {e:Exit} {a:Act} {W:World} (h:vh nt J S1 W1 Q e a W) (k:tP S0 W0 S1 W1):vh nt J S0 W0 Q e a W:=by
 obtain⟨e',k',fr,S,h1,h2,h3,h4,h5,h6⟩:=h
 exact⟨e',k',fr,S,h1,h2,h3,h4,h5,k.trans h6⟩
theorem vh.here {nt:Nat} {J:Option Nat→(Nat→Prop)→World→Prop} {S:Nat→Prop} {W:World} {Q:bk→Option Nat→List (Nat×AV)→Prop} {e':bk} {k:Option Nat} {fr:List (Nat×AV)} {a:Act} (hq:Q e' k fr) (hJ:J k S W) (hs:SY S fr a W) (hz:a.tmps.size=nt):vh nt J S W Q (oq e') a W:=
 ⟨e',k,fr,S,rfl,hq,hJ,hs,hz,.refl⟩
def AY (P:Program) (nt:Nat) (J:Option Nat→(Nat→Prop)→World→Prop) (c:ak) (k:Option Nat) (fr:List (Nat×AV)) (Q:bk→Option Nat→List (Nat×AV)→Prop):Prop:=
 ∀(c':Code),ed P nt c'=some c→ ∀S a W,J k S W→SY S fr a W→a.tmps.size=nt→c'.wpIn (FR none) 0 P (vh nt J S W Q) a W
end
section
variable {P : Program} {nt : Nat} {J : Option Nat → (Nat → Prop) → World → Prop} {k : Option Nat} {fr : List (Nat × AV)} {Q : bk → Option Nat → List (Nat × AV) → Prop}
theorem oQ (h:Q .normal k fr):AY P nt J .skip k fr Q:=by
 intro c' hc S a W hJ hs hz
 cases c'<;>simp[ed]at hc
 ·exact wpIn_skip (vh.here (e':= .normal) h hJ hs hz)
 all_goals(try(split at hc<;>simp at hc))
theorem B5 (h:Q .ret k fr):AY P nt J .ret k fr Q:=by
 intro c' hc S a W hJ hs hz
 cases c'<;>simp[ed]at hc
 all_goals(try(split at hc<;>simp at hc))
 exact wpIn_ret (vh.here (e':= .ret) h hJ hs hz)
theorem K7 {id:Nat} (h:Q (.exit id) k fr):AY P nt J (.exit id) k fr Q:=by
 intro c' hc S a W hJ hs hz
 cases c'<;>simp[ed]at hc
 all_goals(try(split at hc<;>simp at hc))
 subst hc
 exact wpIn_exit (vh.here (e':= .exit _) h hJ hs hz)
def Zj (P:Program) (nt:Nat) (J:Option Nat→(Nat→Prop)→World→Prop) (y:ak) (Q:bk→Option Nat→List (Nat×AV)→Prop):bk→Option Nat→List (Nat×AV)→Prop
 | .normal,k,fr=>AY P nt J y k fr Q
 | .exit i,k,fr=>Q (.exit i) k fr
 | .ret,k,fr=>Q .ret k fr
theorem dG {x y:ak} (h:AY P nt J x k fr (Zj P nt J y Q)):AY P nt J (.seq x y) k fr Q:=by
 intro c' hc S a W hJ hs hz
 cases c'<;>simp[ed]at hc
 all_goals(try(split at hc<;>simp at hc))
 rename_i b1 b2 c1 c2 h1 h2
 obtain⟨rfl,rfl⟩:=hc
 refine wpIn_seq (wpIn_mono (h _ h1 S a W hJ hs hz) ?_)
 rintro e a1 W1 ⟨e',k',fr',S',rfl,hq,hJ',hs',hz',hk⟩
 cases e' with
 |normal=>exact wpIn_mono (hq _ h2 S' a1 W1 hJ' hs' hz') fun e a w h=>h.kept hk
 |exit id=>exact⟨.exit id,k',fr',S',rfl,hq,hJ',hs',hz',hk⟩
 |ret=>exact⟨.ret,k',fr',S',rfl,hq,hJ',hs',hz',hk⟩
def Wg (id:Nat) (Q:bk→Option Nat→List (Nat×AV)→Prop):bk→Option Nat→List (Nat×AV)→Prop
 | .normal,k,fr=>Q .normal k fr
 | .exit i,k,fr=>if i=id then Q .normal k fr else Q (.exit i) k fr
 | .ret,k,fr=>Q .ret k fr
theorem qN {x:ak} {id:Nat} (h:AY P nt J x k fr (Wg id Q)):AY P nt J (.block id x) k fr Q:=by
 intro c' hc S a W hJ hs hz
 cases c'<;>simp[ed]at hc
 all_goals(try(split at hc<;>simp at hc))
 rename_i i1 c1
 obtain⟨rfl,h1⟩:i1=id∧ed P nt c1=some x:=by simp_all
 refine wpIn_block (wpIn_mono (h _ h1 S a W hJ hs hz) ?_)
 rintro e a1 W1 ⟨e',k',fr',S',rfl,hq,hJ',hs',hz',hk⟩
 cases e' with
 |normal=>exact⟨.normal,k',fr',S',rfl,hq,hJ',hs',hz',hk⟩
 |exit i=>
  simp only[Wg]at hq
  by_cases hi:i=i1
  ·rw[if_pos hi]at hq
   simp only[oq,Exit.inBlock,if_pos hi]
   exact⟨.normal,k',fr',S',rfl,hq,hJ',hs',hz',hk⟩
  ·rw[if_neg hi]at hq
   simp only[oq,Exit.inBlock,if_neg hi]
   exact⟨.exit i,k',fr',S',rfl,hq,hJ',hs',hz',hk⟩
 |ret=>exact⟨.ret,k',fr',S',rfl,hq,hJ',hs',hz',hk⟩
theorem YW {W W1:World} {b:Nat} (hl:b<W.heap.size) (h:W1.heap[b]? =W.heap[b]?):b<W1.heap.size:=by
 have:W.heap[b]? =some W.heap[b]:=by simp[hl]
 rw[this]at h
 exact(Array.getElem?_eq_some_iff.1 h).1
def ZZ (S:Nat→Prop) (W:World) (hlt: ∀b,S b→b<W.heap.size):Gh:=⟨S,fun _=>undef,fun W' V=> ∀b,S b→V b∧W'.heap[b]? =W.heap[b]?,fun W1 W2 V1 V2 h hV hw b hb=>by
 obtain⟨h1,h2⟩:=h b hb
 have hl:=YW (hlt b hb) h2
 exact⟨hV b hl h1,(hw b hl h1).trans h2⟩⟩
theorem SY.sim {S:Nat→Prop} {a:Act} {W:World} (hs:SY S fr a W) (hlt: ∀b,S b→b<W.heap.size) (hG:rS W):bP W (ZZ S W hlt) ⟨fr, [],0,0⟩ (fun _=>undef) a W:=by
 have hf: ∀b,S b→aI W.heap.size (ZZ S W hlt) (fun _=>undef) [] b:=fun b hb=>⟨.inl hb,fun nm bx hn=>by cases hn⟩
 exact⟨fun t=>(hs.1 t).mono (fun b _ h=>hf b h) (fun _ _ _=>rfl) (fun _ _=>rfl) (Nat.le_refl _),⟨hs.2,hG⟩,(fun nm bx hn=>by cases hn),(fun nm bx hn=>by cases hn),(fun nm nm' b1 b2 b hn=>by cases hn),Below.refl _ _,fun b hb=>⟨hf b hb,rfl⟩,⟨Nat.le_refl _,fun _ h=>absurd h (Nat.not_lt_zero _)⟩⟩
def na (σ:St):List (Nat×AV)→Prop
 | []=>True
 |(t,v)::r=>(aN σ.fr t=v∨v= .top∨dQ σ.mem (aN σ.fr t)=some v)∧oJ 0 v∧na σ r
theorem V9 {v:AV}:eN [] v=v:=by
 have hC: ∀x:AC,fw [] x=x:=fun x=>by cases x<;>rfl
 have hA: ∀x:AC,dB [] x=x:=fun x=>by cases x<;>simp[dB,rn,List.map_congr_left (fun y _=>hC y)]
 cases v<;>simp[eN,hA,List.map_congr_left (fun y _=>hA y)]
theorem UH {σ:St} {fr':List (Nat×AV)} (h:na σ fr') (t:Nat):(aN σ.fr t=aN fr' t∨aN fr' t= .top∨dQ σ.mem (aN σ.fr t)=some (aN fr' t))∧oJ 0 (aN fr' t):=by
 induction fr' with
 |nil=>exact⟨.inr (.inl rfl),trivial⟩
 |cons x r ih=>
  obtain⟨k,v⟩:=x
  obtain⟨h1,h2,h3⟩:=h
  rw[fH]
  by_cases e:k=t
  ·subst e
   rw[if_pos rfl]
   exact⟨h1,h2⟩
  ·rw[if_neg e]
   exact ih h3
theorem SY.back {S:Nat→Prop} {W W':World} {hlt: ∀b,S b→b<W.heap.size} {σ:St} {ι:Pl} {a:Act} {fr':List (Nat×AV)} (hs:bP W (ZZ S W hlt) σ ι a W') (hw:na σ fr'):SY (fun b=>S b∨W.heap.size≤b∧b<W'.heap.size) fr' a W':=by
 refine⟨fun t=> ?_,hs.defers.1⟩
 obtain⟨h1,h2⟩:=UH hw t
 rcases h1 with h1|h1|h1
 ·have:=hs.val t
  rw[h1]at this
  have h3:=(show aU W' (aI W.heap.size (ZZ S W hlt) ι σ.mem) ι σ.nx (eN [] (aN fr' t)) _ by rw[V9];exact this).cl (V':=fun b=>S b∨W.heap.size≤b) (fun b h=>h.1) h2
  exact h3.mono (fun b hl h=>h.imp id fun h=>⟨h,hl⟩) (fun _ _ _=>rfl) (fun nm h=>absurd h (Nat.not_lt_zero _)) (Nat.le_refl _)
 ·rw[h1];exact .top
 ·have h3:=Bg (V:=fun b=>S b∨W.heap.size≤b) hs (hs.val t) h1 (fun b h=>h.1) (.inr fun b h=> .inr h)
  exact h3.mono (fun b hl h=>h.imp id fun h=>⟨h,hl⟩) (fun _ _ _=>rfl) (fun _ _=>rfl) (Nat.le_refl _)
theorem Cd {S:Nat→Prop} {W W':World} {hlt: ∀b,S b→b<W.heap.size} {σ:St} {ι:Pl} {a:Act} (hs:bP W (ZZ S W hlt) σ ι a W'):tP S W (fun b=>S b∨W.heap.size≤b∧b<W'.heap.size) W':=
 fun b hb=>⟨.inl hb,(hs.keep b hb).2⟩
theorem nc {c:AX} {x y:ak} {t:Bool} (hc:c.ev fr= .c (.pure (.val (.bool t)))) (h1:t=true→AY P nt J x k fr Q) (h2:t=false→AY P nt J y k fr Q) (hlt: ∀k S W,J k S W→(∀b,S b→b<W.heap.size)∧rS W):AY P nt J (.cond c x y) k fr Q:=by
 intro c' hc' S a W hJ hs hz
 cases c'<;>simp[ed]at hc'
 all_goals(try(split at hc'<;>simp at hc'))
 rename_i o b1 b2 _ _ _ x1 x2 x3 g1 g2 g3
 obtain⟨rfl,rfl,rfl⟩:=hc'
 have hsim:=hs.sim (hlt _ _ _ hJ).1 (hlt _ _ _ hJ).2
 have r1:=aC g1 hsim
 rw[hc]at r1
 have ho:=(bp r1).1
 cases t with
 |true=>exact wpIn_cond_true ho (h1 rfl _ g2 S a W hJ hs hz)
 |false=>exact wpIn_cond_false ho (h2 rfl _ g3 S a W hJ hs hz)
def abM {τ:Type} (mk:τ→Option Nat×List (Nat×AV)) (I:τ→Prop) (μ:τ→Nat) (t:τ) (Q:bk→Option Nat→List (Nat×AV)→Prop):bk→Option Nat→List (Nat×AV)→Prop
 | .normal,k,fr=> ∃t',I t'∧μ t'<μ t∧(mk t').1=k∧m6 [] fr 0 (mk t').2
 | .exit i,k,fr=>Q (.exit i) k fr
 | .ret,k,fr=>Q .ret k fr
theorem SY.wk {S:Nat→Prop} {a:Act} {W:World} {fr':List (Nat×AV)} (hs:SY S fr a W) (h:m6 [] fr 0 fr'):SY S fr' a W:=by
 refine⟨fun t=> ?_,hs.2⟩
 obtain⟨h1,h2⟩:=FE h t
 rcases h1 with h1|h1
 ·have:=hs.1 t
  rw[h1]at this
  exact this.cl (fun _ h=>h) h2
 ·rw[h1];exact .top
theorem K9 {τ:Type} {x:ak} (mk:τ→Option Nat×List (Nat×AV)) (I:τ→Prop) (μ:τ→Nat) (h0: ∃t,I t∧(mk t).1=k∧m6 [] fr 0 (mk t).2) (h: ∀t,I t→AY P nt J x (mk t).1 (mk t).2 (abM mk I μ t Q)):AY P nt J (.loop x) k fr Q:=by
 intro c' hc S a W hJ hs hz
 cases c'<;>simp[ed]at hc
 all_goals(try(split at hc<;>simp at hc))
 rename_i c1
 obtain⟨t,ht,rfl,hw⟩:=h0
 refine wpIn_loop_rounds (μ t+1) ?_
 have key: ∀n t S1 a1 W1,μ t<n→I t→J (mk t).1 S1 W1→SY S1 (mk t).2 a1 W1→a1.tmps.size=nt→tP S W S1 W1→Code.roundsIn (FR none) 0 P c1 (vh nt J S W Q) n a1 W1:=by
  intro n
  induction n with
  |zero=>intro t S1 a1 W1 hm;omega
  |succ n ih=>
   intro t S1 a1 W1 hm ht hJ1 hs1 hz1 hk1
   rw[roundsIn_succ]
   refine wpIn_mono (h t ht _ hc S1 a1 W1 hJ1 hs1 hz1) ?_
   rintro e a2 W2 ⟨e',k',fr',S',rfl,hq,hJ',hs',hz',hk⟩
   cases e' with
   |normal=>
    obtain⟨t',ht',hlt,rfl,hwk⟩:=hq
    exact ih t' S' a2 W2 (by omega) ht' hJ' (hs'.wk hwk) hz' (hk1.trans hk)
   |exit i=>exact⟨.exit i,k',fr',S',rfl,hq,hJ',hs',hz',hk1.trans hk⟩
   |ret=>exact⟨.ret,k',fr',S',rfl,hq,hJ',hs',hz',hk1.trans hk⟩
 exact key _ t S a W (Nat.lt_succ_self _) ht hJ (hs.wk hw) hz .refl
def RD (P:Program) (J:Option Nat→(Nat→Prop)→World→Prop) (f:AV) (args:List AV) (k:Option Nat) (R:AV→Option Nat→Prop):Prop:=
 ∀S W fv us,J k S W→aU W S (fun _=>undef) 0 f fv→aP (aU W S (fun _=>undef) 0) args us→ ∀(o:Oper) (a:Act) (c:Call) (fo:Operand) (next:Act→World→Prop) (Q:Exit→Act→World→Prop),o.op= .call c→c.callee= .value fo→a.eval fo=fv→(c.args.map a.eval).toList=us→
  (∀v res k' S' W',R res k'→aU W' S' (fun _=>undef) 0 res v→J k' S' W'→tP S W S' W'→next (a.put o.dst v) W')→o.wpIn (FR none) 0 P a W next Q
theorem dA {gs:List AG} (hJ: ∀k S W,J k S W→(∀b,S b→b<W.heap.size)∧rS W) (hg: ∀k S W W',J k S W→Below W.heap.size W W'→J k (fun b=>S b∨W.heap.size≤b∧b<W'.heap.size) W')
  (h:my P gs ⟨fr, [],0,0⟩ (fun σ'=> ∃fr',na σ' fr'∧Q .normal k fr')):AY P nt J (.region gs false) k fr Q:=by
 intro c' hc S a W hj hs hz
 cases c'<;>simp[ed]at hc
 all_goals(try(split at hc<;>simp at hc))
 rename_i id ops dr
 obtain⟨g1,h1,hgs⟩:=hc
 cases dr with
 |false=>
  simp[rJ]at hgs
  subst hgs
  have hsim:=hs.sim (hJ _ _ _ hj).1 (hJ _ _ _ hj).2
  have:=wz (rd:=none) (ds:= []) (n:=0) (vN (nt:=nt) (w0:=W) (U:=ZZ S W (hJ _ _ _ hj).1) (Q:=fun e σ'=> ∃fr',na σ' fr'∧Q .normal k fr')) (kD h1) (np h1 h hsim hz fun σ' ι' a' w' hq hs' hz'=>⟨σ',ι',rfl,hq,hs',hz'⟩)
  rw[sP]at this
  refine wpIn_mono (wpIn_region_list this) ?_
  rintro e a1 W1 ⟨a0,rfl,σ',ι',rfl,⟨fr',hw,hq⟩,hs',hz'⟩
  rw[sP]
  exact⟨.normal,k,fr',_,rfl,hq,hg _ _ _ _ hj hs'.below,SY.back hs' hw,hz',Cd hs'⟩
 |true=>
  simp only[rJ,if_true]at hgs
  rcases jH (P:=P) (ops:=ops.toList) (gs:=g1)with⟨x,e⟩|e<;>rw[e]at hgs<;>simp at hgs
theorem MI {dr:Bool} {op:Op} {gg z:Bool} {fx:AX} {args:List AX} (h:b7 P dr op=some (.call gg z fx args)): ∃c fo,op= .call c∧c.callee= .value fo∧aO fo=some fx∧mu c.args.toList=some args:=by
 unfold b7 at h
 split at h
 case h_28=>
  rename_i f as _
  split at h
  ·rename_i y xs h1 h2
   cases h
   exact⟨_,f,rfl,rfl,h1,h2⟩
  ·cases h
 all_goals exfalso
 all_goals(try(simp at h;done))
 all_goals(try((repeat' split at h)<;>first|(cases h;done)|(obtain⟨_,_,e⟩:=Option.map_eq_some_iff.1 h;cases e;done)|(simp at h;done)))
theorem JC {gs:List AG} (n:Nat) {dst:Option Nat} {gg z:Bool} {fx:AX} {args:List AX} (hn:gs[n]? =some ⟨dst,none,.call gg z fx args⟩) (hJ: ∀k S W,J k S W→(∀b,S b→b<W.heap.size)∧rS W)
  (hg: ∀k S W W',J k S W→Below W.heap.size W W'→J k (fun b=>S b∨W.heap.size≤b∧b<W'.heap.size) W')
  (h:my P (gs.take n) ⟨fr, [],0,0⟩ (fun σ1=> ∃fr1,na σ1 fr1∧ ∃R,RD P J (fx.ev fr1) (args.map (·.ev fr1)) k R∧
   ∀res k',R res k'→my P (gs.drop (n+1)) ((⟨fr1, [],0,0⟩:St).put dst res) (fun σ2=> ∃fr2,na σ2 fr2∧Q .normal k' fr2))):AY P nt J (.region gs false) k fr Q:=by
 intro c' hc S a W hj hs hz
 cases c'<;>simp[ed]at hc
 all_goals(try(split at hc<;>simp at hc))
 rename_i id ops dr
 obtain⟨g1,h1,hgs⟩:=hc
 cases dr with
 |true=>
  simp only[rJ,if_true]at hgs
  rcases jH (P:=P) (ops:=ops.toList) (gs:=g1)with⟨x,e⟩|e<;>rw[e]at hgs<;>simp at hgs
 |false=>
  simp[rJ]at hgs
  subst hgs
  have hsim:=hs.sim (hJ _ _ _ hj).1 (hJ _ _ _ hj).2
  obtain⟨c1,_,c3⟩:=vm n h1
  obtain⟨_,c2,_⟩:=vm (n+1) h1
  obtain⟨o,ho,hog⟩:=c3 _ hn
  have hsplit:ops.toList=ops.toList.take n++(o::ops.toList.drop (n+1)):=by
   have hlt:=(List.getElem?_eq_some_iff.1 ho).1
   have he:=(List.getElem?_eq_some_iff.1 ho).2
   rw[←he,←List.drop_eq_getElem_cons hlt,List.take_append_drop]
  have hd:=OY hog
  unfold x8 at hog
  by_cases hdst:Qh nt o.dst=false
  ·rw[if_pos hdst]at hog;cases hog
  rw[if_neg hdst]at hog
  split at hog
  ·rename_i ao hao
   have hgd:o.guard=none∧o.dst=dst∧ao= .call gg z fx args:=by
    cases hgu:o.guard with
    |none=>
     rw[hgu]at hog
     cases hog
     exact⟨rfl,rfl,rfl⟩
    |some q=>
     rw[hgu]at hog
     dsimp only at hog
     split at hog
     ·cases hog
     ·cases hog
   obtain⟨hgu,rfl,rfl⟩:=hgd
   have hdt: ∀t,o.dst=some t→t<nt:=by
    intro t ht
    rw[ht]at hdst
    simpa[Qh]using hdst
   obtain⟨c,fo,hcall,hcallee,hfx,hargs⟩:=MI hao
   refine wpIn_region_list ?_
   rw[hsplit]
   have h3:=wz (rd:=none) (ds:= []) (n:=0) (ops:=ops) (vN (nt:=nt) (w0:=W) (U:=ZZ S W (hJ _ _ _ hj).1) (Q:=fun e σ1=> ∃fr1,na σ1 fr1∧ ∃R,RD P J (fx.ev fr1) (args.map (·.ev fr1)) k R∧
    ∀res k',R res k'→my P (g1.drop (n+1)) ((⟨fr1, [],0,0⟩:St).put o.dst res) (fun σ2=> ∃fr2,na σ2 fr2∧Q .normal k' fr2))) (kD c1) (np c1 h hsim hz fun σ' ι' a' w' hq hs' hz'=>⟨σ',ι',rfl,hq,hs',hz'⟩)
   rw[sP]at h3
   refine df ?_ ?_ h3
   ·rintro a1 W1 ⟨a0,rfl,σ1,ι1,_,⟨fr1,hw1,R,hstep,hrest⟩,hs1,hz1⟩
    rw[sP]
    have hj1:=hg _ _ _ _ hj hs1.below
    have hy1:=SY.back hs1 hw1
    have hk1:=Cd hs1
    generalize (fun b=>S b∨W.heap.size≤b∧b<W1.heap.size)=S1 at hj1 hy1 hk1
    have hsim1:=hy1.sim (hJ _ _ _ hj1).1 (hJ _ _ _ hj1).2
    have ev: ∀{x:Operand} {y:AX},aO x=some y→aU W1 S1 (fun _=>undef) 0 (y.ev fr1) (a0.eval x):=by
     intro x y hx
     have:=aC hx hsim1
     exact this.mono (fun b hlt h=>by
      rcases h.1 with h|h
      ·exact h
      ·omega) (fun _ _ _=>rfl) (fun _ _=>rfl) (Nat.le_refl _)
    have evs: ∀{l:List Operand} {ys:List AX},mu l=some ys→aP (aU W1 S1 (fun _=>undef) 0) (ys.map (·.ev fr1)) (l.map a0.eval):=by
     intro l
     induction l with
     |nil=>intro ys h;cases h;exact .nil
     |cons x l ih=>
      intro ys h
      unfold mu at h
      split at h
      ·rename_i y ys' h1 h2
       cases h
       exact .cons (ev h1) (ih h2)
      ·cases h
    show wpListIn (FR none) 0 P ops _ (o::ops.toList.drop (n+1)) a0 W1
    unfold wpListIn
    rw[if_pos (by simp[Region.wanted,hgu])]
    refine hstep S1 W1 _ _ hj1 (ev hfx) (evs hargs) o a0 c fo _ _ hcall hcallee rfl (by simp) ?_
    intro v res k' S' W' hR hres hj2 hk2
    have hy2:=hy1.kept hk2
    have hy3:SY S' ((⟨fr1, [],0,0⟩:St).put o.dst res).fr (a0.put o.dst v) W':=by
     cases hdo:o.dst with
     |none=>exact hy2
     |some t=>
      refine⟨fun s=> ?_,hy2.2⟩
      have hlt:t<a0.tmps.size:=by rw[hz1];exact hdt t hdo
      show aU _ _ _ _ (aN ((t,res)::fr1) s) _
      rw[fH]
      by_cases e:t=s
      ·subst e
       rw[if_pos rfl]
       have:(a0.put (some t) v).tmps.getD t undef=v:=by simp[Act.put,Array.getD_eq_getD_getElem?,hlt]
       rw[this]
       exact hres
      ·rw[if_neg e]
       have:(a0.put (some t) v).tmps.getD s undef=a0.tmps.getD s undef:=by simp[Act.put,Array.getD_eq_getD_getElem?,Array.getElem?_setIfInBounds,e]
       rw[this]
       exact hy2.1 s
    have hsim3:=hy3.sim (hJ _ _ _ hj2).1 (hJ _ _ _ hj2).2
    have hst:((⟨fr1, [],0,0⟩:St).put o.dst res)=⟨((⟨fr1, [],0,0⟩:St).put o.dst res).fr, [],0,0⟩:=by cases o.dst<;>rfl
    have h4:=hrest res k' hR
    rw[hst]at h4
    have h5:=wz (rd:=none) (ds:= []) (n:=0) (ops:=ops) (vN (nt:=nt) (w0:=W') (U:=ZZ S' W' (hJ _ _ _ hj2).1) (Q:=fun e σ2=> ∃fr2,na σ2 fr2∧Q .normal k' fr2)) (kD c2) (np c2 h4 hsim3 (by rw[vn];exact hz1) fun σ' ι' a' w' hq hs' hz'=>⟨σ',ι',rfl,hq,hs',hz'⟩)
    rw[sP]at h5
    have h6:=df (Q:=vh nt J S W Q) (l2:= []) ?_ ?_ h5
    ·rw[List.append_nil]at h6
     exact h6
    ·rintro a2 W2 ⟨a3,rfl,σ2,ι2,_,⟨fr2,hw2,hq2⟩,hs2,hz2⟩
     rw[sP]
     exact⟨.normal,k',fr2,_,rfl,hq2,hg _ _ _ _ hj2 hs2.below,SY.back hs2 hw2,hz2,(hk1.trans hk2).trans (Cd hs2)⟩
    ·rintro e a2 W2 ⟨a3,rfl,σ2,ι2,e2,_⟩
     exact e2
   ·rintro e a1 W1 ⟨a0,rfl,σ1,ι1,e2,_⟩
    exact e2
  ·cases hog
theorem pQ {l:Nat} {w:World} {xs:List (List AV)} {args:List AV} {k:Nat} (hJ:Dg P l w xs J) (hx:xs[k]? =some args):
  RD P J (yv l) args (some k) (fun res k'=> ∃b:Bool,res= .c (.pure (.val (.bool b)))∧k'=if b=true then some (k+1)else none):=by
 intro S W fv us hj hf hus o a c fo next Q ho hc hfo hargs hnext
 obtain⟨rfl,_⟩:=bp hf
 obtain⟨fn,tmps,asg,body,hy,hR⟩:=hJ.round k args S W us.toArray hx hj (by simpa using hus) 0
 refine⟨fun _ _=>trivial, ?_⟩
 rw[Oper.semAt_eq _ _ _ (by rw[ho];intro c e;cases e)]
 have hexec:(execOp a.eval o).run P W= .ok (.round l fn tmps asg body) W:=by
  have e:c.args.map a.eval=us.toArray:=by rw[←hargs]
  simp[execOp,ho,resolve,hc,hfo,Deferred.ofValue,invoke,e,hy]
 rw[hexec,Oper.uponIn_round]
 refine⟨by simp[FR,Fence.wide],hR.mono ?_⟩
 rintro e W' ⟨b,rfl,hj',hk⟩
 exact hnext (.bool b) _ _ S W' ⟨b,rfl,rfl⟩ (.c (.pure (.val rfl))) hj' fun b hb=>⟨hb,hk b hb⟩
def m9 (P:Program) (J:Option Nat→(Nat→Prop)→World→Prop) (f:FuncId) (args:List AV) (k:Option Nat) (R:AV→Option Nat→Prop):Prop:=
 m8 P f∧ ∀(S:Nat→Prop) (W:World) (us:Array Value),J k S W→aP (aU W S (fun _=>undef) 0) args us.toList→
  Calls P f us W fun e W'=> ∃v res k' S',e= .returned v∧R res k'∧aU W' S' (fun _=>undef) 0 res v∧J k' S' W'∧tP S W S' W'
theorem GH {f:FuncId} {args:List AV} {R:AV→Option Nat→Prop} (h:m9 P J f args k R):RD P J (.c (.clo f [])) args k R:=by
 intro S W fv us hj hf hus o a c fo next Q ho hc hfo hargs hnext
 obtain rfl:fv= .func (.func f) #[] #[]:=by
  cases hf with
  |c hf=>
   cases hf with
   | @clo _ _ vs hl _=>
    have:vs= #[]:=Array.eq_empty_of_size_eq_zero (by simpa using hl.symm)
    rw[this]
 obtain⟨⟨fn,hfn,hbody,hname⟩,hcall⟩:=h
 have hb: ¬fn.body=none:=by intro e;rw[e]at hbody;cases hbody
 have hname' : ¬ fn.name = "runtime.NumGoroutine" := by intro e; rw [e] at hname; simp at hname
 refine⟨fun _ _=>trivial, ?_⟩
 rw[Oper.semAt_eq _ _ _ (by rw[ho];intro c e;cases e)]
 have hexec:(execOp a.eval o).run P W= .ok (.enter f us.toArray) W:=by
  have e:c.args.map a.eval=us.toArray:=by rw[←hargs]
  simp[execOp,ho,resolve,hc,hfo,Deferred.ofValue,invoke,callFunc,hfn,hname',hb,e]
 rw[hexec,Oper.uponIn_enter]
 refine⟨by simp[FR,Fence.wide],Ls ((hcall S W us.toArray hj (by simpa using hus)).mono ?_)⟩
 rintro e W' ⟨v,res,k',S',rfl,hR,hres,hj',hk⟩
 exact hnext v res k' S' W' hR hres hj' hk
def aco (rs:List AR) (R:AV→Option Nat→Prop):bk→Option Nat→List (Nat×AV)→Prop
 | .exit _,_,_=>False
 | .ret,k,fr=>kA ⟨fr, [],0,0⟩ rs [] fun vs=>R (eF vs) k
 | .normal,k,fr=>kA ⟨fr, [],0,0⟩ rs [] fun vs=>R (eF vs) k
theorem m9.of {f:FuncId} {body:ak} {rs:List AR} {args:List AV} {R:AV→Option Nat→Prop} (hJ: ∀k S W,J k S W→(∀b,S b→b<W.heap.size)∧rS W) (hf:aA P f nt body rs) (hlen:args.length≤nt)
  (h:tp args→AY P nt J body k (bo args 0) (aco rs R)):m9 P J f args k R:=by
 obtain⟨fn,c,h1,h2,h3,rfl,h5,h6⟩:=hf.is
 refine⟨⟨fn,h1,by rw[h2];rfl,h3⟩,fun S W vs hj hargs=> ?_⟩
 have hsz:vs.size=args.length:=by rw[←Array.length_toList];exact hargs.length.symm
 have hs:SY S (bo args 0) {tmps:=vs++Array.replicate (fn.ntmps-vs.size) undef,defers:= []} W:=by
  refine⟨fun t=> ?_,rfl⟩
  rcases kz (vs:=vs.toList) (k:=0) hargs t with h|h
  ·by_cases hlt:t<vs.size
   ·have e:(vs++Array.replicate (fn.ntmps-vs.size) undef).getD t undef=(vs.toList[t-0]?).getD undef:=by
     simp[Array.getD_eq_getD_getElem?,Array.getElem?_append,hlt]
    rw[e]
    exact h
   ·have:aN (bo args 0) t= .top:=by
     have key: ∀(l:List AV) (j:Nat),j+l.length≤t→aN (bo l j) t= .top:=by
      intro l
      induction l with
      |nil=>intro j _;rfl
      |cons x l ih=>
       intro j hj
       simp only[List.length_cons]at hj
       show(if j=t then x else aN (bo l (j+1)) t)=_
       rw[if_neg (by omega)]
       exact ih _ (by omega)
     exact key args 0 (by omega)
    rw[this]
    exact .top
  ·rw[h]
   exact .top
 have hsize:(vs++Array.replicate (fn.ntmps-vs.size) undef).size=fn.ntmps:=by simp;omega
 refine(callsIn_wide (n:=0)).1 (callsIn_of_wp h1 h2 trivial (wpIn_mono (h (vt hargs) c h5 S _ W hj hs hsize) ?_))
 have fin: ∀{a':Act} {W':World} {fr':List (Nat×AV)} {k':Option Nat} {S':Nat→Prop},kA ⟨fr', [],0,0⟩ rs [] (fun vs=>R (eF vs) k')→J k' S' W'→SY S' fr' a' W'→tP S W S' W'→a'.defers= []∧ ∃v,(results fn a'.tmps).run P W'= .ok v W'∧ ∃v' res k' S',Ending.returned v= .returned v'∧R res k'∧aU W' S' (fun _=>undef) 0 res v'∧J k' S' W'∧tP S W S' W':=by
  intro a' W' fr' k' S' hres hj' hs' hk
  obtain⟨vs',us',g1,g2,g3⟩:=nj (hs'.sim (hJ _ _ _ hj').1 (hJ _ _ _ hj').2) (us:= []) h6 hres .nil
  refine⟨hs'.2,(if h:us'.toArray.size=1 then us'.toArray[0]else .tuple us'.toArray), ?_,_,_,k',S',rfl,g3, ?_,hj',hk⟩
  ·rw[nv,Array.mapM_eq_mapM_toList]
   simp[g2]
  ·have:=wa (by simpa using g1)
   exact this.mono (fun b hlt h=>by
    rcases h.1 with h|h
    ·exact h
    ·omega) (fun _ _ _=>rfl) (fun _ _=>rfl) (Nat.le_refl _)
 rintro e a' W' ⟨e',k',fr',S',rfl,hq,hj',hs',hsz',hk⟩
 cases e' with
 |normal=>exact fin hq hj' hs' hk
 |exit i=>exact hq.elim
 |ret=>exact fin hq hj' hs' hk
theorem wh.of {f:FuncId} {args:List AV} {xs:List (List AV)} (hf:m8 P f) (h: ∀(l:Nat) (w:World) (J':Option Nat→(Nat→Prop)→World→Prop),Dg P l w xs J'→m9 P J' f (yv l::args) (some 0) (fun _ k'=>k'=some xs.length∨k'=none)):wh P f args xs:=by
 refine⟨hf, ?_⟩
 intro l S J' w vs hG hargs hJ h0
 have h1:=(h l w J' hJ).2 S w (#[.func (.yield l) #[] #[]]++vs) h0
 have e:(#[Value.func (.yield l) #[] #[]]++vs).toList=Value.func (.yield l) #[] #[]::vs.toList:=by simp
 rw[e]at h1
 have h2:=h1 (aP.cons (.c (.pure (.val rfl))) hargs)
 refine h2.mono ?_
 rintro e w' ⟨v,res,k',S',he,hk,_,hj,_⟩
 exact⟨⟨v,he⟩,k',S',hk,hj⟩
end
open Go.RowKit
section
variable {P : Program} {f : FuncId} {args pargs : List AV} {mem : List (Nat × bc)} {nx : Nat}
theorem yV {w0 w:World} {U:Gh} {ι:Pl} {vs:Array Value} (hs:bP w0 U ⟨[],mem,nx,nx⟩ ι {tmps:= #[],defers:= []} w) (hr:aP (aU w (aI w0.heap.size U ι mem) ι nx) args vs.toList) (hp:bG mem args=some pargs) (hn:args.all fS=true):
  bP w (Gh.of (aI w0.heap.size U ι mem)) ⟨[], [],0,0⟩ (fun _=>undef) {tmps:= #[],defers:= []} w∧aP (aU w (aI w.heap.size (Gh.of (aI w0.heap.size U ι mem)) (fun _=>undef) []) (fun _=>undef) 0) pargs vs.toList:=
 ⟨⟨fun t=> .top,⟨rfl,hs.glob⟩,(fun nm bx hn=>by cases hn),(fun nm bx hn=>by cases hn),(fun nm nm' b1 b2 b hn=>by cases hn),Below.refl _ _,trivial,⟨Nat.le_refl _,fun _ h=>absurd h (Nat.not_lt_zero _)⟩⟩,
  (nl (σ:=⟨[],mem,nx,nx⟩) (V:=aI w0.heap.size U ι mem) hs hr (fun _ h=>h) (.inl hn) hp).mono fun _ _ h=>h.mono (fun b _ h=>⟨.inl h,fun nm bx hf=>by cases hf⟩) (fun _ _ _=>rfl) (fun _ _=>rfl) (Nat.le_refl _)⟩
theorem au.lift0 {res:AV} (h:au P f pargs [] 0 res [] 0) (hp:bG mem args=some pargs) (hn:args.all fS=true):au P f args mem nx res mem nx:=by
 refine⟨h.1,fun w0 U ι w vs hs hr=> ?_⟩
 have hB:=hs.below.size
 obtain⟨g1,g2⟩:=yV hs hr hp hn
 refine(h.2 w _ _ w vs g1 g2).mono ?_
 rintro en w' ⟨v,ι',rfl,h1,h2⟩
 refine⟨v,ι,rfl,hs.grow h1.below,h2.mono (fun b _ hf=> ?_) (fun b _ _=>rfl) (fun nm hn=>absurd hn (Nat.not_lt_zero _)) (Nat.zero_le _)⟩
 obtain⟨hf|hf,_⟩:=hf
 ·exact hf
 ·refine⟨.inr (Nat.le_trans hB hf),fun nm bx hfm hc=> ?_⟩
  have:=((hs.box _ _ hfm).block hc).2
  omega
theorem au.lift1 {e sz:Nat} {rows:List (List PC)} {y:Value} (hy:vp y=true) (h:au P f pargs [] 0 (.tup [.c (.ref 0),.c (.pure (.val y))]) [(0,.arr e sz rows)] 1) (hp:bG mem args=some pargs) (hn:args.all fS=true):
  au P f args mem nx (.tup [.c (.ref nx),.c (.pure (.val y))]) ((nx,.arr e sz rows)::mem) (nx+1):=by
 refine⟨h.1,fun w0 U ι w vs hs hr=> ?_⟩
 have hB:=hs.below.size
 obtain⟨g1,g2⟩:=yV hs hr hp hn
 refine(h.2 w _ _ w vs g1 g2).mono ?_
 rintro en w' ⟨v,ι',rfl,h1,h2⟩
 obtain⟨cells,k0,k1,k2,k3⟩:=h1.box 0 (.arr e sz rows) rfl
 have hU: ∀ι'':Pl,(∀nm,nm<nx→ι'' nm=ι nm)→ι'' nx=ι' 0→ ∀b,aI w.heap.size (Gh.of (aI w0.heap.size U ι mem)) ι' [(0,.arr e sz rows)] b→aI w0.heap.size U ι'' ((nx,.arr e sz rows)::mem) b:=by
  intro ι'' e1 e2 b hf
  have hnot:=hf.2 0 _ rfl
  obtain⟨hf1,_⟩:=hf
  rcases hf1 with hf1|hf1
  ·refine⟨hf1.1,fun nm bx hfm=> ?_⟩
   rw[bS]at hfm
   by_cases hh:nx=nm
   ·subst hh
    rw[e2]
    exact hnot
   ·rw[if_neg hh]at hfm
    rw[e1 _ (hs.names _ _ hfm)]
    exact hf1.2 _ _ hfm
  ·refine⟨.inr (Nat.le_trans hB hf1),fun nm bx hfm hc=> ?_⟩
   rw[bS]at hfm
   by_cases hh:nx=nm
   ·subst hh
    rw[e2]at hc
    exact hnot hc
   ·rw[if_neg hh]at hfm
    rw[e1 _ (hs.names _ _ hfm)]at hc
    have:=((hs.box _ _ hfm).block hc).2
    have h9:w.heap.size≤b:=hf1
    exact absurd this (by show ¬b<_;omega)
 obtain⟨ι'',j1,j2,j3,j4⟩:=hs.newBox (pv:=ι' 0) (bx:= .arr e sz rows) h1.below (fun b hb=>by
  rcases k1.2 with⟨e,_⟩|⟨g,cap,cur,e,hg,_⟩
  ·rw[e]at hb;cases hb
  ·rw[e]at hb
   simp[bF]at hb
   omega) (fun ι'' e1 e2 hfree=>⟨cells,k0,by rw[e2];exact su k1 hB,k2,k3.mono (fun b _ hf=>hU ι'' e1 e2 b hf) (fun b _ _=>rfl)⟩)
 cases h2 with
  |tup hl hx=>
   rename_i us
   have x0:=hx 0 _ rfl
   have x1:=hx 1 _ rfl
   refine⟨_,ι'',rfl,j1,.tup hl fun i x hi=> ?_⟩
   match i,hi with
   |0,hi=>
    cases hi
    have:us.toList[0]?.getD undef=ι' 0:=by
     generalize us.toList[0]?.getD undef=z at x0
     cases x0 with
     |c x0=>cases x0 with
      |ref _ _=>rfl
    rw[this,←j2]
    refine .c (.ref (Nat.lt_succ_self _) ?_)
    rw[j2]
    rcases k1.2 with⟨e,_⟩|⟨g,cap,cur,e,_⟩
    ·exact⟨_,_,_,e⟩
    ·exact⟨_,_,_,e⟩
   |1,hi=>
    cases hi
    generalize us.toList[1]?.getD undef=z at x1 ⊢
    cases x1 with
    |c x1=>cases x1 with
     |pure x1=>cases x1 with
      |val _=>exact .c (.pure (.val hy))
theorem au.toP {res pres:AV} {mem':List (Nat×bc)} {nx':Nat} (h:au P f pargs [] 0 res mem' nx') (hp:O1 mem' res=some pres):ac P f pargs pres:=by
 refine⟨h.1,fun w U vs hG hargs=> ?_⟩
 have hs:bP w (Gh.of U) ⟨[], [],0,0⟩ (fun _=>undef) {tmps:= #[],defers:= []} w:=⟨fun t=> .top,⟨rfl,hG⟩,(fun nm bx hn=>by cases hn),(fun nm bx hn=>by cases hn),(fun nm nm' b1 b2 b hn=>by cases hn),Below.refl _ _,trivial,⟨Nat.le_refl _,fun _ h=>absurd h (Nat.not_lt_zero _)⟩⟩
 refine(h.2 w _ _ w vs hs (hargs.mono fun _ _ h=>h.mono (fun b _ h=>⟨.inl h,fun nm bx hn=>by cases hn⟩) (fun _ _ _=>rfl) (fun _ _=>rfl) (Nat.le_refl _))).mono ?_
 rintro en w' ⟨v,ι',rfl,h1,h2⟩
 exact⟨v,rfl,Nd h1 h2 hp (fun b h=>h.1) (fun b h=> .inr h),h1.below⟩
theorem Ni {w:World} {V:Nat→Prop} {ι:Pl} {N:Nat} {v:Value} (h:aU w V ι N (.c .nils) v):aU w V ι N (.c (.pure (.slice []))) v:=by
 cases h with
 |c h=>cases h with
  |nils=>exact .c (.pure (.slice (sz:=1) (fun _ _=>undef) rfl (Nat.le_refl _) (Nat.zero_le _) (fun i row h=>by simp at h) (fun i row j p h=>by simp at h) (fun i row j p h=>by simp at h)))
theorem au.alike {args':List AV} {res:AV} {mem':List (Nat×bc)} {nx':Nat} (h:au P f args mem nx res mem' nx') (hw: ∀(w:World) (V:Nat→Prop) (ι:Pl) (N:Nat) (vs:List Value),aP (aU w V ι N) args' vs→aP (aU w V ι N) args vs):au P f args' mem nx res mem' nx':=
 ⟨h.1,fun w0 U ι w vs hs hr=>h.2 w0 U ι w vs hs (hw _ _ _ _ _ hr)⟩
theorem au.nil3 {a b:AV} {res:AV} {mem':List (Nat×bc)} {nx':Nat} (h:au P f [a,b,.c (.pure (.slice []))] mem nx res mem' nx'):au P f [a,b,.c .nils] mem nx res mem' nx':=
 h.alike fun w V ι N vs hr=>by
  cases hr with
  |cons h1 t1=>cases t1 with
   |cons h2 t2=>cases t2 with
    |cons h3 t3=>exact .cons h1 (.cons h2 (.cons (Ni h3) t3))
theorem au.nil4 {a b c d e:AV} {res:AV} {mem':List (Nat×bc)} {nx':Nat} (h:au P f [a,b,c,.c (.pure (.slice [])),d,e] mem nx res mem' nx'):au P f [a,b,c,.c .nils,d,e] mem nx res mem' nx':=
 h.alike fun w V ι N vs hr=>by
  cases hr with
  |cons h1 t1=>cases t1 with
   |cons h2 t2=>cases t2 with
    |cons h3 t3=>cases t3 with
     |cons h4 t4=>exact .cons h1 (.cons h2 (.cons h3 (.cons (Ni h4) t4)))
end
open Go.RowKit
abbrev YJ:=Option Nat→(Nat→Prop)→World→Prop
abbrev YQ:=bk→Option Nat→List (Nat×AV)→Prop
section
variable {P : Program} {nt n0 : Nat} {rd : Option Nat} {Ds : List Nat} {J : YJ} {k : Option Nat} {fr : List (Nat × AV)} {Q : YQ}
end
end Go.Abs
