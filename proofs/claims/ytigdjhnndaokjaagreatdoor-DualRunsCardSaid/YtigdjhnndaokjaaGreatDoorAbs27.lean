import Derived.Test.YtigdjhnndaokjaaGreatDoorAbsQ
set_option linter.unusedVariables false
set_option linter.unusedSimpArgs false
namespace Go.Abs
open Go.RowKit
section
variable {P : Program} {σ : St} {nt : Nat}
theorem abz {c:aj} {Q:bv→St→Prop} (nm i:Nat) (xs:List AC) (hf:ar σ.mem nm=some (.var xs)) (hi:xs[i]? =some .nils)
  (h:AW P nt c {σ with mem:=gF σ.mem nm (.var (xs.set i (.pure (.slice []))))} Q):AW P nt c σ Q:=by
 intro c' hc w0 U rd ds ι a w HV hs hz
 obtain⟨b,vs,T,g1,g2,g3,g4⟩:=hs.box _ _ hf
 have HS:=hs.setBox (cs:=vs) hf (b:=b) (by rw[g1];rfl) (bx:= .var (xs.set i (.pure (.slice [])))) ⟨b,vs,T,g1,g2,setRow_heap _ _ _ _ _ _ g3,by
  rw[setRow_self w b vs T _ g3]
  refine bf.of_get (by rw[zH0];exact g4.length) λj x v hj hv=> ?_
  rw[zO5]at hj
  by_cases e1:i=j
  ·subst e1
   have A:=(zB7.1 hi).1
   rw[if_pos rfl,if_pos A]at hj
   cases hj
   obtain⟨v',HW,hr⟩:=g4.get hi
   rw[HW]at hv
   cases hv
   have:v= .slice none 0 0:=by cases hr;rfl
   rw[this]
   exact .pure .nil
  ·rw[if_neg e1]at hj
   obtain⟨v',HW,hr⟩:=g4.get hj
   rw[HW]at hv
   cases hv
   exact hr⟩
 rw[setRow_self w b vs T _ g3]at HS
 exact h c' hc w0 U rd ds ι a w HV HS hz
end
def adO:AC→Bool
 | .pure _=>true
 | .nils=>true
 | .tsl _=>true
 |_=>false
def adR:bP→Bool
 | .var xs=>xs.all adO
 | .arr _ _ _=>true
 |_=>false
def aS (N:Nat):List Nat→List (Nat×bP)→Prop
 |_, []=>True
 |seen,(nm,b)::r=>nm<N∧adR b=true∧Wb nm seen∧aS N (nm::seen) r
theorem aaD {n:Nat}: ∀{l:List Nat},Wb n l↔ ∀m∈l,n≠m
 | []=>by simp[Wb]
 |m::r=>by simp[Wb,aaD (l:=r)]
theorem aS.mem {N:Nat}: ∀{F:List (Nat×bP)} {s:List Nat},aS N s F→ ∀x∈F,x.1<N∧adR x.2=true∧Wb x.1 s
 | [],s,_,x,hx=>by cases hx
 |(nm,b)::r,s,h,x,hx=>by
  rcases zD7.1 hx with rfl|hx
  ·exact⟨h.1,h.2.1,h.2.2.1⟩
  ·obtain⟨h1,h2,h3⟩:=aS.mem h.2.2.2 x hx
   exact⟨h1,h2,h3.2⟩
theorem aS.find {N:Nat}: ∀{F:List (Nat×bP)} {s:List Nat},aS N s F→ ∀x∈F,ar F x.1=some x.2
 | [],s,_,x,hx=>by cases hx
 |(nm,b)::r,s,h,x,hx=>by
  rcases zD7.1 hx with rfl|hx
  ·simp[ar]
  ·have h3:=(aS.mem h.2.2.2 x hx).2.2.1
   rw[ar,if_neg (λe=>h3 e.symm)]
   exact aS.find h.2.2.2 x hx
theorem aS.mono {N N':Nat} (hN:N≤N'): ∀{F:List (Nat×bP)} {s s':List Nat},aS N s F→(∀n,n<N→Wb n s→Wb n s')→aS N' s' F
 | [],s,s',_,_=>trivial
 |(nm,b)::r,s,s',h,hs=>⟨zH1 h.1 hN,h.2.1,hs _ h.1 h.2.2.1,aS.mono hN h.2.2.2 (λn hn h'=>⟨h'.1,hs _ hn h'.2⟩)⟩
theorem adA {n:Nat}: ∀{F:List (Nat×bP)},(∀x∈F,x.1≠n)→M9 F n=F
 | [],_=>rfl
 |(nm,b)::r,h=>by
  rw[M9,if_neg (h _ zC5),adA (λx hx=>h x (zC3 _ hx))]
variable {F:List (Nat×bP)}
theorem aS.del {N n:Nat} {s:List Nat} (h:aS N s F) (hn:n∈s∨N≤n):M9 F n=F:=
 adA λx hx e=>by
  obtain⟨h1,_,h3⟩:=h.mem x hx
  rcases hn with hn|hn
  ·exact aaD.1 h3 n hn e
  ·omega
theorem aeB {x:AC} (h:adO x=true) (nm:Nat) (rows:List (List PC)):BZ nm rows x=x:=by cases x<;>simp_all [adO,BZ]
variable {b:bP}
theorem ae0 (h:adR b=true) (nm:Nat) (rows:List (List PC)):Om nm rows b=b:=by
 cases b with
 |var xs=>
  simp only[adR,zH6]at h
  simp only[Om]
  rw[zN6 (λx hx=>aeB (h x hx) nm rows)]
  simp
 |arr=>rfl
 |arn=>cases h
 |map=>cases h
theorem aS.frz {N n:Nat} {rows:List (List PC)}: ∀{F:List (Nat×bP)} {s:List Nat},aS N s F→n∈s∨N≤n→HJ n rows F=F
 | [],s,_,_=>rfl
 |(nm,b)::r,s,h,hn=>by
  have h0: ¬nm=n:=by
   rcases hn with hn|hn
   ·exact aaD.1 h.2.2.1 n hn
   ·have:=h.1;omega
  rw[HJ,if_neg h0,ae0 h.2.1,aS.frz h.2.2.2 (hn.imp_left (zC3 _))]
theorem ae3 (h:adR b=true) (l:List (Nat×Nat)):ad2 l b=b:=by
 cases b with
 |var xs=>
  simp only[adR,zH6]at h
  simp only[ad2]
  have: ∀x∈xs,c7 l x=x:= λx hx=>by have:=h x hx;cases x<;>simp_all [adO,c7]
  rw[zN6 this]
  simp
 |arr=>rfl
 |arn=>cases h
 |map=>cases h
theorem afl (h:adR b=true) (N:Nat):clB N b:=by
 cases b with
 |var xs=>
  simp only[adR,zH6]at h
  simp only[clB]
  induction xs with
  |nil=>trivial
  |cons x xs ih=>exact⟨by have:=h x zC5;cases x<;>simp_all [adO,kH],ih λy hy=>h y (zC3 _ hy)⟩
 |arr=>trivial
 |arn=>cases h
 |map=>cases h
theorem aS.wkAux {base N':Nat} {l:List (Nat×Nat)} {mem:List (Nat×bP)} (hl:wkL base l) (hN:base≤N'): ∀{F:List (Nat×bP)} {s seen:List Nat},aS base s F→(∀n∈seen,n∈s∨base≤n)→(∀x∈F,ar mem x.1=some x.2)→wkM l mem N' seen F
 | [],s,seen,_,_,_=>trivial
 |(nm,b)::r,s,seen,h,hs,hm=>by
  have e:rn l nm=nm:=adD hl h.1
  refine⟨?_,zH1 h.1 hN,afl h.2.1 _, ?_, ?_⟩
  ·rw[e,ae3 h.2.1]
   exact hm _ zC5
  ·rw[e]
   refine aaD.2 λm hm e=> ?_
   rcases hs m hm with h'|h'
   ·exact aaD.1 h.2.2.1 m h' e
   ·have:=h.1;omega
  ·rw[e]
   refine aS.wkAux hl hN h.2.2.2 (λn hn=> ?_) (λx hx=>hm x (zC3 _ hx))
   rcases zD7.1 hn with rfl|hn
   ·exact .inl zC5
   ·exact(hs n hn).imp_left (zC3 _)
theorem aS.wk {base N':Nat} {l:List (Nat×Nat)} {mem:List (Nat×bP)} {s seen:List Nat} (h:aS base s F) (hl:wkL base l) (hN:base≤N') (hs: ∀n∈seen,n∈s∨base≤n)
  (hm: ∀nm bx,nm<base→Wb nm s→ar F nm=some bx→ar mem nm=some bx):wkM l mem N' seen F:=
 aS.wkAux hl hN h hs λx hx=>by
  obtain⟨h1,_,h3⟩:=h.mem x hx
  exact hm _ _ h1 h3 (h.find x hx)
open Go.RowKit
structure GK (P:Program) (l:Nat) (w:World) (xs:List (List AV)) (J:Option Nat→(Nat→Prop)→World→Prop):Prop where
 grow: ∀k S W W',J k S W→wC w.heap.size W W'→J k (λb=>S b∨W.heap.size≤b∧b<W'.heap.size) W'
 old: ∀k S W,J k S W→(∀b,S b→b<W.heap.size)∧w.heap.size≤W.heap.size∧wY W
 sub: ∀k S S' W,J k S W→(∀b,S' b→S b)→J k S' W
 round: ∀k x S W us,xs[k]? =some x→J (some k) S W→bf (aT W S (λ_=>undef) 0) x us.toList→ ∀m,YieldAt Fence.wide m P l us W λe W'=>
  ∃b:Bool,e= .returned (.bool b)∧J (if b=true then some (k+1)else none) S W'∧ ∀c,S c→W'.heap[c]? =W.heap[c]?
def jH (P:Program) (f:FuncId) (args:List AV) (xs:List (List AV)):Prop:=
 oT P f∧ ∀(l:Nat) (S:Nat→Prop) (J:Option Nat→(Nat→Prop)→World→Prop) (w:World) (vs:Array Value),wY w→
  bf (aT w S (λ_=>undef) 0) args vs.toList→GK P l w xs J→J (some 0) S w→
  Calls P f (#[.func (.yield l) #[] #[]]++vs) w λe w'=>(∃v,e= .returned v)∧ ∃k S',(k=some xs.length∨k=none)∧J k S' w'
def BT:List Nat→List AV→List (Nat×AV)→List (Nat×AV)
 |p::ps,x::xs,fr=>BT ps xs ((p,x)::fr)
 |_,_,fr=>fr
def aft (P:Program) (nt:Nat) (body:aj) (Q:bv→St→Prop):bv→St→Prop
 | .normal,σ=>AW P nt body σ Q
 |_,_=>False
def LO {τ:Type} (mk:Nat→τ→List (Nat×bP)×Nat) (I:Nat→τ→Prop) (bs:Nat) (fr0:List (Nat×AV)) (base:Nat) (Q:bv→St→Prop) (k:Nat):bv→St→Prop
 | .normal,σ=> ∃t l,I (k+1) t∧Wk l {σ with fr:= []} ⟨[],(mk (k+1) t).1,(mk (k+1) t).2,bs⟩
 | .exit i,σ=>σ.base=bs∧Q (.exit i) ⟨fr0,σ.mem,σ.nx,base⟩
 | .ret,σ=>σ.base=bs∧Q .ret ⟨fr0,σ.mem,σ.nx,base⟩
def xY:bv→Code
 | .normal=> .skip
 | .exit i=> .exit i
 | .ret=> .ret
section
variable {P : Program} {nt : Nat} {σ : St} {Q : bv → St → Prop}
theorem lX {a:Act}:sh [] a=a:=by
 cases a
 simp[sh]
theorem z7 {rd:Option Nat} {n m:Nat} {c:Code} {Q:Exit→Act→World→Prop} {a:Act} {w:World} (h:c.wpIn (FR rd) n P Q a w):c.wpIn (FR rd) m P Q a w:=
 λb k cs h1 h2 _=>h b k cs h1 h2 (λd hd=>by cases hd)
theorem Cr {w:World} {V:Nat→Prop} {ι:Pl} {N:Nat}: ∀{ps:List Nat} {xs:List AV} {us:List Value} {fr:List (Nat×AV)} {tmps:Array Value},bf (aT w V ι N) xs us→(∀p∈ps,p<tmps.size)→
  (∀t,aT w V ι N (aZ fr t) (tmps.getD t undef))→ ∀t,aT w V ι N (aZ (BT ps xs fr) t) (((ps.zip us).foldl (λtmps (x:Nat×Value)=>tmps.setIfInBounds x.1 x.2) tmps).getD t undef)
 | [],_,_,_,_,_,_,h,t=>by simpa[BT]using h t
 |p::ps,_,_,fr,tmps,.nil,_,h,t=>by simpa[BT]using h t
 |p::ps,_,_,fr,tmps,.cons (a:=x) (b:=u) hx hr,hp,h,t=>by
  refine Cr (ps:=ps) (fr:=(p,x)::fr) (tmps:=tmps.setIfInBounds p u) hr (λq hq=>by rw[Array.size_setIfInBounds];exact hp q (zC3 _ hq)) (λs=> ?_) t
  have A:=hp p zC5
  rw[gz]
  by_cases e:p=s
  ·subst e
   rw[if_pos rfl]
   have:(tmps.setIfInBounds p u).getD p undef=u:=by simp[zC4,A]
   rw[this]
   exact hx
  ·rw[if_neg e]
   have:(tmps.setIfInBounds p u).getD s undef=tmps.getD s undef:=by simp[zC4,zK2,e]
   rw[this]
   exact h s
theorem yc: ∀{ps:List Nat} {us:List Value} {tmps:Array Value},((ps.zip us).foldl (λtmps (x:Nat×Value)=>tmps.setIfInBounds x.1 x.2) tmps).size=tmps.size
 | [],_,_=>by simp
 |_::_, [],_=>by simp
 |p::ps,u::us,tmps=>by
  rw[List.zip_cons_cons,List.foldl_cons,yc,Array.size_setIfInBounds]
variable {ps:List Nat}{body:aj}{g:FuncId}{caps:List AC}{pcaps:List AV}{xs:List (List AV)}{τ:Type}
theorem Xe {fx:AX} {asg:aj} 
  (bs:Nat) (fr0:List (Nat×AV)) (mk:Nat→τ→List (Nat×bP)×Nat) (I:Nat→τ→Prop)
  (hf:fx.ev σ.fr= .c (.clo g caps)) (hp:bk σ.mem (caps.map .c)=some pcaps) (HX:(caps.map AV.c).all sO=true)
  (hY:jH P g pcaps xs) (ha: ∀x∈xs,x.length=ps.length) (hb:σ.base≤bs∧bs≤σ.nx) (h8:jy [] σ.fr bs fr0)
  (h0: ∃t l,I 0 t∧Wk l ⟨[],σ.mem,σ.nx,bs⟩ ⟨[],(mk 0 t).1,(mk 0 t).2,bs⟩)
  (hM: ∀k x t,xs[k]? =some x→I k t→AW P nt asg ⟨BT ps x fr0,(mk k t).1,(mk k t).2,bs⟩ (aft P nt body (LO mk I bs fr0 σ.base Q k)))
  (HF: ∀t,I xs.length t→Q .normal ⟨fr0,(mk xs.length t).1,(mk xs.length t).2,σ.base⟩):AW P nt (.rangeF fx ps asg body) σ Q:=by
 intro c' hc w0 U rd ds ι a w HV hs hz
 cases c'<;>simp[cn]at hc
 all_goals(try(split at hc<;>simp at hc))
 rename_i f' ps' asg' body' _ _ _ _ x2 x3 x4 HY gn O q0
 obtain⟨rfl,rfl,rfl,rfl⟩:=hc
 have go: ∀p∈ps'.toList,p<nt:= λp hp=>by simpa using zO9.1 q0 p (zP5.1 hp)
 have hsz0:=hs.below.size
 have hv:=aq HY hs
 rw[hf]at hv
 obtain⟨cv,q4,gt,hu⟩: ∃cv:Array Value,caps.length=cv.size∧(∀(i:Nat) x,caps[i]? =some x→dE w (aV w0.heap.size U ι σ.mem) ι σ.nx x (cv.toList[i]?.getD undef))∧a.eval f'= .func (.func g) #[] cv:=by
  generalize a.eval f'=u at hv
  cases hv with
  |c h=>
   cases h with
   |clo hl h=>exact⟨_,hl,h,rfl⟩
 have g0:bf (aT w (aV w0.heap.size U ι σ.mem) ι σ.nx) (caps.map .c) cv.toList:=by
  refine bf.of_get (by simp[q4]) λi x v hi q5=> ?_
  rw[zC7]at hi
  obtain⟨y,hy,rfl⟩:=zC1.1 hi
  have:=gt i y hy
  rw[q5]at this
  exact .c this
 have q6:=o6 (V:=aV w0.heap.size U ι σ.mem) hs g0 (λ_ h=>h) (.inl HX) hp
 have hfree_lt: ∀{b:Nat},aV w0.heap.size U ι σ.mem b→True:= λ_=>trivial
 have hB: ∀args w,(callFunc g args).run P w= .ok (.enter g args) w:=by
  obtain⟨fn,HZ,O,hD⟩:=hY.1
  have hb: ¬fn.body=none:=by intro e;rw[e]at O;cases O
  have hP : ¬ fn.name = "runtime.NumGoroutine" := by intro e; rw [e] at hD; simp at hD
  intro args w
  simp[callFunc,HZ,hP,hb]
 refine wpIn_rangeFunc (F:=FR rd) λfn _=> ?_
 obtain⟨l,D,dfr,mark,w1,g5,HG,Hk,q7,hw1l,h9,Hz⟩: ∃(l D dfr:Nat) (mark:List Deferred) (w1:World),
   (Instr.enterLoop fn (sh ds a).tmps ps' asg' body' (FR rd).round).run P w= .ok (l,mark) w1∧Below w.heap.size w w1∧
   w1.heap[l]? =some (.loop {state:= .ready,pending:=none,fn,tmps:=a.tmps,params:=ps',assign:=asg',body:=body',defers:=dfr})∧w.heap.size≤l∧
   w1.heap.size=l+1∧(rd=none→w.heap.size≤D∧D≠l∧w1.heap[D]? =some (.deferred (some [])))∧((rd=none∧mark= [{target:= .collected D,args:= #[]}])∨((∃l0,rd=some l0)∧mark= [])):=by
  cases rd with
  |none=>
   refine⟨w.heap.size+1,w.heap.size,w.heap.size,_,_,run_enterLoop_outer _ _ _ _ _,((Below.refl _ w).alloc (zB2 _) _).alloc zR6 _, ?_,by omega,by simp,λ_=>⟨zB2 _,by omega, ?_⟩,.inl ⟨rfl,rfl⟩⟩
   ·have:=World.alloc_heap_new (w.alloc (.deferred (some []))) (.loop {state:= .ready,pending:=none,fn,tmps:=a.tmps,params:=ps',assign:=asg',body:=body',defers:=w.heap.size})
    rwa [World.size_alloc]at this
   ·exact(Below.heap_alloc _ _ _ zR6).trans (World.alloc_heap_new w _)
  |some l0=>
   obtain⟨r0,q8⟩:=HV l0 rfl _ _ hs.keep
   exact⟨w.heap.size,0,r0.defers, [],_,run_enterLoop_inner q8 _ _ _ _ _,(Below.refl _ w).alloc (zB2 _) _,World.alloc_heap_new w _,zB2 _,by simp,(λh=>by cases h),.inr ⟨⟨l0,rfl⟩,rfl⟩⟩
 generalize g6:(λ(st:LoopState) (pe:Option Code)=>({state:=st,pending:=pe,fn,tmps:=a.tmps,params:=ps',assign:=asg',body:=body',defers:=dfr}:Loop))=rec
 have K: ∀st pe,rec st pe={state:=st,pending:=pe,fn,tmps:=a.tmps,params:=ps',assign:=asg',body:=body',defers:=dfr}:= λst pe=>by rw[←g6]
 rw[←K]at Hk
 have g7:=(zC6.1 Hk).1
 refine⟨l,mark,w1,{target:= .fn (.func g) cv,args:= #[.func (.yield l) #[] #[]]},w1,g, #[.func (.yield l) #[] #[]]++cv,w1,g5, ?_,λ_ _=>trivial, ?_,λh=>by simp[FR,Fence.wide]at h, ?_⟩
 ·have he:(sh ds a).eval f'= .func (.func g) #[] cv:=by rw[re];exact hu
  simp only[resolve,he]
  simp[go_sem]
 ·simp[invoke,go_sem,hB]
 let Stay:World→(Nat→Prop)→Prop:= λW V=>(∀b,b<w.heap.size→aV w0.heap.size U ι σ.mem b→V b∧W.heap[b]? =w.heap[b]?)∧(rd=none→V D∧W.heap[D]? =some (.deferred (some [])))
 have stay_mono: ∀(W W':World) (V V':Nat→Prop),Stay W V→(∀b,b<W.heap.size→V b→V' b)→(∀b,b<W.heap.size→V b→W'.heap[b]? =W.heap[b]?)→Stay W' V':=by
  rintro W W' V V' ⟨h2,h3⟩ hV hw
  refine⟨λb hb hf=> ?_,λe=> ?_⟩
  ·obtain⟨k1,k2⟩:=h2 b hb hf
   have A:b<W.heap.size:=by
    have:w.heap[b]? =some w.heap[b]:=by simp[hb]
    rw[this]at k2
    exact(zC6.1 k2).1
   exact⟨hV b A k1,(hw b A k1).trans k2⟩
  ·obtain⟨k1,k2⟩:=h3 e
   have A:=(zC6.1 k2).1
   exact⟨hV D A k1,(hw D A k1).trans k2⟩
 let Us:Loop→(Nat→Prop)→World→Gh:= λr S Ws=>⟨U.p,ι,λW V=>Stay W V∧V l∧W.heap[l]? =some (.loop r)∧(∀b,S b→b<Ws.heap.size∧V b∧W.heap[b]? =Ws.heap[b]?),λW W' V V' ⟨h1,h2,h3,h4⟩ hV hw=>by
  have A:=(zC6.1 h3).1
  refine⟨stay_mono W W' V V' h1 hV hw,hV l A h2,(hw l A h2).trans h3,λb hb=> ?_⟩
  obtain⟨q1,q2,q3⟩:=h4 b hb
  have A:b<W.heap.size:=by
   have:Ws.heap[b]? =some Ws.heap[b]:=by simp[q1]
   rw[this]at q3
   exact(zC6.1 q3).1
  exact⟨q1,hV b A q2,(hw b A q2).trans q3⟩⟩
 let Ur:Loop→Gh:= λr=>Us r (λ_=>False) w
 let Ue:Gh:=⟨U.p,U.ι0,λW V=>Stay W V,λW W' V V' h1 hV hw=>stay_mono W W' V V' h1 hV hw⟩
 have stayU: ∀W V,Stay W V→U.G W V:= λW V h=>U.mono w W _ V hs.keep (λb hb hf=>(h.1 b hb hf).1) (λb hb hf=>(h.1 b hb hf).2)
 have DN: ∀{ι':Pl} {mem:List (Nat×bP)} {W:World} {Ub:Gh} {nx b0:Nat} {fr:List (Nat×AV)} {a':Act} {q:Nat},ci w0 Ub ⟨fr,mem,nx,b0⟩ ι' a' W→w.heap.size≤q→W.heap.size≤q→aV w0.heap.size Ub ι' mem q:= λhS h1 h2=>
  ⟨.inr zR5,λnm bx hn e=>by have:=((hS.box nm bx hn).block e).2;omega⟩
 have free_lp: ∀{ι':Pl} {mem:List (Nat×bP)} {W:World} {Ub:Gh} {nx b0:Nat} {fr:List (Nat×AV)} {a':Act} {q:Nat} {o:Obj},ci w0 Ub ⟨fr,mem,nx,b0⟩ ι' a' W→w.heap.size≤q→W.heap[q]? =some o→ads o=true→aV w0.heap.size Ub ι' mem q:= λhS h1 h2 h3=>
  ⟨.inr zR5,λnm bx hn e=>hS.not_lp hn e ⟨_,h2,h3⟩⟩
 have outer: ∀{r:Loop} {S:Nat→Prop} {Ws:World} {σ2:St} {ι2:Pl} {a2:Act} {W:World},ci w0 (Us r S Ws) σ2 ι2 a2 W→σ2.base=bs→ci w0 (Us r S Ws) ⟨fr0,σ2.mem,σ2.nx,bs⟩ ι2 a W:=by
  intro r S Ws σ2 ι2 a2 W h hU
  refine⟨λt=> ?_,hs.defers,h.names,h.box,h.apart,h.below,h.keep,by rw[←hU];exact h.base⟩
  obtain⟨h1,h2⟩:=aav h8 t
  rcases h1 with h1|h1
  ·have hv:=hs.val t
   rw[h1]at hv
   have q9:=hv.cl (V':=aV w0.heap.size U ι σ.mem) (λ_ h=>h) h2
   refine q9.mono (λb A hf=>(h.keep.1.1 b A hf).1) (λb A hf=>(h.keep.1.1 b A hf).2) (λnm HA=> ?_) (by rw[←hU];exact h.base.1)
   have:=h.base.2 nm (by rw[hU];exact HA)
   exact this
  ·show aT _ _ _ _ (aZ fr0 t) _
   rw[h1];exact .top
 let rdy:=rec .ready none
 let OkS:(Nat→Prop)→World→Pl→List (Nat×bP)→Prop:= λS W ι' mem=> ∀b,S b→b<W.heap.size∧b≠l∧aV w0.heap.size U ι' mem b
 let J:Option Nat→(Nat→Prop)→World→Prop:= λk S W=>match k with
  |some k=> ∃t ι',I k t∧ci w0 (Ur rdy) ⟨fr0,(mk k t).1,(mk k t).2,bs⟩ ι' a W∧OkS S W ι' (mk k t).1
  |none=> ∃(e:bv) (σ2:St) (ι':Pl),e≠ .normal∧Q e ⟨fr0,σ2.mem,σ2.nx,σ.base⟩∧ci w0 (Ur (rec .done (some (xY e)))) ⟨fr0,σ2.mem,σ2.nx,bs⟩ ι' a W∧OkS S W ι' σ2.mem
 have w1sz:w.heap.size≤w1.heap.size:=HG.size
 have grow: ∀{r:Loop} {σ2:St} {ι2:Pl} {a2:Act} {W W':World},ci w0 (Ur r) σ2 ι2 a2 W→wC w1.heap.size W W'→ci w0 (Ur r) σ2 ι2 a2 W':=by
  intro r σ2 ι2 a2 W W' h hg
  refine h.growL (n:=w1.heap.size) zR5 hg rfl rfl ?_
  obtain⟨⟨k1,k2⟩,k3,k4,_⟩:=h.keep
  have g8:=(zC6.1 k4).1
  refine⟨⟨λb hb hf=> ?_,λe=> ?_⟩,k3,(hg.old g7 g8).trans k4,λb hb=>hb.elim⟩
  ·obtain⟨q1,q2⟩:=k1 b hb hf
   exact⟨q1,(hg.old zR5 zR5).trans q2⟩
  ·obtain⟨q1,q2⟩:=k2 e
   have h1:=(zC6.1 (h9 e).2.2).1
   exact⟨q1,(hg.old h1 (zC6.1 q2).1).trans q2⟩
 have turn: ∀{r r':Loop} {S:Nat→Prop} {Ws:World} {σ2:St} {ι2:Pl} {a2:Act} {W:World},ci w0 (Us r S Ws) σ2 ι2 a2 W→(∀b,S b→b≠l)→ci w0 (Us r' S Ws) σ2 ι2 a2 (W.putObj l (.loop r')):=by
  intro r r' S Ws σ2 ι2 a2 W h hQ
  obtain⟨⟨k1,k2⟩,k3,k4,k5⟩:=h.keep
  refine h.turn (.loop r') k4 rfl zR5 rfl rfl ⟨⟨λb hb hf=> ?_,λe=> ?_⟩,k3,World.putObj_heap_same (zC6.1 k4).1,λb hb=>⟨(k5 b hb).1,(k5 b hb).2.1,(World.putObj_heap_other (hQ b hb)).trans (k5 b hb).2.2⟩⟩
  ·obtain⟨q1,q2⟩:=k1 b hb hf
   exact⟨q1,(World.putObj_heap_other zR5).trans q2⟩
  ·obtain⟨q1,q2⟩:=k2 e
   exact⟨q1,(World.putObj_heap_other (h9 e).2.1).trans q2⟩
 have final: ∀{e':bv} {r r':Loop} {mem:List (Nat×bP)} {nx:Nat} {ι2:Pl} {W:World},ci w0 (Ur r) ⟨fr0,mem,nx,bs⟩ ι2 a W→Q e' ⟨fr0,mem,nx,σ.base⟩→
   Lw w0 U rd ds nt Q (kT e') {sh ds a with defers:=mark++(sh ds a).defers} (W.putObj l (.loop r')):=by
  intro e' r r' mem nx ι2 W h hq
  have h1:=turn (r':=r') h (λ_ hb=>hb.elim)
  have hE:ci w0 Ue ⟨fr0,mem,nx,σ.base⟩ ι2 a (W.putObj l (.loop r')):=
   ⟨h1.val,h1.defers,h1.names,h1.box,h1.apart,h1.below,h1.keep.1,⟨zK3 hb.1 h1.base.1,λnm HA=>(h1.base.2 nm (zH1 HA hb.1)).trans (hs.base.2 nm HA)⟩⟩
  have he:({sh ds a with defers:=mark++(sh ds a).defers}:Act)=sh (mark++ds) a:=by simp[sh,hs.defers.1]
  rw[he]
  rcases Hz with⟨hn,hm⟩|⟨⟨l0,hl0'⟩,hm⟩
  ·refine⟨e',_,ι2,Ue,mark++ds,a,rfl,hq,hE,hz,rfl, ?_⟩
   rw[hm]
   refine A3.mark (U':=U) (D:=D) .refl hn (by have:=(h9 hn).1;omega) rfl rfl λW V h=>⟨stayU W V h,(h.2 hn).1,(h.2 hn).2, ?_⟩
   exact U.mono w _ _ V hs.keep (λb hb hf=>(h.1 b hb hf).1) (λb hb hf=>(World.putObj_heap_other (by have:=(h9 hn).1;omega)).trans (h.1 b hb hf).2)
  ·refine⟨e',_,ι2,U,mark++ds,a,rfl,hq,⟨hE.val,hE.defers,hE.names,hE.box,hE.apart,hE.below,stayU _ _ hE.keep,hE.base⟩,hz,rfl, ?_⟩
   rw[hm]
   exact .refl
 have rdRound: ∀r S Ws,acC (Us r S Ws) (some l):= λr S Ws l' e W V hG=>by
  cases e
  exact⟨_,hG.2.2.1⟩
 have weak: ∀{r:Loop} {S:Nat→Prop} {Ws:World} {σ2:St} {ι2:Pl} {a2:Act} {W:World},ci w0 (Us r S Ws) σ2 ι2 a2 W→ci w0 (Ur r) σ2 ι2 a2 W:= λh=>
  ⟨h.val,h.defers,h.names,h.box,h.apart,h.below,⟨h.keep.1,h.keep.2.1,h.keep.2.2.1,λb hb=>hb.elim⟩,h.base⟩
 have okGrow: ∀{S:Nat→Prop} {W W':World} {ι':Pl} {mem:List (Nat×bP)} {Ub:Gh} {nx b0:Nat} {fr:List (Nat×AV)} {a':Act},Ub.p=U.p→ci w0 Ub ⟨fr,mem,nx,b0⟩ ι' a' W→w1.heap.size≤W.heap.size→W.heap.size≤W'.heap.size→OkS S W ι' mem→OkS (λb=>S b∨W.heap.size≤b∧b<W'.heap.size) W' ι' mem:=by
  intro S W W' ι' mem Ub nx b0 fr a' hUp hS hw hg h b hb
  rcases hb with hb|⟨h1,h2⟩
  ·exact⟨zH1 (h b hb).1 hg,(h b hb).2⟩
  ·exact⟨h2,by omega,.inr zR5,λnm bx hn e=>by have:=((hS.box nm bx hn).block e).2;omega⟩
 have sz: ∀{r:Loop} {S:Nat→Prop} {Ws:World} {σ2:St} {ι2:Pl} {a2:Act} {W:World},ci w0 (Us r S Ws) σ2 ι2 a2 W→w1.heap.size≤W.heap.size:= λh=>by
  have:=(zC6.1 h.keep.2.2.1).1
  omega
 refine Jj ((hY.2 l (λb=>aV w0.heap.size U ι σ.mem b∧b<w.heap.size) J w1 cv (hs.glob.below (zB2 _) HG) ?_ ⟨?_, ?_, ?_, ?_⟩ ?_).mono ?_)
 ·exact q6.mono λ_ _ h=>h.mono (λb hb hf=>⟨hf,hb⟩) (λb hb _=>HG.block b hb) (λ_ _=>rfl) (zB2 _)
 ·intro k S W W' h hg
  cases k with
  |some k=>
   obtain⟨t,ι',hI,h,M⟩:=h
   exact⟨t,ι',hI,grow h hg,okGrow (Ub:=Ur rdy) rfl h (sz h) hg.size M⟩
  |none=>
   obtain⟨e,σ2,ι',HB,hq,h,M⟩:=h
   exact⟨e,σ2,ι',HB,hq,grow h hg,okGrow (Ub:=Ur (rec .done (some (xY e)))) rfl h (sz h) hg.size M⟩
 ·intro k S W h
  cases k with
  |some k=>
   obtain⟨t,ι',hI,h,M⟩:=h
   exact⟨λb hb=>(M b hb).1,sz h,h.glob⟩
  |none=>
   obtain⟨e,σ2,ι',HB,hq,h,M⟩:=h
   exact⟨λb hb=>(M b hb).1,sz h,h.glob⟩
 ·intro k S S' W h HT
  cases k with
  |some k=>
   obtain⟨t,ι',hI,h,M⟩:=h
   exact⟨t,ι',hI,h,λb hb=>M b (HT b hb)⟩
  |none=>
   obtain⟨e,σ2,ι',HB,hq,h,M⟩:=h
   exact⟨e,σ2,ι',HB,hq,h,λb hb=>M b (HT b hb)⟩
 ·rintro k x S W us hx ⟨t,ι',hI,hF,M⟩ HC m
  obtain⟨⟨k1,k2⟩,k3,k4,_⟩:=hF.keep
  have hQ: ∀b,S b→b≠l:= λb hb=>(M b hb).2.1
  have zg:=ha x (zF0 hx)
  have zs:us.size=ps'.size:=by
   rw[←zD0,←HC.length,zg,zD0]
  have hy:=run_yield (P:=P) (args:=us) k4 (by simp only[rdy,K];exact zs)
  refine⟨fn,_,asg',body',by simp only[rdy,K]at hy;exact hy,roundIn_of_wpIn trivial ?_⟩
  have etm:(ps'.zip us).foldl (λtmps (x:Nat×Value)=>tmps.setIfInBounds x.1 x.2) a.tmps=(ps'.toList.zip us.toList).foldl (λtmps (x:Nat×Value)=>tmps.setIfInBounds x.1 x.2) a.tmps:=by
   rw[←zQ5,Array.toList_zip]
  have g9:bf (aT W (aV w0.heap.size (Us rdy S W) ι' (mk k t).1) ι' (mk k t).2) x us.toList:=HC.mono λ_ _ h=>h.mono (λb A h=>(M b h).2.2) (λ_ _ _=>rfl) (λnm HA=>absurd HA (zM0 _)) (zE6 _)
  have zz:ci w0 (Us rdy S W) ⟨BT ps'.toList x fr0,(mk k t).1,(mk k t).2,bs⟩ ι' {tmps:=(ps'.zip us).foldl (λtmps (x:Nat×Value)=>tmps.setIfInBounds x.1 x.2) a.tmps,defers:= []} W:=by
   refine⟨λs=> ?_,⟨rfl,hF.defers.2⟩,hF.names,hF.box,hF.apart,hF.below,⟨hF.keep.1,hF.keep.2.1,hF.keep.2.2.1,λb hb=>⟨(M b hb).1,(M b hb).2.2,rfl⟩⟩,hF.base⟩
   rw[etm]
   exact Cr g9 (by rw[hz];exact go) hF.val s
  have h1:=hM k x t hx hI _ gn w0 (Us rdy S W) (some l) [] ι' _ W (rdRound _ _ _) zz (by rw[etm,yc];exact hz)
  rw[lX]at h1
  refine wpIn_mono (z7 h1) ?_
  rintro e a1 W1 ⟨e',σ1,ι1,U',ds',a0,rfl,hq,Y,HD,rfl,z0⟩
  obtain⟨rfl,rfl⟩:=z0.inRound
  rw[lX]
  cases e' with
  |exit i=>exact hq.elim
  |ret=>exact hq.elim
  |normal=>
   have k4':=Y.keep.2.2.1
   refine⟨_,run_beginRound k4' (by simp only[rdy,K]), ?_⟩
   have HH:=turn (r':={rdy with state:= .busy}) Y hQ
   have h3:=hq _ O w0 (Us {rdy with state:= .busy} S W) (some l) [] ι1 a0 _ (rdRound _ _ _) HH HD
   rw[lX]at h3
   refine wpIn_mono (z7 h3) ?_
   rintro e a2 W2 ⟨e',σ2,ι2,U',ds',a3,rfl,HI,HK,hz3,rfl,z2⟩
   obtain⟨rfl,rfl⟩:=z2.inRound
   have k5:=HK.keep.2.2.1
   have er: ∀jump:Option Code,({({rdy with state:= .busy}:Loop)with state:=if jump.isNone then .ready else .done,pending:=jump}:Loop)=rec (if jump.isNone then .ready else .done) jump:= λjump=>by simp only[rdy,K]
   have hr:= λjump=>run_endRound (P:=P) jump k5
   simp only[er]at hr
   have kept: ∀r' c,S c→(W2.putObj l (.loop r')).heap[c]? =W.heap[c]? := λr' c hc=>(World.putObj_heap_other (hQ c hc)).trans (HK.keep.2.2.2 c hc).2.2
   have okS: ∀{ι3:Pl} {mem:List (Nat×bP)} {σ3:St} {a3:Act} {r r':Loop},ci w0 (Us r S W) σ3 ι3 a3 (W2.putObj l (.loop r'))→σ3.mem=mem→OkS S (W2.putObj l (.loop r')) ι3 mem:=by
    intro ι3 mem σ3 a3 r r' h e b hb
    subst e
    obtain⟨q1,q2,q3⟩:=h.keep.2.2.2 b hb
    refine⟨?_,hQ b hb,q2⟩
    have:W.heap[b]? =some W.heap[b]:=by simp[q1]
    rw[this]at q3
    exact(zC6.1 q3).1
   cases e' with
   |normal=>
    obtain⟨t',l',z3,H0⟩:=HI
    have h4:=turn (r':=rdy) HK hQ
    have h5:ci w0 (Us rdy S W) {σ2 with fr:= []} ι2 a3 (W2.putObj l (.loop rdy)):=⟨λ_=> .top,h4.defers,h4.names,h4.box,h4.apart,h4.below,h4.keep,h4.base⟩
    have h6:=outer (h5.wk H0) rfl
    exact⟨_,_,hr none,true,rfl,⟨t',_,z3,weak h6,okS h6 rfl⟩,kept _⟩
   |exit i=>
    obtain⟨hU,H1⟩:=HI
    have h6:=outer (turn (r':=rec .done (some (xY (.exit i)))) HK hQ) hU
    exact⟨_,_,hr (some (.exit i)),false,rfl,⟨.exit i,σ2,ι2,(λh=>by cases h),H1,weak h6,okS h6 rfl⟩,kept _⟩
   |ret=>
    obtain⟨hU,H1⟩:=HI
    have h6:=outer (turn (r':=rec .done (some (xY .ret))) HK hQ) hU
    exact⟨_,_,hr (some .ret),false,rfl,⟨.ret,σ2,ι2,(λh=>by cases h),H1,weak h6,okS h6 rfl⟩,kept _⟩
 ·obtain⟨t0,l0,z4,G2⟩:=h0
  have Y:=hs.grow HG
  have h8: ∀q,w.heap.size≤q→aV w0.heap.size U ι σ.mem q:= λq hq=>⟨.inr zR5,λnm bx hn e=>by have:=((hs.box nm bx hn).block e).2;omega⟩
  have h2:ci w0 (Us rdy (λb=>aV w0.heap.size U ι σ.mem b∧b<w.heap.size) w1) ⟨[],σ.mem,σ.nx,bs⟩ ι a w1:=⟨λ_=> .top,hs.defers,Y.names,Y.box,Y.apart,Y.below,
   ⟨⟨λb hb hf=>⟨hf,HG.block b hb⟩,λe=>⟨h8 D (h9 e).1,(h9 e).2.2⟩⟩,h8 l q7,Hk,λb hb=>⟨by omega,hb.1,rfl⟩⟩,⟨hb.2,λ_ _=>rfl⟩⟩
  have h3:=outer (h2.wk G2) rfl
  exact⟨t0,_,z4,weak h3,λb hb=>⟨by omega,by omega,(h3.keep.2.2.2 b hb).2.1⟩⟩
 ·rintro e W3 ⟨⟨v,rfl⟩,k,S',hk,h⟩
  cases k with
  |some k=>
   obtain rfl:k=xs.length:=by simpa using hk
   obtain⟨t,ι',hI,L,_⟩:=h
   have k:=L.keep.2.2.1
   have hr:=run_endLoop (P:=P) k (by simp only[rdy,K];simp)
   exact⟨_,_,hr,by simp only[rdy,K];exact final (e':= .normal) L (HF t hI)⟩
  |none=>
   obtain⟨e,σ2,ι',HB,hq,L,_⟩:=h
   have k:=L.keep.2.2.1
   have hr:=run_endLoop (P:=P) k (by simp only[K];simp)
   refine⟨_,_,hr, ?_⟩
   simp only[K]
   cases e with
   |normal=>exact absurd rfl HB
   |exit i=>exact wpIn_exit (final (e':= .exit i) L hq)
   |ret=>exact wpIn_ret (final (e':= .ret) L hq)
def adW (P:Program) (nt:Nat) (body:aj) (Q:bv→St→Prop):bv→St→Prop
 | .normal,σ=>gr P nt body σ Q
 |_,_=>False
variable {Q:bv→St→Prop}{σ:St}
theorem Sm:adW P nt body Q .normal σ=gr P nt body σ Q:=propext ⟨id,id⟩
variable {bs base k:Nat}{fr0:List (Nat×AV)}
theorem N3 {mk:Nat→τ→List (Nat×bP)×Nat} {I:Nat→τ→Prop}:LO mk I bs fr0 base Q k .normal σ= ∃t l,I (k+1) t∧Wk l {σ with fr:= []} ⟨[],(mk (k+1) t).1,(mk (k+1) t).2,bs⟩:=propext ⟨id,id⟩
theorem To {mk:Nat→τ→List (Nat×bP)×Nat} {I:Nat→τ→Prop} {i:Nat}:LO mk I bs fr0 base Q k (.exit i) σ=(σ.base=bs∧Q (.exit i) ⟨fr0,σ.mem,σ.nx,base⟩):=propext ⟨id,id⟩
theorem T2 {mk:Nat→τ→List (Nat×bP)×Nat} {I:Nat→τ→Prop}:LO mk I bs fr0 base Q k .ret σ=(σ.base=bs∧Q .ret ⟨fr0,σ.mem,σ.nx,base⟩):=propext ⟨id,id⟩
attribute [go_sem ↓] Sm N3 To T2
attribute [go_sem] BT
theorem tq {fx:AX} {asg:aj} 
  (bs:Nat) (fr0:List (Nat×AV)) (mk:Nat→τ→List (Nat×bP)×Nat) (I:Nat→τ→Prop)
  (hf:fx.ev σ.fr= .c (.clo g caps)) (hp:bk σ.mem (caps.map .c)=some pcaps) (HX:(caps.map AV.c).all sO=true)
  (hY:jH P g pcaps xs) (ha: ∀x∈xs,x.length=ps.length) (hb:σ.base≤bs∧bs≤σ.nx) (h8:jy [] σ.fr bs fr0)
  (h0: ∃t l,I 0 t∧Wk l ⟨[],σ.mem,σ.nx,bs⟩ ⟨[],(mk 0 t).1,(mk 0 t).2,bs⟩)
  (hM: ∀k x t,xs[k]? =some x→I k t→gr P nt asg ⟨BT ps x fr0,(mk k t).1,(mk k t).2,bs⟩ (adW P nt body (LO mk I bs fr0 σ.base Q k)))
  (HF: ∀t,I xs.length t→Q .normal ⟨fr0,(mk xs.length t).1,(mk xs.length t).2,σ.base⟩):AW P nt (.rangeF fx ps asg body) σ Q:=
 Xe bs fr0 mk I hf hp HX hY ha hb h8 h0 (λk x t hx hI=>(aa (hM k x t hx hI)).mono λe σ h=>by
  cases e with
  |normal=>exact aa h
  |exit i=>exact h
  |ret=>exact h) HF
end
open Go.RowKit
def yv (l:Nat):AV:= .c (.pure (.val (.func (.yield l) #[] #[])))
section
variable {P : Program}
theorem nw {dr:Bool} {nt:Nat} {ops:Array Oper}: ∀{l:List Oper} {gs:List AG} (n:Nat),gL P dr nt ops l=some gs→gL P dr nt ops (l.take n)=some (gs.take n)∧gL P dr nt ops (l.drop n)=some (gs.drop n)∧
  ∀g,gs[n]? =some g→ ∃o,l[n]? =some o∧xA P dr nt ops o=some g
 |[],gs,n,h=>by
  cases h
  simp[gL]
 |o::l,gs,n,h=>by
  have h0:=h
  unfold gL at h
  split at h
  ·rename_i g gs' h1 h2
   cases h
   cases n with
   |zero=>
    refine⟨rfl,h0,λg' hg=> ?_⟩
    simp at hg
    subst hg
    exact⟨o,rfl,h1⟩
   |succ n=>
    obtain⟨k1,k2,k3⟩:=nw n h2
    refine⟨?_,k2,k3⟩
    simp only[zN5]
    unfold gL
    rw[h1,k1]
  ·cases h
theorem bO {rd:Option Nat} {n:Nat} {ops:Array Oper} {Q1 Q:Exit→Act→World→Prop} {l2:List Oper} (hq: ∀a w,Q1 .normal a w→wpListIn (FR rd) n P ops Q l2 a w) (hx: ∀e a w,Q1 e a w→e= .normal): ∀{l1:List Oper} {a:Act} {w:World},
  wpListIn (FR rd) n P ops Q1 l1 a w→wpListIn (FR rd) n P ops Q (l1++l2) a w
 | [],a,w,h=>hq a w h
 |o::l1,a,w,h=>by
  rw[zD2]
  unfold wpListIn at h ⊢
  split at h
  ·rename_i hw
   rw[if_pos hw]
   obtain⟨h1,h2⟩:=h
   refine⟨h1, ?_⟩
   generalize (o.semAt (FR rd).round a.eval).run P w=r at h2
   cases r with
   |ok nx w'=>
    cases nx<;>simp only[Oper.uponIn]at h2 ⊢
    case value v=>exact bO hq hx h2
    case skip=>exact bO hq hx h2
    case defer d=>exact bO hq hx h2
    case enter f args=>
     refine⟨h2.1,h2.2.mono λe w'' h=> ?_⟩
     cases e with
     |returned v=>exact bO hq hx h
     |panicked ch=>exact absurd (hx _ _ _ h) zR6
     |outgrown=>obtain⟨_,_,h⟩:=h;exact absurd (hx _ _ _ h) zR6
    case row row args=>exact⟨h2.1,h2.2.mono λv w'' h=>bO hq hx h⟩
    case round l f tmps asg body=>
     refine⟨h2.1,h2.2.mono λe w'' h=> ?_⟩
     cases e with
     |returned v=>exact bO hq hx h
     |panicked ch=>exact absurd (hx _ _ _ h) zR6
     |outgrown=>obtain⟨_,_,h⟩:=h;exact absurd (hx _ _ _ h) zR6
   |halt hh w'=>
    cases hh<;>simp only[Oper.uponIn]at h2 ⊢
    case panic v=>exact absurd (hx _ _ _ h2) zR6
  ·rename_i hw
   rw[if_neg hw]
   exact⟨h.1,bO hq hx h.2⟩
def SY (S:Nat→Prop) (fr:List (Nat×AV)) (a:Act) (W:World):Prop:=(∀t,aT W S (λ_=>undef) 0 (aZ fr t) (a.tmps.getD t undef))∧a.defers= []
def Ni (S:Nat→Prop) (W:World) (S':Nat→Prop) (W':World):Prop:= ∀b,S b→S' b∧W'.heap[b]? =W.heap[b]?
variable {S:Nat→Prop}{W:World}
theorem Ni.refl:Ni S W S W:= λ_ h=>⟨h,rfl⟩
theorem Ni.trans {S' S'':Nat→Prop} {W' W'':World} (h:Ni S W S' W') (k:Ni S' W' S'' W''):Ni S W S'' W'':= λb hb=>⟨(k b (h b hb).1).1,(k b (h b hb).1).2.trans (h b hb).2⟩
variable {fr:List (Nat×AV)}{a:Act}
theorem SY.kept {S':Nat→Prop} {W':World} (h:SY S fr a W) (k:Ni S W S' W'):SY S' fr a W':=
 ⟨λt=>(h.1 t).mono (λb _ hb=>(k b hb).1) (λb _ hb=>(k b hb).2) (λ_ _=>rfl) (zB2 _),h.2⟩
def GB (nt:Nat) (J:Option Nat→(Nat→Prop)→World→Prop) (S0:Nat→Prop) (W0:World) (Q:bv→Option Nat→List (Nat×AV)→Prop):Exit→Act→World→Prop:= λe a W=>
 ∃e' k fr S,e=kT e'∧Q e' k fr∧J k S W∧SY S fr a W∧a.tmps.size=nt∧Ni S0 W0 S W
variable {nt:Nat}{J:Option Nat→(Nat→Prop)→World→Prop}{Q:bv→Option Nat→List (Nat×AV)→Prop}
theorem GB.kept {S0 S1:Nat→Prop} {W0 W1:World} {e:Exit} (h:GB nt J S1 W1 Q e a W) (k:Ni S0 W0 S1 W1):GB nt J S0 W0 Q e a W:=by
 obtain⟨e',k',fr,S,h1,h2,h3,h4,h5,h6⟩:=h
 exact⟨e',k',fr,S,h1,h2,h3,h4,h5,k.trans h6⟩
theorem GB.here {e':bv} {k:Option Nat} (hq:Q e' k fr) (hJ:J k S W) (hs:SY S fr a W) (hz:a.tmps.size=nt):GB nt J S W Q (kT e') a W:=
 ⟨e',k,fr,S,rfl,hq,hJ,hs,hz,.refl⟩
def AY (P:Program) (nt:Nat) (J:Option Nat→(Nat→Prop)→World→Prop) (c:aj) (k:Option Nat) (fr:List (Nat×AV)) (Q:bv→Option Nat→List (Nat×AV)→Prop):Prop:=
 ∀(c':Code),cn P nt c'=some c→ ∀S a W,J k S W→SY S fr a W→a.tmps.size=nt→c'.wpIn (FR none) 0 P (GB nt J S W Q) a W
end
section
variable {P : Program} {nt : Nat} {J : Option Nat → (Nat → Prop) → World → Prop} {k : Option Nat} {fr : List (Nat × AV)} {Q : bv → Option Nat → List (Nat × AV) → Prop}
theorem mW (h:Q .normal k fr):AY P nt J .skip k fr Q:=by
 intro c' hc S a W hJ hs hz
 cases c'<;>simp[cn]at hc
 ·exact wpIn_skip (GB.here (e':= .normal) h hJ hs hz)
 all_goals(try(split at hc<;>simp at hc))
theorem B1 (h:Q .ret k fr):AY P nt J .ret k fr Q:=by
 intro c' hc S a W hJ hs hz
 cases c'<;>simp[cn]at hc
 all_goals(try(split at hc<;>simp at hc))
 exact wpIn_ret (GB.here (e':= .ret) h hJ hs hz)
variable {id:Nat}
theorem Ji (h:Q (.exit id) k fr):AY P nt J (.exit id) k fr Q:=by
 intro c' hc S a W hJ hs hz
 cases c'<;>simp[cn]at hc
 all_goals(try(split at hc<;>simp at hc))
 subst hc
 exact wpIn_exit (GB.here (e':= .exit _) h hJ hs hz)
def aci (P:Program) (nt:Nat) (J:Option Nat→(Nat→Prop)→World→Prop) (y:aj) (Q:bv→Option Nat→List (Nat×AV)→Prop):bv→Option Nat→List (Nat×AV)→Prop
 | .normal,k,fr=>AY P nt J y k fr Q
 | .exit i,k,fr=>Q (.exit i) k fr
 | .ret,k,fr=>Q .ret k fr
variable {x:aj}
theorem cH {y:aj} (h:AY P nt J x k fr (aci P nt J y Q)):AY P nt J (.seq x y) k fr Q:=by
 intro c' hc S a W hJ hs hz
 cases c'<;>simp[cn]at hc
 all_goals(try(split at hc<;>simp at hc))
 rename_i b1 b2 c1 c2 h1 h2
 obtain⟨rfl,rfl⟩:=hc
 refine wpIn_seq (wpIn_mono (h _ h1 S a W hJ hs hz) ?_)
 rintro e a1 W1 ⟨e',k',fr',S',rfl,hq,Z,C,H,hk⟩
 cases e' with
 |normal=>exact wpIn_mono (hq _ h2 S' a1 W1 Z C H) λe a w h=>h.kept hk
 |exit id=>exact⟨.exit id,k',fr',S',rfl,hq,Z,C,H,hk⟩
 |ret=>exact⟨.ret,k',fr',S',rfl,hq,Z,C,H,hk⟩
def ZQ (id:Nat) (Q:bv→Option Nat→List (Nat×AV)→Prop):bv→Option Nat→List (Nat×AV)→Prop
 | .normal,k,fr=>Q .normal k fr
 | .exit i,k,fr=>if i=id then Q .normal k fr else Q (.exit i) k fr
 | .ret,k,fr=>Q .ret k fr
theorem ns (h:AY P nt J x k fr (ZQ id Q)):AY P nt J (.block id x) k fr Q:=by
 intro c' hc S a W hJ hs hz
 cases c'<;>simp[cn]at hc
 all_goals(try(split at hc<;>simp at hc))
 rename_i i1 c1
 obtain⟨rfl,h1⟩:i1=id∧cn P nt c1=some x:=by simp_all
 refine wpIn_block (wpIn_mono (h _ h1 S a W hJ hs hz) ?_)
 rintro e a1 W1 ⟨e',k',fr',S',rfl,hq,Z,C,H,hk⟩
 cases e' with
 |normal=>exact⟨.normal,k',fr',S',rfl,hq,Z,C,H,hk⟩
 |exit i=>
  simp only[ZQ]at hq
  by_cases hi:i=i1
  ·rw[if_pos hi]at hq
   simp only[kT,Exit.inBlock,if_pos hi]
   exact⟨.normal,k',fr',S',rfl,hq,Z,C,H,hk⟩
  ·rw[if_neg hi]at hq
   simp only[kT,Exit.inBlock,if_neg hi]
   exact⟨.exit i,k',fr',S',rfl,hq,Z,C,H,hk⟩
 |ret=>exact⟨.ret,k',fr',S',rfl,hq,Z,C,H,hk⟩
variable {W:World}
theorem Vl {W1:World} {b:Nat} (hl:b<W.heap.size) (h:W1.heap[b]? =W.heap[b]?):b<W1.heap.size:=by
 have:W.heap[b]? =some W.heap[b]:=by simp[hl]
 rw[this]at h
 exact(zC6.1 h).1
def Xt (S:Nat→Prop) (W:World) (A: ∀b,S b→b<W.heap.size):Gh:=⟨S,λ_=>undef,λW' V=> ∀b,S b→V b∧W'.heap[b]? =W.heap[b]?,λW1 W2 V1 V2 h hV hw b hb=>by
 obtain⟨h1,h2⟩:=h b hb
 have hl:=Vl (A b hb) h2
 exact⟨hV b hl h1,(hw b hl h1).trans h2⟩⟩
variable {S:Nat→Prop}{a:Act}
theorem SY.sim (hs:SY S fr a W) (A: ∀b,S b→b<W.heap.size) (hG:wY W):ci W (Xt S W A) ⟨fr, [],0,0⟩ (λ_=>undef) a W:=by
 have hf: ∀b,S b→aV W.heap.size (Xt S W A) (λ_=>undef) [] b:= λb hb=>⟨.inl hb,λnm bx hn=>by cases hn⟩
 exact⟨λt=>(hs.1 t).mono (λb _ h=>hf b h) (λ_ _ _=>rfl) (λ_ _=>rfl) (zB2 _),⟨hs.2,hG⟩,(λnm bx hn=>by cases hn),(λnm bx hn=>by cases hn),(λnm nm' b1 b2 b hn=>by cases hn),Below.refl _ _,λb hb=>⟨hf b hb,rfl⟩,⟨zB2 _,λ_ h=>absurd h (zM0 _)⟩⟩
def gT (σ:St):List (Nat×AV)→Prop
 | []=>True
 |(t,v)::r=>(aZ σ.fr t=v∨v= .top∨cK σ.mem (aZ σ.fr t)=some v)∧kx 0 v∧gT σ r
theorem aal {v:AV}:dv [] v=v:=by
 have hC: ∀x:AC,dC [] x=x:= λx=>by cases x<;>rfl
 have hA: ∀x:AC,c7 [] x=x:= λx=>by cases x<;>simp[c7,rn,zN6 (λy _=>hC y)]
 cases v<;>simp[dv,hA,zN6 (λy _=>hA y)]
variable {σ:St}{fr':List (Nat×AV)}
theorem ZR (h:gT σ fr') (t:Nat):(aZ σ.fr t=aZ fr' t∨aZ fr' t= .top∨cK σ.mem (aZ σ.fr t)=some (aZ fr' t))∧kx 0 (aZ fr' t):=by
 induction fr' with
 |nil=>exact⟨.inr (.inl rfl),trivial⟩
 |cons x r ih=>
  obtain⟨k,v⟩:=x
  obtain⟨h1,h2,h3⟩:=h
  rw[gz]
  by_cases e:k=t
  ·subst e
   rw[if_pos rfl]
   exact⟨h1,h2⟩
  ·rw[if_neg e]
   exact ih h3
theorem SY.back {W':World} {A: ∀b,S b→b<W.heap.size} {ι:Pl} (hs:ci W (Xt S W A) σ ι a W') (hw:gT σ fr'):SY (λb=>S b∨W.heap.size≤b∧b<W'.heap.size) fr' a W':=by
 refine⟨λt=> ?_,hs.defers.1⟩
 obtain⟨h1,h2⟩:=ZR hw t
 rcases h1 with h1|h1|h1
 ·have:=hs.val t
  rw[h1]at this
  have h3:=(show aT W' (aV W.heap.size (Xt S W A) ι σ.mem) ι σ.nx (dv [] (aZ fr' t)) _ by rw[aal];exact this).cl (V':= λb=>S b∨W.heap.size≤b) (λb h=>h.1) h2
  exact h3.mono (λb hl h=>h.imp id λh=>⟨h,hl⟩) (λ_ _ _=>rfl) (λnm h=>absurd h (zM0 _)) (zB2 _)
 ·rw[h1];exact .top
 ·have h3:=D5 (V:= λb=>S b∨W.heap.size≤b) hs (hs.val t) h1 (λb h=>h.1) (.inr λb h=> .inr h)
  exact h3.mono (λb hl h=>h.imp id λh=>⟨h,hl⟩) (λ_ _ _=>rfl) (λ_ _=>rfl) (zB2 _)
theorem j8 {W':World} {A: ∀b,S b→b<W.heap.size} {ι:Pl} (hs:ci W (Xt S W A) σ ι a W'):Ni S W (λb=>S b∨W.heap.size≤b∧b<W'.heap.size) W':=
 λb hb=>⟨.inl hb,(hs.keep b hb).2⟩
theorem ky {c:AX} {y:aj} {t:Bool} (hc:c.ev fr= .c (.pure (.val (.bool t)))) (h1:t=true→AY P nt J x k fr Q) (h2:t=false→AY P nt J y k fr Q) (A: ∀k S W,J k S W→(∀b,S b→b<W.heap.size)∧wY W):AY P nt J (.cond c x y) k fr Q:=by
 intro c' HM S a W hJ hs hz
 cases c'<;>simp[cn]at HM
 all_goals(try(split at HM<;>simp at HM))
 rename_i o b1 b2 _ _ _ x1 x2 x3 g1 g2 g3
 obtain⟨rfl,rfl,rfl⟩:=HM
 have L:=hs.sim (A _ _ _ hJ).1 (A _ _ _ hJ).2
 have r1:=aq g1 L
 rw[hc]at r1
 have ho:=(aU r1).1
 cases t with
 |true=>exact wpIn_cond_true ho (h1 rfl _ g2 S a W hJ hs hz)
 |false=>exact wpIn_cond_false ho (h2 rfl _ g3 S a W hJ hs hz)
def aer {τ:Type} (mk:τ→Option Nat×List (Nat×AV)) (I:τ→Prop) (μ:τ→Nat) (t:τ) (Q:bv→Option Nat→List (Nat×AV)→Prop):bv→Option Nat→List (Nat×AV)→Prop
 | .normal,k,fr=> ∃t',I t'∧μ t'<μ t∧(mk t').1=k∧jy [] fr 0 (mk t').2
 | .exit i,k,fr=>Q (.exit i) k fr
 | .ret,k,fr=>Q .ret k fr
theorem SY.wk (hs:SY S fr a W) (h:jy [] fr 0 fr'):SY S fr' a W:=by
 refine⟨λt=> ?_,hs.2⟩
 obtain⟨h1,h2⟩:=aav h t
 rcases h1 with h1|h1
 ·have:=hs.1 t
  rw[h1]at this
  exact this.cl (λ_ h=>h) h2
 ·rw[h1];exact .top
theorem Jl {τ:Type} (mk:τ→Option Nat×List (Nat×AV)) (I:τ→Prop) (μ:τ→Nat) (h0: ∃t,I t∧(mk t).1=k∧jy [] fr 0 (mk t).2) (h: ∀t,I t→AY P nt J x (mk t).1 (mk t).2 (aer mk I μ t Q)):AY P nt J (.loop x) k fr Q:=by
 intro c' hc S a W hJ hs hz
 cases c'<;>simp[cn]at hc
 all_goals(try(split at hc<;>simp at hc))
 rename_i c1
 obtain⟨t,ht,rfl,hw⟩:=h0
 refine wpIn_loop_rounds (μ t+1) ?_
 have key: ∀n t S1 a1 W1,μ t<n→I t→J (mk t).1 S1 W1→SY S1 (mk t).2 a1 W1→a1.tmps.size=nt→Ni S W S1 W1→Code.roundsIn (FR none) 0 P c1 (GB nt J S W Q) n a1 W1:=by
  intro n
  induction n with
  |zero=>intro t S1 a1 W1 hm;omega
  |succ n ih=>
   intro t S1 a1 W1 hm ht z5 Y HD HE
   rw[roundsIn_succ]
   refine wpIn_mono (h t ht _ hc S1 a1 W1 z5 Y HD) ?_
   rintro e a2 W2 ⟨e',k',fr',S',rfl,hq,Z,C,H,hk⟩
   cases e' with
   |normal=>
    obtain⟨t',z9,A,rfl,H0⟩:=hq
    exact ih t' S' a2 W2 zR5 z9 Z (C.wk H0) H (HE.trans hk)
   |exit i=>exact⟨.exit i,k',fr',S',rfl,hq,Z,C,H,HE.trans hk⟩
   |ret=>exact⟨.ret,k',fr',S',rfl,hq,Z,C,H,HE.trans hk⟩
 exact key _ t S a W (zF6 _) ht hJ (hs.wk hw) hz .refl
def UV (P:Program) (J:Option Nat→(Nat→Prop)→World→Prop) (f:AV) (args:List AV) (k:Option Nat) (R:AV→Option Nat→Prop):Prop:=
 ∀S W fv us,J k S W→aT W S (λ_=>undef) 0 f fv→bf (aT W S (λ_=>undef) 0) args us→ ∀(o:Oper) (a:Act) (c:Call) (fo:Operand) (next:Act→World→Prop) (Q:Exit→Act→World→Prop),o.op= .call c→c.callee= .value fo→a.eval fo=fv→(c.args.map a.eval).toList=us→
  (∀v res k' S' W',R res k'→aT W' S' (λ_=>undef) 0 res v→J k' S' W'→Ni S W S' W'→next (a.put o.dst v) W')→o.wpIn (FR none) 0 P a W next Q
variable {gs:List AG}
theorem cf (hJ: ∀k S W,J k S W→(∀b,S b→b<W.heap.size)∧wY W) (hg: ∀k S W W',J k S W→Below W.heap.size W W'→J k (λb=>S b∨W.heap.size≤b∧b<W'.heap.size) W')
  (h:kA P gs ⟨fr, [],0,0⟩ (λσ'=> ∃fr',gT σ' fr'∧Q .normal k fr')):AY P nt J (.region gs false) k fr Q:=by
 intro c' hc S a W hj hs hz
 cases c'<;>simp[cn]at hc
 all_goals(try(split at hc<;>simp at hc))
 rename_i id ops dr
 obtain⟨g1,h1,hK⟩:=hc
 cases dr with
 |false=>
  simp[nf]at hK
  subst hK
  have L:=hs.sim (hJ _ _ _ hj).1 (hJ _ _ _ hj).2
  have:=kE (rd:=none) (ds:= []) (n:=0) (jl (nt:=nt) (w0:=W) (U:=Xt S W (hJ _ _ _ hj).1) (Q:= λe σ'=> ∃fr',gT σ' fr'∧Q .normal k fr')) (eO h1) (fJ h1 h L hz λσ' ι' a' w' hq C H=>⟨σ',ι',rfl,hq,C,H⟩)
  rw[lX]at this
  refine wpIn_mono (wpIn_region_list this) ?_
  rintro e a1 W1 ⟨a0,rfl,σ',ι',rfl,⟨fr',hw,hq⟩,C,H⟩
  rw[lX]
  exact⟨.normal,k,fr',_,rfl,hq,hg _ _ _ _ hj C.below,SY.back C hw,H,j8 C⟩
 |true=>
  simp only[nf,if_true]at hK
  rcases eI (P:=P) (ops:=ops.toList) (gs:=g1)with⟨x,e⟩|e<;>rw[e]at hK<;>simp at hK
theorem GP {dr:Bool} {op:Op} {gg z:Bool} {fx:AX} {args:List AX} (h:bK P dr op=some (.call gg z fx args)): ∃c fo,op= .call c∧c.callee= .value fo∧aC fo=some fx∧kR c.args.toList=some args:=by
 unfold bK at h
 split at h
 case h_28=>
  rename_i f as _
  split at h
  ·rename_i y xs h1 h2
   cases h
   exact⟨_,f,rfl,rfl,h1,h2⟩
  ·cases h
 all_goals exfalso
 all_goals(try(simp at h;done))
 all_goals(try((repeat' split at h)<;>first|(cases h;done)|(obtain⟨_,_,e⟩:=zC1.1 h;cases e;done)|(simp at h;done)))
theorem KE (n:Nat) {dst:Option Nat} {gg z:Bool} {fx:AX} {args:List AX} (hn:gs[n]? =some ⟨dst,none,.call gg z fx args⟩) (hJ: ∀k S W,J k S W→(∀b,S b→b<W.heap.size)∧wY W)
  (hg: ∀k S W W',J k S W→Below W.heap.size W W'→J k (λb=>S b∨W.heap.size≤b∧b<W'.heap.size) W')
  (h:kA P (gs.take n) ⟨fr, [],0,0⟩ (λσ1=> ∃fr1,gT σ1 fr1∧ ∃R,UV P J (fx.ev fr1) (args.map (·.ev fr1)) k R∧
   ∀res k',R res k'→kA P (gs.drop (n+1)) ((⟨fr1, [],0,0⟩:St).put dst res) (λσ2=> ∃fr2,gT σ2 fr2∧Q .normal k' fr2))):AY P nt J (.region gs false) k fr Q:=by
 intro c' hc S a W hj hs hz
 cases c'<;>simp[cn]at hc
 all_goals(try(split at hc<;>simp at hc))
 rename_i id ops dr
 obtain⟨g1,h1,hK⟩:=hc
 cases dr with
 |true=>
  simp only[nf,if_true]at hK
  rcases eI (P:=P) (ops:=ops.toList) (gs:=g1)with⟨x,e⟩|e<;>rw[e]at hK<;>simp at hK
 |false=>
  simp[nf]at hK
  subst hK
  have L:=hs.sim (hJ _ _ _ hj).1 (hJ _ _ _ hj).2
  obtain⟨c1,_,c3⟩:=nw n h1
  obtain⟨_,c2,_⟩:=nw (n+1) h1
  obtain⟨o,ho,X⟩:=c3 _ hn
  have HN:ops.toList=ops.toList.take n++(o::ops.toList.drop (n+1)):=by
   have A:=(zB7.1 ho).1
   have he:=(zB7.1 ho).2
   rw[←he,←zC0 A,zF1]
  have hd:=JY X
  unfold xA at X
  by_cases h7:PV nt o.dst=false
  ·rw[if_pos h7]at X;cases X
  rw[if_neg h7]at X
  split at X
  ·rename_i ao Z1
   have Z2:o.guard=none∧o.dst=dst∧ao= .call gg z fx args:=by
    cases HO:o.guard with
    |none=>
     rw[HO]at X
     cases X
     exact⟨rfl,rfl,rfl⟩
    |some q=>
     rw[HO]at X
     dsimp only at X
     split at X
     ·cases X
     ·cases X
   obtain⟨HO,rfl,rfl⟩:=Z2
   have hdt: ∀t,o.dst=some t→t<nt:=by
    intro t ht
    rw[ht]at h7
    simpa[PV]using h7
   obtain⟨c,fo,hW,HL,HY,E⟩:=GP Z1
   refine wpIn_region_list ?_
   rw[HN]
   have h3:=kE (rd:=none) (ds:= []) (n:=0) (ops:=ops) (jl (nt:=nt) (w0:=W) (U:=Xt S W (hJ _ _ _ hj).1) (Q:= λe σ1=> ∃fr1,gT σ1 fr1∧ ∃R,UV P J (fx.ev fr1) (args.map (·.ev fr1)) k R∧
    ∀res k',R res k'→kA P (g1.drop (n+1)) ((⟨fr1, [],0,0⟩:St).put o.dst res) (λσ2=> ∃fr2,gT σ2 fr2∧Q .normal k' fr2))) (eO c1) (fJ c1 h L hz λσ' ι' a' w' hq C H=>⟨σ',ι',rfl,hq,C,H⟩)
   rw[lX]at h3
   refine bO ?_ ?_ h3
   ·rintro a1 W1 ⟨a0,rfl,σ1,ι1,_,⟨fr1,hw1,R,H2,H3⟩,Y,HD⟩
    rw[lX]
    have HP:=hg _ _ _ _ hj Y.below
    have H5:=SY.back Y hw1
    have HE:=j8 Y
    generalize (λb=>S b∨W.heap.size≤b∧b<W1.heap.size)=S1 at HP H5 HE
    have H7:=H5.sim (hJ _ _ _ HP).1 (hJ _ _ _ HP).2
    have ev: ∀{x:Operand} {y:AX},aC x=some y→aT W1 S1 (λ_=>undef) 0 (y.ev fr1) (a0.eval x):=by
     intro x y hx
     have:=aq hx H7
     exact this.mono (λb A h=>by
      rcases h.1 with h|h
      ·exact h
      ·omega) (λ_ _ _=>rfl) (λ_ _=>rfl) (zB2 _)
    have evs: ∀{l:List Operand} {ys:List AX},kR l=some ys→bf (aT W1 S1 (λ_=>undef) 0) (ys.map (·.ev fr1)) (l.map a0.eval):=by
     intro l
     induction l with
     |nil=>intro ys h;cases h;exact .nil
     |cons x l ih=>
      intro ys h
      unfold kR at h
      split at h
      ·rename_i y ys' h1 h2
       cases h
       exact .cons (ev h1) (ih h2)
      ·cases h
    show wpListIn (FR none) 0 P ops _ (o::ops.toList.drop (n+1)) a0 W1
    unfold wpListIn
    rw[if_pos (by simp[Region.wanted,HO])]
    refine H2 S1 W1 _ _ HP (ev HY) (evs E) o a0 c fo _ _ hW HL rfl zR6 ?_
    intro v res k' S' W' hR hT HR qs
    have ga:=H5.kept qs
    have hy3:SY S' ((⟨fr1, [],0,0⟩:St).put o.dst res).fr (a0.put o.dst v) W':=by
     cases hdo:o.dst with
     |none=>exact ga
     |some t=>
      refine⟨λs=> ?_,ga.2⟩
      have A:t<a0.tmps.size:=by rw[HD];exact hdt t hdo
      show aT _ _ _ _ (aZ ((t,res)::fr1) s) _
      rw[gz]
      by_cases e:t=s
      ·subst e
       rw[if_pos rfl]
       have:(a0.put (some t) v).tmps.getD t undef=v:=by simp[Act.put,zC4,A]
       rw[this]
       exact hT
      ·rw[if_neg e]
       have:(a0.put (some t) v).tmps.getD s undef=a0.tmps.getD s undef:=by simp[Act.put,zC4,zK2,e]
       rw[this]
       exact ga.1 s
    have gb:=hy3.sim (hJ _ _ _ HR).1 (hJ _ _ _ HR).2
    have hst:((⟨fr1, [],0,0⟩:St).put o.dst res)=⟨((⟨fr1, [],0,0⟩:St).put o.dst res).fr, [],0,0⟩:=by cases o.dst<;>rfl
    have h4:=H3 res k' hR
    rw[hst]at h4
    have h5:=kE (rd:=none) (ds:= []) (n:=0) (ops:=ops) (jl (nt:=nt) (w0:=W') (U:=Xt S' W' (hJ _ _ _ HR).1) (Q:= λe σ2=> ∃fr2,gT σ2 fr2∧Q .normal k' fr2)) (eO c2) (fJ c2 h4 gb (by rw[ug];exact HD) λσ' ι' a' w' hq C H=>⟨σ',ι',rfl,hq,C,H⟩)
    rw[lX]at h5
    have h6:=bO (Q:=GB nt J S W Q) (l2:= []) ?_ ?_ h5
    ·rw[zN7]at h6
     exact h6
    ·rintro a2 W2 ⟨a3,rfl,σ2,ι2,_,⟨fr2,hw2,HI⟩,HH,hz2⟩
     rw[lX]
     exact⟨.normal,k',fr2,_,rfl,HI,hg _ _ _ _ HR HH.below,SY.back HH hw2,hz2,(HE.trans qs).trans (j8 HH)⟩
    ·rintro e a2 W2 ⟨a3,rfl,σ2,ι2,e2,_⟩
     exact e2
   ·rintro e a1 W1 ⟨a0,rfl,σ1,ι1,e2,_⟩
    exact e2
  ·cases X
variable {args:List AV}{xs:List (List AV)}
theorem m8 {l:Nat} {w:World} {k:Nat} (hJ:GK P l w xs J) (hx:xs[k]? =some args):
  UV P J (yv l) args (some k) (λres k'=> ∃b:Bool,res= .c (.pure (.val (.bool b)))∧k'=if b=true then some (k+1)else none):=by
 intro S W fv us hj hf HC o a c fo next Q ho hc ge E hX
 obtain⟨rfl,_⟩:=aU hf
 obtain⟨fn,tmps,asg,body,hy,hR⟩:=hJ.round k args S W us.toArray hx hj (by simpa using HC) 0
 refine⟨λ_ _=>trivial, ?_⟩
 rw[Oper.semAt_eq _ _ _ zU9]
 have hB:(execOp a.eval o).run P W= .ok (.round l fn tmps asg body) W:=by
  have e:c.args.map a.eval=us.toArray:=by rw[←E]
  simp[execOp,ho,resolve,hc,ge,Deferred.ofValue,invoke,e,hy]
 rw[hB,Oper.uponIn_round]
 refine⟨by simp[FR,Fence.wide],hR.mono ?_⟩
 rintro e W' ⟨b,rfl,hL,hk⟩
 exact hX (.bool b) _ _ S W' ⟨b,rfl,rfl⟩ (.c (.pure (.val rfl))) hL λb hb=>⟨hb,hk b hb⟩
def mU (P:Program) (J:Option Nat→(Nat→Prop)→World→Prop) (f:FuncId) (args:List AV) (k:Option Nat) (R:AV→Option Nat→Prop):Prop:=
 oT P f∧ ∀(S:Nat→Prop) (W:World) (us:Array Value),J k S W→bf (aT W S (λ_=>undef) 0) args us.toList→
  Calls P f us W λe W'=> ∃v res k' S',e= .returned v∧R res k'∧aT W' S' (λ_=>undef) 0 res v∧J k' S' W'∧Ni S W S' W'
variable {f:FuncId}{R:AV→Option Nat→Prop}
theorem LP (h:mU P J f args k R):UV P J (.c (.clo f [])) args k R:=by
 intro S W fv us hj hf HC o a c fo next Q ho hc ge E hX
 obtain rfl:fv= .func (.func f) #[] #[]:=by
  cases hf with
  |c hf=>
   cases hf with
   | @clo _ _ vs hl _=>
    have:vs= #[]:=zJ7 (by simpa using hl.symm)
    rw[this]
 obtain⟨⟨fn,HZ,O,hD⟩,hW⟩:=h
 have hb: ¬fn.body=none:=by intro e;rw[e]at O;cases O
 have hP : ¬ fn.name = "runtime.NumGoroutine" := by intro e; rw [e] at hD; simp at hD
 refine⟨λ_ _=>trivial, ?_⟩
 rw[Oper.semAt_eq _ _ _ zU9]
 have hB:(execOp a.eval o).run P W= .ok (.enter f us.toArray) W:=by
  have e:c.args.map a.eval=us.toArray:=by rw[←E]
  simp[execOp,ho,resolve,hc,ge,Deferred.ofValue,invoke,callFunc,HZ,hP,hb,e]
 rw[hB,Oper.uponIn_enter]
 refine⟨by simp[FR,Fence.wide],Jj ((hW S W us.toArray hj (by simpa using HC)).mono ?_)⟩
 rintro e W' ⟨v,res,k',S',rfl,hR,hT,hL,hk⟩
 exact hX v res k' S' W' hR hT hL hk
def aeO (rs:List AR) (R:AV→Option Nat→Prop):bv→Option Nat→List (Nat×AV)→Prop
 | .exit _,_,_=>False
 | .ret,k,fr=>nD ⟨fr, [],0,0⟩ rs [] λvs=>R (kz vs) k
 | .normal,k,fr=>nD ⟨fr, [],0,0⟩ rs [] λvs=>R (kz vs) k
theorem mU.of {body:aj} {rs:List AR} (hJ: ∀k S W,J k S W→(∀b,S b→b<W.heap.size)∧wY W) (hf:am P f nt body rs) (ha:args.length≤nt)
  (h:f6 args→AY P nt J body k (aI args 0) (aeO rs R)):mU P J f args k R:=by
 obtain⟨fn,c,h1,h2,h3,rfl,h5,h6⟩:=hf.is
 refine⟨⟨fn,h1,by rw[h2];rfl,h3⟩,λS W vs hj E=> ?_⟩
 have hsz:vs.size=args.length:=by rw[←zD0];exact E.length.symm
 have hs:SY S (aI args 0) {tmps:=vs++Array.replicate (fn.ntmps-vs.size) undef,defers:= []} W:=by
  refine⟨λt=> ?_,rfl⟩
  rcases iG (vs:=vs.toList) (k:=0) E t with h|h
  ·by_cases A:t<vs.size
   ·have e:(vs++Array.replicate (fn.ntmps-vs.size) undef).getD t undef=(vs.toList[t-0]?).getD undef:=by
     simp[zC4,zI1,A]
    rw[e]
    exact h
   ·have:aZ (aI args 0) t= .top:=by
     have key: ∀(l:List AV) (j:Nat),j+l.length≤t→aZ (aI l j) t= .top:=by
      intro l
      induction l with
      |nil=>intro j _;rfl
      |cons x l ih=>
       intro j hj
       simp only[zG2]at hj
       show(if j=t then x else aZ (aI l (j+1)) t)=_
       rw[if_neg zR5]
       exact ih _ zR5
     exact key args 0 zR5
    rw[this]
    exact .top
  ·rw[h]
   exact .top
 have gf:(vs++Array.replicate (fn.ntmps-vs.size) undef).size=fn.ntmps:=by simp;omega
 refine(callsIn_wide (n:=0)).1 (callsIn_of_wp h1 h2 trivial (wpIn_mono (h (xl E) c h5 S _ W hj hs gf) ?_))
 have fin: ∀{a':Act} {W':World} {fr':List (Nat×AV)} {k':Option Nat} {S':Nat→Prop},nD ⟨fr', [],0,0⟩ rs [] (λvs=>R (kz vs) k')→J k' S' W'→SY S' fr' a' W'→Ni S W S' W'→a'.defers= []∧ ∃v,(results fn a'.tmps).run P W'= .ok v W'∧ ∃v' res k' S',Ending.returned v= .returned v'∧R res k'∧aT W' S' (λ_=>undef) 0 res v'∧J k' S' W'∧Ni S W S' W':=by
  intro a' W' fr' k' S' hT hL C hk
  obtain⟨vs',us',g1,g2,g3⟩:=ki (C.sim (hJ _ _ _ hL).1 (hJ _ _ _ hL).2) (us:= []) h6 hT .nil
  refine⟨C.2,(if h:us'.toArray.size=1 then us'.toArray[0]else .tuple us'.toArray), ?_,_,_,k',S',rfl,g3, ?_,hL,hk⟩
  ·rw[jF,zG8]
   simp[g2]
  ·have:=yV zU3
   exact this.mono (λb A h=>by
    rcases h.1 with h|h
    ·exact h
    ·omega) (λ_ _ _=>rfl) (λ_ _=>rfl) (zB2 _)
 rintro e a' W' ⟨e',k',fr',S',rfl,hq,hL,C,hsz',hk⟩
 cases e' with
 |normal=>exact fin hq hL C hk
 |exit i=>exact hq.elim
 |ret=>exact fin hq hL C hk
theorem jH.of (hf:oT P f) (h: ∀(l:Nat) (w:World) (J':Option Nat→(Nat→Prop)→World→Prop),GK P l w xs J'→mU P J' f (yv l::args) (some 0) (λ_ k'=>k'=some xs.length∨k'=none)):jH P f args xs:=by
 refine⟨hf, ?_⟩
 intro l S J' w vs hG E hJ h0
 have h1:=(h l w J' hJ).2 S w (#[.func (.yield l) #[] #[]]++vs) h0
 have e:(#[Value.func (.yield l) #[] #[]]++vs).toList=Value.func (.yield l) #[] #[]::vs.toList:=by simp
 rw[e]at h1
 have h2:=h1 (bf.cons (.c (.pure (.val rfl))) E)
 refine h2.mono ?_
 rintro e w' ⟨v,res,k',S',he,hk,_,hj,_⟩
 exact⟨⟨v,he⟩,k',S',hk,hj⟩
end
end Go.Abs
