import Derived.Test.YtjhkikmonejkjaaGreatDoorAbsQ
set_option linter.unusedVariables false
set_option linter.unusedSimpArgs false
namespace Go.Abs
open Go.RowKit
section
variable {P : Program} {σ : St} {nt : Nat}
theorem QY {c:ah} {Q:bk→St→Prop} (t:Nat) (ht:aL σ.fr t= .c .nils) (h:AW P nt c {σ with fr:=(t,.c (.pure (.slice [])))::σ.fr} Q):AW P nt c σ Q:=by
 intro c' hc w0 U rd ds ι a w HJ hs hz
 refine h c' hc w0 U rd ds ι a w HJ ⟨λs=> ?_,hs.defers,hs.names,hs.box,hs.apart,hs.below,hs.keep,hs.base⟩ hz
 show aK w (aB w0.heap.size U ι σ.mem) ι σ.nx (aL ((t,.c (.pure (.slice [])))::σ.fr) s) _
 rw[dF]
 by_cases es:t=s
 ·subst es
  rw[if_pos rfl]
  have hv:=hs.val t
  rw[ht]at hv
  generalize a.tmps.getD t undef=v at hv
  cases hv with
  |c hv=>cases hv;exact .c (.pure .nil)
 ·rw[if_neg es]
  exact hs.val s
theorem Rl {c:ah} {Q:bk→St→Prop} (t:Nat) (ht:aL σ.fr t= .c .nils) (h:AW P nt c {σ with fr:=(t,.c (.tsl []))::σ.fr} Q):AW P nt c σ Q:=by
 intro c' hc w0 U rd ds ι a w HJ hs hz
 refine h c' hc w0 U rd ds ι a w HJ ⟨λs=> ?_,hs.defers,hs.names,hs.box,hs.apart,hs.below,hs.keep,hs.base⟩ hz
 show aK w (aB w0.heap.size U ι σ.mem) ι σ.nx (aL ((t,.c (.tsl []))::σ.fr) s) _
 rw[dF]
 by_cases es:t=s
 ·subst es
  rw[if_pos rfl]
  have hv:=hs.val t
  rw[ht]at hv
  generalize a.tmps.getD t undef=v at hv
  cases hv with
  |c hv=>cases hv;exact .c (.tsl .nil)
 ·rw[if_neg es]
  exact hs.val s
end
def Vx:AC→Bool
 | .pure _=>true
 | .nils=>true
 | .tsl _=>true
 |_=>false
def VF:bm→Bool
 | .var xs=>xs.all Vx
 | .arr _ _ _=>true
 |_=>false
def qT (N:Nat):List Nat→List (Nat×bm)→Prop
 |_, []=>True
 |seen,(nm,b)::r=>nm<N∧VF b=true∧JD nm seen∧qT N (nm::seen) r
open Go.RowKit
structure F8 (P:Program) (l:Nat) (w:World) (xs:List (List AV)) (J:Option Nat→(Nat→Prop)→World→Prop):Prop where
 grow: ∀k S W W',J k S W→xt w.heap.size W W'→J k (λb=>S b∨W.heap.size≤b∧b<W'.heap.size) W'
 old: ∀k S W,J k S W→(∀b,S b→b<W.heap.size)∧w.heap.size≤W.heap.size∧qQ W
 sub: ∀k S S' W,J k S W→(∀b,S' b→S b)→J k S' W
 round: ∀k x S W us,xs[k]? =some x→J (some k) S W→aJ (aK W S (λ_=>undef) 0) x us.toList→ ∀m,YieldAt Fence.wide m P l us W λe W'=>
  ∃b:Bool,e= .returned (.bool b)∧J (if b=true then some (k+1)else none) S W'∧ ∀c,S c→W'.heap[c]? =W.heap[c]?
def rr (P:Program) (f:FuncId) (args:List AV) (xs:List (List AV)):Prop:=
 la P f∧ ∀(l:Nat) (S:Nat→Prop) (J:Option Nat→(Nat→Prop)→World→Prop) (w:World) (vs:Array Value),qQ w→
  aJ (aK w S (λ_=>undef) 0) args vs.toList→F8 P l w xs J→J (some 0) S w→
  Calls P f (#[.func (.yield l) #[] #[]]++vs) w λe w'=>(∃v,e= .returned v)∧ ∃k S',(k=some xs.length∨k=none)∧J k S' w'
def Jm:List Nat→List AV→List (Nat×AV)→List (Nat×AV)
 |p::ps,x::xs,fr=>Jm ps xs ((p,x)::fr)
 |_,_,fr=>fr
def Wu (P:Program) (nt:Nat) (body:ah) (Q:bk→St→Prop):bk→St→Prop
 | .normal,σ=>AW P nt body σ Q
 |_,_=>False
def Ci {τ:Type} (mk:Nat→τ→List (Nat×bm)×Nat) (I:Nat→τ→Prop) (bs:Nat) (fr0:List (Nat×AV)) (base:Nat) (Q:bk→St→Prop) (k:Nat):bk→St→Prop
 | .normal,σ=> ∃t l,I (k+1) t∧Wk l {σ with fr:= []} ⟨[],(mk (k+1) t).1,(mk (k+1) t).2,bs⟩
 | .exit i,σ=>σ.base=bs∧Q (.exit i) ⟨fr0,σ.mem,σ.nx,base⟩
 | .ret,σ=>σ.base=bs∧Q .ret ⟨fr0,σ.mem,σ.nx,base⟩
def xx:bk→Code
 | .normal=> .skip
 | .exit i=> .exit i
 | .ret=> .ret
section
variable {P : Program} {nt : Nat} {σ : St} {Q : bk → St → Prop}
theorem pL {a:Act}:sh [] a=a:=by
 cases a
 simp[sh]
theorem GC {rd:Option Nat} {n m:Nat} {c:Code} {Q:Exit→Act→World→Prop} {a:Act} {w:World} (h:c.wpIn (FR rd) n P Q a w):c.wpIn (FR rd) m P Q a w:=
 λb k cs h1 h2 _=>h b k cs h1 h2 (λd hd=>by cases hd)
theorem DG {w:World} {V:Nat→Prop} {ι:Pl} {N:Nat}: ∀{ps:List Nat} {xs:List AV} {us:List Value} {fr:List (Nat×AV)} {tmps:Array Value},aJ (aK w V ι N) xs us→(∀p∈ps,p<tmps.size)→
  (∀t,aK w V ι N (aL fr t) (tmps.getD t undef))→ ∀t,aK w V ι N (aL (Jm ps xs fr) t) (((ps.zip us).foldl (λtmps (x:Nat×Value)=>tmps.setIfInBounds x.1 x.2) tmps).getD t undef)
 | [],_,_,_,_,_,_,h,t=>by simpa[Jm]using h t
 |p::ps,_,_,fr,tmps,.nil,_,h,t=>by simpa[Jm]using h t
 |p::ps,_,_,fr,tmps,.cons (a:=x) (b:=u) hx hr,hp,h,t=>by
  refine DG (ps:=ps) (fr:=(p,x)::fr) (tmps:=tmps.setIfInBounds p u) hr (λq hq=>by rw[Array.size_setIfInBounds];exact hp q (List.mem_cons_of_mem _ hq)) (λs=> ?_) t
  have A:=hp p List.mem_cons_self
  rw[dF]
  by_cases e:p=s
  ·subst e
   rw[if_pos rfl]
   have:(tmps.setIfInBounds p u).getD p undef=u:=by simp[Array.getD_eq_getD_getElem?,A]
   rw[this]
   exact hx
  ·rw[if_neg e]
   have:(tmps.setIfInBounds p u).getD s undef=tmps.getD s undef:=by simp[Array.getD_eq_getD_getElem?,Array.getElem?_setIfInBounds,e]
   rw[this]
   exact h s
theorem AQ: ∀{ps:List Nat} {us:List Value} {tmps:Array Value},((ps.zip us).foldl (λtmps (x:Nat×Value)=>tmps.setIfInBounds x.1 x.2) tmps).size=tmps.size
 | [],_,_=>by simp
 |_::_, [],_=>by simp
 |p::ps,u::us,tmps=>by
  rw[List.zip_cons_cons,List.foldl_cons,AQ,Array.size_setIfInBounds]
theorem Nv {fx:AX} {ps:List Nat} {asg body:ah} {g:FuncId} {caps:List AC} {pcaps:List AV} {xs:List (List AV)} {τ:Type}
  (bs:Nat) (fr0:List (Nat×AV)) (mk:Nat→τ→List (Nat×bm)×Nat) (I:Nat→τ→Prop)
  (hf:fx.ev σ.fr= .c (.clo g caps)) (hp:ba σ.mem (caps.map .c)=some pcaps) (H0:(caps.map AV.c).all kc=true)
  (hY:rr P g pcaps xs) (HA: ∀x∈xs,x.length=ps.length) (hb:σ.base≤bs∧bs≤σ.nx) (HC:kf [] σ.fr bs fr0)
  (h0: ∃t l,I 0 t∧Wk l ⟨[],σ.mem,σ.nx,bs⟩ ⟨[],(mk 0 t).1,(mk 0 t).2,bs⟩)
  (hM: ∀k x t,xs[k]? =some x→I k t→AW P nt asg ⟨Jm ps x fr0,(mk k t).1,(mk k t).2,bs⟩ (Wu P nt body (Ci mk I bs fr0 σ.base Q k)))
  (HK: ∀t,I xs.length t→Q .normal ⟨fr0,(mk xs.length t).1,(mk xs.length t).2,σ.base⟩):AW P nt (.rangeF fx ps asg body) σ Q:=by
 intro c' hc w0 U rd ds ι a w HJ hs hz
 cases c'<;>simp[dq]at hc
 all_goals(try(split at hc<;>simp at hc))
 rename_i f' ps' asg' body' _ _ _ _ x2 x3 x4 H1 gq O q0
 obtain⟨rfl,rfl,rfl,rfl⟩:=hc
 have gt: ∀p∈ps'.toList,p<nt:= λp hp=>by simpa using Array.all_eq_true_iff_forall_mem.1 q0 p (Array.mem_toList_iff.1 hp)
 have ZK:=hs.below.size
 have hv:=al H1 hs
 rw[hf]at hv
 obtain⟨cv,q4,g0,hu⟩: ∃cv:Array Value,caps.length=cv.size∧(∀(i:Nat) x,caps[i]? =some x→bz w (aB w0.heap.size U ι σ.mem) ι σ.nx x (cv.toList[i]?.getD undef))∧a.eval f'= .func (.func g) #[] cv:=by
  generalize a.eval f'=u at hv
  cases hv with
  |c h=>
   cases h with
   |clo hl h=>exact⟨_,hl,h,rfl⟩
 have g4:aJ (aK w (aB w0.heap.size U ι σ.mem) ι σ.nx) (caps.map .c) cv.toList:=by
  refine aJ.of_get (by simp[q4]) λi x v hi q5=> ?_
  rw[List.getElem?_map]at hi
  obtain⟨y,hy,rfl⟩:=Option.map_eq_some_iff.1 hi
  have:=g0 i y hy
  rw[q5]at this
  exact .c this
 have q6:=js (V:=aB w0.heap.size U ι σ.mem) hs g4 (λ_ h=>h) (.inl H0) hp
 have hfree_lt: ∀{b:Nat},aB w0.heap.size U ι σ.mem b→True:= λ_=>trivial
 have Z: ∀args w,(callFunc g args).run P w= .ok (.enter g args) w:=by
  obtain⟨fn,H2,O,hD⟩:=hY.1
  have hb: ¬fn.body=none:=by intro e;rw[e]at O;cases O
  have hN : ¬ fn.name = "runtime.NumGoroutine" := by intro e; rw [e] at hD; simp at hD
  intro args w
  simp[callFunc,H2,hN,hb]
 refine wpIn_rangeFunc (F:=FR rd) λfn _=> ?_
 obtain⟨l,D,dfr,mark,w1,g5,HL,H3,q7,ZL,HD,H4⟩: ∃(l D dfr:Nat) (mark:List Deferred) (w1:World),
   (Instr.enterLoop fn (sh ds a).tmps ps' asg' body' (FR rd).round).run P w= .ok (l,mark) w1∧Below w.heap.size w w1∧
   w1.heap[l]? =some (.loop {state:= .ready,pending:=none,fn,tmps:=a.tmps,params:=ps',assign:=asg',body:=body',defers:=dfr})∧w.heap.size≤l∧
   w1.heap.size=l+1∧(rd=none→w.heap.size≤D∧D≠l∧w1.heap[D]? =some (.deferred (some [])))∧((rd=none∧mark= [{target:= .collected D,args:= #[]}])∨((∃l0,rd=some l0)∧mark= [])):=by
  cases rd with
  |none=>
   refine⟨w.heap.size+1,w.heap.size,w.heap.size,_,_,run_enterLoop_outer _ _ _ _ _,((Below.refl _ w).alloc (Nat.le_refl _) _).alloc (by simp) _, ?_,by omega,by simp,λ_=>⟨Nat.le_refl _,by omega, ?_⟩,.inl ⟨rfl,rfl⟩⟩
   ·have:=World.alloc_heap_new (w.alloc (.deferred (some []))) (.loop {state:= .ready,pending:=none,fn,tmps:=a.tmps,params:=ps',assign:=asg',body:=body',defers:=w.heap.size})
    rwa [World.size_alloc]at this
   ·exact(Below.heap_alloc _ _ _ (by simp)).trans (World.alloc_heap_new w _)
  |some l0=>
   obtain⟨r0,q8⟩:=HJ l0 rfl _ _ hs.keep
   exact⟨w.heap.size,0,r0.defers, [],_,run_enterLoop_inner q8 _ _ _ _ _,(Below.refl _ w).alloc (Nat.le_refl _) _,World.alloc_heap_new w _,Nat.le_refl _,by simp,(λh=>by cases h),.inr ⟨⟨l0,rfl⟩,rfl⟩⟩
 generalize g6:(λ(st:LoopState) (pe:Option Code)=>({state:=st,pending:=pe,fn,tmps:=a.tmps,params:=ps',assign:=asg',body:=body',defers:=dfr}:Loop))=rec
 have K: ∀st pe,rec st pe={state:=st,pending:=pe,fn,tmps:=a.tmps,params:=ps',assign:=asg',body:=body',defers:=dfr}:= λst pe=>by rw[←g6]
 rw[←K]at H3
 have g7:=(Array.getElem?_eq_some_iff.1 H3).1
 refine⟨l,mark,w1,{target:= .fn (.func g) cv,args:= #[.func (.yield l) #[] #[]]},w1,g, #[.func (.yield l) #[] #[]]++cv,w1,g5, ?_,λ_ _=>trivial, ?_,λh=>by simp[FR,Fence.wide]at h, ?_⟩
 ·have he:(sh ds a).eval f'= .func (.func g) #[] cv:=by rw[G8];exact hu
  simp only[resolve,he]
  simp[go_sem]
 ·simp[invoke,go_sem,Z]
 let Stay:World→(Nat→Prop)→Prop:= λW V=>(∀b,b<w.heap.size→aB w0.heap.size U ι σ.mem b→V b∧W.heap[b]? =w.heap[b]?)∧(rd=none→V D∧W.heap[D]? =some (.deferred (some [])))
 have stay_mono: ∀(W W':World) (V V':Nat→Prop),Stay W V→(∀b,b<W.heap.size→V b→V' b)→(∀b,b<W.heap.size→V b→W'.heap[b]? =W.heap[b]?)→Stay W' V':=by
  rintro W W' V V' ⟨h2,h3⟩ hV hw
  refine⟨λb hb hf=> ?_,λe=> ?_⟩
  ·obtain⟨k1,k2⟩:=h2 b hb hf
   have A:b<W.heap.size:=by
    have:w.heap[b]? =some w.heap[b]:=by simp[hb]
    rw[this]at k2
    exact(Array.getElem?_eq_some_iff.1 k2).1
   exact⟨hV b A k1,(hw b A k1).trans k2⟩
  ·obtain⟨k1,k2⟩:=h3 e
   have A:=(Array.getElem?_eq_some_iff.1 k2).1
   exact⟨hV D A k1,(hw D A k1).trans k2⟩
 let Us:Loop→(Nat→Prop)→World→Gh:= λr S Ws=>⟨U.p,ι,λW V=>Stay W V∧V l∧W.heap[l]? =some (.loop r)∧(∀b,S b→b<Ws.heap.size∧V b∧W.heap[b]? =Ws.heap[b]?),λW W' V V' ⟨h1,h2,h3,h4⟩ hV hw=>by
  have A:=(Array.getElem?_eq_some_iff.1 h3).1
  refine⟨stay_mono W W' V V' h1 hV hw,hV l A h2,(hw l A h2).trans h3,λb hb=> ?_⟩
  obtain⟨q1,q2,q3⟩:=h4 b hb
  have A:b<W.heap.size:=by
   have:Ws.heap[b]? =some Ws.heap[b]:=by simp[q1]
   rw[this]at q3
   exact(Array.getElem?_eq_some_iff.1 q3).1
  exact⟨q1,hV b A q2,(hw b A q2).trans q3⟩⟩
 let Ur:Loop→Gh:= λr=>Us r (λ_=>False) w
 let Ue:Gh:=⟨U.p,U.ι0,λW V=>Stay W V,λW W' V V' h1 hV hw=>stay_mono W W' V V' h1 hV hw⟩
 have stayU: ∀W V,Stay W V→U.G W V:= λW V h=>U.mono w W _ V hs.keep (λb hb hf=>(h.1 b hb hf).1) (λb hb hf=>(h.1 b hb hf).2)
 have wY: ∀{ι':Pl} {mem:List (Nat×bm)} {W:World} {Ub:Gh} {nx b0:Nat} {fr:List (Nat×AV)} {a':Act} {q:Nat},bl w0 Ub ⟨fr,mem,nx,b0⟩ ι' a' W→w.heap.size≤q→W.heap.size≤q→aB w0.heap.size Ub ι' mem q:= λhS h1 h2=>
  ⟨.inr (by omega),λnm bx hn e=>by have:=((hS.box nm bx hn).block e).2;omega⟩
 have free_lp: ∀{ι':Pl} {mem:List (Nat×bm)} {W:World} {Ub:Gh} {nx b0:Nat} {fr:List (Nat×AV)} {a':Act} {q:Nat} {o:Obj},bl w0 Ub ⟨fr,mem,nx,b0⟩ ι' a' W→w.heap.size≤q→W.heap[q]? =some o→Hp o=true→aB w0.heap.size Ub ι' mem q:= λhS h1 h2 h3=>
  ⟨.inr (by omega),λnm bx hn e=>hS.not_lp hn e ⟨_,h2,h3⟩⟩
 have outer: ∀{r:Loop} {S:Nat→Prop} {Ws:World} {σ2:St} {ι2:Pl} {a2:Act} {W:World},bl w0 (Us r S Ws) σ2 ι2 a2 W→σ2.base=bs→bl w0 (Us r S Ws) ⟨fr0,σ2.mem,σ2.nx,bs⟩ ι2 a W:=by
  intro r S Ws σ2 ι2 a2 W h hW
  refine⟨λt=> ?_,hs.defers,h.names,h.box,h.apart,h.below,h.keep,by rw[←hW];exact h.base⟩
  obtain⟨h1,h2⟩:=D7 HC t
  rcases h1 with h1|h1
  ·have hv:=hs.val t
   rw[h1]at hv
   have q9:=hv.cl (V':=aB w0.heap.size U ι σ.mem) (λ_ h=>h) h2
   refine q9.mono (λb A hf=>(h.keep.1.1 b A hf).1) (λb A hf=>(h.keep.1.1 b A hf).2) (λnm HE=> ?_) (by rw[←hW];exact h.base.1)
   have:=h.base.2 nm (by rw[hW];exact HE)
   exact this
  ·show aK _ _ _ _ (aL fr0 t) _
   rw[h1];exact .top
 let rdy:=rec .ready none
 let OkS:(Nat→Prop)→World→Pl→List (Nat×bm)→Prop:= λS W ι' mem=> ∀b,S b→b<W.heap.size∧b≠l∧aB w0.heap.size U ι' mem b
 let J:Option Nat→(Nat→Prop)→World→Prop:= λk S W=>match k with
  |some k=> ∃t ι',I k t∧bl w0 (Ur rdy) ⟨fr0,(mk k t).1,(mk k t).2,bs⟩ ι' a W∧OkS S W ι' (mk k t).1
  |none=> ∃(e:bk) (σ2:St) (ι':Pl),e≠ .normal∧Q e ⟨fr0,σ2.mem,σ2.nx,σ.base⟩∧bl w0 (Ur (rec .done (some (xx e)))) ⟨fr0,σ2.mem,σ2.nx,bs⟩ ι' a W∧OkS S W ι' σ2.mem
 have w1sz:w.heap.size≤w1.heap.size:=HL.size
 have grow: ∀{r:Loop} {σ2:St} {ι2:Pl} {a2:Act} {W W':World},bl w0 (Ur r) σ2 ι2 a2 W→xt w1.heap.size W W'→bl w0 (Ur r) σ2 ι2 a2 W':=by
  intro r σ2 ι2 a2 W W' h hg
  refine h.growL (n:=w1.heap.size) (by omega) hg rfl rfl ?_
  obtain⟨⟨k1,k2⟩,k3,k4,_⟩:=h.keep
  have g8:=(Array.getElem?_eq_some_iff.1 k4).1
  refine⟨⟨λb hb hf=> ?_,λe=> ?_⟩,k3,(hg.old g7 g8).trans k4,λb hb=>hb.elim⟩
  ·obtain⟨q1,q2⟩:=k1 b hb hf
   exact⟨q1,(hg.old (by omega) (by omega)).trans q2⟩
  ·obtain⟨q1,q2⟩:=k2 e
   have h1:=(Array.getElem?_eq_some_iff.1 (HD e).2.2).1
   exact⟨q1,(hg.old h1 (Array.getElem?_eq_some_iff.1 q2).1).trans q2⟩
 have turn: ∀{r r':Loop} {S:Nat→Prop} {Ws:World} {σ2:St} {ι2:Pl} {a2:Act} {W:World},bl w0 (Us r S Ws) σ2 ι2 a2 W→(∀b,S b→b≠l)→bl w0 (Us r' S Ws) σ2 ι2 a2 (W.putObj l (.loop r')):=by
  intro r r' S Ws σ2 ι2 a2 W h hQ
  obtain⟨⟨k1,k2⟩,k3,k4,k5⟩:=h.keep
  refine h.turn (.loop r') k4 rfl (by omega) rfl rfl ⟨⟨λb hb hf=> ?_,λe=> ?_⟩,k3,World.putObj_heap_same (Array.getElem?_eq_some_iff.1 k4).1,λb hb=>⟨(k5 b hb).1,(k5 b hb).2.1,(World.putObj_heap_other (hQ b hb)).trans (k5 b hb).2.2⟩⟩
  ·obtain⟨q1,q2⟩:=k1 b hb hf
   exact⟨q1,(World.putObj_heap_other (by omega)).trans q2⟩
  ·obtain⟨q1,q2⟩:=k2 e
   exact⟨q1,(World.putObj_heap_other (HD e).2.1).trans q2⟩
 have final: ∀{e':bk} {r r':Loop} {mem:List (Nat×bm)} {nx:Nat} {ι2:Pl} {W:World},bl w0 (Ur r) ⟨fr0,mem,nx,bs⟩ ι2 a W→Q e' ⟨fr0,mem,nx,σ.base⟩→
   yK w0 U rd ds nt Q (o8 e') {sh ds a with defers:=mark++(sh ds a).defers} (W.putObj l (.loop r')):=by
  intro e' r r' mem nx ι2 W h hq
  have h1:=turn (r':=r') h (λ_ hb=>hb.elim)
  have hE:bl w0 Ue ⟨fr0,mem,nx,σ.base⟩ ι2 a (W.putObj l (.loop r')):=
   ⟨h1.val,h1.defers,h1.names,h1.box,h1.apart,h1.below,h1.keep.1,⟨Nat.le_trans hb.1 h1.base.1,λnm HE=>(h1.base.2 nm (Nat.lt_of_lt_of_le HE hb.1)).trans (hs.base.2 nm HE)⟩⟩
  have he:({sh ds a with defers:=mark++(sh ds a).defers}:Act)=sh (mark++ds) a:=by simp[sh,hs.defers.1]
  rw[he]
  rcases H4 with⟨hn,hm⟩|⟨⟨l0,ZM⟩,hm⟩
  ·refine⟨e',_,ι2,Ue,mark++ds,a,rfl,hq,hE,hz,rfl, ?_⟩
   rw[hm]
   refine Jk.mark (U':=U) (D:=D) .refl hn (by have:=(HD hn).1;omega) rfl rfl λW V h=>⟨stayU W V h,(h.2 hn).1,(h.2 hn).2, ?_⟩
   exact U.mono w _ _ V hs.keep (λb hb hf=>(h.1 b hb hf).1) (λb hb hf=>(World.putObj_heap_other (by have:=(HD hn).1;omega)).trans (h.1 b hb hf).2)
  ·refine⟨e',_,ι2,U,mark++ds,a,rfl,hq,⟨hE.val,hE.defers,hE.names,hE.box,hE.apart,hE.below,stayU _ _ hE.keep,hE.base⟩,hz,rfl, ?_⟩
   rw[hm]
   exact .refl
 have rdRound: ∀r S Ws,Pu (Us r S Ws) (some l):= λr S Ws l' e W V hG=>by
  cases e
  exact⟨_,hG.2.2.1⟩
 have weak: ∀{r:Loop} {S:Nat→Prop} {Ws:World} {σ2:St} {ι2:Pl} {a2:Act} {W:World},bl w0 (Us r S Ws) σ2 ι2 a2 W→bl w0 (Ur r) σ2 ι2 a2 W:= λh=>
  ⟨h.val,h.defers,h.names,h.box,h.apart,h.below,⟨h.keep.1,h.keep.2.1,h.keep.2.2.1,λb hb=>hb.elim⟩,h.base⟩
 have okGrow: ∀{S:Nat→Prop} {W W':World} {ι':Pl} {mem:List (Nat×bm)} {Ub:Gh} {nx b0:Nat} {fr:List (Nat×AV)} {a':Act},Ub.p=U.p→bl w0 Ub ⟨fr,mem,nx,b0⟩ ι' a' W→w1.heap.size≤W.heap.size→W.heap.size≤W'.heap.size→OkS S W ι' mem→OkS (λb=>S b∨W.heap.size≤b∧b<W'.heap.size) W' ι' mem:=by
  intro S W W' ι' mem Ub nx b0 fr a' ZO hS hw hg h b hb
  rcases hb with hb|⟨h1,h2⟩
  ·exact⟨Nat.lt_of_lt_of_le (h b hb).1 hg,(h b hb).2⟩
  ·exact⟨h2,by omega,.inr (by omega),λnm bx hn e=>by have:=((hS.box nm bx hn).block e).2;omega⟩
 have sz: ∀{r:Loop} {S:Nat→Prop} {Ws:World} {σ2:St} {ι2:Pl} {a2:Act} {W:World},bl w0 (Us r S Ws) σ2 ι2 a2 W→w1.heap.size≤W.heap.size:= λh=>by
  have:=(Array.getElem?_eq_some_iff.1 h.keep.2.2.1).1
  omega
 refine Ir ((hY.2 l (λb=>aB w0.heap.size U ι σ.mem b∧b<w.heap.size) J w1 cv (hs.glob.below (Nat.le_refl _) HL) ?_ ⟨?_, ?_, ?_, ?_⟩ ?_).mono ?_)
 ·exact q6.mono λ_ _ h=>h.mono (λb hb hf=>⟨hf,hb⟩) (λb hb _=>HL.block b hb) (λ_ _=>rfl) (Nat.le_refl _)
 ·intro k S W W' h hg
  cases k with
  |some k=>
   obtain⟨t,ι',hI,h,M⟩:=h
   exact⟨t,ι',hI,grow h hg,okGrow (Ub:=Ur rdy) rfl h (sz h) hg.size M⟩
  |none=>
   obtain⟨e,σ2,ι',HF,hq,h,M⟩:=h
   exact⟨e,σ2,ι',HF,hq,grow h hg,okGrow (Ub:=Ur (rec .done (some (xx e)))) rfl h (sz h) hg.size M⟩
 ·intro k S W h
  cases k with
  |some k=>
   obtain⟨t,ι',hI,h,M⟩:=h
   exact⟨λb hb=>(M b hb).1,sz h,h.glob⟩
  |none=>
   obtain⟨e,σ2,ι',HF,hq,h,M⟩:=h
   exact⟨λb hb=>(M b hb).1,sz h,h.glob⟩
 ·intro k S S' W h HX
  cases k with
  |some k=>
   obtain⟨t,ι',hI,h,M⟩:=h
   exact⟨t,ι',hI,h,λb hb=>M b (HX b hb)⟩
  |none=>
   obtain⟨e,σ2,ι',HF,hq,h,M⟩:=h
   exact⟨e,σ2,ι',HF,hq,h,λb hb=>M b (HX b hb)⟩
 ·rintro k x S W us hx ⟨t,ι',hI,hF,M⟩ HG m
  obtain⟨⟨k1,k2⟩,k3,k4,_⟩:=hF.keep
  have hQ: ∀b,S b→b≠l:= λb hb=>(M b hb).2.1
  have zg:=HA x (List.mem_of_getElem? hx)
  have zs:us.size=ps'.size:=by
   rw[←Array.length_toList,←HG.length,zg,Array.length_toList]
  have hy:=run_yield (P:=P) (args:=us) k4 (by simp only[rdy,K];exact zs)
  refine⟨fn,_,asg',body',by simp only[rdy,K]at hy;exact hy,roundIn_of_wpIn trivial ?_⟩
  have etm:(ps'.zip us).foldl (λtmps (x:Nat×Value)=>tmps.setIfInBounds x.1 x.2) a.tmps=(ps'.toList.zip us.toList).foldl (λtmps (x:Nat×Value)=>tmps.setIfInBounds x.1 x.2) a.tmps:=by
   rw[←Array.foldl_toList,Array.toList_zip]
  have g9:aJ (aK W (aB w0.heap.size (Us rdy S W) ι' (mk k t).1) ι' (mk k t).2) x us.toList:=HG.mono λ_ _ h=>h.mono (λb A h=>(M b h).2.2) (λ_ _ _=>rfl) (λnm HE=>absurd HE (Nat.not_lt_zero _)) (Nat.zero_le _)
  have zz:bl w0 (Us rdy S W) ⟨Jm ps'.toList x fr0,(mk k t).1,(mk k t).2,bs⟩ ι' {tmps:=(ps'.zip us).foldl (λtmps (x:Nat×Value)=>tmps.setIfInBounds x.1 x.2) a.tmps,defers:= []} W:=by
   refine⟨λs=> ?_,⟨rfl,hF.defers.2⟩,hF.names,hF.box,hF.apart,hF.below,⟨hF.keep.1,hF.keep.2.1,hF.keep.2.2.1,λb hb=>⟨(M b hb).1,(M b hb).2.2,rfl⟩⟩,hF.base⟩
   rw[etm]
   exact DG g9 (by rw[hz];exact gt) hF.val s
  have h1:=hM k x t hx hI _ gq w0 (Us rdy S W) (some l) [] ι' _ W (rdRound _ _ _) zz (by rw[etm,AQ];exact hz)
  rw[pL]at h1
  refine wpIn_mono (GC h1) ?_
  rintro e a1 W1 ⟨e',σ1,ι1,U',ds',a0,rfl,hq,X,HH,rfl,z0⟩
  obtain⟨rfl,rfl⟩:=z0.inRound
  rw[pL]
  cases e' with
  |exit i=>exact hq.elim
  |ret=>exact hq.elim
  |normal=>
   have k4':=X.keep.2.2.1
   refine⟨_,run_beginRound k4' (by simp only[rdy,K]), ?_⟩
   have HM:=turn (r':={rdy with state:= .busy}) X hQ
   have h3:=hq _ O w0 (Us {rdy with state:= .busy} S W) (some l) [] ι1 a0 _ (rdRound _ _ _) HM HH
   rw[pL]at h3
   refine wpIn_mono (GC h3) ?_
   rintro e a2 W2 ⟨e',σ2,ι2,U',ds',a3,rfl,HN,HP,ZP,rfl,z2⟩
   obtain⟨rfl,rfl⟩:=z2.inRound
   have k5:=HP.keep.2.2.1
   have er: ∀jump:Option Code,({({rdy with state:= .busy}:Loop)with state:=if jump.isNone then .ready else .done,pending:=jump}:Loop)=rec (if jump.isNone then .ready else .done) jump:= λjump=>by simp only[rdy,K]
   have hr:= λjump=>run_endRound (P:=P) jump k5
   simp only[er]at hr
   have kept: ∀r' c,S c→(W2.putObj l (.loop r')).heap[c]? =W.heap[c]? := λr' c hc=>(World.putObj_heap_other (hQ c hc)).trans (HP.keep.2.2.2 c hc).2.2
   have okS: ∀{ι3:Pl} {mem:List (Nat×bm)} {σ3:St} {a3:Act} {r r':Loop},bl w0 (Us r S W) σ3 ι3 a3 (W2.putObj l (.loop r'))→σ3.mem=mem→OkS S (W2.putObj l (.loop r')) ι3 mem:=by
    intro ι3 mem σ3 a3 r r' h e b hb
    subst e
    obtain⟨q1,q2,q3⟩:=h.keep.2.2.2 b hb
    refine⟨?_,hQ b hb,q2⟩
    have:W.heap[b]? =some W.heap[b]:=by simp[q1]
    rw[this]at q3
    exact(Array.getElem?_eq_some_iff.1 q3).1
   cases e' with
   |normal=>
    obtain⟨t',l',z3,H7⟩:=HN
    have h4:=turn (r':=rdy) HP hQ
    have h5:bl w0 (Us rdy S W) {σ2 with fr:= []} ι2 a3 (W2.putObj l (.loop rdy)):=⟨λ_=> .top,h4.defers,h4.names,h4.box,h4.apart,h4.below,h4.keep,h4.base⟩
    have h6:=outer (h5.wk H7) rfl
    exact⟨_,_,hr none,true,rfl,⟨t',_,z3,weak h6,okS h6 rfl⟩,kept _⟩
   |exit i=>
    obtain⟨hW,H8⟩:=HN
    have h6:=outer (turn (r':=rec .done (some (xx (.exit i)))) HP hQ) hW
    exact⟨_,_,hr (some (.exit i)),false,rfl,⟨.exit i,σ2,ι2,(λh=>by cases h),H8,weak h6,okS h6 rfl⟩,kept _⟩
   |ret=>
    obtain⟨hW,H8⟩:=HN
    have h6:=outer (turn (r':=rec .done (some (xx .ret))) HP hQ) hW
    exact⟨_,_,hr (some .ret),false,rfl,⟨.ret,σ2,ι2,(λh=>by cases h),H8,weak h6,okS h6 rfl⟩,kept _⟩
 ·obtain⟨t0,l0,z4,G2⟩:=h0
  have X:=hs.grow HL
  have HC: ∀q,w.heap.size≤q→aB w0.heap.size U ι σ.mem q:= λq hq=>⟨.inr (by omega),λnm bx hn e=>by have:=((hs.box nm bx hn).block e).2;omega⟩
  have h2:bl w0 (Us rdy (λb=>aB w0.heap.size U ι σ.mem b∧b<w.heap.size) w1) ⟨[],σ.mem,σ.nx,bs⟩ ι a w1:=⟨λ_=> .top,hs.defers,X.names,X.box,X.apart,X.below,
   ⟨⟨λb hb hf=>⟨hf,HL.block b hb⟩,λe=>⟨HC D (HD e).1,(HD e).2.2⟩⟩,HC l q7,H3,λb hb=>⟨by omega,hb.1,rfl⟩⟩,⟨hb.2,λ_ _=>rfl⟩⟩
  have h3:=outer (h2.wk G2) rfl
  exact⟨t0,_,z4,weak h3,λb hb=>⟨by omega,by omega,(h3.keep.2.2.2 b hb).2.1⟩⟩
 ·rintro e W3 ⟨⟨v,rfl⟩,k,S',hk,h⟩
  cases k with
  |some k=>
   obtain rfl:k=xs.length:=by simpa using hk
   obtain⟨t,ι',hI,L,_⟩:=h
   have k:=L.keep.2.2.1
   have hr:=run_endLoop (P:=P) k (by simp only[rdy,K];simp)
   exact⟨_,_,hr,by simp only[rdy,K];exact final (e':= .normal) L (HK t hI)⟩
  |none=>
   obtain⟨e,σ2,ι',HF,hq,L,_⟩:=h
   have k:=L.keep.2.2.1
   have hr:=run_endLoop (P:=P) k (by simp only[K];simp)
   refine⟨_,_,hr, ?_⟩
   simp only[K]
   cases e with
   |normal=>exact absurd rfl HF
   |exit i=>exact wpIn_exit (final (e':= .exit i) L hq)
   |ret=>exact wpIn_ret (final (e':= .ret) L hq)
def Uw (P:Program) (nt:Nat) (body:ah) (Q:bk→St→Prop):bk→St→Prop
 | .normal,σ=>ir P nt body σ Q
 |_,_=>False
theorem J0 {body:ah} {σ:St} {Q:bk→St→Prop}:Uw P nt body Q .normal σ=ir P nt body σ Q:=propext ⟨id,id⟩
theorem ED {τ:Type} {mk:Nat→τ→List (Nat×bm)×Nat} {I:Nat→τ→Prop} {bs:Nat} {fr0:List (Nat×AV)} {base:Nat} {Q:bk→St→Prop} {k:Nat} {σ:St}:Ci mk I bs fr0 base Q k .normal σ= ∃t l,I (k+1) t∧Wk l {σ with fr:= []} ⟨[],(mk (k+1) t).1,(mk (k+1) t).2,bs⟩:=propext ⟨id,id⟩
theorem JR {τ:Type} {mk:Nat→τ→List (Nat×bm)×Nat} {I:Nat→τ→Prop} {bs:Nat} {fr0:List (Nat×AV)} {base:Nat} {Q:bk→St→Prop} {k i:Nat} {σ:St}:Ci mk I bs fr0 base Q k (.exit i) σ=(σ.base=bs∧Q (.exit i) ⟨fr0,σ.mem,σ.nx,base⟩):=propext ⟨id,id⟩
theorem Lr {τ:Type} {mk:Nat→τ→List (Nat×bm)×Nat} {I:Nat→τ→Prop} {bs:Nat} {fr0:List (Nat×AV)} {base:Nat} {Q:bk→St→Prop} {k:Nat} {σ:St}:Ci mk I bs fr0 base Q k .ret σ=(σ.base=bs∧Q .ret ⟨fr0,σ.mem,σ.nx,base⟩):=propext ⟨id,id⟩
attribute [go_sem ↓] J0 ED JR Lr
attribute [go_sem] Jm
theorem ji {fx:AX} {ps:List Nat} {asg body:ah} {g:FuncId} {caps:List AC} {pcaps:List AV} {xs:List (List AV)} {τ:Type}
  (bs:Nat) (fr0:List (Nat×AV)) (mk:Nat→τ→List (Nat×bm)×Nat) (I:Nat→τ→Prop)
  (hf:fx.ev σ.fr= .c (.clo g caps)) (hp:ba σ.mem (caps.map .c)=some pcaps) (H0:(caps.map AV.c).all kc=true)
  (hY:rr P g pcaps xs) (HA: ∀x∈xs,x.length=ps.length) (hb:σ.base≤bs∧bs≤σ.nx) (HC:kf [] σ.fr bs fr0)
  (h0: ∃t l,I 0 t∧Wk l ⟨[],σ.mem,σ.nx,bs⟩ ⟨[],(mk 0 t).1,(mk 0 t).2,bs⟩)
  (hM: ∀k x t,xs[k]? =some x→I k t→ir P nt asg ⟨Jm ps x fr0,(mk k t).1,(mk k t).2,bs⟩ (Uw P nt body (Ci mk I bs fr0 σ.base Q k)))
  (HK: ∀t,I xs.length t→Q .normal ⟨fr0,(mk xs.length t).1,(mk xs.length t).2,σ.base⟩):AW P nt (.rangeF fx ps asg body) σ Q:=
 Nv bs fr0 mk I hf hp H0 hY HA hb HC h0 (λk x t hx hI=>(aa (hM k x t hx hI)).mono λe σ h=>by
  cases e with
  |normal=>exact aa h
  |exit i=>exact h
  |ret=>exact h) HK
end
open Go.RowKit
def yv (l:Nat):AV:= .c (.pure (.val (.func (.yield l) #[] #[])))
section
variable {P : Program}
theorem rk {dr:Bool} {nt:Nat} {ops:Array Oper}: ∀{l:List Oper} {gs:List AG} (n:Nat),fK P dr nt ops l=some gs→fK P dr nt ops (l.take n)=some (gs.take n)∧fK P dr nt ops (l.drop n)=some (gs.drop n)∧
  ∀g,gs[n]? =some g→ ∃o,l[n]? =some o∧uK P dr nt ops o=some g
 |[],gs,n,h=>by
  cases h
  simp[fK]
 |o::l,gs,n,h=>by
  have h0:=h
  unfold fK at h
  split at h
  ·rename_i g gs' h1 h2
   cases h
   cases n with
   |zero=>
    refine⟨rfl,h0,λg' hg=> ?_⟩
    simp at hg
    subst hg
    exact⟨o,rfl,h1⟩
   |succ n=>
    obtain⟨k1,k2,k3⟩:=rk n h2
    refine⟨?_,k2,k3⟩
    simp only[List.take_succ_cons]
    unfold fK
    rw[h1,k1]
  ·cases h
theorem b9 {rd:Option Nat} {n:Nat} {ops:Array Oper} {Q1 Q:Exit→Act→World→Prop} {l2:List Oper} (hq: ∀a w,Q1 .normal a w→wpListIn (FR rd) n P ops Q l2 a w) (hx: ∀e a w,Q1 e a w→e= .normal): ∀{l1:List Oper} {a:Act} {w:World},
  wpListIn (FR rd) n P ops Q1 l1 a w→wpListIn (FR rd) n P ops Q (l1++l2) a w
 | [],a,w,h=>hq a w h
 |o::l1,a,w,h=>by
  rw[List.cons_append]
  unfold wpListIn at h ⊢
  split at h
  ·rename_i hw
   rw[if_pos hw]
   obtain⟨h1,h2⟩:=h
   refine⟨h1, ?_⟩
   generalize (o.semAt (FR rd).round a.eval).run P w=r at h2
   cases r with
   |ok nx w'=>
    cases nx<;>simp only[Oper.uponIn]at h2 ⊢
    case value v=>exact b9 hq hx h2
    case skip=>exact b9 hq hx h2
    case defer d=>exact b9 hq hx h2
    case enter f args=>
     refine⟨h2.1,h2.2.mono λe w'' h=> ?_⟩
     cases e with
     |returned v=>exact b9 hq hx h
     |panicked ch=>exact absurd (hx _ _ _ h) (by simp)
     |outgrown=>obtain⟨_,_,h⟩:=h;exact absurd (hx _ _ _ h) (by simp)
    case row row args=>exact⟨h2.1,h2.2.mono λv w'' h=>b9 hq hx h⟩
    case round l f tmps asg body=>
     refine⟨h2.1,h2.2.mono λe w'' h=> ?_⟩
     cases e with
     |returned v=>exact b9 hq hx h
     |panicked ch=>exact absurd (hx _ _ _ h) (by simp)
     |outgrown=>obtain⟨_,_,h⟩:=h;exact absurd (hx _ _ _ h) (by simp)
   |halt hh w'=>
    cases hh<;>simp only[Oper.uponIn]at h2 ⊢
    case panic v=>exact absurd (hx _ _ _ h2) (by simp)
  ·rename_i hw
   rw[if_neg hw]
   exact⟨h.1,b9 hq hx h.2⟩
def SY (S:Nat→Prop) (fr:List (Nat×AV)) (a:Act) (W:World):Prop:=(∀t,aK W S (λ_=>undef) 0 (aL fr t) (a.tmps.getD t undef))∧a.defers= []
def vT (S:Nat→Prop) (W:World) (S':Nat→Prop) (W':World):Prop:= ∀b,S b→S' b∧W'.heap[b]? =W.heap[b]?
theorem vT.refl {S:Nat→Prop} {W:World}:vT S W S W:= λ_ h=>⟨h,rfl⟩
theorem vT.trans {S S' S'':Nat→Prop} {W W' W'':World} (h:vT S W S' W') (k:vT S' W' S'' W''):vT S W S'' W'':= λb hb=>⟨(k b (h b hb).1).1,(k b (h b hb).1).2.trans (h b hb).2⟩
theorem SY.kept {S S':Nat→Prop} {fr:List (Nat×AV)} {a:Act} {W W':World} (h:SY S fr a W) (k:vT S W S' W'):SY S' fr a W':=
 ⟨λt=>(h.1 t).mono (λb _ hb=>(k b hb).1) (λb _ hb=>(k b hb).2) (λ_ _=>rfl) (Nat.le_refl _),h.2⟩
def sA (nt:Nat) (J:Option Nat→(Nat→Prop)→World→Prop) (S0:Nat→Prop) (W0:World) (Q:bk→Option Nat→List (Nat×AV)→Prop):Exit→Act→World→Prop:= λe a W=>
 ∃e' k fr S,e=o8 e'∧Q e' k fr∧J k S W∧SY S fr a W∧a.tmps.size=nt∧vT S0 W0 S W
theorem sA.kept {nt:Nat} {J:Option Nat→(Nat→Prop)→World→Prop} {S0 S1:Nat→Prop} {W0 W1:World} {Q:bk→Option Nat→List (Nat×AV)→Prop} {e:Exit} {a:Act} {W:World} (h:sA nt J S1 W1 Q e a W) (k:vT S0 W0 S1 W1):sA nt J S0 W0 Q e a W:=by
 obtain⟨e',k',fr,S,h1,h2,h3,h4,h5,h6⟩:=h
 exact⟨e',k',fr,S,h1,h2,h3,h4,h5,k.trans h6⟩
theorem sA.here {nt:Nat} {J:Option Nat→(Nat→Prop)→World→Prop} {S:Nat→Prop} {W:World} {Q:bk→Option Nat→List (Nat×AV)→Prop} {e':bk} {k:Option Nat} {fr:List (Nat×AV)} {a:Act} (hq:Q e' k fr) (hJ:J k S W) (hs:SY S fr a W) (hz:a.tmps.size=nt):sA nt J S W Q (o8 e') a W:=
 ⟨e',k,fr,S,rfl,hq,hJ,hs,hz,.refl⟩
def AY (P:Program) (nt:Nat) (J:Option Nat→(Nat→Prop)→World→Prop) (c:ah) (k:Option Nat) (fr:List (Nat×AV)) (Q:bk→Option Nat→List (Nat×AV)→Prop):Prop:=
 ∀(c':Code),dq P nt c'=some c→ ∀S a W,J k S W→SY S fr a W→a.tmps.size=nt→c'.wpIn (FR none) 0 P (sA nt J S W Q) a W
end
section
variable {P : Program} {nt : Nat} {J : Option Nat → (Nat → Prop) → World → Prop} {k : Option Nat} {fr : List (Nat × AV)} {Q : bk → Option Nat → List (Nat × AV) → Prop}
theorem mZ (h:Q .normal k fr):AY P nt J .skip k fr Q:=by
 intro c' hc S a W hJ hs hz
 cases c'<;>simp[dq]at hc
 ·exact wpIn_skip (sA.here (e':= .normal) h hJ hs hz)
 all_goals(try(split at hc<;>simp at hc))
theorem z8 (h:Q .ret k fr):AY P nt J .ret k fr Q:=by
 intro c' hc S a W hJ hs hz
 cases c'<;>simp[dq]at hc
 all_goals(try(split at hc<;>simp at hc))
 exact wpIn_ret (sA.here (e':= .ret) h hJ hs hz)
theorem Hb {id:Nat} (h:Q (.exit id) k fr):AY P nt J (.exit id) k fr Q:=by
 intro c' hc S a W hJ hs hz
 cases c'<;>simp[dq]at hc
 all_goals(try(split at hc<;>simp at hc))
 subst hc
 exact wpIn_exit (sA.here (e':= .exit _) h hJ hs hz)
def SE (P:Program) (nt:Nat) (J:Option Nat→(Nat→Prop)→World→Prop) (y:ah) (Q:bk→Option Nat→List (Nat×AV)→Prop):bk→Option Nat→List (Nat×AV)→Prop
 | .normal,k,fr=>AY P nt J y k fr Q
 | .exit i,k,fr=>Q (.exit i) k fr
 | .ret,k,fr=>Q .ret k fr
theorem cK {x y:ah} (h:AY P nt J x k fr (SE P nt J y Q)):AY P nt J (.seq x y) k fr Q:=by
 intro c' hc S a W hJ hs hz
 cases c'<;>simp[dq]at hc
 all_goals(try(split at hc<;>simp at hc))
 rename_i b1 b2 c1 c2 h1 h2
 obtain⟨rfl,rfl⟩:=hc
 refine wpIn_seq (wpIn_mono (h _ h1 S a W hJ hs hz) ?_)
 rintro e a1 W1 ⟨e',k',fr',S',rfl,hq,Y,C,H,hk⟩
 cases e' with
 |normal=>exact wpIn_mono (hq _ h2 S' a1 W1 Y C H) λe a w h=>h.kept hk
 |exit id=>exact⟨.exit id,k',fr',S',rfl,hq,Y,C,H,hk⟩
 |ret=>exact⟨.ret,k',fr',S',rfl,hq,Y,C,H,hk⟩
def OI (id:Nat) (Q:bk→Option Nat→List (Nat×AV)→Prop):bk→Option Nat→List (Nat×AV)→Prop
 | .normal,k,fr=>Q .normal k fr
 | .exit i,k,fr=>if i=id then Q .normal k fr else Q (.exit i) k fr
 | .ret,k,fr=>Q .ret k fr
theorem oc {x:ah} {id:Nat} (h:AY P nt J x k fr (OI id Q)):AY P nt J (.block id x) k fr Q:=by
 intro c' hc S a W hJ hs hz
 cases c'<;>simp[dq]at hc
 all_goals(try(split at hc<;>simp at hc))
 rename_i i1 c1
 obtain⟨rfl,h1⟩:i1=id∧dq P nt c1=some x:=by simp_all
 refine wpIn_block (wpIn_mono (h _ h1 S a W hJ hs hz) ?_)
 rintro e a1 W1 ⟨e',k',fr',S',rfl,hq,Y,C,H,hk⟩
 cases e' with
 |normal=>exact⟨.normal,k',fr',S',rfl,hq,Y,C,H,hk⟩
 |exit i=>
  simp only[OI]at hq
  by_cases hi:i=i1
  ·rw[if_pos hi]at hq
   simp only[o8,Exit.inBlock,if_pos hi]
   exact⟨.normal,k',fr',S',rfl,hq,Y,C,H,hk⟩
  ·rw[if_neg hi]at hq
   simp only[o8,Exit.inBlock,if_neg hi]
   exact⟨.exit i,k',fr',S',rfl,hq,Y,C,H,hk⟩
 |ret=>exact⟨.ret,k',fr',S',rfl,hq,Y,C,H,hk⟩
theorem Rs {W W1:World} {b:Nat} (hl:b<W.heap.size) (h:W1.heap[b]? =W.heap[b]?):b<W1.heap.size:=by
 have:W.heap[b]? =some W.heap[b]:=by simp[hl]
 rw[this]at h
 exact(Array.getElem?_eq_some_iff.1 h).1
def SO (S:Nat→Prop) (W:World) (A: ∀b,S b→b<W.heap.size):Gh:=⟨S,λ_=>undef,λW' V=> ∀b,S b→V b∧W'.heap[b]? =W.heap[b]?,λW1 W2 V1 V2 h hV hw b hb=>by
 obtain⟨h1,h2⟩:=h b hb
 have hl:=Rs (A b hb) h2
 exact⟨hV b hl h1,(hw b hl h1).trans h2⟩⟩
theorem SY.sim {S:Nat→Prop} {a:Act} {W:World} (hs:SY S fr a W) (A: ∀b,S b→b<W.heap.size) (hG:qQ W):bl W (SO S W A) ⟨fr, [],0,0⟩ (λ_=>undef) a W:=by
 have hf: ∀b,S b→aB W.heap.size (SO S W A) (λ_=>undef) [] b:= λb hb=>⟨.inl hb,λnm bx hn=>by cases hn⟩
 exact⟨λt=>(hs.1 t).mono (λb _ h=>hf b h) (λ_ _ _=>rfl) (λ_ _=>rfl) (Nat.le_refl _),⟨hs.2,hG⟩,(λnm bx hn=>by cases hn),(λnm bx hn=>by cases hn),(λnm nm' b1 b2 b hn=>by cases hn),Below.refl _ _,λb hb=>⟨hf b hb,rfl⟩,⟨Nat.le_refl _,λ_ h=>absurd h (Nat.not_lt_zero _)⟩⟩
def j8 (σ:St):List (Nat×AV)→Prop
 | []=>True
 |(t,v)::r=>(aL σ.fr t=v∨v= .top∨c9 σ.mem (aL σ.fr t)=some v)∧kW 0 v∧j8 σ r
theorem PJ {v:AV}:du [] v=v:=by
 have hC: ∀x:AC,dM [] x=x:= λx=>by cases x<;>rfl
 have hA: ∀x:AC,cz [] x=x:= λx=>by cases x<;>simp[cz,rn,List.map_congr_left (λy _=>hC y)]
 cases v<;>simp[du,hA,List.map_congr_left (λy _=>hA y)]
theorem Oy {σ:St} {fr':List (Nat×AV)} (h:j8 σ fr') (t:Nat):(aL σ.fr t=aL fr' t∨aL fr' t= .top∨c9 σ.mem (aL σ.fr t)=some (aL fr' t))∧kW 0 (aL fr' t):=by
 induction fr' with
 |nil=>exact⟨.inr (.inl rfl),trivial⟩
 |cons x r ih=>
  obtain⟨k,v⟩:=x
  obtain⟨h1,h2,h3⟩:=h
  rw[dF]
  by_cases e:k=t
  ·subst e
   rw[if_pos rfl]
   exact⟨h1,h2⟩
  ·rw[if_neg e]
   exact ih h3
theorem SY.back {S:Nat→Prop} {W W':World} {A: ∀b,S b→b<W.heap.size} {σ:St} {ι:Pl} {a:Act} {fr':List (Nat×AV)} (hs:bl W (SO S W A) σ ι a W') (hw:j8 σ fr'):SY (λb=>S b∨W.heap.size≤b∧b<W'.heap.size) fr' a W':=by
 refine⟨λt=> ?_,hs.defers.1⟩
 obtain⟨h1,h2⟩:=Oy hw t
 rcases h1 with h1|h1|h1
 ·have:=hs.val t
  rw[h1]at this
  have h3:=(show aK W' (aB W.heap.size (SO S W A) ι σ.mem) ι σ.nx (du [] (aL fr' t)) _ by rw[PJ];exact this).cl (V':= λb=>S b∨W.heap.size≤b) (λb h=>h.1) h2
  exact h3.mono (λb hl h=>h.imp id λh=>⟨h,hl⟩) (λ_ _ _=>rfl) (λnm h=>absurd h (Nat.not_lt_zero _)) (Nat.le_refl _)
 ·rw[h1];exact .top
 ·have h3:=yW (V:= λb=>S b∨W.heap.size≤b) hs (hs.val t) h1 (λb h=>h.1) (.inr λb h=> .inr h)
  exact h3.mono (λb hl h=>h.imp id λh=>⟨h,hl⟩) (λ_ _ _=>rfl) (λ_ _=>rfl) (Nat.le_refl _)
theorem zL {S:Nat→Prop} {W W':World} {A: ∀b,S b→b<W.heap.size} {σ:St} {ι:Pl} {a:Act} (hs:bl W (SO S W A) σ ι a W'):vT S W (λb=>S b∨W.heap.size≤b∧b<W'.heap.size) W':=
 λb hb=>⟨.inl hb,(hs.keep b hb).2⟩
theorem kX {c:AX} {x y:ah} {t:Bool} (hc:c.ev fr= .c (.pure (.val (.bool t)))) (h1:t=true→AY P nt J x k fr Q) (h2:t=false→AY P nt J y k fr Q) (A: ∀k S W,J k S W→(∀b,S b→b<W.heap.size)∧qQ W):AY P nt J (.cond c x y) k fr Q:=by
 intro c' HR S a W hJ hs hz
 cases c'<;>simp[dq]at HR
 all_goals(try(split at HR<;>simp at HR))
 rename_i o b1 b2 _ _ _ x1 x2 x3 g1 g2 g3
 obtain⟨rfl,rfl,rfl⟩:=HR
 have L:=hs.sim (A _ _ _ hJ).1 (A _ _ _ hJ).2
 have r1:=al g1 L
 rw[hc]at r1
 have ho:=(aQ r1).1
 cases t with
 |true=>exact wpIn_cond_true ho (h1 rfl _ g2 S a W hJ hs hz)
 |false=>exact wpIn_cond_false ho (h2 rfl _ g3 S a W hJ hs hz)
def Vp {τ:Type} (mk:τ→Option Nat×List (Nat×AV)) (I:τ→Prop) (μ:τ→Nat) (t:τ) (Q:bk→Option Nat→List (Nat×AV)→Prop):bk→Option Nat→List (Nat×AV)→Prop
 | .normal,k,fr=> ∃t',I t'∧μ t'<μ t∧(mk t').1=k∧kf [] fr 0 (mk t').2
 | .exit i,k,fr=>Q (.exit i) k fr
 | .ret,k,fr=>Q .ret k fr
theorem SY.wk {S:Nat→Prop} {a:Act} {W:World} {fr':List (Nat×AV)} (hs:SY S fr a W) (h:kf [] fr 0 fr'):SY S fr' a W:=by
 refine⟨λt=> ?_,hs.2⟩
 obtain⟨h1,h2⟩:=D7 h t
 rcases h1 with h1|h1
 ·have:=hs.1 t
  rw[h1]at this
  exact this.cl (λ_ h=>h) h2
 ·rw[h1];exact .top
theorem Iu {τ:Type} {x:ah} (mk:τ→Option Nat×List (Nat×AV)) (I:τ→Prop) (μ:τ→Nat) (h0: ∃t,I t∧(mk t).1=k∧kf [] fr 0 (mk t).2) (h: ∀t,I t→AY P nt J x (mk t).1 (mk t).2 (Vp mk I μ t Q)):AY P nt J (.loop x) k fr Q:=by
 intro c' hc S a W hJ hs hz
 cases c'<;>simp[dq]at hc
 all_goals(try(split at hc<;>simp at hc))
 rename_i c1
 obtain⟨t,ht,rfl,hw⟩:=h0
 refine wpIn_loop_rounds (μ t+1) ?_
 have key: ∀n t S1 a1 W1,μ t<n→I t→J (mk t).1 S1 W1→SY S1 (mk t).2 a1 W1→a1.tmps.size=nt→vT S W S1 W1→Code.roundsIn (FR none) 0 P c1 (sA nt J S W Q) n a1 W1:=by
  intro n
  induction n with
  |zero=>intro t S1 a1 W1 hm;omega
  |succ n ih=>
   intro t S1 a1 W1 hm ht z5 X HH HI
   rw[roundsIn_succ]
   refine wpIn_mono (h t ht _ hc S1 a1 W1 z5 X HH) ?_
   rintro e a2 W2 ⟨e',k',fr',S',rfl,hq,Y,C,H,hk⟩
   cases e' with
   |normal=>
    obtain⟨t',z9,A,rfl,H7⟩:=hq
    exact ih t' S' a2 W2 (by omega) z9 Y (C.wk H7) H (HI.trans hk)
   |exit i=>exact⟨.exit i,k',fr',S',rfl,hq,Y,C,H,HI.trans hk⟩
   |ret=>exact⟨.ret,k',fr',S',rfl,hq,Y,C,H,HI.trans hk⟩
 exact key _ t S a W (Nat.lt_succ_self _) ht hJ (hs.wk hw) hz .refl
def LF (P:Program) (J:Option Nat→(Nat→Prop)→World→Prop) (f:AV) (args:List AV) (k:Option Nat) (R:AV→Option Nat→Prop):Prop:=
 ∀S W fv us,J k S W→aK W S (λ_=>undef) 0 f fv→aJ (aK W S (λ_=>undef) 0) args us→ ∀(o:Oper) (a:Act) (c:Call) (fo:Operand) (next:Act→World→Prop) (Q:Exit→Act→World→Prop),o.op= .call c→c.callee= .value fo→a.eval fo=fv→(c.args.map a.eval).toList=us→
  (∀v res k' S' W',R res k'→aK W' S' (λ_=>undef) 0 res v→J k' S' W'→vT S W S' W'→next (a.put o.dst v) W')→o.wpIn (FR none) 0 P a W next Q
theorem cw {gs:List AG} (hJ: ∀k S W,J k S W→(∀b,S b→b<W.heap.size)∧qQ W) (hg: ∀k S W W',J k S W→Below W.heap.size W W'→J k (λb=>S b∨W.heap.size≤b∧b<W'.heap.size) W')
  (h:lB P gs ⟨fr, [],0,0⟩ (λσ'=> ∃fr',j8 σ' fr'∧Q .normal k fr')):AY P nt J (.region gs false) k fr Q:=by
 intro c' hc S a W hj hs hz
 cases c'<;>simp[dq]at hc
 all_goals(try(split at hc<;>simp at hc))
 rename_i id ops dr
 obtain⟨g1,h1,hH⟩:=hc
 cases dr with
 |false=>
  simp[nQ]at hH
  subst hH
  have L:=hs.sim (hJ _ _ _ hj).1 (hJ _ _ _ hj).2
  have:=tE (rd:=none) (ds:= []) (n:=0) (sG (nt:=nt) (w0:=W) (U:=SO S W (hJ _ _ _ hj).1) (Q:= λe σ'=> ∃fr',j8 σ' fr'∧Q .normal k fr')) (jr h1) (lp h1 h L hz λσ' ι' a' w' hq C H=>⟨σ',ι',rfl,hq,C,H⟩)
  rw[pL]at this
  refine wpIn_mono (wpIn_region_list this) ?_
  rintro e a1 W1 ⟨a0,rfl,σ',ι',rfl,⟨fr',hw,hq⟩,C,H⟩
  rw[pL]
  exact⟨.normal,k,fr',_,rfl,hq,hg _ _ _ _ hj C.below,SY.back C hw,H,zL C⟩
 |true=>
  simp only[nQ,if_true]at hH
  rcases iy (P:=P) (ops:=ops.toList) (gs:=g1)with⟨x,e⟩|e<;>rw[e]at hH<;>simp at hH
theorem JX {dr:Bool} {op:Op} {gg z:Bool} {fx:AX} {args:List AX} (h:bo P dr op=some (.call gg z fx args)): ∃c fo,op= .call c∧c.callee= .value fo∧aC fo=some fx∧ka c.args.toList=some args:=by
 unfold bo at h
 split at h
 case h_28=>
  rename_i f as _
  split at h
  ·rename_i y xs h1 h2
   cases h
   exact⟨_,f,rfl,rfl,h1,h2⟩
  ·cases h
 all_goals exfalso
 all_goals(try(simp at h;done))
 all_goals(try((repeat' split at h)<;>first|(cases h;done)|(obtain⟨_,_,e⟩:=Option.map_eq_some_iff.1 h;cases e;done)|(simp at h;done)))
theorem F4 {gs:List AG} (n:Nat) {dst:Option Nat} {gg z:Bool} {fx:AX} {args:List AX} (hn:gs[n]? =some ⟨dst,none,.call gg z fx args⟩) (hJ: ∀k S W,J k S W→(∀b,S b→b<W.heap.size)∧qQ W)
  (hg: ∀k S W W',J k S W→Below W.heap.size W W'→J k (λb=>S b∨W.heap.size≤b∧b<W'.heap.size) W')
  (h:lB P (gs.take n) ⟨fr, [],0,0⟩ (λσ1=> ∃fr1,j8 σ1 fr1∧ ∃R,LF P J (fx.ev fr1) (args.map (·.ev fr1)) k R∧
   ∀res k',R res k'→lB P (gs.drop (n+1)) ((⟨fr1, [],0,0⟩:St).put dst res) (λσ2=> ∃fr2,j8 σ2 fr2∧Q .normal k' fr2))):AY P nt J (.region gs false) k fr Q:=by
 intro c' hc S a W hj hs hz
 cases c'<;>simp[dq]at hc
 all_goals(try(split at hc<;>simp at hc))
 rename_i id ops dr
 obtain⟨g1,h1,hH⟩:=hc
 cases dr with
 |true=>
  simp only[nQ,if_true]at hH
  rcases iy (P:=P) (ops:=ops.toList) (gs:=g1)with⟨x,e⟩|e<;>rw[e]at hH<;>simp at hH
 |false=>
  simp[nQ]at hH
  subst hH
  have L:=hs.sim (hJ _ _ _ hj).1 (hJ _ _ _ hj).2
  obtain⟨c1,_,c3⟩:=rk n h1
  obtain⟨_,c2,_⟩:=rk (n+1) h1
  obtain⟨o,ho,T⟩:=c3 _ hn
  have HS:ops.toList=ops.toList.take n++(o::ops.toList.drop (n+1)):=by
   have A:=(List.getElem?_eq_some_iff.1 ho).1
   have he:=(List.getElem?_eq_some_iff.1 ho).2
   rw[←he,←List.drop_eq_getElem_cons A,List.take_append_drop]
  have hd:=J3 T
  unfold uK at T
  by_cases HB:KY nt o.dst=false
  ·rw[if_pos HB]at T;cases T
  rw[if_neg HB]at T
  split at T
  ·rename_i ao ZA
   have ZB:o.guard=none∧o.dst=dst∧ao= .call gg z fx args:=by
    cases HT:o.guard with
    |none=>
     rw[HT]at T
     cases T
     exact⟨rfl,rfl,rfl⟩
    |some q=>
     rw[HT]at T
     dsimp only at T
     split at T
     ·cases T
     ·cases T
   obtain⟨HT,rfl,rfl⟩:=ZB
   have ZC: ∀t,o.dst=some t→t<nt:=by
    intro t ht
    rw[ht]at HB
    simpa[KY]using HB
   obtain⟨c,fo,ha,HQ,H1,E⟩:=JX ZA
   refine wpIn_region_list ?_
   rw[HS]
   have h3:=tE (rd:=none) (ds:= []) (n:=0) (ops:=ops) (sG (nt:=nt) (w0:=W) (U:=SO S W (hJ _ _ _ hj).1) (Q:= λe σ1=> ∃fr1,j8 σ1 fr1∧ ∃R,LF P J (fx.ev fr1) (args.map (·.ev fr1)) k R∧
    ∀res k',R res k'→lB P (g1.drop (n+1)) ((⟨fr1, [],0,0⟩:St).put o.dst res) (λσ2=> ∃fr2,j8 σ2 fr2∧Q .normal k' fr2))) (jr c1) (lp c1 h L hz λσ' ι' a' w' hq C H=>⟨σ',ι',rfl,hq,C,H⟩)
   rw[pL]at h3
   refine b9 ?_ ?_ h3
   ·rintro a1 W1 ⟨a0,rfl,σ1,ι1,_,⟨fr1,ZD,R,gN,ga⟩,X,HH⟩
    rw[pL]
    have HV:=hg _ _ _ _ hj X.below
    have gb:=SY.back X ZD
    have HI:=zL X
    generalize (λb=>S b∨W.heap.size≤b∧b<W1.heap.size)=S1 at HV gb HI
    have gd:=gb.sim (hJ _ _ _ HV).1 (hJ _ _ _ HV).2
    have ev: ∀{x:Operand} {y:AX},aC x=some y→aK W1 S1 (λ_=>undef) 0 (y.ev fr1) (a0.eval x):=by
     intro x y hx
     have:=al hx gd
     exact this.mono (λb A h=>by
      rcases h.1 with h|h
      ·exact h
      ·omega) (λ_ _ _=>rfl) (λ_ _=>rfl) (Nat.le_refl _)
    have evs: ∀{l:List Operand} {ys:List AX},ka l=some ys→aJ (aK W1 S1 (λ_=>undef) 0) (ys.map (·.ev fr1)) (l.map a0.eval):=by
     intro l
     induction l with
     |nil=>intro ys h;cases h;exact .nil
     |cons x l ih=>
      intro ys h
      unfold ka at h
      split at h
      ·rename_i y ys' h1 h2
       cases h
       exact .cons (ev h1) (ih h2)
      ·cases h
    show wpListIn (FR none) 0 P ops _ (o::ops.toList.drop (n+1)) a0 W1
    unfold wpListIn
    rw[if_pos (by simp[Region.wanted,HT])]
    refine gN S1 W1 _ _ HV (ev H1) (evs E) o a0 c fo _ _ ha HQ rfl (by simp) ?_
    intro v res k' S' W' hR hT HW qs
    have ge:=gb.kept qs
    have ZE:SY S' ((⟨fr1, [],0,0⟩:St).put o.dst res).fr (a0.put o.dst v) W':=by
     cases ZF:o.dst with
     |none=>exact ge
     |some t=>
      refine⟨λs=> ?_,ge.2⟩
      have A:t<a0.tmps.size:=by rw[HH];exact ZC t ZF
      show aK _ _ _ _ (aL ((t,res)::fr1) s) _
      rw[dF]
      by_cases e:t=s
      ·subst e
       rw[if_pos rfl]
       have:(a0.put (some t) v).tmps.getD t undef=v:=by simp[Act.put,Array.getD_eq_getD_getElem?,A]
       rw[this]
       exact hT
      ·rw[if_neg e]
       have:(a0.put (some t) v).tmps.getD s undef=a0.tmps.getD s undef:=by simp[Act.put,Array.getD_eq_getD_getElem?,Array.getElem?_setIfInBounds,e]
       rw[this]
       exact ge.1 s
    have gi:=ZE.sim (hJ _ _ _ HW).1 (hJ _ _ _ HW).2
    have ZG:((⟨fr1, [],0,0⟩:St).put o.dst res)=⟨((⟨fr1, [],0,0⟩:St).put o.dst res).fr, [],0,0⟩:=by cases o.dst<;>rfl
    have h4:=ga res k' hR
    rw[ZG]at h4
    have h5:=tE (rd:=none) (ds:= []) (n:=0) (ops:=ops) (sG (nt:=nt) (w0:=W') (U:=SO S' W' (hJ _ _ _ HW).1) (Q:= λe σ2=> ∃fr2,j8 σ2 fr2∧Q .normal k' fr2)) (jr c2) (lp c2 h4 gi (by rw[sr];exact HH) λσ' ι' a' w' hq C H=>⟨σ',ι',rfl,hq,C,H⟩)
    rw[pL]at h5
    have h6:=b9 (Q:=sA nt J S W Q) (l2:= []) ?_ ?_ h5
    ·rw[List.append_nil]at h6
     exact h6
    ·rintro a2 W2 ⟨a3,rfl,σ2,ι2,_,⟨fr2,ZH,HN⟩,HM,ZI⟩
     rw[pL]
     exact⟨.normal,k',fr2,_,rfl,HN,hg _ _ _ _ HW HM.below,SY.back HM ZH,ZI,(HI.trans qs).trans (zL HM)⟩
    ·rintro e a2 W2 ⟨a3,rfl,σ2,ι2,e2,_⟩
     exact e2
   ·rintro e a1 W1 ⟨a0,rfl,σ1,ι1,e2,_⟩
    exact e2
  ·cases T
theorem mU {l:Nat} {w:World} {xs:List (List AV)} {args:List AV} {k:Nat} (hJ:F8 P l w xs J) (hx:xs[k]? =some args):
  LF P J (yv l) args (some k) (λres k'=> ∃b:Bool,res= .c (.pure (.val (.bool b)))∧k'=if b=true then some (k+1)else none):=by
 intro S W fv us hj hf HG o a c fo next Q ho hc gj E h7
 obtain⟨rfl,_⟩:=aQ hf
 obtain⟨fn,tmps,asg,body,hy,hR⟩:=hJ.round k args S W us.toArray hx hj (by simpa using HG) 0
 refine⟨λ_ _=>trivial, ?_⟩
 rw[Oper.semAt_eq _ _ _ (by rw[ho];intro c e;cases e)]
 have Z:(execOp a.eval o).run P W= .ok (.round l fn tmps asg body) W:=by
  have e:c.args.map a.eval=us.toArray:=by rw[←E]
  simp[execOp,ho,resolve,hc,gj,Deferred.ofValue,invoke,e,hy]
 rw[Z,Oper.uponIn_round]
 refine⟨by simp[FR,Fence.wide],hR.mono ?_⟩
 rintro e W' ⟨b,rfl,hL,hk⟩
 exact h7 (.bool b) _ _ S W' ⟨b,rfl,rfl⟩ (.c (.pure (.val rfl))) hL λb hb=>⟨hb,hk b hb⟩
def kT (P:Program) (J:Option Nat→(Nat→Prop)→World→Prop) (f:FuncId) (args:List AV) (k:Option Nat) (R:AV→Option Nat→Prop):Prop:=
 la P f∧ ∀(S:Nat→Prop) (W:World) (us:Array Value),J k S W→aJ (aK W S (λ_=>undef) 0) args us.toList→
  Calls P f us W λe W'=> ∃v res k' S',e= .returned v∧R res k'∧aK W' S' (λ_=>undef) 0 res v∧J k' S' W'∧vT S W S' W'
theorem DK {f:FuncId} {args:List AV} {R:AV→Option Nat→Prop} (h:kT P J f args k R):LF P J (.c (.clo f [])) args k R:=by
 intro S W fv us hj hf HG o a c fo next Q ho hc gj E h7
 obtain rfl:fv= .func (.func f) #[] #[]:=by
  cases hf with
  |c hf=>
   cases hf with
   | @clo _ _ vs hl _=>
    have:vs= #[]:=Array.eq_empty_of_size_eq_zero (by simpa using hl.symm)
    rw[this]
 obtain⟨⟨fn,H2,O,hD⟩,ha⟩:=h
 have hb: ¬fn.body=none:=by intro e;rw[e]at O;cases O
 have hN : ¬ fn.name = "runtime.NumGoroutine" := by intro e; rw [e] at hD; simp at hD
 refine⟨λ_ _=>trivial, ?_⟩
 rw[Oper.semAt_eq _ _ _ (by rw[ho];intro c e;cases e)]
 have Z:(execOp a.eval o).run P W= .ok (.enter f us.toArray) W:=by
  have e:c.args.map a.eval=us.toArray:=by rw[←E]
  simp[execOp,ho,resolve,hc,gj,Deferred.ofValue,invoke,callFunc,H2,hN,hb,e]
 rw[Z,Oper.uponIn_enter]
 refine⟨by simp[FR,Fence.wide],Ir ((ha S W us.toArray hj (by simpa using HG)).mono ?_)⟩
 rintro e W' ⟨v,res,k',S',rfl,hR,hT,hL,hk⟩
 exact h7 v res k' S' W' hR hT hL hk
def VV (rs:List AR) (R:AV→Option Nat→Prop):bk→Option Nat→List (Nat×AV)→Prop
 | .exit _,_,_=>False
 | .ret,k,fr=>kb ⟨fr, [],0,0⟩ rs [] λvs=>R (fZ vs) k
 | .normal,k,fr=>kb ⟨fr, [],0,0⟩ rs [] λvs=>R (fZ vs) k
theorem kT.of {f:FuncId} {body:ah} {rs:List AR} {args:List AV} {R:AV→Option Nat→Prop} (hJ: ∀k S W,J k S W→(∀b,S b→b<W.heap.size)∧qQ W) (hf:aq P f nt body rs) (HA:args.length≤nt)
  (h:fL args→AY P nt J body k (aS args 0) (VV rs R)):kT P J f args k R:=by
 obtain⟨fn,c,h1,h2,h3,rfl,h5,h6⟩:=hf.is
 refine⟨⟨fn,h1,by rw[h2];rfl,h3⟩,λS W vs hj E=> ?_⟩
 have ZQ:vs.size=args.length:=by rw[←Array.length_toList];exact E.length.symm
 have hs:SY S (aS args 0) {tmps:=vs++Array.replicate (fn.ntmps-vs.size) undef,defers:= []} W:=by
  refine⟨λt=> ?_,rfl⟩
  rcases jv (vs:=vs.toList) (k:=0) E t with h|h
  ·by_cases A:t<vs.size
   ·have e:(vs++Array.replicate (fn.ntmps-vs.size) undef).getD t undef=(vs.toList[t-0]?).getD undef:=by
     simp[Array.getD_eq_getD_getElem?,Array.getElem?_append,A]
    rw[e]
    exact h
   ·have:aL (aS args 0) t= .top:=by
     have key: ∀(l:List AV) (j:Nat),j+l.length≤t→aL (aS l j) t= .top:=by
      intro l
      induction l with
      |nil=>intro j _;rfl
      |cons x l ih=>
       intro j hj
       simp only[List.length_cons]at hj
       show(if j=t then x else aL (aS l (j+1)) t)=_
       rw[if_neg (by omega)]
       exact ih _ (by omega)
     exact key args 0 (by omega)
    rw[this]
    exact .top
  ·rw[h]
   exact .top
 have go:(vs++Array.replicate (fn.ntmps-vs.size) undef).size=fn.ntmps:=by simp;omega
 refine(callsIn_wide (n:=0)).1 (callsIn_of_wp h1 h2 trivial (wpIn_mono (h (tg E) c h5 S _ W hj hs go) ?_))
 have fin: ∀{a':Act} {W':World} {fr':List (Nat×AV)} {k':Option Nat} {S':Nat→Prop},kb ⟨fr', [],0,0⟩ rs [] (λvs=>R (fZ vs) k')→J k' S' W'→SY S' fr' a' W'→vT S W S' W'→a'.defers= []∧ ∃v,(results fn a'.tmps).run P W'= .ok v W'∧ ∃v' res k' S',Ending.returned v= .returned v'∧R res k'∧aK W' S' (λ_=>undef) 0 res v'∧J k' S' W'∧vT S W S' W':=by
  intro a' W' fr' k' S' hT hL C hk
  obtain⟨vs',us',g1,g2,g3⟩:=lm (C.sim (hJ _ _ _ hL).1 (hJ _ _ _ hL).2) (us:= []) h6 hT .nil
  refine⟨C.2,(if h:us'.toArray.size=1 then us'.toArray[0]else .tuple us'.toArray), ?_,_,_,k',S',rfl,g3, ?_,hL,hk⟩
  ·rw[mg,Array.mapM_eq_mapM_toList]
   simp[g2]
  ·have:=qY (by simpa using g1)
   exact this.mono (λb A h=>by
    rcases h.1 with h|h
    ·exact h
    ·omega) (λ_ _ _=>rfl) (λ_ _=>rfl) (Nat.le_refl _)
 rintro e a' W' ⟨e',k',fr',S',rfl,hq,hL,C,ZN,hk⟩
 cases e' with
 |normal=>exact fin hq hL C hk
 |exit i=>exact hq.elim
 |ret=>exact fin hq hL C hk
theorem rr.of {f:FuncId} {args:List AV} {xs:List (List AV)} (hf:la P f) (h: ∀(l:Nat) (w:World) (J':Option Nat→(Nat→Prop)→World→Prop),F8 P l w xs J'→kT P J' f (yv l::args) (some 0) (λ_ k'=>k'=some xs.length∨k'=none)):rr P f args xs:=by
 refine⟨hf, ?_⟩
 intro l S J' w vs hG E hJ h0
 have h1:=(h l w J' hJ).2 S w (#[.func (.yield l) #[] #[]]++vs) h0
 have e:(#[Value.func (.yield l) #[] #[]]++vs).toList=Value.func (.yield l) #[] #[]::vs.toList:=by simp
 rw[e]at h1
 have h2:=h1 (aJ.cons (.c (.pure (.val rfl))) E)
 refine h2.mono ?_
 rintro e w' ⟨v,res,k',S',he,hk,_,hj,_⟩
 exact⟨⟨v,he⟩,k',S',hk,hj⟩
end
open Go.RowKit
section
variable {P : Program} {f : FuncId} {args pargs : List AV} {mem : List (Nat × bm)} {nx : Nat}
theorem Eb {w0 w:World} {U:Gh} {ι:Pl} {vs:Array Value} (hs:bl w0 U ⟨[],mem,nx,nx⟩ ι {tmps:= #[],defers:= []} w) (hr:aJ (aK w (aB w0.heap.size U ι mem) ι nx) args vs.toList) (hp:ba mem args=some pargs) (hn:args.all kc=true):
  bl w (Gh.of (aB w0.heap.size U ι mem)) ⟨[], [],0,0⟩ (λ_=>undef) {tmps:= #[],defers:= []} w∧aJ (aK w (aB w.heap.size (Gh.of (aB w0.heap.size U ι mem)) (λ_=>undef) []) (λ_=>undef) 0) pargs vs.toList:=
 ⟨⟨λt=> .top,⟨rfl,hs.glob⟩,(λnm bx hn=>by cases hn),(λnm bx hn=>by cases hn),(λnm nm' b1 b2 b hn=>by cases hn),Below.refl _ _,trivial,⟨Nat.le_refl _,λ_ h=>absurd h (Nat.not_lt_zero _)⟩⟩,
  (js (σ:=⟨[],mem,nx,nx⟩) (V:=aB w0.heap.size U ι mem) hs hr (λ_ h=>h) (.inl hn) hp).mono λ_ _ h=>h.mono (λb _ h=>⟨.inl h,λnm bx hf=>by cases hf⟩) (λ_ _ _=>rfl) (λ_ _=>rfl) (Nat.le_refl _)⟩
theorem bb.lift0 {res:AV} (h:bb P f pargs [] 0 res [] 0) (hp:ba mem args=some pargs) (hn:args.all kc=true):bb P f args mem nx res mem nx:=by
 refine⟨h.1,λw0 U ι w vs hs hr=> ?_⟩
 have hB:=hs.below.size
 obtain⟨g1,g2⟩:=Eb hs hr hp hn
 refine(h.2 w _ _ w vs g1 g2).mono ?_
 rintro en w' ⟨v,ι',rfl,h1,h2⟩
 refine⟨v,ι,rfl,hs.grow h1.below,h2.mono (λb _ hf=> ?_) (λb _ _=>rfl) (λnm hn=>absurd hn (Nat.not_lt_zero _)) (Nat.zero_le _)⟩
 obtain⟨hf|hf,_⟩:=hf
 ·exact hf
 ·refine⟨.inr (Nat.le_trans hB hf),λnm bx hK hc=> ?_⟩
  have:=((hs.box _ _ hK).block hc).2
  omega
theorem bb.lift1 {e sz:Nat} {rows:List (List PC)} {y:Value} (hy:ry y=true) (h:bb P f pargs [] 0 (.tup [.c (.ref 0),.c (.pure (.val y))]) [(0,.arr e sz rows)] 1) (hp:ba mem args=some pargs) (hn:args.all kc=true):
  bb P f args mem nx (.tup [.c (.ref nx),.c (.pure (.val y))]) ((nx,.arr e sz rows)::mem) (nx+1):=by
 refine⟨h.1,λw0 U ι w vs hs hr=> ?_⟩
 have hB:=hs.below.size
 obtain⟨g1,g2⟩:=Eb hs hr hp hn
 refine(h.2 w _ _ w vs g1 g2).mono ?_
 rintro en w' ⟨v,ι',rfl,h1,h2⟩
 obtain⟨cells,k0,k1,k2,k3⟩:=h1.box 0 (.arr e sz rows) rfl
 have hU: ∀ι'':Pl,(∀nm,nm<nx→ι'' nm=ι nm)→ι'' nx=ι' 0→ ∀b,aB w.heap.size (Gh.of (aB w0.heap.size U ι mem)) ι' [(0,.arr e sz rows)] b→aB w0.heap.size U ι'' ((nx,.arr e sz rows)::mem) b:=by
  intro ι'' e1 e2 b hf
  have HY:=hf.2 0 _ rfl
  obtain⟨h8,_⟩:=hf
  rcases h8 with h8|h8
  ·refine⟨h8.1,λnm bx hK=> ?_⟩
   rw[bt]at hK
   by_cases hh:nx=nm
   ·subst hh
    rw[e2]
    exact HY
   ·rw[if_neg hh]at hK
    rw[e1 _ (hs.names _ _ hK)]
    exact h8.2 _ _ hK
  ·refine⟨.inr (Nat.le_trans hB h8),λnm bx hK hc=> ?_⟩
   rw[bt]at hK
   by_cases hh:nx=nm
   ·subst hh
    rw[e2]at hc
    exact HY hc
   ·rw[if_neg hh]at hK
    rw[e1 _ (hs.names _ _ hK)]at hc
    have:=((hs.box _ _ hK).block hc).2
    have h9:w.heap.size≤b:=h8
    exact absurd this (by show ¬b<_;omega)
 obtain⟨ι'',j1,j2,j3,j4⟩:=hs.newBox (pv:=ι' 0) (bx:= .arr e sz rows) h1.below (λb hb=>by
  rcases k1.2 with⟨e,_⟩|⟨g,cap,cur,e,hg,_⟩
  ·rw[e]at hb;cases hb
  ·rw[e]at hb
   simp[bc]at hb
   omega) (λι'' e1 e2 ZJ=>⟨cells,k0,by rw[e2];exact pd k1 hB,k2,k3.mono (λb _ hf=>hU ι'' e1 e2 b hf) (λb _ _=>rfl)⟩)
 cases h2 with
  |tup hl hx=>
   rename_i us
   have x0:=hx 0 _ rfl
   have x1:=hx 1 _ rfl
   refine⟨_,ι'',rfl,j1,.tup hl λi x hi=> ?_⟩
   match i,hi with
   |0,hi=>
    cases hi
    have:us.toList[0]?.getD undef=ι' 0:=by
     generalize us.toList[0]?.getD undef=z at x0
     cases x0 with
     |c x0=>cases x0 with
      |ref _ _=>rfl
    rw[this,←j2]
    refine .c (.ref (Nat.lt_succ_self _) ?_)
    rw[j2]
    rcases k1.2 with⟨e,_⟩|⟨g,cap,cur,e,_⟩
    ·exact⟨_,_,_,e⟩
    ·exact⟨_,_,_,e⟩
   |1,hi=>
    cases hi
    generalize us.toList[1]?.getD undef=z at x1 ⊢
    cases x1 with
    |c x1=>cases x1 with
     |pure x1=>cases x1 with
      |val _=>exact .c (.pure (.val hy))
end
end Go.Abs
