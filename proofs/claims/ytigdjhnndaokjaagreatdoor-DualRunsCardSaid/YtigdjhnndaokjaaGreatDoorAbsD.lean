import Derived.Test.YtigdjhnndaokjaaGreatDoorAbs27
set_option linter.unusedVariables false
set_option linter.unusedSimpArgs false
namespace Go.Abs
open Go.RowKit
section
variable {P : Program} {f : FuncId} {args pargs : List AV} {mem : List (Nat × bP)} {nx : Nat}
theorem bJ.toP {res pres:AV} {mem':List (Nat×bP)} {nx':Nat} (h:bJ P f pargs [] 0 res mem' nx') (hp:SV mem' res=some pres):ac P f pargs pres:=by
 refine⟨h.1,λw U vs hG C=> ?_⟩
 have hs:ci w (Gh.of U) ⟨[], [],0,0⟩ (λ_=>undef) {tmps:= #[],defers:= []} w:=⟨λt=> .top,⟨rfl,hG⟩,(λnm bx hn=>by cases hn),(λnm bx hn=>by cases hn),(λnm nm' b1 b2 b hn=>by cases hn),Below.refl _ _,trivial,⟨zB2 _,λ_ h=>absurd h (zM0 _)⟩⟩
 refine(h.2 w _ _ w vs hs (C.mono λ_ _ h=>h.mono (λb _ h=>⟨.inl h,λnm bx hn=>by cases hn⟩) (λ_ _ _=>rfl) (λ_ _=>rfl) (zB2 _))).mono ?_
 rintro en w' ⟨v,ι',rfl,h1,h2⟩
 exact⟨v,rfl,Rt h1 h2 hp (λb h=>h.1) (λb h=> .inr h),h1.below⟩
end
open Go.RowKit
def Ns (D:Nat):Deferred:={target:= .collected D,args:= #[]}
def MkY (n0:Nat) (S:Nat→Prop) (W:World) (Ds:List Nat):Prop:=Ds.Nodup∧ ∀D∈Ds,n0≤D∧S D∧W.heap[D]? =some (.deferred (some []))
theorem MkY.kept {n0:Nat} {S S':Nat→Prop} {W W':World} {Ds:List Nat} (h:MkY n0 S W Ds) (k:Ni S W S' W'):MkY n0 S' W' Ds:=
 ⟨h.1,λD hD=>⟨(h.2 D hD).1,(k D (h.2 D hD).2.1).1,(k D (h.2 D hD).2.1).2.trans (h.2 D hD).2.2⟩⟩
abbrev YJ:=Option Nat→(Nat→Prop)→World→Prop
abbrev YQ:=bv→Option Nat→List (Nat×AV)→Prop
def My (nt n0:Nat) (rd:Option Nat) (Ds:List Nat) (J:YJ) (S0:Nat→Prop) (W0:World) (Q:YQ):Exit→Act→World→Prop:= λe a W=>
 ∃e' k fr S E a0,e=kT e'∧Q e' k fr∧J k S W∧SY S fr a0 W∧a0.tmps.size=nt∧Ni S0 W0 S W∧a=sh ((E++Ds).map Ns) a0∧MkY n0 S W (E++Ds)∧(rd.isSome=true→E= [])
def TC (P:Program) (nt n0:Nat) (rd:Option Nat) (J:YJ) (c:aj) (k:Option Nat) (fr:List (Nat×AV)) (Q:YQ):Prop:=
 ∀(c':Code),cn P nt c'=some c→ ∀S a W Ds,J k S W→SY S fr a W→a.tmps.size=nt→MkY n0 S W Ds→c'.wpIn (FR rd) 0 P (My nt n0 rd Ds J S W Q) (sh (Ds.map Ns) a) W
section
variable {P : Program} {nt n0 : Nat} {rd : Option Nat} {Ds : List Nat} {J : YJ} {k : Option Nat} {fr : List (Nat × AV)} {Q : YQ}
variable {S:Nat→Prop}{W:World}{a:Act}
theorem My.here {e':bv} (hq:Q e' k fr) (hJ:J k S W) (hs:SY S fr a W) (hz:a.tmps.size=nt) (hm:MkY n0 S W Ds):My nt n0 rd Ds J S W Q (kT e') (sh (Ds.map Ns) a) W:=
 ⟨e',k,fr,S, [],a,rfl,hq,hJ,hs,hz,.refl,rfl,hm,λ_=>rfl⟩
theorem My.kept {S0 S1:Nat→Prop} {W0 W1:World} {E:List Nat} {e:Exit} (h:My nt n0 rd (E++Ds) J S1 W1 Q e a W) (k:Ni S0 W0 S1 W1) (hE:rd.isSome=true→E= []):My nt n0 rd Ds J S0 W0 Q e a W:=by
 obtain⟨e',k',fr',S,E',a0,h1,h2,h3,h4,h5,h6,h7,h8,h9⟩:=h
 exact⟨e',k',fr',S,E'++E,a0,h1,h2,h3,h4,h5,k.trans h6,by rw[zE4];exact h7,by rw[zE4];exact h8,λh=>by rw[h9 h,hE h];rfl⟩
theorem XX (h:Q .normal k fr):TC P nt n0 rd J .skip k fr Q:=by
 intro c' hc S a W Ds hJ hs hz hm
 cases c'<;>simp[cn]at hc
 ·exact wpIn_skip (My.here (e':= .normal) h hJ hs hz hm)
 all_goals(try(split at hc<;>simp at hc))
theorem aaV (h:Q .ret k fr):TC P nt n0 rd J .ret k fr Q:=by
 intro c' hc S a W Ds hJ hs hz hm
 cases c'<;>simp[cn]at hc
 all_goals(try(split at hc<;>simp at hc))
 exact wpIn_ret (My.here (e':= .ret) h hJ hs hz hm)
def aeK (P:Program) (nt n0:Nat) (rd:Option Nat) (J:YJ) (y:aj) (Q:YQ):YQ
 | .normal,k,fr=>TC P nt n0 rd J y k fr Q
 | .exit i,k,fr=>Q (.exit i) k fr
 | .ret,k,fr=>Q .ret k fr
theorem Ja {x y:aj} (h:TC P nt n0 rd J x k fr (aeK P nt n0 rd J y Q)):TC P nt n0 rd J (.seq x y) k fr Q:=by
 intro c' hc S a W Ds hJ hs hz hm
 cases c'<;>simp[cn]at hc
 all_goals(try(split at hc<;>simp at hc))
 rename_i b1 b2 c1 c2 h1 h2
 obtain⟨rfl,rfl⟩:=hc
 refine wpIn_seq (wpIn_mono (h _ h1 S a W Ds hJ hs hz hm) ?_)
 rintro e a1 W1 ⟨e',k',fr',S',E,a0,rfl,hq,hX,A,M,hk,rfl,ha,hE⟩
 cases e' with
 |normal=>exact wpIn_mono (hq _ h2 S' a0 W1 (E++Ds) hX A M ha) λe a w h=>h.kept hk hE
 |exit id=>exact⟨.exit id,k',fr',S',E,a0,rfl,hq,hX,A,M,hk,rfl,ha,hE⟩
 |ret=>exact⟨.ret,k',fr',S',E,a0,rfl,hq,hX,A,M,hk,rfl,ha,hE⟩
def aac (id:Nat) (Q:YQ):YQ
 | .normal,k,fr=>Q .normal k fr
 | .exit i,k,fr=>if i=id then Q .normal k fr else Q (.exit i) k fr
 | .ret,k,fr=>Q .ret k fr
theorem O3 {x:aj} {id:Nat} (h:TC P nt n0 rd J x k fr (aac id Q)):TC P nt n0 rd J (.block id x) k fr Q:=by
 intro c' hc S a W Ds hJ hs hz hm
 cases c'<;>simp[cn]at hc
 all_goals(try(split at hc<;>simp at hc))
 rename_i i1 c1
 obtain⟨rfl,h1⟩:i1=id∧cn P nt c1=some x:=by simp_all
 refine wpIn_block (wpIn_mono (h _ h1 S a W Ds hJ hs hz hm) ?_)
 rintro e a1 W1 ⟨e',k',fr',S',E,a0,rfl,hq,hX,A,M,hk,rfl,ha,hE⟩
 cases e' with
 |normal=>exact⟨.normal,k',fr',S',E,a0,rfl,hq,hX,A,M,hk,rfl,ha,hE⟩
 |exit i=>
  simp only[aac]at hq
  by_cases hi:i=i1
  ·rw[if_pos hi]at hq
   simp only[kT,Exit.inBlock,if_pos hi]
   exact⟨.normal,k',fr',S',E,a0,rfl,hq,hX,A,M,hk,rfl,ha,hE⟩
  ·rw[if_neg hi]at hq
   simp only[kT,Exit.inBlock,if_neg hi]
   exact⟨.exit i,k',fr',S',E,a0,rfl,hq,hX,A,M,hk,rfl,ha,hE⟩
 |ret=>exact⟨.ret,k',fr',S',E,a0,rfl,hq,hX,A,M,hk,rfl,ha,hE⟩
theorem Z6 {c:AX} {x y:aj} {t:Bool} (hc:c.ev fr= .c (.pure (.val (.bool t)))) (h1:t=true→TC P nt n0 rd J x k fr Q) (h2:t=false→TC P nt n0 rd J y k fr Q) (L: ∀k S W,J k S W→(∀b,S b→b<W.heap.size)∧wY W):TC P nt n0 rd J (.cond c x y) k fr Q:=by
 intro c' HW S a W Ds hJ hs hz hm
 cases c'<;>simp[cn]at HW
 all_goals(try(split at HW<;>simp at HW))
 rename_i o b1 b2 _ _ _ x1 x2 x3 g1 g2 g3
 obtain⟨rfl,rfl,rfl⟩:=HW
 have H:=hs.sim (L _ _ _ hJ).1 (L _ _ _ hJ).2
 have r1:=aq g1 H
 rw[hc]at r1
 have ho:=(aU r1).1
 rw[←re (ds:=Ds.map Ns)]at ho
 cases t with
 |true=>exact wpIn_cond_true ho (h1 rfl _ g2 S a W Ds hJ hs hz hm)
 |false=>exact wpIn_cond_false ho (h2 rfl _ g3 S a W Ds hJ hs hz hm)
variable {gs:List AG}
theorem vG (hJ: ∀k S W,J k S W→(∀b,S b→b<W.heap.size)∧wY W) (hg: ∀k S W W',J k S W→Below W.heap.size W W'→J k (λb=>S b∨W.heap.size≤b∧b<W'.heap.size) W')
  (h:kA P gs ⟨fr, [],0,0⟩ (λσ'=> ∃fr',gT σ' fr'∧Q .normal k fr')):TC P nt n0 rd J (.region gs false) k fr Q:=by
 intro c' hc S a W Ds hj hs hz hm
 cases c'<;>simp[cn]at hc
 all_goals(try(split at hc<;>simp at hc))
 rename_i id ops dr
 obtain⟨g1,h1,T⟩:=hc
 cases dr with
 |false=>
  simp[nf]at T
  subst T
  have H:=hs.sim (hJ _ _ _ hj).1 (hJ _ _ _ hj).2
  have:=kE (rd:=rd) (ds:=Ds.map Ns) (n:=0) (jl (nt:=nt) (w0:=W) (U:=Xt S W (hJ _ _ _ hj).1) (Q:= λe σ'=> ∃fr',gT σ' fr'∧Q .normal k fr')) (eO h1) (fJ h1 h H hz λσ' ι' a' w' hq A M=>⟨σ',ι',rfl,hq,A,M⟩)
  refine wpIn_mono (wpIn_region_list this) ?_
  rintro e a1 W1 ⟨a0,rfl,σ',ι',rfl,⟨fr',hw,hq⟩,A,M⟩
  exact⟨.normal,k,fr',_, [],a0,rfl,hq,hg _ _ _ _ hj A.below,SY.back A hw,M,j8 A,rfl,hm.kept (j8 A),λ_=>rfl⟩
 |true=>
  simp only[nf,if_true]at T
  rcases eI (P:=P) (ops:=ops.toList) (gs:=g1)with⟨x,e⟩|e<;>rw[e]at T<;>simp at T
def aab (P:Program) (rd:Option Nat) (J:Option Nat→(Nat→Prop)→World→Prop) (f:AV) (args:List AV) (k:Option Nat) (R:AV→Option Nat→Prop):Prop:=
 ∀S W fv us,J k S W→aT W S (λ_=>undef) 0 f fv→bf (aT W S (λ_=>undef) 0) args us→ ∀(o:Oper) (a:Act) (c:Call) (fo:Operand) (next:Act→World→Prop) (Q:Exit→Act→World→Prop),o.op= .call c→c.callee= .value fo→a.eval fo=fv→(c.args.map a.eval).toList=us→
  (∀v res k' S' W',R res k'→aT W' S' (λ_=>undef) 0 res v→J k' S' W'→Ni S W S' W'→next (a.put o.dst v) W')→o.wpIn (FR rd) 0 P a W next Q
theorem acH (n:Nat) {dst:Option Nat} {gg z:Bool} {fx:AX} {args:List AX} (hn:gs[n]? =some ⟨dst,none,.call gg z fx args⟩) (hJ: ∀k S W,J k S W→(∀b,S b→b<W.heap.size)∧wY W)
  (hg: ∀k S W W',J k S W→Below W.heap.size W W'→J k (λb=>S b∨W.heap.size≤b∧b<W'.heap.size) W')
  (h:kA P (gs.take n) ⟨fr, [],0,0⟩ (λσ1=> ∃fr1,gT σ1 fr1∧ ∃R,aab P rd J (fx.ev fr1) (args.map (·.ev fr1)) k R∧
   ∀res k',R res k'→kA P (gs.drop (n+1)) ((⟨fr1, [],0,0⟩:St).put dst res) (λσ2=> ∃fr2,gT σ2 fr2∧Q .normal k' fr2))):TC P nt n0 rd J (.region gs false) k fr Q:=by
 intro c' hc S a W Ds hj hs hz hm
 cases c'<;>simp[cn]at hc
 all_goals(try(split at hc<;>simp at hc))
 rename_i id ops dr
 obtain⟨g1,h1,T⟩:=hc
 cases dr with
 |true=>
  simp only[nf,if_true]at T
  rcases eI (P:=P) (ops:=ops.toList) (gs:=g1)with⟨x,e⟩|e<;>rw[e]at T<;>simp at T
 |false=>
  simp[nf]at T
  subst T
  have H:=hs.sim (hJ _ _ _ hj).1 (hJ _ _ _ hj).2
  obtain⟨c1,_,c3⟩:=nw n h1
  obtain⟨_,c2,_⟩:=nw (n+1) h1
  obtain⟨o,ho,Z⟩:=c3 _ hn
  have HX:ops.toList=ops.toList.take n++(o::ops.toList.drop (n+1)):=by
   have L:=(zB7.1 ho).1
   have he:=(zB7.1 ho).2
   rw[←he,←zC0 L,zF1]
  have hd:=JY Z
  unfold xA at Z
  by_cases HD:PV nt o.dst=false
  ·rw[if_pos HD]at Z;cases Z
  rw[if_neg HD]at Z
  split at Z
  ·rename_i ao hao
   have hgd:o.guard=none∧o.dst=dst∧ao= .call gg z fx args:=by
    cases HY:o.guard with
    |none=>
     rw[HY]at Z
     cases Z
     exact⟨rfl,rfl,rfl⟩
    |some q=>
     rw[HY]at Z
     dsimp only at Z
     split at Z
     ·cases Z
     ·cases Z
   obtain⟨HY,rfl,rfl⟩:=hgd
   have hdt: ∀t,o.dst=some t→t<nt:=by
    intro t ht
    rw[ht]at HD
    simpa[PV]using HD
   obtain⟨c,fo,H5,HN,H7,C⟩:=GP hao
   refine wpIn_region_list ?_
   rw[HX]
   have h3:=kE (rd:=rd) (ds:=Ds.map Ns) (n:=0) (ops:=ops) (jl (nt:=nt) (w0:=W) (U:=Xt S W (hJ _ _ _ hj).1) (Q:= λe σ1=> ∃fr1,gT σ1 fr1∧ ∃R,aab P rd J (fx.ev fr1) (args.map (·.ev fr1)) k R∧
    ∀res k',R res k'→kA P (g1.drop (n+1)) ((⟨fr1, [],0,0⟩:St).put o.dst res) (λσ2=> ∃fr2,gT σ2 fr2∧Q .normal k' fr2))) (eO c1) (fJ c1 h H hz λσ' ι' a' w' hq A M=>⟨σ',ι',rfl,hq,A,M⟩)
   refine bO ?_ ?_ h3
   ·rintro a1 W1 ⟨a0,rfl,σ1,ι1,_,⟨fr1,hw1,R,ga,hC⟩,O,HH⟩
    have HZ:=hg _ _ _ _ hj O.below
    have gb:=SY.back O hw1
    have HO:=j8 O
    generalize (λb=>S b∨W.heap.size≤b∧b<W1.heap.size)=S1 at HZ gb HO
    have ge:=gb.sim (hJ _ _ _ HZ).1 (hJ _ _ _ HZ).2
    have ev: ∀{x:Operand} {y:AX},aC x=some y→aT W1 S1 (λ_=>undef) 0 (y.ev fr1) (a0.eval x):=by
     intro x y hx
     have:=aq hx ge
     exact this.mono (λb L h=>by
      rcases h.1 with h|h
      ·exact h
      ·omega) (λ_ _ _=>rfl) (λ_ _=>rfl) (zB2 _)
    have evs: ∀{l:List Operand} {ys:List AX},kR l=some ys→bf (aT W1 S1 (λ_=>undef) 0) (ys.map (·.ev fr1)) (l.map a0.eval):=by
     intro l
     induction l with
     |nil=>intro ys h;cases h;exact .nil
     |cons x l ih=>
      intro ys h
      unfold kR at h
      split at h
      ·rename_i y ys' h1 h2
       cases h
       exact .cons (ev h1) (ih h2)
      ·cases h
    show wpListIn (FR rd) 0 P ops _ (o::ops.toList.drop (n+1)) (sh (Ds.map Ns) a0) W1
    unfold wpListIn
    rw[if_pos (by simp[Region.wanted,HY])]
    refine ga S1 W1 _ _ HZ (ev H7) (evs C) o (sh (Ds.map Ns) a0) c fo _ _ H5 HN (by rw[re]) (by simp[re]) ?_
    intro v res k' S' W' hR hh Hk HP
    have go:=gb.kept HP
    have hy3:SY S' ((⟨fr1, [],0,0⟩:St).put o.dst res).fr (a0.put o.dst v) W':=by
     cases hdo:o.dst with
     |none=>exact go
     |some t=>
      refine⟨λs=> ?_,go.2⟩
      have L:t<a0.tmps.size:=by rw[HH];exact hdt t hdo
      show aT _ _ _ _ (aZ ((t,res)::fr1) s) _
      rw[gz]
      by_cases e:t=s
      ·subst e
       rw[if_pos rfl]
       have:(a0.put (some t) v).tmps.getD t undef=v:=by simp[Act.put,zC4,L]
       rw[this]
       exact hh
      ·rw[if_neg e]
       have:(a0.put (some t) v).tmps.getD s undef=a0.tmps.getD s undef:=by simp[Act.put,zC4,zK2,e]
       rw[this]
       exact go.1 s
    have gt:=hy3.sim (hJ _ _ _ Hk).1 (hJ _ _ _ Hk).2
    have hst:((⟨fr1, [],0,0⟩:St).put o.dst res)=⟨((⟨fr1, [],0,0⟩:St).put o.dst res).fr, [],0,0⟩:=by cases o.dst<;>rfl
    have h4:=hC res k' hR
    rw[hst]at h4
    have h5:=kE (rd:=rd) (ds:=Ds.map Ns) (n:=0) (ops:=ops) (jl (nt:=nt) (w0:=W') (U:=Xt S' W' (hJ _ _ _ Hk).1) (Q:= λe σ2=> ∃fr2,gT σ2 fr2∧Q .normal k' fr2)) (eO c2) (fJ c2 h4 gt (by rw[ug];exact HH) λσ' ι' a' w' hq A M=>⟨σ',ι',rfl,hq,A,M⟩)
    have h6:=bO (Q:=My nt n0 rd Ds J S W Q) (l2:= []) ?_ ?_ h5
    ·rw[zN7]at h6
     rw[CB]
     exact h6
    ·rintro a2 W2 ⟨a3,rfl,σ2,ι2,_,⟨fr2,hw2,hN⟩,X,q9⟩
     exact⟨.normal,k',fr2,_, [],a3,rfl,hN,hg _ _ _ _ Hk X.below,SY.back X hw2,q9,(HO.trans HP).trans (j8 X),rfl,hm.kept ((HO.trans HP).trans (j8 X)),λ_=>rfl⟩
    ·rintro e a2 W2 ⟨a3,rfl,σ2,ι2,e2,_⟩
     exact e2
   ·rintro e a1 W1 ⟨a0,rfl,σ1,ι1,e2,_⟩
    exact e2
  ·cases Z
variable {args:List AV}{w:World}{xs:List (List AV)}
theorem Ts {l:Nat} {k:Nat} (hJ:GK P l w xs J) (hx:xs[k]? =some args):
  aab P rd J (yv l) args (some k) (λres k'=> ∃b:Bool,res= .c (.pure (.val (.bool b)))∧k'=if b=true then some (k+1)else none):=by
 intro S W fv us hj hf Hz o a c fo next Q ho hc hfo C g0
 obtain⟨rfl,_⟩:=aU hf
 obtain⟨fn,tmps,asg,body,hy,hR⟩:=hJ.round k args S W us.toArray hx hj (by simpa using Hz) 0
 refine⟨λ_ _=>trivial, ?_⟩
 rw[Oper.semAt_eq _ _ _ zU9]
 have hF:(execOp a.eval o).run P W= .ok (.round l fn tmps asg body) W:=by
  have e:c.args.map a.eval=us.toArray:=by rw[←C]
  simp[execOp,ho,resolve,hc,hfo,Deferred.ofValue,invoke,e,hy]
 rw[hF,Oper.uponIn_round]
 refine⟨by simp[FR,Fence.wide],hR.mono ?_⟩
 rintro e W' ⟨b,rfl,HB,hk⟩
 exact g0 (.bool b) _ _ S W' ⟨b,rfl,rfl⟩ (.c (.pure (.val rfl))) HB λb hb=>⟨hb,hk b hb⟩
theorem wC.le {n n':Nat} {w':World} (h:wC n w w') (hn:n'≤n):wC n' w w':=⟨h.os,h.tape,h.output,h.size,λb hb=>(h.block b hb).imp id λ⟨h1,h2⟩=>⟨zK3 hn h1,h2⟩⟩
theorem SY.growL {W':World} {n:Nat} (h:SY S fr a W) (hg:wC n W W'):SY S fr a W':=by
 have hS: ∀b,(b<W.heap.size∧W'.heap[b]? ≠W.heap[b]?)→ ∃o,W.heap[b]? =some o∧ads o=true:=by
  rintro b ⟨h1,h2⟩
  rcases hg.block b h1 with e|⟨_,e⟩
  ·exact absurd e h2
  ·exact e
 exact⟨λt=>((h.1 t).ne hS).mono (λb _ h=>h.1) (λb hb h=>zD5 λe=>h.2 ⟨hb,e⟩) (λ_ _=>rfl) (zB2 _),h.2⟩
structure JOk (n0:Nat) (J:YJ):Prop where
 old: ∀k S W,J k S W→(∀b,S b→b<W.heap.size)∧n0≤W.heap.size∧wY W
 grow: ∀k S W W',J k S W→wC n0 W W'→J k (λb=>S b∨W.heap.size≤b∧b<W'.heap.size) W'
 sub: ∀k S S' W,J k S W→(∀b,S' b→S b)→J k S' W
theorem GK.ok {l:Nat} (h:GK P l w xs J):JOk w.heap.size J:=⟨h.old,h.grow,h.sub⟩
theorem T4 {fx:AX} {ps:List Nat} {asg body:aj} {g:FuncId} {caps:List AC} {pcaps:List AV} (Y:JOk n0 J) (I:Nat→Option Nat→Prop) (fr0:List (Nat×AV))
  (hf:fx.ev fr= .c (.clo g caps)) (hp:bk [] (caps.map .c)=some pcaps) (hnr:(caps.map AV.c).all sO=true) (hY:jH P g pcaps xs) (HE: ∀x∈xs,x.length=ps.length) (hfr:jy [] fr 0 fr0) (h0:I 0 k)
  (H0: ∀l k1 x kout,xs[k1]? =some x→I k1 kout→TC P nt n0 (some l) J asg kout (BT ps x fr0) (λe k' fr'=>e= .normal∧TC P nt n0 (some l) J body k' fr' (λe k'' fr''=>match e with
   | .normal=>I (k1+1) k''
   |e=>Q e k'' fr0)))
  (Q1: ∀kout,I xs.length kout→Q .normal kout fr0):TC P nt n0 none J (.rangeF fx ps asg body) k fr Q:=by
 intro c' hc S a W Ds hj hs hz hm
 cases c'<;>simp[cn]at hc
 all_goals(try(split at hc<;>simp at hc))
 rename_i f' ps' asg' body' _ _ _ _ x2 x3 x4 H7 zg hP hps
 obtain⟨rfl,rfl,rfl,rfl⟩:=hc
 have zs: ∀p∈ps'.toList,p<nt:= λp hp=>by simpa using zO9.1 hps p (zP5.1 hp)
 obtain⟨L,hn0,hG⟩:=Y.old _ _ _ hj
 have H:=hs.sim L hG
 have hv:=aq H7 H
 rw[hf]at hv
 obtain⟨cv,hcl,HR,hu⟩: ∃cv:Array Value,caps.length=cv.size∧(∀(i:Nat) x,caps[i]? =some x→dE W (aV W.heap.size (Xt S W L) (λ_=>undef) []) (λ_=>undef) 0 x (cv.toList[i]?.getD undef))∧a.eval f'= .func (.func g) #[] cv:=by
  generalize a.eval f'=u at hv
  cases hv with
  |c h=>
   cases h with
   |clo hl h=>exact⟨_,hl,h,rfl⟩
 have HS:bf (aT W (aV W.heap.size (Xt S W L) (λ_=>undef) []) (λ_=>undef) 0) (caps.map .c) cv.toList:=by
  refine bf.of_get (by simp[hcl]) λi x v hi hvi=> ?_
  rw[zC7]at hi
  obtain⟨y,hy,rfl⟩:=zC1.1 hi
  have:=HR i y hy
  rw[hvi]at this
  exact .c this
 have hpc:=o6 (V:=aV W.heap.size (Xt S W L) (λ_=>undef) []) H HS (λ_ h=>h) (.inl hnr) hp
 have hF: ∀args w,(callFunc g args).run P w= .ok (.enter g args) w:=by
  obtain⟨fn,hfn,hP,HT⟩:=hY.1
  have hb: ¬fn.body=none:=by intro e;rw[e]at hP;cases hP
  have hQ : ¬ fn.name = "runtime.NumGoroutine" := by intro e; rw [e] at HT; simp at HT
  intro args w
  simp[callFunc,hfn,hQ,hb]
 refine wpIn_rangeFunc (F:=FR none) λfn _=> ?_
 obtain⟨l,D,dfr,w1,zz,hM,g8,hl0,hw1l,hD0,hDl,z0⟩: ∃(l D dfr:Nat) (w1:World),
   (Instr.enterLoop fn (sh (Ds.map Ns) a).tmps ps' asg' body' (FR none).round).run P W= .ok (l, [Ns D]) w1∧Below W.heap.size W w1∧
   w1.heap[l]? =some (.loop {state:= .ready,pending:=none,fn,tmps:=a.tmps,params:=ps',assign:=asg',body:=body',defers:=dfr})∧W.heap.size≤l∧
   w1.heap.size=l+1∧W.heap.size≤D∧D≠l∧w1.heap[D]? =some (.deferred (some [])):=by
  refine⟨W.heap.size+1,W.heap.size,W.heap.size,_,run_enterLoop_outer _ _ _ _ _,((Below.refl _ W).alloc (zB2 _) _).alloc zR6 _, ?_,by omega,by simp,zB2 _,by omega, ?_⟩
  ·have:=World.alloc_heap_new (W.alloc (.deferred (some []))) (.loop {state:= .ready,pending:=none,fn,tmps:=a.tmps,params:=ps',assign:=asg',body:=body',defers:=W.heap.size})
   rwa [World.size_alloc]at this
  ·exact(Below.heap_alloc _ _ _ zR6).trans (World.alloc_heap_new W _)
 generalize z2:(λ(st:LoopState) (pe:Option Code)=>({state:=st,pending:=pe,fn,tmps:=a.tmps,params:=ps',assign:=asg',body:=body',defers:=dfr}:Loop))=rec
 have N: ∀st pe,rec st pe={state:=st,pending:=pe,fn,tmps:=a.tmps,params:=ps',assign:=asg',body:=body',defers:=dfr}:= λst pe=>by rw[←z2]
 rw[←N]at g8
 have z3:=(zC6.1 g8).1
 have H2:=(zC6.1 z0).1
 refine⟨l, [Ns D],w1,{target:= .fn (.func g) cv,args:= #[.func (.yield l) #[] #[]]},w1,g, #[.func (.yield l) #[] #[]]++cv,w1,zz, ?_,λ_ _=>trivial, ?_,λh=>by simp[FR,Fence.wide]at h, ?_⟩
 ·have he:(sh (Ds.map Ns) a).eval f'= .func (.func g) #[] cv:=by rw[re];exact hu
  simp only[resolve,he]
  simp[go_sem]
 ·simp[invoke,go_sem,hF]
 let rdy:=rec .ready none
 let Mid:Option Nat→(Nat→Prop)→World→Loop→(Nat→Prop)→Prop:= λkout S' W2 r S2=>J kout S' W2∧SY S' fr0 a W2∧S' l∧W2.heap[l]? =some (.loop r)∧MkY n0 S' W2 (D::Ds)∧Ni S W S' W2∧ ∀b,S2 b→S' b∧b≠l
 let J1:YJ:= λk1 S2 W2=>match k1 with
  |some k1=> ∃kout S',I k1 kout∧Mid kout S' W2 rdy S2
  |none=> ∃(e:bv) (kout:Option Nat) (S':Nat→Prop),e≠ .normal∧Q e kout fr0∧Mid kout S' W2 (rec .done (some (xY e))) S2
 have z4: ¬S l:= λh=>by have:=L l h;omega
 have g9:D∉Ds:= λh=>by have:=L D (hm.2 D h).2.1;omega
 have turn: ∀{kout:Option Nat} {S':Nat→Prop} {W2:World} {r r':Loop} {S2:Nat→Prop},Mid kout S' W2 r S2→Mid kout S' (W2.putObj l (.loop r')) r' S2:=by
  rintro kout S' W2 r r' S2 ⟨h1,h2,h3,h4,h5,h6,h7⟩
  have HI:wC n0 W2 (W2.putObj l (.loop r')):= .putObj _ zR5 h4 rfl
  refine⟨Y.sub _ _ _ _ (Y.grow _ _ _ _ h1 HI) λb h=> .inl h,h2.growL HI,h3,World.putObj_heap_same (zC6.1 h4).1,⟨h5.1,λD' hA=>⟨(h5.2 D' hA).1,(h5.2 D' hA).2.1, ?_⟩⟩,λb hb=>⟨(h6 b hb).1, ?_⟩,h7⟩
  ·refine(World.putObj_heap_other ?_).trans (h5.2 D' hA).2.2
   rcases zD7.1 hA with rfl|h
   ·exact hDl
   ·have:=L D' (hm.2 D' h).2.1;omega
  ·exact(World.putObj_heap_other (show b≠l from λe=>z4 (by rw[←e];exact hb))).trans (h6 b hb).2
 have grow: ∀{kout:Option Nat} {S':Nat→Prop} {W2 W3:World} {r:Loop} {S2:Nat→Prop},Mid kout S' W2 r S2→wC w1.heap.size W2 W3→Mid kout (λb=>S' b∨W2.heap.size≤b∧b<W3.heap.size) W3 r (λb=>S2 b∨W2.heap.size≤b∧b<W3.heap.size):=by
  rintro kout S' W2 W3 r S2 ⟨h1,h2,h3,h4,h5,h6,h7⟩ hg
  have z5:=(zC6.1 h4).1
  have H1:=hM.size
  refine⟨Y.grow _ _ _ _ h1 (hg.le zR5), ?_,.inl h3,(hg.old z3 z5).trans h4,⟨h5.1,λD' hA=>⟨(h5.2 D' hA).1,.inl (h5.2 D' hA).2.1, ?_⟩⟩,λb hb=>⟨.inl (h6 b hb).1, ?_⟩,λb hb=> ?_⟩
  ·have:=h2.growL hg
   exact⟨λt=>(this.1 t).mono (λb _ h=> .inl h) (λ_ _ _=>rfl) (λ_ _=>rfl) (zB2 _),this.2⟩
  ·have h8:=(h5.2 D' hA).2.2
   refine(hg.old ?_ (zC6.1 h8).1).trans h8
   rcases zD7.1 hA with rfl|h
   ·exact H2
   ·have:=L D' (hm.2 D' h).2.1;omega
  ·have h8:=(h6 b hb).2
   have h9:b<W.heap.size:=L b hb
   exact(hg.old zR5 (Vl h9 h8)).trans h8
  ·rcases hb with hb|⟨q1,q2⟩
   ·exact⟨.inl (h7 b hb).1,(h7 b hb).2⟩
   ·exact⟨.inr ⟨q1,q2⟩,by omega⟩
 have midOld: ∀{kout:Option Nat} {S':Nat→Prop} {W2:World} {r:Loop} {S2:Nat→Prop},Mid kout S' W2 r S2→(∀b,S2 b→b<W2.heap.size)∧w1.heap.size≤W2.heap.size∧wY W2:=by
  rintro kout S' W2 r S2 ⟨h1,h2,h3,h4,h5,h6,h7⟩
  have z5:=(zC6.1 h4).1
  exact⟨λb hb=>(Y.old _ _ _ h1).1 b (h7 b hb).1,by omega,(Y.old _ _ _ h1).2.2⟩
 refine Jj ((hY.2 l S J1 w1 cv (hG.below (zB2 _) hM) ?_ ⟨?_, ?_, ?_, ?_⟩ ?_).mono ?_)
 ·exact hpc.mono λ_ _ h=>h.mono (λb hb hf=>by
   rcases hf.1 with hf|hf
   ·exact hf
   ·omega) (λb hb _=>hM.block b hb) (λ_ _=>rfl) (zB2 _)
 ·intro k1 S2 W2 W3 h hg
  cases k1 with
  |some k1=>
   obtain⟨kout,S',hI,h⟩:=h
   exact⟨kout,_,hI,grow h hg⟩
  |none=>
   obtain⟨e,kout,S',HK,hq,h⟩:=h
   exact⟨e,kout,_,HK,hq,grow h hg⟩
 ·intro k1 S2 W2 h
  cases k1 with
  |some k1=>
   obtain⟨kout,S',hI,h⟩:=h
   exact midOld h
  |none=>
   obtain⟨e,kout,S',HK,hq,h⟩:=h
   exact midOld h
 ·intro k1 S2 S3 W2 h H3
  cases k1 with
  |some k1=>
   obtain⟨kout,S',hI,h1,h2,h3,h4,h5,h6,h7⟩:=h
   exact⟨kout,S',hI,h1,h2,h3,h4,h5,h6,λb hb=>h7 b (H3 b hb)⟩
  |none=>
   obtain⟨e,kout,S',HK,hq,h1,h2,h3,h4,h5,h6,h7⟩:=h
   exact⟨e,kout,S',HK,hq,h1,h2,h3,h4,h5,h6,λb hb=>h7 b (H3 b hb)⟩
 ·rintro k1 x S2 W2 us hx ⟨kout,S',hI,hB⟩ Hz m
  obtain⟨g1,g2,g3,g4,g5,g6,g7⟩:=hB
  have hxl:=HE x (zF0 hx)
  have hul:us.size=ps'.size:=by
   rw[←zD0,←Hz.length,hxl,zD0]
  have hy:=run_yield (P:=P) (args:=us) g4 (by simp only[rdy,N];exact hul)
  refine⟨fn,_,asg',body',by simp only[rdy,N]at hy;exact hy,roundIn_of_wpIn trivial ?_⟩
  have etm:(ps'.zip us).foldl (λtmps (x:Nat×Value)=>tmps.setIfInBounds x.1 x.2) a.tmps=(ps'.toList.zip us.toList).foldl (λtmps (x:Nat×Value)=>tmps.setIfInBounds x.1 x.2) a.tmps:=by
   rw[←zQ5,Array.toList_zip]
  have z9:bf (aT W2 S' (λ_=>undef) 0) x us.toList:=Hz.mono λ_ _ h=>h.mono (λb L h=>(g7 b h).1) (λ_ _ _=>rfl) (λ_ _=>rfl) (zB2 _)
  have hsr:SY S' (BT ps'.toList x fr0) {tmps:=(ps'.zip us).foldl (λtmps (x:Nat×Value)=>tmps.setIfInBounds x.1 x.2) a.tmps,defers:= []} W2:=by
   refine⟨λs=> ?_,rfl⟩
   rw[etm]
   exact Cr z9 (by rw[hz];exact zs) g2.1 s
  have h1:=H0 l k1 x kout hx hI _ zg S' _ W2 [] g1 hsr (by rw[etm,yc];exact hz) ⟨List.nodup_nil,λD hD=>by cases hD⟩
  rw[zC9,lX]at h1
  refine wpIn_mono (z7 h1) ?_
  rintro e a1 W3 ⟨e',k',fr',S3,E,a0,rfl,⟨rfl,hq⟩,hJ3,G2,hz3,HA,rfl,hm3,hE⟩
  obtain rfl:=hE rfl
  rw[zD4,zC9,lX]
  have k4:W3.heap[l]? =some (.loop rdy):=(HA l g3).2.trans g4
  refine⟨_,run_beginRound k4 (by simp only[rdy,N]), ?_⟩
  have mid3:Mid k' S3 W3 rdy S2:=⟨hJ3,g2.kept HA,(HA l g3).1,k4,g5.kept HA,g6.trans HA,λb hb=>⟨(HA b (g7 b hb).1).1,(g7 b hb).2⟩⟩
  have mid3b:=turn (r':={rdy with state:= .busy}) mid3
  have HI:wC n0 W3 (W3.putObj l (.loop {rdy with state:= .busy})):= .putObj _ zR5 k4 rfl
  have h3:=hq _ hP S3 a0 _ [] mid3b.1 (G2.growL HI) hz3 ⟨List.nodup_nil,λD hD=>by cases hD⟩
  rw[zC9,lX]at h3
  refine wpIn_mono (z7 h3) ?_
  rintro e a2 W4 ⟨e'',k'',fr'',S4,E,a3,rfl,hN,hJ4,hT,hz4,HC,rfl,hm4,hE⟩
  obtain rfl:=hE rfl
  obtain⟨q1,q2,q3,q4,q5,q6,q7⟩:=mid3b
  have k5:W4.heap[l]? =some (.loop {rdy with state:= .busy}):=(HC l q3).2.trans q4
  have mid4:Mid k'' S4 W4 {rdy with state:= .busy} S2:=⟨hJ4,q2.kept HC,(HC l q3).1,k5,q5.kept HC,q6.trans HC,λb hb=>⟨(HC b (q7 b hb).1).1,(q7 b hb).2⟩⟩
  have er: ∀jump:Option Code,({({rdy with state:= .busy}:Loop)with state:=if jump.isNone then .ready else .done,pending:=jump}:Loop)=rec (if jump.isNone then .ready else .done) jump:= λjump=>by simp only[rdy,N]
  have hr:= λjump=>run_endRound (P:=P) jump k5
  simp only[er]at hr
  have kept: ∀r' c,S2 c→(W4.putObj l (.loop r')).heap[c]? =W2.heap[c]? := λr' c hc=>by
   obtain⟨c1,c2⟩:=g7 c hc
   have e1:=(HA c c1).2
   have e2:(W3.putObj l (.loop {rdy with state:= .busy})).heap[c]? =W3.heap[c]? :=World.putObj_heap_other c2
   have e3:=(HC c (HA c c1).1).2
   exact(World.putObj_heap_other c2).trans (e3.trans (e2.trans e1))
  cases e'' with
  |normal=>exact⟨_,_,hr none,true,rfl,⟨k'',S4,hN,turn mid4⟩,kept _⟩
  |exit i=>exact⟨_,_,hr (some (.exit i)),false,rfl,⟨.exit i,k'',S4,(λh=>by cases h),hN,turn mid4⟩,kept _⟩
  |ret=>exact⟨_,_,hr (some .ret),false,rfl,⟨.ret,k'',S4,(λh=>by cases h),hN,turn mid4⟩,kept _⟩
 ·have HI:wC n0 W w1:=(wC.of_below hM).le hn0
  refine⟨k,λb=>S b∨W.heap.size≤b∧b<w1.heap.size,h0,Y.grow _ _ _ _ hj HI, ?_,.inr ⟨hl0,by omega⟩,g8,⟨List.nodup_cons.2 ⟨g9,hm.1⟩,λD' hA=> ?_⟩,λb hb=>⟨.inl hb,hM.block b (L b hb)⟩,λb hb=>⟨.inl hb,λe=>z4 (by rw[←e];exact hb)⟩⟩
  ·exact(hs.wk hfr).kept λb hb=>⟨.inl hb,hM.block b (L b hb)⟩
  ·rcases zD7.1 hA with rfl|h
   ·exact⟨by omega,.inr ⟨hD0,H2⟩,z0⟩
   ·exact⟨(hm.2 D' h).1,.inl (hm.2 D' h).2.1,(hM.block D' (L D' (hm.2 D' h).2.1)).trans (hm.2 D' h).2.2⟩
 ·have final: ∀{e':bv} {kout:Option Nat} {S' S2:Nat→Prop} {W3:World} {r r':Loop},Mid kout S' W3 r S2→Q e' kout fr0→
    My nt n0 none Ds J S W Q (kT e') {sh (Ds.map Ns) a with defers:= [Ns D]++(sh (Ds.map Ns) a).defers} (W3.putObj l (.loop r')):=by
   intro e' kout S' S2 W3 r r' h hq
   obtain⟨h1,h2,h3,h4,h5,h6,h7⟩:=turn (r':=r') h
   exact⟨e',kout,fr0,S', [D],a,rfl,hq,h1,h2,hz,h6,by simp[sh,hs.2],h5,λh=>by cases h⟩
  rintro e W3 ⟨⟨v,rfl⟩,k1,S2,hk,h⟩
  cases k1 with
  |some k1=>
   obtain rfl:k1=xs.length:=by simpa using hk
   obtain⟨kout,S',hI,hB⟩:=h
   have hr:=run_endLoop (P:=P) hB.2.2.2.1 (by simp only[rdy,N];simp)
   exact⟨_,_,hr,by simp only[rdy,N];exact final (e':= .normal) hB (Q1 kout hI)⟩
  |none=>
   obtain⟨e,kout,S',HK,hq,hB⟩:=h
   have hr:=run_endLoop (P:=P) hB.2.2.2.1 (by simp only[N];simp)
   refine⟨_,_,hr, ?_⟩
   simp only[N]
   cases e with
   |normal=>exact absurd rfl HK
   |exit i=>exact wpIn_exit (final (e':= .exit i) hB hq)
   |ret=>exact wpIn_ret (final (e':= .ret) hB hq)
theorem VM {fn:Func} {tmps:Array Value} {R:Ending→World→Prop} (Y:JOk n0 J) {S:Nat→Prop} {a:Act} (HF: ∀W,J k S W→SY S fr a W→ ∃v,(results fn tmps).run P W= .ok v W∧R (.returned v) W): ∀{E:List Nat} {W:World},J k S W→SY S fr a W→MkY n0 S W E→LeavesInM Fence.wide 0 P fn tmps R (E.map Ns) .returning W
 | [],W,hj,hs,_=>HF W hj hs
 |D::E,W,hj,hs,hm=>by
  obtain⟨h1,h2,h3⟩:=hm.2 D zC5
  have hg:wC n0 W (W.putObj D (.deferred none)):= .putObj _ h1 h3 rfl
  obtain⟨n1,n2⟩:=List.nodup_cons.1 hm.1
  exact⟨by simp,.inl ⟨D,_,rfl,run_takeDeferred h3,VM Y HF (Y.sub _ _ _ _ (Y.grow _ _ _ _ hj hg) λb h=> .inl h) (hs.growL hg) ⟨n2,λD' hA=>by
   obtain⟨q1,q2,q3⟩:=hm.2 D' (zC3 _ hA)
   exact⟨q1,q2,(World.putObj_heap_other (show D'≠D from λe=>n1 (by rw[←e];exact hA))).trans q3⟩⟩⟩⟩
theorem jH.of2 {f:FuncId} {body:aj} {rs:List AR} (hf:am P f nt body rs) (HE:args.length+1≤nt)
  (h: ∀(l:Nat) (w:World) (J':YJ),GK P l w xs J'→TC P nt w.heap.size none J' body (some 0) (aI (yv l::args) 0) (aeO rs λ_ k'=>k'=some xs.length∨k'=none)):jH P f args xs:=by
 obtain⟨fn,c,h1,h2,h3,rfl,h5,h6⟩:=hf.is
 refine⟨⟨fn,h1,by rw[h2];rfl,h3⟩,λl S J' w vs hG C hJ h0=> ?_⟩
 have Y:=hJ.ok
 have hV:bf (aT w S (λ_=>undef) 0) (yv l::args) (#[Value.func (.yield l) #[] #[]]++vs).toList:=by
  have e:(#[Value.func (.yield l) #[] #[]]++vs).toList=Value.func (.yield l) #[] #[]::vs.toList:=by simp
  rw[e]
  exact .cons (.c (.pure (.val rfl))) C
 generalize (#[Value.func (.yield l) #[] #[]]++vs)=us at hV
 have H1:us.size=args.length+1:=by rw[←zD0];exact hV.length.symm
 have hs:SY S (aI (yv l::args) 0) {tmps:=us++Array.replicate (fn.ntmps-us.size) undef,defers:= []} w:=by
  refine⟨λt=> ?_,rfl⟩
  rcases iG (vs:=us.toList) (k:=0) hV t with h|h
  ·by_cases L:t<us.size
   ·have e:(us++Array.replicate (fn.ntmps-us.size) undef).getD t undef=(us.toList[t-0]?).getD undef:=by
     simp[zC4,zI1,L]
    rw[e]
    exact h
   ·have:aZ (aI (yv l::args) 0) t= .top:=by
     have key: ∀(l:List AV) (j:Nat),j+l.length≤t→aZ (aI l j) t= .top:=by
      intro l
      induction l with
      |nil=>intro j _;rfl
      |cons x l ih=>
       intro j hj
       simp only[zG2]at hj
       show(if j=t then x else aZ (aI l (j+1)) t)=_
       rw[if_neg zR5]
       exact ih _ zR5
     exact key (yv l::args) 0 (by simp only[zG2];omega)
    rw[this]
    exact .top
  ·rw[h]
   exact .top
 have hK:(us++Array.replicate (fn.ntmps-us.size) undef).size=fn.ntmps:=by simp;omega
 have hw:=h l w J' hJ c h5 S _ w [] h0 hs hK ⟨List.nodup_nil,λD hD=>by cases hD⟩
 rw[zC9,lX]at hw
 refine(callsIn_wide (n:=0)).1 (callsIn_of_wp_marks h1 h2 trivial (wpIn_mono hw ?_))
 have fin: ∀{a':Act} {fr':List (Nat×AV)} {k':Option Nat} {S':Nat→Prop} {W':World},nD ⟨fr', [],0,0⟩ rs [] (λvs=>k'=some xs.length∨k'=none)→J' k' S' W'→SY S' fr' a' W'→ ∃v,(results fn a'.tmps).run P W'= .ok v W'∧(∃v',Ending.returned v= .returned v')∧ ∃k S',(k=some xs.length∨k=none)∧J' k S' W':=by
  intro a' fr' k' S' W' hh HB A
  obtain⟨vs',us',g1,g2,g3⟩:=ki (A.sim (Y.old _ _ _ HB).1 (Y.old _ _ _ HB).2.2) (us:= []) h6 hh .nil
  refine⟨(if h:us'.toArray.size=1 then us'.toArray[0]else .tuple us'.toArray), ?_,⟨_,rfl⟩,k',S',g3,HB⟩
  rw[jF,zG8]
  simp[g2]
 rintro e a' W' ⟨e',k',fr',S',E,a0,rfl,hq,HB,A,hsz',hk,rfl,hm,_⟩
 have hd:(sh ((E++ []).map Ns) a0).defers=E.map Ns:=by simp[sh,A.2]
 rw[zN7]at hm
 have key:(∀W,J' k' S' W→SY S' fr' a0 W→ ∃v,(results fn a0.tmps).run P W= .ok v W∧(∃v',Ending.returned v= .returned v')∧ ∃k S',(k=some xs.length∨k=none)∧J' k S' W)→LeavesInM Fence.wide 0 P fn (sh ((E++ []).map Ns) a0).tmps (λe w'=>(∃v,e= .returned v)∧ ∃k S',(k=some xs.length∨k=none)∧J' k S' w') (sh ((E++ []).map Ns) a0).defers .returning W':= λhf=>by
  rw[hd]
  exact VM Y (a:=a0) hf HB A hm
 cases e' with
 |normal=>exact key λW hj hs=>fin hq hj hs
 |exit i=>exact hq.elim
 |ret=>exact key λW hj hs=>fin hq hj hs
end
open Go.RowKit
def abV (σ':St) [Q:vJ (bv→St→Prop)]:bv→St→Prop
 | .normal,τ=> ∃l,Wk l τ σ'
 | .exit i,τ=>Q.out (.exit i) τ
 | .ret,τ=>Q.out .ret τ
def afj [Q:vJ (bv→St→Prop)]:bv→St→Prop:=Q.out
section
variable {P : Program} {nt : Nat} {σ : St} {Q : bv → St → Prop} {a b c d e : aj}
theorem lT (h:AW P nt a σ (afj (Q:=⟨Q⟩))):AW P nt a σ Q:=h
theorem Q9 (σ':St) (h1:gr P nt a σ (abV σ' (Q:=⟨Q⟩))) (h2:AW P nt b σ' Q):AW P nt (.seq a b) σ Q:=
 Cw ((aa h1).mono λe τ h=>by
  cases e with
  |normal=>
   obtain⟨l,hl⟩:=h
   exact YA l hl h2
  |exit i=>exact h
  |ret=>exact h)
theorem PS (σ':St) (h1:gr P nt (.seq a b) σ (abV σ' (Q:=⟨Q⟩))) (h2:AW P nt c σ' Q):AW P nt (.seq a (.seq b c)) σ Q:=by
 simp only[gr]at h1
 refine Cw ((aa h1).mono λe τ h=> ?_)
 cases e with
 |normal=>exact Q9 σ' h h2
 |exit i=>exact h
 |ret=>exact h
theorem abU (σ':St) (h1:gr P nt (.seq a (.seq b c)) σ (abV σ' (Q:=⟨Q⟩))) (h2:AW P nt d σ' Q):AW P nt (.seq a (.seq b (.seq c d))) σ Q:=by
 simp only[gr]at h1
 refine Cw ((aa h1).mono λe τ h=> ?_)
 cases e with
 |normal=>exact PS σ' (by simp only[gr];exact h) h2
 |exit i=>exact h
 |ret=>exact h
theorem VL (σ':St) (h1:gr P nt (.seq a (.seq b (.seq c d))) σ (abV σ' (Q:=⟨Q⟩))) (h2:AW P nt e σ' Q):AW P nt (.seq a (.seq b (.seq c (.seq d e)))) σ Q:=by
 simp only[gr]at h1
 refine Cw ((aa h1).mono λe τ h=> ?_)
 cases e with
 |normal=>exact abU σ' (by simp only[gr];exact h) h2
 |exit i=>exact h
 |ret=>exact h
end
open Go.RowKit
def Cc (P:Program) (f:FuncId) (args:List AV) (mem:List (Nat×bP)) (nx:Nat) (mem':List (Nat×bP)) (nx':Nat):Prop:=
 oT P f∧ ∀(w0:World) (U:Gh) (ι:Pl) (w:World) (vs:Array Value),ci w0 U ⟨[],mem,nx,nx⟩ ι {tmps:= #[],defers:= []} w→bf (aT w (aV w0.heap.size U ι mem) ι nx) args vs.toList→ ∀u,
  CallsDIn Fence.wide 0 P f vs u w λe u' w'=>u'=u∧ ∃v ι',e= .returned v∧ci w0 U ⟨[],mem',nx',nx⟩ ι' {tmps:= #[],defers:= []} w'
section
variable {P : Program} {w0 w : World} {U : Gh} {σ : St} {ι : Pl} {a : Act}
variable {args:List AV}{mem:List (Nat×bP)}{nx:Nat}
theorem Rr {n:Nat} {vs:Array Value} (hL:ci w0 U ⟨[],mem,nx,nx⟩ ι {tmps:= #[],defers:= []} w) (C:bf (aT w (aV w0.heap.size U ι mem) ι nx) args vs.toList):
  ci w0 U ⟨aI args 0,mem,nx,nx⟩ ι {tmps:=vs++Array.replicate (n-vs.size) undef,defers:= []} w:=by
 have H1:vs.size=args.length:=by rw[←zD0];exact C.length.symm
 refine⟨λt=> ?_,⟨rfl,hL.defers.2⟩,hL.names,hL.box,hL.apart,hL.below,hL.keep,hL.base⟩
 rcases iG (vs:=vs.toList) (k:=0) C t with h|h
 ·by_cases L:t<vs.size
  ·have e:(vs++Array.replicate (n-vs.size) undef).getD t undef=(vs.toList[t-0]?).getD undef:=by
    simp[zC4,zI1,L]
   rw[e]
   exact h
  ·have:aZ (aI args 0) t= .top:=by
    have key: ∀(l:List AV) (j:Nat),j+l.length≤t→aZ (aI l j) t= .top:=by
     intro l
     induction l with
     |nil=>intro j _;rfl
     |cons x l ih=>
      intro j hj
      simp only[zG2]at hj
      show(if j=t then x else aZ (aI l (j+1)) t)=_
      rw[if_neg zR5]
      exact ih _ zR5
    exact key args 0 zR5
   show aT _ _ _ _ (aZ (aI args 0) t) _
   rw[this]
   exact .top
 ·show aT _ _ _ _ (aZ (aI args 0) t) _
  rw[h]
  exact .top
variable {f:FuncId}{nt:Nat}
theorem Cc.of {gs:List AG} {mem':List (Nat×bP)} {nx':Nat} (hf:am P f nt (.region gs false) []) (HE:args.length≤nt)
  (h:kA P gs ⟨aI args 0,mem,nx,nx⟩ (λσ'=>σ'.mem=mem'∧σ'.nx=nx'∧σ'.base=nx)):Cc P f args mem nx mem' nx':=by
 obtain⟨fn,c,h1,h2,h3,rfl,h5,h6⟩:=hf.is
 refine⟨⟨fn,h1,by rw[h2];rfl,h3⟩,λw0 U ι w vs hL C u=> ?_⟩
 have H1:vs.size=args.length:=by rw[←zD0];exact C.length.symm
 have hs:=Rr (n:=fn.ntmps) hL C
 have hK:(vs++Array.replicate (fn.ntmps-vs.size) undef).size=fn.ntmps:=by simp;omega
 cases c<;>simp[cn]at h5
 all_goals(try(split at h5<;>simp at h5))
 rename_i id ops dr
 obtain⟨g1,hM,T⟩:=h5
 cases dr with
 |true=>
  simp only[nf,if_true]at T
  rcases eI (P:=P) (ops:=ops.toList) (gs:=g1)with⟨x,e⟩|e<;>rw[e]at T<;>simp at T
 |false=>
  simp[nf]at T
  subst T
  have hl:=kE (rd:=none) (ds:= []) (n:=0) (jl (nt:=fn.ntmps) (w0:=w0) (U:=U) (Q:= λ_ σ'=>σ'.mem=mem'∧σ'.nx=nx'∧σ'.base=nx)) (eO hM) (fJ hM h hs hK λσ' ι' a' w' hq A M=>⟨σ',ι',rfl,hq,A,M⟩)
  refine callsDIn_of_wp (F:=Fence.wide) (R:= λe w'=> ∃v ι',e= .returned v∧ci w0 U ⟨[],mem',nx',nx⟩ ι' {tmps:= #[],defers:= []} w') h1 h2 trivial (wpIn_mono (wpIn_region_list hl) ?_)
  rintro e a1 W1 ⟨a0,rfl,σ',ι',rfl,hq,A,M⟩
  obtain⟨fr,m,n,b⟩:=σ'
  obtain⟨rfl,rfl,rfl⟩:=hq
  obtain⟨vs',us',g1,g2,_⟩:=ki (K:= λ_=>True) A (us:= []) h6 trivial .nil
  have hr: ∃v,(results fn a0.tmps).run P W1= .ok v W1:=by
   refine⟨if h:us'.toArray.size=1 then us'.toArray[0]else .tuple us'.toArray, ?_⟩
   rw[jF,zG8]
   simp[g2]
  obtain⟨v,hr⟩:=hr
  exact⟨by show a0.defers++ []= [];rw[A.defers.1];rfl,v,hr,v,ι',rfl,⟨λt=> .top,⟨rfl,A.defers.2⟩,A.names,A.box,A.apart,A.below,A.keep,A.base⟩⟩
theorem Ux {fn:Func} {tmps:Array Value} {R:Ending→World→Prop} {U':Gh} {ds ds':List Deferred} (hx:A3 w0.heap.size none U ds U' ds'): ∀{w:World},ci w0 U' σ ι a w→
  (∀w',ci w0 U σ ι a w'→LeavesInM Fence.wide 0 P fn tmps R ds .returning w')→LeavesInM Fence.wide 0 P fn tmps R ds' .returning w:=by
 induction hx with
 |refl=>exact λhs h=>h _ hs
 | @mark U1 U2 ds1 D h hr hD hp hi hG ih=>
  intro w hs HF
  obtain⟨_,g2,g3,g4⟩:=hG _ _ hs.keep
  refine⟨by simp,.inl ⟨D,_,rfl,run_takeDeferred g3,ih (hs.turn (.deferred none) g3 rfl hD hp.symm hi.symm ?_) HF⟩⟩
  have e:aV w0.heap.size U1 ι σ.mem=aV w0.heap.size U2 ι σ.mem:=by
   funext b
   unfold aV
   rw[hp]
  rw[e]
  exact g4
def ad7 (P:Program) (f:FuncId) (nt:Nat) (p0 p1:aj) (g:AG) (t:Nat) (rest:aj) (rs:List AR):Prop:=
 ∃ fn r0 r1 r2 id o od c, P.funcs[f]? = some fn ∧ fn.body = some (.seq r0 (.seq r1 (.seq (.region id #[o, od] false) r2))) ∧ (fn.name == "runtime.NumGoroutine") = false ∧ fn.ntmps = nt ∧ cn P nt r0 = some p0 ∧ cn P nt r1 = some p1 ∧
  gL P false nt #[o,od] [o]=some [g]∧od.dst=none∧od.guard=none∧od.op= .defer c∧c.callee= .value (.tmp t)∧c.args= #[]∧cn P nt r2=some rest∧FF P fn.results.toList=some rs
def onN (K:St→Prop):bv→St→Prop
 | .normal,σ=>K σ
 |_,_=>False
def acE (P:Program) (gf:FuncId) (caps:List AC) (rs:List AR) (ress:List AV) (mem:List (Nat×bP)) (nx base top:Nat):bv→St→Prop
 | .exit _,_=>False
 | .ret,σ=>σ.base=top∧ ∃mem2 nx2,Cc P gf (caps.map .c) σ.mem σ.nx mem2 nx2∧Wi rs ress mem nx base .normal {σ with mem:=mem2,nx:=nx2,base:=base}
 | .normal,σ=>σ.base=top∧ ∃mem2 nx2,Cc P gf (caps.map .c) σ.mem σ.nx mem2 nx2∧Wi rs ress mem nx base .normal {σ with mem:=mem2,nx:=nx2,base:=base}
theorem Fs {U:Gh}:acC U none:= λ_ e=>by cases e
theorem bJ.ofD {p0 p1 rest:aj} {g:AG} {t:Nat} {rs:List AR} {mem':List (Nat×bP)} {nx':Nat} {ress:List AV} (hf:ad7 P f nt p0 p1 g t rest rs) (HE:args.length≤nt)
  (h:f6 args→AW P nt p0 ⟨aI args 0,mem,nx,nx⟩ (onN λσa=>AW P nt p1 σa (onN λσb=>kA P [g] σb λσ1=> ∃gf caps,aZ σ1.fr t= .c (.clo gf caps)∧σ1.base=nx∧AW P nt rest {σ1 with base:=σ1.nx} (acE P gf caps rs ress mem' nx' nx σ1.nx)))):
  bJ P f args mem nx (kz ress) mem' nx':=by
 obtain⟨fn,r0,r1,r2,id,o,od,c,h1,h2,h3,rfl,hc0,hc1,Z1,Z2,hod2,hod3,hod4,hod5,hc2,h6⟩:=hf
 refine⟨⟨fn,h1,by rw[h2];rfl,h3⟩,λw0 U ι w vs hL C=> ?_⟩
 have H1:vs.size=args.length:=by rw[←zD0];exact C.length.symm
 have hs:=Rr (n:=fn.ntmps) hL C
 have hK:(vs++Array.replicate (fn.ntmps-vs.size) undef).size=fn.ntmps:=by simp;omega
 have fin: ∀{a':Act} {w':World} {σ':St} {ι':Pl},Wi rs ress mem' nx' nx .normal σ'→ci w0 U σ' ι' a' w'→ ∃v,(results fn a'.tmps).run P w'= .ok v w'∧
   ∃v' ι',Ending.returned v= .returned v'∧ci w0 U ⟨[],mem',nx',nx⟩ ι' {tmps:= #[],defers:= []} w'∧aT w' (aV w0.heap.size U ι' mem') ι' nx' (kz ress) v':=by
  rintro a' w' σ' ι' ⟨l,rl,hh⟩ A
  obtain⟨X,_⟩:=uf (l:=l) (args:= []) (us:= []) A .nil rfl
  obtain⟨vs',us',g1,g2,qs,hwk⟩:=ki X (us:= []) h6 hh .nil
  have g1:bf (aT w' (aV w0.heap.size U ι' (bM l σ' []).1.mem) ι' (bM l σ' []).1.nx) vs' us':=by simpa using g1
  have G2:ci w0 U {(bM l σ' []).1 with fr:=aI vs' 0} ι' {tmps:=us'.toArray,defers:= []} w':=by
   refine⟨λt=> ?_,⟨rfl,X.defers.2⟩,X.names,X.box,X.apart,X.below,X.keep,X.base⟩
   rcases iG (vs:= []) (k:=0) g1 t with h|h
   ·have e:us'.toArray.getD t undef=(us'[t-0]?).getD undef:=by simp[zC4]
    rw[e];exact h
   ·show aT _ _ _ _ (aZ (aI vs' 0) t) _
    rw[h];exact .top
  have hT:=G2.wk hwk
  have HS:bf (aT w' (aV w0.heap.size U (λn=>ι' (rn rl n)) mem') (λn=>ι' (rn rl n)) nx') ress us':=by
   refine bf.of_get (by rw[qs,g1.length]) λi x u hx hu=> ?_
   have h:=hT.val i
   have e1:aZ (aI ress 0) i=x:=by
    have:=yE (l:=ress) (k:=0) i
    rw[zJ3]at this
    rw[this,hx];rfl
   have e2:(us'.toArray).getD i undef=u:=by simp[zC4,hu]
   simp only[e1,e2]at h
   exact h
  refine⟨_, ?_,_,λn=>ι' (rn rl n),rfl,⟨λt=> .top,⟨rfl,hT.defers.2⟩,hT.names,hT.box,hT.apart,hT.below,hT.keep,hT.base⟩,yV HS⟩
  rw[jF,zG8]
  simp[g2]
 refine(callsIn_wide (n:=0)).1 (callsIn_of_wp_marks h1 h2 trivial ?_)
 refine wpIn_seq (wpIn_mono (h (xl C) r0 hc0 w0 U none [] ι _ w Fs hs hK) ?_)
 rintro e a1 W1 ⟨e',σa,ιa,Ua,dsa,a0,rfl,q0,hsa,hza,rfl,hxa⟩
 cases e' with
 |exit i=>exact q0.elim
 |ret=>exact q0.elim
 |normal=>
 refine wpIn_seq (wpIn_mono (q0 r1 hc1 w0 Ua none dsa ιa _ W1 Fs hsa hza) ?_)
 rintro e a1 W2 ⟨e',σb,ιb,Ub,dsb,b0,rfl,q8,hsb,hzb,rfl,hxb⟩
 cases e' with
 |exit i=>exact q8.elim
 |ret=>exact q8.elim
 |normal=>
 have hxab:=hxa.trans hxb
 have h3':=kE (rd:=none) (ds:=dsb) (n:=0) (ops:= #[o,od]) (jl (nt:=fn.ntmps) (w0:=w0) (U:=Ub) (Q:= λ_ σ1=> ∃gf caps,aZ σ1.fr t= .c (.clo gf caps)∧σ1.base=nx∧AW P fn.ntmps rest {σ1 with base:=σ1.nx} (acE P gf caps rs ress mem' nx' nx σ1.nx))) (eO Z1) (fJ Z1 q8 hsb hzb λσ' ι' a' w' hq A M=>⟨σ',ι',rfl,hq,A,M⟩)
 have h4:=bO (l2:= [od]) (Q:= λe a w=> ∃σ1 ι1 a1 cv gf caps,e= .normal∧σ1.base=nx∧bf (aT w (aV w0.heap.size Ub ι1 σ1.mem) ι1 σ1.nx) (caps.map .c) (Array.toList cv)∧AW P fn.ntmps rest {σ1 with base:=σ1.nx} (acE P gf caps rs ress mem' nx' nx σ1.nx)∧ci w0 Ub σ1 ι1 a1 w∧a1.tmps.size=fn.ntmps∧a=sh ({target:= .fn (.func gf) cv,args:= #[]}::dsb) a1) ?_ ?_ h3'
 rotate_left
 ·rintro a1 W3 ⟨a0,rfl,σ1,ι1,_,⟨gf,caps,hlk,HV,hC⟩,O,HH⟩
  have r:=O.val t
  rw[hlk]at r
  generalize hu:a0.tmps.getD t undef=fv at r
  cases r with
  |c r=>
  cases r with
  |clo hl HR=>
  rename_i cv
  unfold wpListIn
  rw[if_pos (by simp[Region.wanted,hod2])]
  refine⟨λ_ _=>trivial, ?_⟩
  have hF:(od.semAt (FR none).round (sh dsb a0).eval).run P W3= .ok (.defer {target:= .fn (.func gf) cv,args:= #[]}) W3:=by
   show(execOp (sh dsb a0).eval od).run P W3=_
   rw[re]
   have hu':a0.eval (.tmp t)= .func (.func gf) #[] cv:=hu
   simp[execOp,hod3,resolve,hod4,hod5,hu',Deferred.ofValue]
  rw[hF,Oper.uponIn_defer,Z2]
  unfold wpListIn
  refine⟨σ1,ι1,a0,cv,gf,caps,rfl,HV,bf.of_get zS8 λi x v hi hv=> ?_,hC,O,HH, ?_⟩
  ·rw[zC7]at hi
   cases ec:caps[i]? with
   |none=>simp[ec]at hi
   |some y=>
    simp[ec]at hi
    subst hi
    have:=HR i y ec
    rw[hv]at this
    exact .c this
  ·have e0:=O.defers.1
   obtain⟨tm,df⟩:=a0
   simp only at e0
   subst e0
   rfl
 ·rintro e a1 W3 ⟨a0,rfl,σ1,ι1,e2,_⟩
  exact e2
 refine wpIn_seq (wpIn_mono (wpIn_region_list h4) ?_)
 rintro e a1 W3 ⟨σ1,ι1,a0,cv,gf,caps,rfl,HV,hcv,hC,O,HH,rfl⟩
 let U1:Gh:=⟨Ub.p,ι1,λw V=>Ub.G w V∧bf (aT w V ι1 σ1.nx) (caps.map .c) cv.toList,λw w' V V' h hU hw=>⟨Ub.mono w w' V V' h.1 hU hw,h.2.mono λ_ _ hr=>hr.mono hU hw (λ_ _=>rfl) (zB2 _)⟩⟩
 have hs1':ci w0 U1 {σ1 with base:=σ1.nx} ι1 a0 W3:=⟨O.val,O.defers,O.names,O.box,O.apart,O.below,⟨O.keep,hcv⟩,⟨zB2 _,λ_ _=>rfl⟩⟩
 refine wpIn_mono (hC r2 hc2 w0 U1 none _ ι1 a0 W3 Fs hs1' HH) ?_
 rintro e a1 W4 ⟨e',σ2,ι2,U2,ds2,a2,rfl,hN,X,q9,rfl,hx2⟩
 have key:(σ2.base=σ1.nx∧ ∃mem2 nx2,Cc P gf (caps.map .c) σ2.mem σ2.nx mem2 nx2∧Wi rs ress mem' nx' nx .normal {σ2 with mem:=mem2,nx:=nx2,base:=nx})→LeavesInM Fence.wide 0 P fn (sh ds2 a2).tmps (λe w'=> ∃v ι',e= .returned v∧ci w0 U ⟨[],mem',nx',nx⟩ ι' {tmps:= #[],defers:= []} w'∧aT w' (aV w0.heap.size U ι' mem') ι' nx' (kz ress) v) (sh ds2 a2).defers .returning W4:=by
  rintro⟨hb2,mem2,nx2,⟨⟨gn,hgn,hgb,HG⟩,hD⟩,hz⟩
  have hd:(sh ds2 a2).defers=ds2:=by
   show a2.defers++ds2=ds2
   rw[X.defers.1]
   rfl
  rw[hd]
  refine Ux hx2 X λw5 hW=> ?_
  obtain⟨HO,HP⟩:=hW.keep
  have HL:=hW.base
  rw[hb2]at HL
  let U3:Gh:=⟨Ub.p,ι2,λw V=>Ub.G w V∧ ∀t,aT w V ι2 σ2.nx (aZ σ2.fr t) (a2.tmps.getD t undef),λw w' V V' h hU hw=>⟨Ub.mono w w' V V' h.1 hU hw,λt=>(h.2 t).mono hU hw (λ_ _=>rfl) (zB2 _)⟩⟩
  have hs6:ci w0 U3 ⟨[],σ2.mem,σ2.nx,σ2.nx⟩ ι2 {tmps:= #[],defers:= []} w5:=⟨λt=> .top,⟨rfl,hW.defers.2⟩,hW.names,hW.box,hW.apart,hW.below,⟨HO,hW.val⟩,⟨zB2 _,λ_ _=>rfl⟩⟩
  have hcv':bf (aT w5 (aV w0.heap.size U3 ι2 σ2.mem) ι2 σ2.nx) (caps.map .c) cv.toList:=HP.mono λ_ _ hr=>hr.mono (λ_ _ h=>h) (λ_ _ _=>rfl) (λnm HM=>HL.2 nm HM) HL.1
  have hb: ¬gn.body=none:=by intro e;rw[e]at hgb;cases hgb
  have hQ : ¬ gn.name = "runtime.NumGoroutine" := by intro e; rw [e] at HG; simp at HG
  refine⟨by simp,.inr ⟨by simp[Fence.wide],.func gf,cv,gf,cv,rfl,by simp[invoke,callFunc,hgn,hQ,hb],λ_ _=>trivial,(hD w0 U3 ι2 w5 cv hs6 hcv' .returning).mono ?_⟩⟩
  rintro e u' w6 ⟨rfl,v,ι',rfl,H⟩
  have hle:σ2.nx≤nx2:=H.base.1
  have hs7:ci w0 Ub {σ2 with mem:=mem2,nx:=nx2,base:=nx} ι' a2 w6:=by
   refine⟨λt=> ?_,hW.defers,H.names,H.box,H.apart,H.below,H.keep.1,⟨by show nx≤nx2;have:=O.base.1;have:=HL.1;omega,λnm HM=> ?_⟩⟩
   ·exact(H.keep.2 t).mono (λ_ _ h=>h) (λ_ _ _=>rfl) (λnm HM=>H.base.2 nm HM) hle
   ·have HM:nm<nx:=HM
    have h1:=O.base.1
    have h2:=HL.1
    exact((H.base.2 nm (show nm<σ2.nx by omega)).trans (HL.2 nm zR5)).trans (O.base.2 nm zR5)
  exact OI hxab hs7 λw7 hs8=>fin (a':=a2) hz hs8
 cases e' with
 |normal=>exact key hN
 |exit i=>exact hN.elim
 |ret=>exact key hN
end
end Go.Abs
