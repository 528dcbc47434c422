import Derived.Test.YthbcbaembicdbaaGreatDoorP18w
set_option linter.unusedVariables false
set_option linter.unusedSimpArgs false
namespace Go.Abs
open Go.RowKit Go.WideShapes
inductive OkX (l:List TS):PC→Prop
 |mk {rows:List (List PC)} (hm:rows.length≤maxLen) (h0: ∀r∈rows,r.length=l.length+1) (h1: ∀r∈rows,∀(i:Nat) s p,l[i]? =some s→r[i]? =some p→Hn s p) (h2: ∀r∈rows,∀p,r[l.length]? =some p→OkX l p):OkX l (.slice rows)
inductive TE where
 |t (s:TS)
 |ex (l:List TS)
 |sl (l:List TE)
inductive XK:TE→PC→Prop
 |t {s:TS} {p:PC} (h:Hn s p):XK (.t s) p
 |ex {l:List TS} {p:PC} (h:OkX l p):XK (.ex l) p
 |sl {l:List TE} {rows:List (List PC)} (hm:rows.length≤maxLen) (hl: ∀r∈rows,r.length=l.length) (h: ∀(r:List PC),r∈rows→ ∀(i:Nat) s p,l[i]? =some s→r[i]? =some p→XK s p):XK (.sl l) (.slice rows)
def re (l:List TE) (ps:List PC):Prop:=ps.length=l.length∧ ∀(i:Nat) s p,l[i]? =some s→ps[i]? =some p→XK s p
theorem re.append {l l':List TE} {ps ps':List PC} (h:re l ps) (h':re l' ps'):re (l++l') (ps++ps'):=by
 refine⟨by simp[h.1,h'.1],λi s p hs hp=> ?_⟩
 by_cases hi:i<l.length
 ·rw[List.getElem?_append_left hi]at hs
  rw[List.getElem?_append_left (by rw[h.1];exact hi)]at hp
  exact h.2 i s p hs hp
 ·rw[List.getElem?_append_right (by omega)]at hs
  rw[List.getElem?_append_right (by rw[h.1];omega),h.1]at hp
  exact h'.2 _ s p hs hp
theorem re.one {s:TE} {p:PC} (h:XK s p):re [s] [p]:=by
 refine⟨rfl,λi s' p' hs hp=> ?_⟩
 cases i with
 |zero=>simp at hs hp;subst hs;subst hp;exact h
 |succ i=>simp at hs
theorem re.of {l:List TS} {ps:List PC} (h:qt l ps):re (l.map .t) ps:=by
 refine⟨by simpa using h.1,λi s p hs hp=> ?_⟩
 rw[List.getElem?_map]at hs
 obtain⟨s0,h0,rfl⟩:=Option.map_eq_some_iff.1 hs
 exact .t (h.2 i s0 p h0 hp)
def V4 (P:Program) (f:TypeId→Option (List TE)):List Field→Nat→Nat→Option (List TE)
 | [],k,m=>if k=m then some []else none
 |fd::r,k,m=>if fd.offset=k then match f fd.type with
  |some l=>if l.length=P.cellsOf fd.type then match V4 P f r (k+l.length) m with
   |some l'=>some (l++l')
   |none=>none else none
  |none=>none else none
def X3 (P:Program) (E:TypeId) (lE:List TS):Nat→TypeId→Option (List TE)
 |0,_=>none
 |n+1,t=>match QU P 9 t with
  |some l=>some (l.map .t)
  |none=>match P.underlying t with
   |some (.slice e)=>if e=E then some [.ex lE]else match X3 P E lE n e with
    |some l=>if l.length=P.cellsOf e then some [.sl l]else none
    |none=>none
   |some (.struct fs)=>V4 P (X3 P E lE n) fs.toList 0 (P.cellsOf t)
   |_=>none
section
variable {H : Type} {enc : TypeId × Value → H} {P : Program} {W : World} {base : Nat} {sp : Nat → Bool} {w : Bool}
theorem Dl {f:TypeId→Option (List TE)} {n:Nat} {cs:List Value} (ih: ∀t l cs x,f t=some l→DataW.trod enc P W base sp w n t cs=some x→ ∃ps,aP (cp W Kx) ps cs∧re l ps):
  ∀{fs:List Field} {k m:Nat} {l:List TE},V4 P f fs k m=some l→cs.length=m→(∀fd∈fs,∃x,DataW.trod enc P W base sp w n fd.type ((cs.drop fd.offset).take (P.cellsOf fd.type))=some x)→
   ∃ps,aP (cp W Kx) ps (cs.drop k)∧re l ps
 |[],k,m,l,h,hm,_=>by
  unfold V4 at h
  split at h
  ·cases h
   refine⟨[], ?_,rfl,λi s p hs=>by simp at hs⟩
   rw[List.drop_eq_nil_of_le (by omega)]
   exact .nil
  ·cases h
 |fd::fs,k,m,l,h,hm,hx=>by
  unfold V4 at h
  split at h
  ·rename_i e
   split at h
   ·rename_i l1 h1
    split at h
    ·rename_i hc
     split at h
     ·rename_i l2 h2
      cases h
      obtain⟨x,X⟩:=hx fd List.mem_cons_self
      obtain⟨p1,g1,g2⟩:=ih _ _ _ _ h1 X
      obtain⟨p2,g3,g4⟩:=Dl ih h2 hm λfd h=>hx fd (List.mem_cons_of_mem _ h)
      refine⟨p1++p2, ?_,g2.append g4⟩
      have:cs.drop k=(cs.drop k).take (P.cellsOf fd.type)++cs.drop (k+l1.length):=by
       rw[hc,←List.drop_drop,List.take_append_drop]
      rw[this]
      subst e
      exact g1.append g3
     ·cases h
    ·cases h
   ·cases h
  ·cases h
theorem Kj {Q:List PC→Prop} {e t:TypeId} {fuel:Nat} {cs:List Value} {x:DataW H×List MemPlace} (ht:P.underlying t=some (.slice e)) (hr:DataW.trod enc P W base sp w fuel t cs=some x)
  (ih: ∀n cs x,n<fuel→DataW.trod enc P W base sp w n e cs=some x→ ∃ps,aP (cp W Kx) ps cs∧ps.length=P.cellsOf e∧Q ps):
  ∃rows,aP (cp W Kx) [.slice rows] cs∧rows.length≤maxLen∧ ∀r∈rows,r.length=P.cellsOf e∧Q r:=by
 rcases DataW.trod_slice ht hr with⟨rfl,_⟩|⟨a,len,cap,elems,rest,n,rfl,rfl,_,_,Y,Z,o,hA,_,_⟩
 ·exact⟨[],.cons (.slice (sz:=0) (λ_ _=>undef) rfl (Nat.le_refl _) (by simp) (λi row h=>by simp at h) (λi row j p h=>by simp at h) (λi row j p h=>by simp at h)) .nil,by simp,λr h=>by cases h⟩
 ·have N: ∀i,i<len→ ∃x:List PC×List Value,W.cells? base (a.add (i*P.cellsOf e)) (P.cellsOf e)=some x.2∧aP (cp W Kx) x.1 x.2∧x.1.length=P.cellsOf e∧Q x.1:=by
   intro i hi
   have h1:=hA i hi
   rw[List.getElem?_eq_getElem (by omega)]at h1
   obtain⟨cs',h2,h3⟩:=Option.bind_eq_some_iff.1 h1
   obtain⟨ps,h4,h5⟩:=ih n _ _ (by omega) h3
   exact⟨(ps,cs'),h2,h4,h5⟩
  obtain⟨L,hL,hQ⟩:=Ln N
  have row: ∀(i:Nat) r,(L.map Prod.fst)[i]? =some r→ ∃c,L[i]? =some (r,c)∧W.cells? base (a.add (i*P.cellsOf e)) (P.cellsOf e)=some c∧aP (cp W Kx) r c∧r.length=P.cellsOf e∧Q r:=by
   intro i r hr
   rw[List.getElem?_map]at hr
   obtain⟨y,hy,rfl⟩:=Option.map_eq_some_iff.1 hr
   exact⟨y.2,hy,hQ i y hy⟩
  unfold maxLen at Z
  refine⟨L.map Prod.fst,.cons (.slice (sz:=P.cellsOf e) (λi j=>(((L[i]?).map Prod.snd).getD []).getD j undef) (by simp[hL]) Y (by omega) ?_ ?_ ?_) .nil,by unfold maxLen;simp[hL];omega, ?_⟩
  ·intro i r hr
   obtain⟨c,_,_,_,h5⟩:=row i r hr
   exact h5.1
  ·intro i r j p hr hp
   obtain⟨c,h1,h2,h3,h5⟩:=row i r hr
   obtain⟨v,hv,_⟩:=h3.get hp
   obtain⟨_,h6,h7⟩:=World.cells?_some h2
   have hj:j<P.cellsOf e:=by
    have:=(List.getElem?_eq_some_iff.1 hv).1
    omega
   have h8:=h7 j hj
   rw[hv]at h8
   obtain⟨b,off,spot⟩:=a
   have C:spot=none:=by
    have hB:0<L.length:=by
     have:=(List.getElem?_eq_some_iff.1 h1).1
     omega
    obtain⟨g1,_,_⟩:=hQ 0 L[0] (List.getElem?_eq_getElem hB)
    obtain⟨_,g2,g3⟩:=World.cells?_some g1
    have g4:=g3 0 (by omega)
    rw[List.getElem?_eq_getElem (by omega)]at g4
    simpa[Addr.add]using World.cell?_spot g4
   subst C
   rw[add_plain,add_plain]at h8
   refine⟨b,off,rfl,trivial, ?_⟩
   rw[←Nat.add_assoc,h8]
   simp[h1,hv]
  ·intro i r j p hr hp
   obtain⟨c,h1,h2,h3,h5⟩:=row i r hr
   obtain⟨v,hv,O⟩:=h3.get hp
   simpa[h1,hv]using O
  ·intro r hr
   obtain⟨i,hi⟩:=List.mem_iff_getElem?.1 hr
   obtain⟨c,_,_,_,h5⟩:=row i r hi
   exact h5
theorem T5 {E:TypeId} {lE:List TS} {SF:Nat} (hE:X3 P E lE SF E=some (lE.map .t++ [.ex lE])) (hc:P.cellsOf E=lE.length+1): ∀(fuel:Nat) {sf:Nat} {t:TypeId} {l:List TE} {cs:List Value} {x:DataW H×List MemPlace},X3 P E lE sf t=some l→DataW.trod enc P W base sp w fuel t cs=some x→ ∃ps,aP (cp W Kx) ps cs∧re l ps:=by
 intro fuel
 induction fuel using Nat.strongRecOn with
 |ind fuel ih=>
  intro sf t l cs x h hr
  cases sf with
  |zero=>cases h
  |succ sf=>
   unfold X3 at h
   split at h
   ·rename_i l0 h0
    cases h
    obtain⟨ps,h1,h2⟩:=An h0 hr
    exact⟨ps,h1,.of h2⟩
   ·split at h
    ·rename_i e ht
     split at h
     ·rename_i he
      subst he
      cases h
      obtain⟨rows,g1,g2,g3⟩:=Kj (Q:=λps=>re (lE.map .t++ [.ex lE]) ps) ht hr λn cs x hn hx=>by
       obtain⟨ps,k1,k2⟩:=ih n hn hE hx
       exact⟨ps,k1,by rw[k2.1,hc];simp,k2⟩
      refine⟨[.slice rows],g1,.one (.ex (.mk g2 (λr hr=>by rw[(g3 r hr).1,hc]) (λr hr i s p hs hp=> ?_) (λr hr p hp=> ?_)))⟩
      ·have:=(g3 r hr).2.2 i (.t s) p (by rw[List.getElem?_append_left (by simpa using(List.getElem?_eq_some_iff.1 hs).1),List.getElem?_map,hs];rfl) hp
       cases this with
       |t h=>exact h
      ·have:=(g3 r hr).2.2 lE.length (.ex lE) p (by rw[List.getElem?_append_right (by simp)];simp) hp
       cases this with
       |ex h=>exact h
     ·split at h
      ·rename_i l' hC
       split at h
       ·rename_i R
        cases h
        obtain⟨rows,g1,g2,g3⟩:=Kj (Q:=λps=>re l' ps) ht hr λn cs x hn hx=>by
         obtain⟨ps,k1,k2⟩:=ih n hn hC hx
         exact⟨ps,k1,by rw[k2.1,R],k2⟩
        exact⟨[.slice rows],g1,.one (.sl g2 (λr hr=>by rw[(g3 r hr).1,R]) λr hr=>(g3 r hr).2.2)⟩
       ·cases h
      ·cases h
    ·rename_i fs ht
     obtain⟨xs,n,hn,_,hl,o,hf⟩:=DataW.trod_struct ht hr
     have:=Dl (n:=n) (λt l cs x h hx=>ih n (by omega) h hx) h hl λfd hD=>by
      obtain⟨i,hi⟩:=List.mem_iff_getElem?.1 hD
      have h1:=hf i fd (by simpa using hi)
      have hF:i<xs.length:=by
       have:=(List.getElem?_eq_some_iff.1 hi).1
       simp at this
       omega
      exact⟨xs[i],by rw[h1,List.getElem?_eq_getElem hF]⟩
     simpa using this
    ·cases h
theorem WS {E:TypeId} {lE:List TS} {SF:Nat} (hE:X3 P E lE SF E=some (lE.map .t++ [.ex lE])) (hc:P.cellsOf E=lE.length+1) {r:Reach} {b0:Nat} {t:TypeId} {fs:Array Field} {v:Value} {d:DataW H} {p:List MemPlace} {sf:Nat} {l:List TE} (ht:P.underlying t=some (.struct fs)) (hs:X3 P E lE sf t=some l) (T:Value.okWide P W r b0 t v) (h:DataW.Trod enc P W base sp w t v d p):
  ∃ps,re l ps∧aU W Kx (λ_=>undef) 0 (.agg (ps.map .pure)) v:=by
 obtain⟨fuel,hf⟩:=h
 obtain⟨ps,h1,h2⟩:=T5 hE hc fuel hs hf
 refine⟨ps,h2, ?_⟩
 obtain⟨cs,rfl,_⟩:=okWide_struct ht T
 have h1:aP (cp W Kx) ps cs.toList:=h1
 refine .agg (aP.of_get (by simpa using h1.length) λi x v hi hv=> ?_)
 simp only[List.getElem?_map,Option.map_eq_some_iff]at hi
 obtain⟨q,hq,rfl⟩:=hi
 obtain⟨u,hu,hr⟩:=h1.get hq
 have:u=v:=by
  rw[hv]at hu
  cases hu
  rfl
 subst this
 exact .pure hr
end
end Go.Abs
namespace Go.Proofs.YthbcbaembicdbaaGreatDoor
open Go.Abs Go.RowKit
abbrev sI:TS:= .int .i64
abbrev ZT:TS:= .slice [.str,sI]
abbrev sLi:TS:= .slice [sI,ZT]
abbrev lIx:List TS:= [sI,ZT,.str,sLi]
abbrev lE:List TS:= [sI,.str,sI,sI,sI,sI,sI,sI,sI,sI,ZT,.slice lIx]
abbrev sAx:TS:= .slice [.str,sI,ZT]
abbrev aby:List TS:= [.str,sI,sI,sI,sI,sI,sLi]
abbrev aaU:List TE:= [.t .str,.t sI,.t sI,.t sI,.t sI,.t sI,.t sAx,.t sAx,.t sI,.t sI,.t .str,.t sI,.t sI,.t sI,.t sI,.t sI,.t sI,.t sI,.t sI,.t ZT,.t (.slice lIx),.ex lE]
abbrev aah:List TE:= [.t (.slice [.str]),.t (.slice [sI,ZT,.bool]),.t (.slice aby),.sl aaU,.t (.slice [.str])]
theorem wL {p:PC} (h:Hn ZT p): ∃l:List bJ,p=aw l∧ ∀m∈l,ay m.2:=by
 obtain⟨l,h1,h2,_⟩:=yM (λm:bJ=>mP m) (λm=>ay m.2) (λr hr=>by
  obtain⟨p1,r1,rfl,h1,q1⟩:=dT hr
  obtain⟨p2,rfl,h2⟩:=Ag q1
  obtain⟨s,rfl,_⟩:=C0 h1
  obtain⟨n,rfl,i2⟩:=d5 h2
  exact⟨(s,n),rfl,i2⟩) h
 exact⟨l,h1,h2⟩
theorem Xc {p:PC} (h:Hn sLi p): ∃l:List bY,p=du cd l∧ ∀x∈l,bq x:=by
 obtain⟨l,h1,h2,_⟩:=yM (λm:bY=>cd m) (λx=>bq x) (λr hr=>by
  obtain⟨p1,r1,rfl,h1,q1⟩:=dT hr
  obtain⟨p2,rfl,h2⟩:=Ag q1
  obtain⟨n,rfl,i1⟩:=d5 h1
  obtain⟨l,rfl,i2⟩:=wL h2
  exact⟨(n,l),rfl,i1,i2⟩) h
 exact⟨l,h1,h2⟩
theorem ZK {p:PC} (h:Hn (.slice lIx) p): ∃l:List Ix,p=du eQ l∧ ∀x∈l,bq x.1∧ ∀f∈x.2.2,bq f:=by
 obtain⟨l,h1,h2,_⟩:=yM (λm:Ix=>eQ m) (λx=>bq x.1∧ ∀f∈x.2.2,bq f) (λr hr=>by
  obtain⟨p1,r1,rfl,h1,q1⟩:=dT hr
  obtain⟨p2,r2,rfl,h2,q2⟩:=dT q1
  obtain⟨p3,r3,rfl,h3,q3⟩:=dT q2
  obtain⟨p4,rfl,h4⟩:=Ag q3
  obtain⟨n,rfl,i1⟩:=d5 h1
  obtain⟨l,rfl,i2⟩:=wL h2
  obtain⟨s,rfl,_⟩:=C0 h3
  obtain⟨f,rfl,i4⟩:=Xc h4
  exact⟨((n,l),s,f),rfl,⟨i1,i2⟩,i4⟩) h
 exact⟨l,h1,h2⟩
theorem ZU {p:PC} (h:Hn sAx p): ∃l:List iu,p=du fl l∧ ∀a∈l,bq a.2:=by
 obtain⟨l,h1,h2,_⟩:=yM (λm:iu=>fl m) (λa=>bq a.2) (λr hr=>by
  obtain⟨p1,r1,rfl,h1,q1⟩:=dT hr
  obtain⟨p2,r2,rfl,h2,q2⟩:=dT q1
  obtain⟨p3,rfl,h3⟩:=Ag q2
  obtain⟨s,rfl,_⟩:=C0 h1
  obtain⟨n,rfl,i2⟩:=d5 h2
  obtain⟨l,rfl,i3⟩:=wL h3
  exact⟨(s,n,l),rfl,i2,i3⟩) h
 exact⟨l,h1,h2⟩
theorem aaj {p:PC} (h:Hn (.slice [sI,ZT,.bool]) p): ∃l:List bt,p=du cP l∧ ∀c∈l,bq c.1:=by
 obtain⟨l,h1,h2,_⟩:=yM (λm:bt=>cP m) (λc=>bq c.1) (λr hr=>by
  obtain⟨p1,r1,rfl,h1,q1⟩:=dT hr
  obtain⟨p2,r2,rfl,h2,q2⟩:=dT q1
  obtain⟨p3,rfl,h3⟩:=Ag q2
  obtain⟨n,rfl,i1⟩:=d5 h1
  obtain⟨l,rfl,i2⟩:=wL h2
  obtain⟨b,rfl⟩:=aac h3
  exact⟨((n,l),b),rfl,i1,i2⟩) h
 exact⟨l,h1,h2⟩
theorem aaB {p:PC} (h:Hn (.slice aby) p): ∃l:List qZ,p=du ip l∧ ∀x∈l,∀f∈x.2.2,bq f:=by
 obtain⟨l,h1,h2,_⟩:=yM (λm:qZ=>ip m) (λx=> ∀f∈x.2.2,bq f) (λr hr=>by
  obtain⟨p1,r1,rfl,h1,q1⟩:=dT hr
  obtain⟨p2,r2,rfl,h2,q2⟩:=dT q1
  obtain⟨p3,r3,rfl,h3,q3⟩:=dT q2
  obtain⟨p4,r4,rfl,h4,q4⟩:=dT q3
  obtain⟨p5,r5,rfl,h5,q5⟩:=dT q4
  obtain⟨p6,r6,rfl,h6,q6⟩:=dT q5
  obtain⟨p7,rfl,h7⟩:=Ag q6
  obtain⟨s,rfl,_⟩:=C0 h1
  obtain⟨n2,rfl,_⟩:=d5 h2
  obtain⟨n3,rfl,_⟩:=d5 h3
  obtain⟨n4,rfl,_⟩:=d5 h4
  obtain⟨n5,rfl,_⟩:=d5 h5
  obtain⟨n6,rfl,_⟩:=d5 h6
  obtain⟨l,rfl,i7⟩:=Xc h7
  exact⟨(s,(n2,n3,n4,n5,n6),l),rfl,i7⟩) h
 exact⟨l,h1,h2⟩
def abo (e:Ex):List PC:= [pI e.op,pS e.name,pI e.val.1,pI e.val.2,pI e.ty.1,pI e.ty.2.1,pI e.ty.2.2.1,pI e.ty.2.2.2.1,pI e.ty.2.2.2.2,pI e.lin.1,aw e.lin.2,du eQ e.idx]
theorem Nz {e:Ex} (h1:bq e.lin) (h2: ∀x∈e.idx,bq x.1∧ ∀f∈x.2.2,bq f): ∀g∈e.forms,bq g:=by
 intro g hg
 rcases List.mem_cons.1 hg with rfl|hg
 ·exact h1
 ·obtain⟨x,hx,hg⟩:=List.mem_flatMap.1 hg
  rcases List.mem_cons.1 hg with rfl|hg
  ·exact(h2 x hx).1
  ·exact(h2 x hx).2 g hg
theorem aaG {ps:List PC} (h:qt lE ps): ∃f:List Ex→Ex,(∀l,ps=abo (f l)∧(f l).args=l)∧ ∀l,tL (f l).val∧ ∀g∈(f l).forms,bq g:=by
 obtain⟨p1,r1,rfl,h1,q1⟩:=dT h
 obtain⟨p2,r2,rfl,h2,q2⟩:=dT q1
 obtain⟨p3,r3,rfl,h3,q3⟩:=dT q2
 obtain⟨p4,r4,rfl,h4,q4⟩:=dT q3
 obtain⟨p5,r5,rfl,h5,q5⟩:=dT q4
 obtain⟨p6,r6,rfl,h6,q6⟩:=dT q5
 obtain⟨p7,r7,rfl,h7,q7⟩:=dT q6
 obtain⟨p8,r8,rfl,h8,q8⟩:=dT q7
 obtain⟨p9,r9,rfl,h9,q9⟩:=dT q8
 obtain⟨p10,r10,rfl,D,q10⟩:=dT q9
 obtain⟨p11,r11,rfl,F,q11⟩:=dT q10
 obtain⟨p12,rfl,G⟩:=Ag q11
 obtain⟨n1,rfl,_⟩:=d5 h1
 obtain⟨s,rfl,_⟩:=C0 h2
 obtain⟨n3,rfl,i3⟩:=d5 h3
 obtain⟨n4,rfl,i4⟩:=d5 h4
 obtain⟨n5,rfl,_⟩:=d5 h5
 obtain⟨n6,rfl,_⟩:=d5 h6
 obtain⟨n7,rfl,_⟩:=d5 h7
 obtain⟨n8,rfl,_⟩:=d5 h8
 obtain⟨n9,rfl,_⟩:=d5 h9
 obtain⟨n10,rfl,i10⟩:=d5 D
 obtain⟨m,rfl,i11⟩:=wL F
 obtain⟨x,rfl,i12⟩:=ZK G
 exact⟨λl=> .mk n1 s (n3,n4) (n5,n6,n7,n8,n9) (n10,m) x l,λl=>⟨rfl,rfl⟩,λl=>⟨⟨i3,i4⟩,Nz (e:= .mk n1 s (n3,n4) (n5,n6,n7,n8,n9) (n10,m) x l) ⟨i10,i11⟩ i12⟩⟩
theorem aaR (e:Ex):e.row=abo e++ [.slice (e.args.map Ex.row)]:=by rw[Ex.row_eq];rfl
def Dx (e:Ex):Prop:= ∀a∈e.pre,tL a.val∧ ∀l∈a.forms,bq l
theorem XB {e:Ex} (h:tL e.val∧ ∀l∈e.forms,bq l) (ha: ∀a∈e.args,Dx a):Dx e:=by
 intro b hb
 rw[Ex.pre_eq]at hb
 rcases List.mem_cons.1 hb with rfl|hb
 ·exact h
 ·have key: ∀l:List Ex,(∀a∈l,Dx a)→ ∀b∈Ex.pres l,tL b.val∧ ∀l∈b.forms,bq l:=by
   intro l
   induction l with
   |nil=>intro _ b hb;simp[Ex.pres]at hb
   |cons x r ih=>
    intro h b hb
    rw[Ex.pres]at hb
    rcases List.mem_append.1 hb with hb|hb
    ·exact h x List.mem_cons_self b hb
    ·exact ih (λa ha=>h a (List.mem_cons_of_mem _ ha)) b hb
  exact key _ ha b hb
theorem abV {p:PC} (h:OkX lE p): ∃l:List Ex,p= .slice (l.map Ex.row)∧ ∀a∈l,Dx a:=by
 induction h with
 | @mk rows hm h0 h1 h2 ih=>
  have key: ∀rs:List (List PC),(∀r∈rs,r∈rows)→ ∃l:List Ex,rs=l.map Ex.row∧ ∀a∈l,Dx a:=by
   intro rs
   induction rs with
   |nil=>intro _;exact⟨[],rfl,by simp⟩
   |cons r rs J=>
    intro z
    have hr:=z r List.mem_cons_self
    obtain⟨l,hl,hq⟩:=J λx hx=>z x (List.mem_cons_of_mem _ hx)
    have o:=h0 r hr
    obtain⟨q,A⟩: ∃q,r[12]? =some q:=⟨_,List.getElem?_eq_getElem (by rw[o];decide)⟩
    obtain⟨args,rfl,ha⟩:=ih r hr q A
    obtain⟨f,hf,hv⟩:=aaG (ps:=r.take 12) ⟨by rw[List.length_take,o];rfl,λi s p hs hp=>h1 r hr i s p hs (by
     rw[List.getElem?_take]at hp
     split at hp
     ·exact hp
     ·cases hp)⟩
    have V:r=(f args).row:=by
     rw[aaR,←(hf args).1,(hf args).2]
     have:r=r.take 12++r.drop 12:=(List.take_append_drop 12 r).symm
     rw[this]
     congr 1
     ·rw[←this]
     ·have hd:r.drop 12= [r[12]'(by rw[o];decide)]:=by
       rw[List.drop_eq_getElem_cons (by rw[o];decide),List.drop_eq_nil_of_le (by rw[o];decide)]
      rw[hd]
      rw[List.getElem?_eq_getElem (by rw[o];decide)]at A
      injection A with A
      rw[A]
    refine⟨f args::l,by rw[List.map_cons,←hl,←V],λa K=> ?_⟩
    rcases List.mem_cons.1 K with rfl|K
    ·exact XB (hv _) (by rw[(hf args).2];exact ha)
    ·exact hq a K
  obtain⟨l,hl,hq⟩:=key rows λr hr=>hr
  exact⟨l,by rw[hl],hq⟩
theorem dM {s:TE} {l:List TE} {ps:List PC} (h:re (s::l) ps): ∃p r,ps=p::r∧XK s p∧re l r:=by
 obtain⟨h1,h2⟩:=h
 match ps with
 |p::r=>exact⟨p,r,rfl,h2 0 s p rfl rfl,by simpa using h1,λi s p hi hp=>h2 (i+1) s p (by simpa using hi) (by simpa using hp)⟩
 | []=>simp at h1
theorem ZW {ps:List PC} (h:re [] ps):ps= []:=List.eq_nil_of_length_eq_zero h.1
theorem Es {s:TS} {p:PC} (h:XK (.t s) p):Hn s p:=by cases h;assumption
theorem oeX {l:List TS} {p:PC} (h:XK (.ex l) p):OkX l p:=by cases h;assumption
theorem aav {p:PC} (h:XK (.sl aaU) p): ∃l:List zB,p=du da l∧ ∀d∈l,Dx d.body∧ ∀a∈d.dims++d.red,bq a.2:=by
 cases h with
 | @sl _ rows hm hl h=>
  have key: ∀rs:List (List PC),(∀r∈rs,r∈rows)→ ∃l:List zB,rs=l.map da∧ ∀d∈l,Dx d.body∧ ∀a∈d.dims++d.red,bq a.2:=by
   intro rs
   induction rs with
   |nil=>intro _;exact⟨[],rfl,by simp⟩
   |cons r rs J=>
    intro z
    have hr:=z r List.mem_cons_self
    obtain⟨l,M,hq⟩:=J λx hx=>z x (List.mem_cons_of_mem _ hx)
    have o:r.length=22:=hl r hr
    have hE:re aaU r:=⟨hl r hr,h r hr⟩
    obtain⟨p1,r1,rfl,h1,q1⟩:=dM hE
    obtain⟨p2,r2,rfl,h2,q2⟩:=dM q1
    obtain⟨p3,r3,rfl,h3,q3⟩:=dM q2
    obtain⟨p4,r4,rfl,h4,q4⟩:=dM q3
    obtain⟨p5,r5,rfl,h5,q5⟩:=dM q4
    obtain⟨p6,r6,rfl,h6,q6⟩:=dM q5
    obtain⟨p7,r7,rfl,h7,q7⟩:=dM q6
    obtain⟨p8,r8,rfl,h8,q8⟩:=dM q7
    obtain⟨p9,r9,rfl,h9,q9⟩:=dM q8
    obtain⟨p10,r10,rfl,D,q10⟩:=dM q9
    obtain⟨p11,r11,rfl,F,q11⟩:=dM q10
    obtain⟨p12,r12,rfl,G,q12⟩:=dM q11
    obtain⟨p13,r13,rfl,hG,q13⟩:=dM q12
    obtain⟨p14,r14,rfl,hH,q14⟩:=dM q13
    obtain⟨p15,r15,rfl,hI,q15⟩:=dM q14
    obtain⟨p16,r16,rfl,hJ,q16⟩:=dM q15
    obtain⟨p17,r17,rfl,hK,q17⟩:=dM q16
    obtain⟨p18,r18,rfl,hM,q18⟩:=dM q17
    obtain⟨p19,r19,rfl,hN,q19⟩:=dM q18
    obtain⟨p20,r20,rfl,hO,q20⟩:=dM q19
    obtain⟨p21,r21,rfl,hP,q21⟩:=dM q20
    obtain⟨p22,r22,rfl,hR,q22⟩:=dM q21
    obtain rfl:=ZW q22
    obtain⟨s1,rfl,_⟩:=C0 (Es h1)
    obtain⟨n2,rfl,_⟩:=d5 (Es h2)
    obtain⟨n3,rfl,_⟩:=d5 (Es h3)
    obtain⟨n4,rfl,_⟩:=d5 (Es h4)
    obtain⟨n5,rfl,_⟩:=d5 (Es h5)
    obtain⟨n6,rfl,_⟩:=d5 (Es h6)
    obtain⟨a7,rfl,i7⟩:=ZU (Es h7)
    obtain⟨a8,rfl,i8⟩:=ZU (Es h8)
    obtain⟨n9,rfl,_⟩:=d5 (Es h9)
    obtain⟨n10,rfl,_⟩:=d5 (Es D)
    obtain⟨s11,rfl,_⟩:=C0 (Es F)
    obtain⟨n12,rfl,i12⟩:=d5 (Es G)
    obtain⟨n13,rfl,i13⟩:=d5 (Es hG)
    obtain⟨n14,rfl,_⟩:=d5 (Es hH)
    obtain⟨n15,rfl,_⟩:=d5 (Es hI)
    obtain⟨n16,rfl,_⟩:=d5 (Es hJ)
    obtain⟨n17,rfl,_⟩:=d5 (Es hK)
    obtain⟨n18,rfl,_⟩:=d5 (Es hM)
    obtain⟨n19,rfl,i19⟩:=d5 (Es hN)
    obtain⟨m20,rfl,i20⟩:=wL (Es hO)
    obtain⟨x21,rfl,i21⟩:=ZK (Es hP)
    obtain⟨ars,rfl,ha⟩:=abV (oeX hR)
    refine⟨⟨s1,(n2,n3,n4,n5,n6),a7,a8,n9,.mk n10 s11 (n12,n13) (n14,n15,n16,n17,n18) (n19,m20) x21 ars⟩::l,by rw[List.map_cons,←M];rfl,λd hd=> ?_⟩
    rcases List.mem_cons.1 hd with rfl|hd
    ·exact⟨XB ⟨⟨i12,i13⟩,Nz (e:= .mk n10 s11 (n12,n13) (n14,n15,n16,n17,n18) (n19,m20) x21 ars) ⟨i19,i20⟩ i21⟩ ha,λa h=>(List.mem_append.1 h).elim (i7 a) (i8 a)⟩
    ·exact hq d hd
  obtain⟨l,M,hq⟩:=key rows λr hr=>hr
  exact⟨l,by rw[M],hq⟩
theorem ab5 {ps:List PC} (h:re aah ps): ∃p:bI,ps= [c8 p.sizes,du cP p.wher,du ip p.params,du da p.defs,c8 p.outs]∧pR p∧LO p:=by
 obtain⟨p1,r1,rfl,h1,q1⟩:=dM h
 obtain⟨p2,r2,rfl,h2,q2⟩:=dM q1
 obtain⟨p3,r3,rfl,h3,q3⟩:=dM q2
 obtain⟨p4,r4,rfl,h4,q4⟩:=dM q3
 obtain⟨p5,r5,rfl,h5,q5⟩:=dM q4
 obtain rfl:=ZW q5
 obtain⟨a,rfl,_⟩:=U8 (Es h1)
 obtain⟨b,rfl,hb⟩:=aaj (Es h2)
 obtain⟨c,rfl,hc⟩:=aaB (Es h3)
 obtain⟨d,rfl,hd⟩:=aav h4
 obtain⟨e,rfl,_⟩:=U8 (Es h5)
 exact⟨⟨a,b,c,d,e⟩,rfl,λx hx a ha=>((hd x hx).1 a ha).1,hb,hc,λx hx=>⟨(hd x hx).2,λa ha=>((hd x hx).1 a ha).2⟩⟩
