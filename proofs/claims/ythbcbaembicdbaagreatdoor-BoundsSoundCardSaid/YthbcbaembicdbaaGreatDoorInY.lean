import Derived.Test.YthbcbaembicdbaaGreatDoorP18w
set_option linter.unusedVariables false
set_option linter.unusedSimpArgs false
namespace Go.Abs
open Go.RowKit Go.WideShapes
inductive Z8 (l:List TS):PC→Prop
 |mk {rows:List (List PC)} (hm:rows.length≤maxLen) (h0: ∀r∈rows,r.length=l.length+1) (h1: ∀r∈rows,∀(i:Nat) s p,l[i]? =some s→r[i]? =some p→FS s p) (h2: ∀r∈rows,∀p,r[l.length]? =some p→Z8 l p):Z8 l (.slice rows)
inductive TE where
 |t (s:TS)
 |ex (l:List TS)
 |sl (l:List TE)
inductive V3:TE→PC→Prop
 |t {s:TS} {p:PC} (h:FS s p):V3 (.t s) p
 |ex {l:List TS} {p:PC} (h:Z8 l p):V3 (.ex l) p
 |sl {l:List TE} {rows:List (List PC)} (hm:rows.length≤maxLen) (hl: ∀r∈rows,r.length=l.length) (h: ∀(r:List PC),r∈rows→ ∀(i:Nat) s p,l[i]? =some s→r[i]? =some p→V3 s p):V3 (.sl l) (.slice rows)
def qE (l:List TE) (ps:List PC):Prop:=ps.length=l.length∧ ∀(i:Nat) s p,l[i]? =some s→ps[i]? =some p→V3 s p
theorem qE.append {l l':List TE} {ps ps':List PC} (h:qE l ps) (h':qE l' ps'):qE (l++l') (ps++ps'):=by
 refine⟨by simp[h.1,h'.1],λi s p hs hp=> ?_⟩
 by_cases hi:i<l.length
 ·rw[List.getElem?_append_left hi]at hs
  rw[List.getElem?_append_left (by rw[h.1];exact hi)]at hp
  exact h.2 i s p hs hp
 ·rw[List.getElem?_append_right (by omega)]at hs
  rw[List.getElem?_append_right (by rw[h.1];omega),h.1]at hp
  exact h'.2 _ s p hs hp
theorem qE.one {s:TE} {p:PC} (h:V3 s p):qE [s] [p]:=by
 refine⟨rfl,λi s' p' hs hp=> ?_⟩
 cases i with
 |zero=>simp at hs hp;subst hs;subst hp;exact h
 |succ i=>simp at hs
theorem qE.of {l:List TS} {ps:List PC} (h:qp l ps):qE (l.map .t) ps:=by
 refine⟨by simpa using h.1,λi s p hs hp=> ?_⟩
 rw[List.getElem?_map]at hs
 obtain⟨s0,h0,rfl⟩:=Option.map_eq_some_iff.1 hs
 exact .t (h.2 i s0 p h0 hp)
def TZ (P:Program) (f:TypeId→Option (List TE)):List Field→Nat→Nat→Option (List TE)
 | [],k,m=>if k=m then some []else none
 |fd::r,k,m=>if fd.offset=k then match f fd.type with
  |some l=>if l.length=P.cellsOf fd.type then match TZ P f r (k+l.length) m with
   |some l'=>some (l++l')
   |none=>none else none
  |none=>none else none
def WM (P:Program) (E:TypeId) (lE:List TS):Nat→TypeId→Option (List TE)
 |0,_=>none
 |n+1,t=>match Nt P 9 t with
  |some l=>some (l.map .t)
  |none=>match P.underlying t with
   |some (.slice e)=>if e=E then some [.ex lE]else match WM P E lE n e with
    |some l=>if l.length=P.cellsOf e then some [.sl l]else none
    |none=>none
   |some (.struct fs)=>TZ P (WM P E lE n) fs.toList 0 (P.cellsOf t)
   |_=>none
section
variable {H : Type} {enc : TypeId × Value → H} {P : Program} {W : World} {base : Nat} {sp : Nat → Bool} {held : Bool}
theorem BH {f:TypeId→Option (List TE)} {n:Nat} {cs:List Value} (ih: ∀t l cs x,f t=some l→DataW.trod enc P W base sp held n t cs=some x→ ∃ps,aJ (bY W Hn) ps cs∧qE l ps):
  ∀{fs:List Field} {k m:Nat} {l:List TE},TZ P f fs k m=some l→cs.length=m→(∀fd∈fs,∃x,DataW.trod enc P W base sp held n fd.type ((cs.drop fd.offset).take (P.cellsOf fd.type))=some x)→
   ∃ps,aJ (bY W Hn) ps (cs.drop k)∧qE l ps
 |[],k,m,l,h,hm,_=>by
  unfold TZ at h
  split at h
  ·cases h
   refine⟨[], ?_,rfl,λi s p hs=>by simp at hs⟩
   rw[List.drop_eq_nil_of_le (by omega)]
   exact .nil
  ·cases h
 |fd::fs,k,m,l,h,hm,hx=>by
  unfold TZ at h
  split at h
  ·rename_i e
   split at h
   ·rename_i l1 h1
    split at h
    ·rename_i hc
     split at h
     ·rename_i l2 h2
      cases h
      obtain⟨x,hx1⟩:=hx fd List.mem_cons_self
      obtain⟨p1,g1,g2⟩:=ih _ _ _ _ h1 hx1
      obtain⟨p2,g3,g4⟩:=BH ih h2 hm λfd h=>hx fd (List.mem_cons_of_mem _ h)
      refine⟨p1++p2, ?_,g2.append g4⟩
      have:cs.drop k=(cs.drop k).take (P.cellsOf fd.type)++cs.drop (k+l1.length):=by
       rw[hc,←List.drop_drop,List.take_append_drop]
      rw[this]
      subst e
      exact g1.append g3
     ·cases h
    ·cases h
   ·cases h
  ·cases h
theorem Io {Q:List PC→Prop} {e t:TypeId} {fuel:Nat} {cs:List Value} {x:DataW H×List MemPlace} (ht:P.underlying t=some (.slice e)) (hr:DataW.trod enc P W base sp held fuel t cs=some x)
  (ih: ∀n cs x,n<fuel→DataW.trod enc P W base sp held n e cs=some x→ ∃ps,aJ (bY W Hn) ps cs∧ps.length=P.cellsOf e∧Q ps):
  ∃rows,aJ (bY W Hn) [.slice rows] cs∧rows.length≤maxLen∧ ∀r∈rows,r.length=P.cellsOf e∧Q r:=by
 rcases DataW.trod_slice ht hr with⟨rfl,_⟩|⟨a,len,cap,elems,rest,n,rfl,rfl,_,_,hle,hmx,hlen,hel,_,_⟩
 ·exact⟨[],.cons (.slice (sz:=0) (λ_ _=>undef) rfl (Nat.le_refl _) (by simp) (λi row h=>by simp at h) (λi row j p h=>by simp at h) (λi row j p h=>by simp at h)) .nil,by simp,λr h=>by cases h⟩
 ·have hall: ∀i,i<len→ ∃x:List PC×List Value,W.cells? base (a.add (i*P.cellsOf e)) (P.cellsOf e)=some x.2∧aJ (bY W Hn) x.1 x.2∧x.1.length=P.cellsOf e∧Q x.1:=by
   intro i hi
   have h1:=hel i hi
   rw[List.getElem?_eq_getElem (by omega)]at h1
   obtain⟨cs',h2,h3⟩:=Option.bind_eq_some_iff.1 h1
   obtain⟨ps,h4,h5⟩:=ih n _ _ (by omega) h3
   exact⟨(ps,cs'),h2,h4,h5⟩
  obtain⟨L,hL,hQ⟩:=Jf hall
  have row: ∀(i:Nat) r,(L.map Prod.fst)[i]? =some r→ ∃c,L[i]? =some (r,c)∧W.cells? base (a.add (i*P.cellsOf e)) (P.cellsOf e)=some c∧aJ (bY W Hn) r c∧r.length=P.cellsOf e∧Q r:=by
   intro i r hr
   rw[List.getElem?_map]at hr
   obtain⟨y,hy,rfl⟩:=Option.map_eq_some_iff.1 hr
   exact⟨y.2,hy,hQ i y hy⟩
  unfold maxLen at hmx
  refine⟨L.map Prod.fst,.cons (.slice (sz:=P.cellsOf e) (λi j=>(((L[i]?).map Prod.snd).getD []).getD j undef) (by simp[hL]) hle (by omega) ?_ ?_ ?_) .nil,by unfold maxLen;simp[hL];omega, ?_⟩
  ·intro i r hr
   obtain⟨c,_,_,_,h5⟩:=row i r hr
   exact h5.1
  ·intro i r j p hr hp
   obtain⟨c,h1,h2,h3,h5⟩:=row i r hr
   obtain⟨v,hv,_⟩:=h3.get hp
   obtain⟨_,h6,h7⟩:=World.cells?_some h2
   have hj:j<P.cellsOf e:=by
    have:=(List.getElem?_eq_some_iff.1 hv).1
    omega
   have h8:=h7 j hj
   rw[hv]at h8
   obtain⟨b,off,spot⟩:=a
   have hspot:spot=none:=by
    have hi0:0<L.length:=by
     have:=(List.getElem?_eq_some_iff.1 h1).1
     omega
    obtain⟨g1,_,_⟩:=hQ 0 L[0] (List.getElem?_eq_getElem hi0)
    obtain⟨_,g2,g3⟩:=World.cells?_some g1
    have g4:=g3 0 (by omega)
    rw[List.getElem?_eq_getElem (by omega)]at g4
    simpa[Addr.add]using World.cell?_spot g4
   subst hspot
   rw[add_plain,add_plain]at h8
   refine⟨b,off,rfl,trivial, ?_⟩
   rw[←Nat.add_assoc,h8]
   simp[h1,hv]
  ·intro i r j p hr hp
   obtain⟨c,h1,h2,h3,h5⟩:=row i r hr
   obtain⟨v,hv,hrep⟩:=h3.get hp
   simpa[h1,hv]using hrep
  ·intro r hr
   obtain⟨i,hi⟩:=List.mem_iff_getElem?.1 hr
   obtain⟨c,_,_,_,h5⟩:=row i r hi
   exact h5
theorem Qt {E:TypeId} {lE:List TS} {SF:Nat} (hE:WM P E lE SF E=some (lE.map .t++ [.ex lE])) (hc:P.cellsOf E=lE.length+1): ∀(fuel:Nat) {sf:Nat} {t:TypeId} {l:List TE} {cs:List Value} {x:DataW H×List MemPlace},WM P E lE sf t=some l→DataW.trod enc P W base sp held fuel t cs=some x→ ∃ps,aJ (bY W Hn) ps cs∧qE l ps:=by
 intro fuel
 induction fuel using Nat.strongRecOn with
 |ind fuel ih=>
  intro sf t l cs x h hr
  cases sf with
  |zero=>cases h
  |succ sf=>
   unfold WM at h
   split at h
   ·rename_i l0 h0
    cases h
    obtain⟨ps,h1,h2⟩:=yU h0 hr
    exact⟨ps,h1,.of h2⟩
   ·split at h
    ·rename_i e ht
     split at h
     ·rename_i he
      subst he
      cases h
      obtain⟨rows,g1,g2,g3⟩:=Io (Q:= λps=>qE (lE.map .t++ [.ex lE]) ps) ht hr λn cs x hn hx=>by
       obtain⟨ps,k1,k2⟩:=ih n hn hE hx
       exact⟨ps,k1,by rw[k2.1,hc];simp,k2⟩
      refine⟨[.slice rows],g1,.one (.ex (.mk g2 (λr hr=>by rw[(g3 r hr).1,hc]) (λr hr i s p hs hp=> ?_) (λr hr p hp=> ?_)))⟩
      ·have:=(g3 r hr).2.2 i (.t s) p (by rw[List.getElem?_append_left (by simpa using(List.getElem?_eq_some_iff.1 hs).1),List.getElem?_map,hs];rfl) hp
       cases this with
       |t h=>exact h
      ·have:=(g3 r hr).2.2 lE.length (.ex lE) p (by rw[List.getElem?_append_right (by simp)];simp) hp
       cases this with
       |ex h=>exact h
     ·split at h
      ·rename_i l' hl'
       split at h
       ·rename_i hcl
        cases h
        obtain⟨rows,g1,g2,g3⟩:=Io (Q:= λps=>qE l' ps) ht hr λn cs x hn hx=>by
         obtain⟨ps,k1,k2⟩:=ih n hn hl' hx
         exact⟨ps,k1,by rw[k2.1,hcl],k2⟩
        exact⟨[.slice rows],g1,.one (.sl g2 (λr hr=>by rw[(g3 r hr).1,hcl]) λr hr=>(g3 r hr).2.2)⟩
       ·cases h
      ·cases h
    ·rename_i fs ht
     obtain⟨xs,n,hn,_,hl,hlen,hf⟩:=DataW.trod_struct ht hr
     have:=BH (n:=n) (λt l cs x h hx=>ih n (by omega) h hx) h hl λfd hfd=>by
      obtain⟨i,hi⟩:=List.mem_iff_getElem?.1 hfd
      have h1:=hf i fd (by simpa using hi)
      have hi':i<xs.length:=by
       have:=(List.getElem?_eq_some_iff.1 hi).1
       simp at this
       omega
      exact⟨xs[i],by rw[h1,List.getElem?_eq_getElem hi']⟩
     simpa using this
    ·cases h
theorem Vl {E:TypeId} {lE:List TS} {SF:Nat} (hE:WM P E lE SF E=some (lE.map .t++ [.ex lE])) (hc:P.cellsOf E=lE.length+1) {r:Reach} {b0:Nat} {t:TypeId} {fs:Array Field} {v:Value} {d:DataW H} {p:List MemPlace} {sf:Nat} {l:List TE} (ht:P.underlying t=some (.struct fs)) (hs:WM P E lE sf t=some l) (hval:Value.okWide P W r b0 t v) (h:DataW.Trod enc P W base sp held t v d p):
  ∃ps,qE l ps∧aN W Hn (λ_=>undef) 0 (.agg (ps.map .pure)) v:=by
 obtain⟨fuel,hf⟩:=h
 obtain⟨ps,h1,h2⟩:=Qt hE hc fuel hs hf
 refine⟨ps,h2, ?_⟩
 obtain⟨cs,rfl,_⟩:=okWide_struct ht hval
 have h1:aJ (bY W Hn) ps cs.toList:=h1
 refine .agg (aJ.of_get (by simpa using h1.length) λi x v hi hv=> ?_)
 simp only[List.getElem?_map,Option.map_eq_some_iff]at hi
 obtain⟨q,hq,rfl⟩:=hi
 obtain⟨u,hu,hr⟩:=h1.get hq
 have:u=v:=by
  rw[hv]at hu
  cases hu
  rfl
 subst this
 exact .pure hr
end
end Go.Abs
namespace Go.Proofs.YthbcbaembicdbaaGreatDoor
open Go.Abs Go.RowKit
abbrev sI:TS:= .int .i64
abbrev Ym:TS:= .slice [.str,sI]
abbrev sLi:TS:= .slice [sI,Ym]
abbrev lIx:List TS:= [sI,Ym,.str,sLi]
abbrev lE:List TS:= [sI,.str,sI,sI,sI,sI,sI,sI,sI,sI,Ym,.slice lIx]
abbrev sAx:TS:= .slice [.str,sI,Ym]
abbrev aae:List TS:= [.str,sI,sI,sI,sI,sI,sLi]
abbrev ZK:List TE:= [.t .str,.t sI,.t sI,.t sI,.t sI,.t sI,.t sAx,.t sAx,.t sI,.t sI,.t .str,.t sI,.t sI,.t sI,.t sI,.t sI,.t sI,.t sI,.t sI,.t Ym,.t (.slice lIx),.ex lE]
abbrev YO:List TE:= [.t (.slice [.str]),.t (.slice [sI,Ym,.bool]),.t (.slice aae),.sl ZK,.t (.slice [.str])]
theorem vL {p:PC} (h:FS Ym p): ∃l:List aD,p=aw l∧ ∀m∈l,ar m.2:=by
 obtain⟨l,h1,h2,_⟩:=vC (λm:aD=>mP m) (λm=>ar m.2) (λr hr=>by
  obtain⟨p1,r1,rfl,h1,q1⟩:=dB hr
  obtain⟨p2,rfl,h2⟩:=xg q1
  obtain⟨s,rfl,_⟩:=zQ h1
  obtain⟨n,rfl,i2⟩:=dK h2
  exact⟨(s,n),rfl,i2⟩) h
 exact⟨l,h1,h2⟩
theorem Vt {p:PC} (h:FS sLi p): ∃l:List bU,p=dg cR l∧ ∀x∈l,br x:=by
 obtain⟨l,h1,h2,_⟩:=vC (λm:bU=>cR m) (λx=>br x) (λr hr=>by
  obtain⟨p1,r1,rfl,h1,q1⟩:=dB hr
  obtain⟨p2,rfl,h2⟩:=xg q1
  obtain⟨n,rfl,i1⟩:=dK h1
  obtain⟨l,rfl,i2⟩:=vL h2
  exact⟨(n,l),rfl,i1,i2⟩) h
 exact⟨l,h1,h2⟩
theorem Yk {p:PC} (h:FS (.slice lIx) p): ∃l:List Ix,p=dg fQ l∧ ∀x∈l,br x.1∧ ∀f∈x.2.2,br f:=by
 obtain⟨l,h1,h2,_⟩:=vC (λm:Ix=>fQ m) (λx=>br x.1∧ ∀f∈x.2.2,br f) (λr hr=>by
  obtain⟨p1,r1,rfl,h1,q1⟩:=dB hr
  obtain⟨p2,r2,rfl,h2,q2⟩:=dB q1
  obtain⟨p3,r3,rfl,h3,q3⟩:=dB q2
  obtain⟨p4,rfl,h4⟩:=xg q3
  obtain⟨n,rfl,i1⟩:=dK h1
  obtain⟨l,rfl,i2⟩:=vL h2
  obtain⟨s,rfl,_⟩:=zQ h3
  obtain⟨f,rfl,i4⟩:=Vt h4
  exact⟨((n,l),s,f),rfl,⟨i1,i2⟩,i4⟩) h
 exact⟨l,h1,h2⟩
theorem X0 {p:PC} (h:FS sAx p): ∃l:List dW,p=dg ic l∧ ∀a∈l,br a.2:=by
 obtain⟨l,h1,h2,_⟩:=vC (λm:dW=>ic m) (λa=>br a.2) (λr hr=>by
  obtain⟨p1,r1,rfl,h1,q1⟩:=dB hr
  obtain⟨p2,r2,rfl,h2,q2⟩:=dB q1
  obtain⟨p3,rfl,h3⟩:=xg q2
  obtain⟨s,rfl,_⟩:=zQ h1
  obtain⟨n,rfl,i2⟩:=dK h2
  obtain⟨l,rfl,i3⟩:=vL h3
  exact⟨(s,n,l),rfl,i2,i3⟩) h
 exact⟨l,h1,h2⟩
theorem YW {p:PC} (h:FS (.slice [sI,Ym,.bool]) p): ∃l:List aR,p=dg cP l∧ ∀c∈l,br c.1:=by
 obtain⟨l,h1,h2,_⟩:=vC (λm:aR=>cP m) (λc=>br c.1) (λr hr=>by
  obtain⟨p1,r1,rfl,h1,q1⟩:=dB hr
  obtain⟨p2,r2,rfl,h2,q2⟩:=dB q1
  obtain⟨p3,rfl,h3⟩:=xg q2
  obtain⟨n,rfl,i1⟩:=dK h1
  obtain⟨l,rfl,i2⟩:=vL h2
  obtain⟨b,rfl⟩:=YP h3
  exact⟨((n,l),b),rfl,i1,i2⟩) h
 exact⟨l,h1,h2⟩
theorem Zy {p:PC} (h:FS (.slice aae) p): ∃l:List su,p=dg ku l∧ ∀x∈l,∀f∈x.2.2,br f:=by
 obtain⟨l,h1,h2,_⟩:=vC (λm:su=>ku m) (λx=> ∀f∈x.2.2,br f) (λr hr=>by
  obtain⟨p1,r1,rfl,h1,q1⟩:=dB hr
  obtain⟨p2,r2,rfl,h2,q2⟩:=dB q1
  obtain⟨p3,r3,rfl,h3,q3⟩:=dB q2
  obtain⟨p4,r4,rfl,h4,q4⟩:=dB q3
  obtain⟨p5,r5,rfl,h5,q5⟩:=dB q4
  obtain⟨p6,r6,rfl,h6,q6⟩:=dB q5
  obtain⟨p7,rfl,h7⟩:=xg q6
  obtain⟨s,rfl,_⟩:=zQ h1
  obtain⟨n2,rfl,_⟩:=dK h2
  obtain⟨n3,rfl,_⟩:=dK h3
  obtain⟨n4,rfl,_⟩:=dK h4
  obtain⟨n5,rfl,_⟩:=dK h5
  obtain⟨n6,rfl,_⟩:=dK h6
  obtain⟨l,rfl,i7⟩:=Vt h7
  exact⟨(s,(n2,n3,n4,n5,n6),l),rfl,i7⟩) h
 exact⟨l,h1,h2⟩
def aad (e:Ex):List PC:= [pI e.op,pS e.name,pI e.val.1,pI e.val.2,pI e.ty.1,pI e.ty.2.1,pI e.ty.2.2.1,pI e.ty.2.2.2.1,pI e.ty.2.2.2.2,pI e.lin.1,aw e.lin.2,dg fQ e.idx]
theorem L5 {e:Ex} (h1:br e.lin) (h2: ∀x∈e.idx,br x.1∧ ∀f∈x.2.2,br f): ∀g∈e.forms,br g:=by
 intro g hg
 rcases List.mem_cons.1 hg with rfl|hg
 ·exact h1
 ·obtain⟨x,hx,hg⟩:=List.mem_flatMap.1 hg
  rcases List.mem_cons.1 hg with rfl|hg
  ·exact(h2 x hx).1
  ·exact(h2 x hx).2 g hg
theorem YY {ps:List PC} (h:qp lE ps): ∃f:List Ex→Ex,(∀l,ps=aad (f l)∧(f l).args=l)∧ ∀l,GC (f l).val∧ ∀g∈(f l).forms,br g:=by
 obtain⟨p1,r1,rfl,h1,q1⟩:=dB h
 obtain⟨p2,r2,rfl,h2,q2⟩:=dB q1
 obtain⟨p3,r3,rfl,h3,q3⟩:=dB q2
 obtain⟨p4,r4,rfl,h4,q4⟩:=dB q3
 obtain⟨p5,r5,rfl,h5,q5⟩:=dB q4
 obtain⟨p6,r6,rfl,h6,q6⟩:=dB q5
 obtain⟨p7,r7,rfl,h7,q7⟩:=dB q6
 obtain⟨p8,r8,rfl,h8,q8⟩:=dB q7
 obtain⟨p9,r9,rfl,h9,q9⟩:=dB q8
 obtain⟨p10,r10,rfl,h10,q10⟩:=dB q9
 obtain⟨p11,r11,rfl,h11,q11⟩:=dB q10
 obtain⟨p12,rfl,h12⟩:=xg q11
 obtain⟨n1,rfl,_⟩:=dK h1
 obtain⟨s,rfl,_⟩:=zQ h2
 obtain⟨n3,rfl,i3⟩:=dK h3
 obtain⟨n4,rfl,i4⟩:=dK h4
 obtain⟨n5,rfl,_⟩:=dK h5
 obtain⟨n6,rfl,_⟩:=dK h6
 obtain⟨n7,rfl,_⟩:=dK h7
 obtain⟨n8,rfl,_⟩:=dK h8
 obtain⟨n9,rfl,_⟩:=dK h9
 obtain⟨n10,rfl,i10⟩:=dK h10
 obtain⟨m,rfl,i11⟩:=vL h11
 obtain⟨x,rfl,i12⟩:=Yk h12
 exact⟨λl=> .mk n1 s (n3,n4) (n5,n6,n7,n8,n9) (n10,m) x l,λl=>⟨rfl,rfl⟩,λl=>⟨⟨i3,i4⟩,L5 (e:= .mk n1 s (n3,n4) (n5,n6,n7,n8,n9) (n10,m) x l) ⟨i10,i11⟩ i12⟩⟩
theorem YK (e:Ex):e.row=aad e++ [.slice (e.args.map Ex.row)]:=by rw[Ex.row_eq];rfl
def YM (e:Ex):Prop:= ∀a∈e.pre,GC a.val∧ ∀l∈a.forms,br l
theorem VT {e:Ex} (h:GC e.val∧ ∀l∈e.forms,br l) (ha: ∀a∈e.args,YM a):YM e:=by
 intro b hb
 rw[Ex.pre_eq]at hb
 rcases List.mem_cons.1 hb with rfl|hb
 ·exact h
 ·have key: ∀l:List Ex,(∀a∈l,YM a)→ ∀b∈Ex.pres l,GC b.val∧ ∀l∈b.forms,br l:=by
   intro l
   induction l with
   |nil=>intro _ b hb;simp[Ex.pres]at hb
   |cons x r ih=>
    intro h b hb
    rw[Ex.pres]at hb
    rcases List.mem_append.1 hb with hb|hb
    ·exact h x List.mem_cons_self b hb
    ·exact ih (λa ha=>h a (List.mem_cons_of_mem _ ha)) b hb
  exact key _ ha b hb
theorem aaJ {p:PC} (h:Z8 lE p): ∃l:List Ex,p= .slice (l.map Ex.row)∧ ∀a∈l,YM a:=by
 induction h with
 | @mk rows hm h0 h1 h2 ih=>
  have key: ∀rs:List (List PC),(∀r∈rs,r∈rows)→ ∃l:List Ex,rs=l.map Ex.row∧ ∀a∈l,YM a:=by
   intro rs
   induction rs with
   |nil=>intro _;exact⟨[],rfl,by simp⟩
   |cons r rs ihr=>
    intro hin
    have hr:=hin r List.mem_cons_self
    obtain⟨l,hl,hq⟩:=ihr λx hx=>hin x (List.mem_cons_of_mem _ hx)
    have hlen:=h0 r hr
    obtain⟨q,hq0⟩: ∃q,r[12]? =some q:=⟨_,List.getElem?_eq_getElem (by rw[hlen];decide)⟩
    obtain⟨args,rfl,ha⟩:=ih r hr q hq0
    obtain⟨f,hf,hv⟩:=YY (ps:=r.take 12) ⟨by rw[List.length_take,hlen];rfl,λi s p hs hp=>h1 r hr i s p hs (by
     rw[List.getElem?_take]at hp
     split at hp
     ·exact hp
     ·cases hp)⟩
    have hrow:r=(f args).row:=by
     rw[YK,←(hf args).1,(hf args).2]
     have:r=r.take 12++r.drop 12:=(List.take_append_drop 12 r).symm
     rw[this]
     congr 1
     ·rw[←this]
     ·have hd:r.drop 12= [r[12]'(by rw[hlen];decide)]:=by
       rw[List.drop_eq_getElem_cons (by rw[hlen];decide),List.drop_eq_nil_of_le (by rw[hlen];decide)]
      rw[hd]
      rw[List.getElem?_eq_getElem (by rw[hlen];decide)]at hq0
      injection hq0 with hq0
      rw[hq0]
    refine⟨f args::l,by rw[List.map_cons,←hl,←hrow],λa ham=> ?_⟩
    rcases List.mem_cons.1 ham with rfl|ham
    ·exact VT (hv _) (by rw[(hf args).2];exact ha)
    ·exact hq a ham
  obtain⟨l,hl,hq⟩:=key rows λr hr=>hr
  exact⟨l,by rw[hl],hq⟩
theorem dz {s:TE} {l:List TE} {ps:List PC} (h:qE (s::l) ps): ∃p r,ps=p::r∧V3 s p∧qE l r:=by
 obtain⟨h1,h2⟩:=h
 match ps with
 |p::r=>exact⟨p,r,rfl,h2 0 s p rfl rfl,by simpa using h1,λi s p hi hp=>h2 (i+1) s p (by simpa using hi) (by simpa using hp)⟩
 | []=>simp at h1
theorem Yd {ps:List PC} (h:qE [] ps):ps= []:=List.eq_nil_of_length_eq_zero h.1
theorem C4 {s:TS} {p:PC} (h:V3 (.t s) p):FS s p:=by cases h;assumption
theorem oeX {l:List TS} {p:PC} (h:V3 (.ex l) p):Z8 l p:=by cases h;assumption
theorem Zn {p:PC} (h:V3 (.sl ZK) p): ∃l:List y5,p=dg eh l∧ ∀d∈l,YM d.body∧ ∀a∈d.dims++d.red,br a.2:=by
 cases h with
 | @sl _ rows hm hl h=>
  have key: ∀rs:List (List PC),(∀r∈rs,r∈rows)→ ∃l:List y5,rs=l.map eh∧ ∀d∈l,YM d.body∧ ∀a∈d.dims++d.red,br a.2:=by
   intro rs
   induction rs with
   |nil=>intro _;exact⟨[],rfl,by simp⟩
   |cons r rs ihr=>
    intro hin
    have hr:=hin r List.mem_cons_self
    obtain⟨l,hl2,hq⟩:=ihr λx hx=>hin x (List.mem_cons_of_mem _ hx)
    have hlen:r.length=22:=hl r hr
    have hE:qE ZK r:=⟨hl r hr,h r hr⟩
    obtain⟨p1,r1,rfl,h1,q1⟩:=dz hE
    obtain⟨p2,r2,rfl,h2,q2⟩:=dz q1
    obtain⟨p3,r3,rfl,h3,q3⟩:=dz q2
    obtain⟨p4,r4,rfl,h4,q4⟩:=dz q3
    obtain⟨p5,r5,rfl,h5,q5⟩:=dz q4
    obtain⟨p6,r6,rfl,h6,q6⟩:=dz q5
    obtain⟨p7,r7,rfl,h7,q7⟩:=dz q6
    obtain⟨p8,r8,rfl,h8,q8⟩:=dz q7
    obtain⟨p9,r9,rfl,h9,q9⟩:=dz q8
    obtain⟨p10,r10,rfl,h10,q10⟩:=dz q9
    obtain⟨p11,r11,rfl,h11,q11⟩:=dz q10
    obtain⟨p12,r12,rfl,h12,q12⟩:=dz q11
    obtain⟨p13,r13,rfl,h13,q13⟩:=dz q12
    obtain⟨p14,r14,rfl,h14,q14⟩:=dz q13
    obtain⟨p15,r15,rfl,h15,q15⟩:=dz q14
    obtain⟨p16,r16,rfl,h16,q16⟩:=dz q15
    obtain⟨p17,r17,rfl,h17,q17⟩:=dz q16
    obtain⟨p18,r18,rfl,h18,q18⟩:=dz q17
    obtain⟨p19,r19,rfl,h19,q19⟩:=dz q18
    obtain⟨p20,r20,rfl,h20,q20⟩:=dz q19
    obtain⟨p21,r21,rfl,h21,q21⟩:=dz q20
    obtain⟨p22,r22,rfl,h22,q22⟩:=dz q21
    obtain rfl:=Yd q22
    obtain⟨s1,rfl,_⟩:=zQ (C4 h1)
    obtain⟨n2,rfl,_⟩:=dK (C4 h2)
    obtain⟨n3,rfl,_⟩:=dK (C4 h3)
    obtain⟨n4,rfl,_⟩:=dK (C4 h4)
    obtain⟨n5,rfl,_⟩:=dK (C4 h5)
    obtain⟨n6,rfl,_⟩:=dK (C4 h6)
    obtain⟨a7,rfl,i7⟩:=X0 (C4 h7)
    obtain⟨a8,rfl,i8⟩:=X0 (C4 h8)
    obtain⟨n9,rfl,_⟩:=dK (C4 h9)
    obtain⟨n10,rfl,_⟩:=dK (C4 h10)
    obtain⟨s11,rfl,_⟩:=zQ (C4 h11)
    obtain⟨n12,rfl,i12⟩:=dK (C4 h12)
    obtain⟨n13,rfl,i13⟩:=dK (C4 h13)
    obtain⟨n14,rfl,_⟩:=dK (C4 h14)
    obtain⟨n15,rfl,_⟩:=dK (C4 h15)
    obtain⟨n16,rfl,_⟩:=dK (C4 h16)
    obtain⟨n17,rfl,_⟩:=dK (C4 h17)
    obtain⟨n18,rfl,_⟩:=dK (C4 h18)
    obtain⟨n19,rfl,i19⟩:=dK (C4 h19)
    obtain⟨m20,rfl,i20⟩:=vL (C4 h20)
    obtain⟨x21,rfl,i21⟩:=Yk (C4 h21)
    obtain⟨ars,rfl,ha⟩:=aaJ (oeX h22)
    refine⟨⟨s1,(n2,n3,n4,n5,n6),a7,a8,n9,.mk n10 s11 (n12,n13) (n14,n15,n16,n17,n18) (n19,m20) x21 ars⟩::l,by rw[List.map_cons,←hl2];rfl,λd hd=> ?_⟩
    rcases List.mem_cons.1 hd with rfl|hd
    ·exact⟨VT ⟨⟨i12,i13⟩,L5 (e:= .mk n10 s11 (n12,n13) (n14,n15,n16,n17,n18) (n19,m20) x21 ars) ⟨i19,i20⟩ i21⟩ ha,λa h=>(List.mem_append.1 h).elim (i7 a) (i8 a)⟩
    ·exact hq d hd
  obtain⟨l,hl2,hq⟩:=key rows λr hr=>hr
  exact⟨l,by rw[hl2],hq⟩
theorem aar {ps:List PC} (h:qE YO ps): ∃p:bz,ps= [gn p.sizes,dg cP p.wher,dg ku p.params,dg eh p.defs,gn p.outs]∧tP p∧Jt p:=by
 obtain⟨p1,r1,rfl,h1,q1⟩:=dz h
 obtain⟨p2,r2,rfl,h2,q2⟩:=dz q1
 obtain⟨p3,r3,rfl,h3,q3⟩:=dz q2
 obtain⟨p4,r4,rfl,h4,q4⟩:=dz q3
 obtain⟨p5,r5,rfl,h5,q5⟩:=dz q4
 obtain rfl:=Yd q5
 obtain⟨a,rfl,_⟩:=VI (C4 h1)
 obtain⟨b,rfl,hb⟩:=YW (C4 h2)
 obtain⟨c,rfl,hc⟩:=Zy (C4 h3)
 obtain⟨d,rfl,hd⟩:=Zn h4
 obtain⟨e,rfl,_⟩:=VI (C4 h5)
 exact⟨⟨a,b,c,d,e⟩,rfl,λx hx a ha=>((hd x hx).1 a ha).1,hb,hc,λx hx=>⟨(hd x hx).2,λa ha=>((hd x hx).1 a ha).2⟩⟩
end Go.Proofs.YthbcbaembicdbaaGreatDoor
