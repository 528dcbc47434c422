import Derived.Test.YtjhkikmonejkjaaGreatDoorV14d
import Derived.Test.YtjhkikmonejkjaaGreatDoorV06h
set_option linter.unusedVariables false
set_option linter.unusedSimpArgs false
namespace Go.Abs
open Go.RowKit Go.WideShapes
inductive UO (l:List TS):PC→Prop
 |mk {rows:List (List PC)} (hm:rows.length≤maxLen) (h0: ∀r∈rows,r.length=l.length+1) (h1: ∀r∈rows,∀(i:Nat) s p,l[i]? =some s→r[i]? =some p→BO s p) (h2: ∀r∈rows,∀p,r[l.length]? =some p→UO l p):UO l (.slice rows)
inductive TE where
 |t (s:TS)
 |ex (l:List TS)
 |sl (l:List TE)
inductive QN:TE→PC→Prop
 |t {s:TS} {p:PC} (h:BO s p):QN (.t s) p
 |ex {l:List TS} {p:PC} (h:UO l p):QN (.ex l) p
 |sl {l:List TE} {rows:List (List PC)} (hm:rows.length≤maxLen) (hl: ∀r∈rows,r.length=l.length) (h: ∀(r:List PC),r∈rows→ ∀(i:Nat) s p,l[i]? =some s→r[i]? =some p→QN s p):QN (.sl l) (.slice rows)
def nW (l:List TE) (ps:List PC):Prop:=ps.length=l.length∧ ∀(i:Nat) s p,l[i]? =some s→ps[i]? =some p→QN s p
theorem nW.append {l l':List TE} {ps ps':List PC} (h:nW l ps) (h':nW l' ps'):nW (l++l') (ps++ps'):=by
 refine⟨by simp[h.1,h'.1],λi s p hs hp=> ?_⟩
 by_cases hi:i<l.length
 ·rw[List.getElem?_append_left hi]at hs
  rw[List.getElem?_append_left (by rw[h.1];exact hi)]at hp
  exact h.2 i s p hs hp
 ·rw[List.getElem?_append_right (by omega)]at hs
  rw[List.getElem?_append_right (by rw[h.1];omega),h.1]at hp
  exact h'.2 _ s p hs hp
theorem nW.one {s:TE} {p:PC} (h:QN s p):nW [s] [p]:=by
 refine⟨rfl,λi s' p' hs hp=> ?_⟩
 cases i with
 |zero=>simp at hs hp;subst hs;subst hp;exact h
 |succ i=>simp at hs
theorem nW.of {l:List TS} {ps:List PC} (h:nr l ps):nW (l.map .t) ps:=by
 refine⟨by simpa using h.1,λi s p hs hp=> ?_⟩
 rw[List.getElem?_map]at hs
 obtain⟨s0,h0,rfl⟩:=Option.map_eq_some_iff.1 hs
 exact .t (h.2 i s0 p h0 hp)
def QA (P:Program) (f:TypeId→Option (List TE)):List Field→Nat→Nat→Option (List TE)
 | [],k,m=>if k=m then some []else none
 |fd::r,k,m=>if fd.offset=k then match f fd.type with
  |some l=>if l.length=P.cellsOf fd.type then match QA P f r (k+l.length) m with
   |some l'=>some (l++l')
   |none=>none else none
  |none=>none else none
def RL (P:Program) (E:TypeId) (lE:List TS):Nat→TypeId→Option (List TE)
 |0,_=>none
 |n+1,t=>match K9 P 9 t with
  |some l=>some (l.map .t)
  |none=>match P.underlying t with
   |some (.slice e)=>if e=E then some [.ex lE]else match RL P E lE n e with
    |some l=>if l.length=P.cellsOf e then some [.sl l]else none
    |none=>none
   |some (.struct fs)=>QA P (RL P E lE n) fs.toList 0 (P.cellsOf t)
   |_=>none
section
variable {H : Type} {enc : TypeId × Value → H} {P : Program} {W : World} {base : Nat} {sp : Nat → Bool} {w : Bool}
theorem AT {f:TypeId→Option (List TE)} {n:Nat} {cs:List Value} (ih: ∀t l cs x,f t=some l→DataW.trod enc P W base sp w n t cs=some x→ ∃ps,aJ (bH W GF) ps cs∧nW l ps):
  ∀{fs:List Field} {k m:Nat} {l:List TE},QA P f fs k m=some l→cs.length=m→(∀fd∈fs,∃x,DataW.trod enc P W base sp w n fd.type ((cs.drop fd.offset).take (P.cellsOf fd.type))=some x)→
   ∃ps,aJ (bH W GF) ps (cs.drop k)∧nW l ps
 |[],k,m,l,h,hm,_=>by
  unfold QA at h
  split at h
  ·cases h
   refine⟨[], ?_,rfl,λi s p hs=>by simp at hs⟩
   rw[List.drop_eq_nil_of_le (by omega)]
   exact .nil
  ·cases h
 |fd::fs,k,m,l,h,hm,hx=>by
  unfold QA at h
  split at h
  ·rename_i e
   split at h
   ·rename_i l1 h1
    split at h
    ·rename_i hc
     split at h
     ·rename_i l2 h2
      cases h
      obtain⟨x,X⟩:=hx fd List.mem_cons_self
      obtain⟨p1,g1,g2⟩:=ih _ _ _ _ h1 X
      obtain⟨p2,g3,g4⟩:=AT ih h2 hm λfd h=>hx fd (List.mem_cons_of_mem _ h)
      refine⟨p1++p2, ?_,g2.append g4⟩
      have:cs.drop k=(cs.drop k).take (P.cellsOf fd.type)++cs.drop (k+l1.length):=by
       rw[hc,←List.drop_drop,List.take_append_drop]
      rw[this]
      subst e
      exact g1.append g3
     ·cases h
    ·cases h
   ·cases h
  ·cases h
theorem FU {Q:List PC→Prop} {e t:TypeId} {fuel:Nat} {cs:List Value} {x:DataW H×List MemPlace} (ht:P.underlying t=some (.slice e)) (hr:DataW.trod enc P W base sp w fuel t cs=some x)
  (ih: ∀n cs x,n<fuel→DataW.trod enc P W base sp w n e cs=some x→ ∃ps,aJ (bH W GF) ps cs∧ps.length=P.cellsOf e∧Q ps):
  ∃rows,aJ (bH W GF) [.slice rows] cs∧rows.length≤maxLen∧ ∀r∈rows,r.length=P.cellsOf e∧Q r:=by
 rcases DataW.trod_slice ht hr with⟨rfl,_⟩|⟨a,len,cap,elems,rest,n,rfl,rfl,_,_,Y,Z,o,hA,_,_⟩
 ·exact⟨[],.cons (.slice (sz:=0) (λ_ _=>undef) rfl (Nat.le_refl _) (by simp) (λi row h=>by simp at h) (λi row j p h=>by simp at h) (λi row j p h=>by simp at h)) .nil,by simp,λr h=>by cases h⟩
 ·have N: ∀i,i<len→ ∃x:List PC×List Value,W.cells? base (a.add (i*P.cellsOf e)) (P.cellsOf e)=some x.2∧aJ (bH W GF) x.1 x.2∧x.1.length=P.cellsOf e∧Q x.1:=by
   intro i hi
   have h1:=hA i hi
   rw[List.getElem?_eq_getElem (by omega)]at h1
   obtain⟨cs',h2,h3⟩:=Option.bind_eq_some_iff.1 h1
   obtain⟨ps,h4,h5⟩:=ih n _ _ (by omega) h3
   exact⟨(ps,cs'),h2,h4,h5⟩
  obtain⟨L,hL,hQ⟩:=Ho N
  have row: ∀(i:Nat) r,(L.map Prod.fst)[i]? =some r→ ∃c,L[i]? =some (r,c)∧W.cells? base (a.add (i*P.cellsOf e)) (P.cellsOf e)=some c∧aJ (bH W GF) r c∧r.length=P.cellsOf e∧Q r:=by
   intro i r hr
   rw[List.getElem?_map]at hr
   obtain⟨y,hy,rfl⟩:=Option.map_eq_some_iff.1 hr
   exact⟨y.2,hy,hQ i y hy⟩
  unfold maxLen at Z
  refine⟨L.map Prod.fst,.cons (.slice (sz:=P.cellsOf e) (λi j=>(((L[i]?).map Prod.snd).getD []).getD j undef) (by simp[hL]) Y (by omega) ?_ ?_ ?_) .nil,by unfold maxLen;simp[hL];omega, ?_⟩
  ·intro i r hr
   obtain⟨c,_,_,_,h5⟩:=row i r hr
   exact h5.1
  ·intro i r j p hr hp
   obtain⟨c,h1,h2,h3,h5⟩:=row i r hr
   obtain⟨v,hv,_⟩:=h3.get hp
   obtain⟨_,h6,h7⟩:=World.cells?_some h2
   have hj:j<P.cellsOf e:=by
    have:=(List.getElem?_eq_some_iff.1 hv).1
    omega
   have h8:=h7 j hj
   rw[hv]at h8
   obtain⟨b,off,spot⟩:=a
   have C:spot=none:=by
    have hB:0<L.length:=by
     have:=(List.getElem?_eq_some_iff.1 h1).1
     omega
    obtain⟨g1,_,_⟩:=hQ 0 L[0] (List.getElem?_eq_getElem hB)
    obtain⟨_,g2,g3⟩:=World.cells?_some g1
    have g4:=g3 0 (by omega)
    rw[List.getElem?_eq_getElem (by omega)]at g4
    simpa[Addr.add]using World.cell?_spot g4
   subst C
   rw[add_plain,add_plain]at h8
   refine⟨b,off,rfl,trivial, ?_⟩
   rw[←Nat.add_assoc,h8]
   simp[h1,hv]
  ·intro i r j p hr hp
   obtain⟨c,h1,h2,h3,h5⟩:=row i r hr
   obtain⟨v,hv,O⟩:=h3.get hp
   simpa[h1,hv]using O
  ·intro r hr
   obtain⟨i,hi⟩:=List.mem_iff_getElem?.1 hr
   obtain⟨c,_,_,_,h5⟩:=row i r hi
   exact h5
theorem MP {E:TypeId} {lE:List TS} {SF:Nat} (hE:RL P E lE SF E=some (lE.map .t++ [.ex lE])) (hc:P.cellsOf E=lE.length+1): ∀(fuel:Nat) {sf:Nat} {t:TypeId} {l:List TE} {cs:List Value} {x:DataW H×List MemPlace},RL P E lE sf t=some l→DataW.trod enc P W base sp w fuel t cs=some x→ ∃ps,aJ (bH W GF) ps cs∧nW l ps:=by
 intro fuel
 induction fuel using Nat.strongRecOn with
 |ind fuel ih=>
  intro sf t l cs x h hr
  cases sf with
  |zero=>cases h
  |succ sf=>
   unfold RL at h
   split at h
   ·rename_i l0 h0
    cases h
    obtain⟨ps,h1,h2⟩:=yg h0 hr
    exact⟨ps,h1,.of h2⟩
   ·split at h
    ·rename_i e ht
     split at h
     ·rename_i he
      subst he
      cases h
      obtain⟨rows,g1,g2,g3⟩:=FU (Q:= λps=>nW (lE.map .t++ [.ex lE]) ps) ht hr λn cs x hn hx=>by
       obtain⟨ps,k1,k2⟩:=ih n hn hE hx
       exact⟨ps,k1,by rw[k2.1,hc];simp,k2⟩
      refine⟨[.slice rows],g1,.one (.ex (.mk g2 (λr hr=>by rw[(g3 r hr).1,hc]) (λr hr i s p hs hp=> ?_) (λr hr p hp=> ?_)))⟩
      ·have:=(g3 r hr).2.2 i (.t s) p (by rw[List.getElem?_append_left (by simpa using(List.getElem?_eq_some_iff.1 hs).1),List.getElem?_map,hs];rfl) hp
       cases this with
       |t h=>exact h
      ·have:=(g3 r hr).2.2 lE.length (.ex lE) p (by rw[List.getElem?_append_right (by simp)];simp) hp
       cases this with
       |ex h=>exact h
     ·split at h
      ·rename_i l' hC
       split at h
       ·rename_i R
        cases h
        obtain⟨rows,g1,g2,g3⟩:=FU (Q:= λps=>nW l' ps) ht hr λn cs x hn hx=>by
         obtain⟨ps,k1,k2⟩:=ih n hn hC hx
         exact⟨ps,k1,by rw[k2.1,R],k2⟩
        exact⟨[.slice rows],g1,.one (.sl g2 (λr hr=>by rw[(g3 r hr).1,R]) λr hr=>(g3 r hr).2.2)⟩
       ·cases h
      ·cases h
    ·rename_i fs ht
     obtain⟨xs,n,hn,_,hl,o,hf⟩:=DataW.trod_struct ht hr
     have:=AT (n:=n) (λt l cs x h hx=>ih n (by omega) h hx) h hl λfd hD=>by
      obtain⟨i,hi⟩:=List.mem_iff_getElem?.1 hD
      have h1:=hf i fd (by simpa using hi)
      have hF:i<xs.length:=by
       have:=(List.getElem?_eq_some_iff.1 hi).1
       simp at this
       omega
      exact⟨xs[i],by rw[h1,List.getElem?_eq_getElem hF]⟩
     simpa using this
    ·cases h
theorem Qz {E:TypeId} {lE:List TS} {SF:Nat} (hE:RL P E lE SF E=some (lE.map .t++ [.ex lE])) (hc:P.cellsOf E=lE.length+1) {r:Reach} {b0:Nat} {t:TypeId} {fs:Array Field} {v:Value} {d:DataW H} {p:List MemPlace} {sf:Nat} {l:List TE} (ht:P.underlying t=some (.struct fs)) (hs:RL P E lE sf t=some l) (T:Value.okWide P W r b0 t v) (h:DataW.Trod enc P W base sp w t v d p):
  ∃ps,nW l ps∧aK W GF (λ_=>undef) 0 (.agg (ps.map .pure)) v:=by
 obtain⟨fuel,hf⟩:=h
 obtain⟨ps,h1,h2⟩:=MP hE hc fuel hs hf
 refine⟨ps,h2, ?_⟩
 obtain⟨cs,rfl,_⟩:=okWide_struct ht T
 have h1:aJ (bH W GF) ps cs.toList:=h1
 refine .agg (aJ.of_get (by simpa using h1.length) λi x v hi hv=> ?_)
 simp only[List.getElem?_map,Option.map_eq_some_iff]at hi
 obtain⟨q,hq,rfl⟩:=hi
 obtain⟨u,hu,hr⟩:=h1.get hq
 have:u=v:=by
  rw[hv]at hu
  cases hu
  rfl
 subst this
 exact .pure hr
end
end Go.Abs
namespace Go.Proofs.YtjhkikmonejkjaaGreatDoor
open Go.Abs Go.RowKit
abbrev sI:TS:= .int .i64
abbrev Sz:TS:= .slice [.str,sI]
abbrev VS:TS:= .slice [sI,Sz]
abbrev Wa:List TS:= [sI,Sz,.str,VS]
abbrev lE:List TS:= [sI,.str,sI,sI,sI,sI,sI,sI,sI,sI,Sz,.slice Wa]
abbrev Wi:TS:= .slice [.str,sI,Sz]
abbrev UC:List TS:= [.str,sI,sI,sI,sI,sI,VS]
abbrev Tv:List TE:= [.t .str,.t sI,.t sI,.t sI,.t sI,.t sI,.t Wi,.t Wi,.t sI,.t sI,.t .str,.t sI,.t sI,.t sI,.t sI,.t sI,.t sI,.t sI,.t sI,.t Sz,.t (.slice Wa),.ex lE]
abbrev S3:List TE:= [.t (.slice [.str]),.t (.slice [sI,Sz,.bool]),.t (.slice UC),.sl Tv,.t (.slice [.str])]
theorem tG {p:PC} (h:BO Sz p): ∃l:List aH,p=bp l∧ ∀m∈l,aX m.2:=by
 obtain⟨l,h1,h2,_⟩:=nz (λm:aH=>mP m) (λm=>aX m.2) (λr hr=>by
  obtain⟨p1,r1,rfl,h1,q1⟩:=cN hr
  obtain⟨p2,rfl,h2⟩:=ot q1
  obtain⟨s,rfl,_⟩:=yo h1
  obtain⟨n,rfl,i2⟩:=de h2
  exact⟨(s,n),rfl,i2⟩) h
 exact⟨l,h1,h2⟩
theorem PZ {p:PC} (h:BO VS p): ∃l:List fc,p=cZ bP l∧ ∀x∈l,c6 x:=by
 obtain⟨l,h1,h2,_⟩:=nz (λm:fc=>bP m) (λx=>c6 x) (λr hr=>by
  obtain⟨p1,r1,rfl,h1,q1⟩:=cN hr
  obtain⟨p2,rfl,h2⟩:=ot q1
  obtain⟨n,rfl,i1⟩:=de h1
  obtain⟨l,rfl,i2⟩:=tG h2
  exact⟨(n,l),rfl,i1,i2⟩) h
 exact⟨l,h1,h2⟩
theorem Sh {p:PC} (h:BO (.slice Wa) p): ∃l:List Ix,p=cZ dN l∧ ∀x∈l,c6 x.1∧ ∀f∈x.2.2,c6 f:=by
 obtain⟨l,h1,h2,_⟩:=nz (λm:Ix=>dN m) (λx=>c6 x.1∧ ∀f∈x.2.2,c6 f) (λr hr=>by
  obtain⟨p1,r1,rfl,h1,q1⟩:=cN hr
  obtain⟨p2,r2,rfl,h2,q2⟩:=cN q1
  obtain⟨p3,r3,rfl,h3,q3⟩:=cN q2
  obtain⟨p4,rfl,h4⟩:=ot q3
  obtain⟨n,rfl,i1⟩:=de h1
  obtain⟨l,rfl,i2⟩:=tG h2
  obtain⟨s,rfl,_⟩:=yo h3
  obtain⟨f,rfl,i4⟩:=PZ h4
  exact⟨((n,l),s,f),rfl,⟨i1,i2⟩,i4⟩) h
 exact⟨l,h1,h2⟩
theorem SR {p:PC} (h:BO Wi p): ∃l:List eU,p=cZ ee l∧ ∀a∈l,c6 a.2:=by
 obtain⟨l,h1,h2,_⟩:=nz (λm:eU=>ee m) (λa=>c6 a.2) (λr hr=>by
  obtain⟨p1,r1,rfl,h1,q1⟩:=cN hr
  obtain⟨p2,r2,rfl,h2,q2⟩:=cN q1
  obtain⟨p3,rfl,h3⟩:=ot q2
  obtain⟨s,rfl,_⟩:=yo h1
  obtain⟨n,rfl,i2⟩:=de h2
  obtain⟨l,rfl,i3⟩:=tG h3
  exact⟨(s,n,l),rfl,i2,i3⟩) h
 exact⟨l,h1,h2⟩
theorem TQ {p:PC} (h:BO (.slice [sI,Sz,.bool]) p): ∃l:List Ey,p=cZ cP l∧ ∀c∈l,c6 c.1:=by
 obtain⟨l,h1,h2,_⟩:=nz (λm:Ey=>cP m) (λc=>c6 c.1) (λr hr=>by
  obtain⟨p1,r1,rfl,h1,q1⟩:=cN hr
  obtain⟨p2,r2,rfl,h2,q2⟩:=cN q1
  obtain⟨p3,rfl,h3⟩:=ot q2
  obtain⟨n,rfl,i1⟩:=de h1
  obtain⟨l,rfl,i2⟩:=tG h2
  obtain⟨b,rfl⟩:=TO h3
  exact⟨((n,l),b),rfl,i1,i2⟩) h
 exact⟨l,h1,h2⟩
theorem TC {p:PC} (h:BO (.slice UC) p): ∃l:List kO,p=cZ d7 l∧ ∀x∈l,∀f∈x.2.2,c6 f:=by
 obtain⟨l,h1,h2,_⟩:=nz (λm:kO=>d7 m) (λx=> ∀f∈x.2.2,c6 f) (λr hr=>by
  obtain⟨p1,r1,rfl,h1,q1⟩:=cN hr
  obtain⟨p2,r2,rfl,h2,q2⟩:=cN q1
  obtain⟨p3,r3,rfl,h3,q3⟩:=cN q2
  obtain⟨p4,r4,rfl,h4,q4⟩:=cN q3
  obtain⟨p5,r5,rfl,h5,q5⟩:=cN q4
  obtain⟨p6,r6,rfl,h6,q6⟩:=cN q5
  obtain⟨p7,rfl,h7⟩:=ot q6
  obtain⟨s,rfl,_⟩:=yo h1
  obtain⟨n2,rfl,_⟩:=de h2
  obtain⟨n3,rfl,_⟩:=de h3
  obtain⟨n4,rfl,_⟩:=de h4
  obtain⟨n5,rfl,_⟩:=de h5
  obtain⟨n6,rfl,_⟩:=de h6
  obtain⟨l,rfl,i7⟩:=PZ h7
  exact⟨(s,(n2,n3,n4,n5,n6),l),rfl,i7⟩) h
 exact⟨l,h1,h2⟩
def Uy (e:Ex):List PC:= [pI e.op,pS e.name,pI e.val.1,pI e.val.2,pI e.ty.1,pI e.ty.2.1,pI e.ty.2.2.1,pI e.ty.2.2.2.1,pI e.ty.2.2.2.2,pI e.lin.1,bp e.lin.2,cZ dN e.idx]
theorem Jt {e:Ex} (h1:c6 e.lin) (h2: ∀x∈e.idx,c6 x.1∧ ∀f∈x.2.2,c6 f): ∀g∈e.forms,c6 g:=by
 intro g hg
 rcases List.mem_cons.1 hg with rfl|hg
 ·exact h1
 ·obtain⟨x,hx,hg⟩:=List.mem_flatMap.1 hg
  rcases List.mem_cons.1 hg with rfl|hg
  ·exact(h2 x hx).1
  ·exact(h2 x hx).2 g hg
theorem Tw {ps:List PC} (h:nr lE ps): ∃f:List Ex→Ex,(∀l,ps=Uy (f l)∧(f l).args=l)∧ ∀l,o9 (f l).val∧ ∀g∈(f l).forms,c6 g:=by
 obtain⟨p1,r1,rfl,h1,q1⟩:=cN h
 obtain⟨p2,r2,rfl,h2,q2⟩:=cN q1
 obtain⟨p3,r3,rfl,h3,q3⟩:=cN q2
 obtain⟨p4,r4,rfl,h4,q4⟩:=cN q3
 obtain⟨p5,r5,rfl,h5,q5⟩:=cN q4
 obtain⟨p6,r6,rfl,h6,q6⟩:=cN q5
 obtain⟨p7,r7,rfl,h7,q7⟩:=cN q6
 obtain⟨p8,r8,rfl,h8,q8⟩:=cN q7
 obtain⟨p9,r9,rfl,h9,q9⟩:=cN q8
 obtain⟨p10,r10,rfl,D,q10⟩:=cN q9
 obtain⟨p11,r11,rfl,F,q11⟩:=cN q10
 obtain⟨p12,rfl,G⟩:=ot q11
 obtain⟨n1,rfl,_⟩:=de h1
 obtain⟨s,rfl,_⟩:=yo h2
 obtain⟨n3,rfl,i3⟩:=de h3
 obtain⟨n4,rfl,i4⟩:=de h4
 obtain⟨n5,rfl,_⟩:=de h5
 obtain⟨n6,rfl,_⟩:=de h6
 obtain⟨n7,rfl,_⟩:=de h7
 obtain⟨n8,rfl,_⟩:=de h8
 obtain⟨n9,rfl,_⟩:=de h9
 obtain⟨n10,rfl,i10⟩:=de D
 obtain⟨m,rfl,i11⟩:=tG F
 obtain⟨x,rfl,i12⟩:=Sh G
 exact⟨λl=> .mk n1 s (n3,n4) (n5,n6,n7,n8,n9) (n10,m) x l,λl=>⟨rfl,rfl⟩,λl=>⟨⟨i3,i4⟩,Jt (e:= .mk n1 s (n3,n4) (n5,n6,n7,n8,n9) (n10,m) x l) ⟨i10,i11⟩ i12⟩⟩
theorem S9 (e:Ex):e.row=Uy e++ [.slice (e.args.map Ex.row)]:=by rw[Ex.row_eq];rfl
def Ua (e:Ex):Prop:= ∀a∈e.pre,o9 a.val∧ ∀l∈a.forms,c6 l
theorem Qk {e:Ex} (h:o9 e.val∧ ∀l∈e.forms,c6 l) (ha: ∀a∈e.args,Ua a):Ua e:=by
 intro b hb
 rw[Ex.pre_eq]at hb
 rcases List.mem_cons.1 hb with rfl|hb
 ·exact h
 ·have key: ∀l:List Ex,(∀a∈l,Ua a)→ ∀b∈Ex.pres l,o9 b.val∧ ∀l∈b.forms,c6 l:=by
   intro l
   induction l with
   |nil=>intro _ b hb;simp[Ex.pres]at hb
   |cons x r ih=>
    intro h b hb
    rw[Ex.pres]at hb
    rcases List.mem_append.1 hb with hb|hb
    ·exact h x List.mem_cons_self b hb
    ·exact ih (λa ha=>h a (List.mem_cons_of_mem _ ha)) b hb
  exact key _ ha b hb
theorem Vj {p:PC} (h:UO lE p): ∃l:List Ex,p= .slice (l.map Ex.row)∧ ∀a∈l,Ua a:=by
 induction h with
 | @mk rows hm h0 h1 h2 ih=>
  have key: ∀rs:List (List PC),(∀r∈rs,r∈rows)→ ∃l:List Ex,rs=l.map Ex.row∧ ∀a∈l,Ua a:=by
   intro rs
   induction rs with
   |nil=>intro _;exact⟨[],rfl,by simp⟩
   |cons r rs J=>
    intro z
    have hr:=z r List.mem_cons_self
    obtain⟨l,hl,hq⟩:=J λx hx=>z x (List.mem_cons_of_mem _ hx)
    have o:=h0 r hr
    obtain⟨q,A⟩: ∃q,r[12]? =some q:=⟨_,List.getElem?_eq_getElem (by rw[o];decide)⟩
    obtain⟨args,rfl,ha⟩:=ih r hr q A
    obtain⟨f,hf,hv⟩:=Tw (ps:=r.take 12) ⟨by rw[List.length_take,o];rfl,λi s p hs hp=>h1 r hr i s p hs (by
     rw[List.getElem?_take]at hp
     split at hp
     ·exact hp
     ·cases hp)⟩
    have V:r=(f args).row:=by
     rw[S9,←(hf args).1,(hf args).2]
     have:r=r.take 12++r.drop 12:=(List.take_append_drop 12 r).symm
     rw[this]
     congr 1
     ·rw[←this]
     ·have hd:r.drop 12= [r[12]'(by rw[o];decide)]:=by
       rw[List.drop_eq_getElem_cons (by rw[o];decide),List.drop_eq_nil_of_le (by rw[o];decide)]
      rw[hd]
      rw[List.getElem?_eq_getElem (by rw[o];decide)]at A
      injection A with A
      rw[A]
    refine⟨f args::l,by rw[List.map_cons,←hl,←V],λa K=> ?_⟩
    rcases List.mem_cons.1 K with rfl|K
    ·exact Qk (hv _) (by rw[(hf args).2];exact ha)
    ·exact hq a K
  obtain⟨l,hl,hq⟩:=key rows λr hr=>hr
  exact⟨l,by rw[hl],hq⟩
theorem dc {s:TE} {l:List TE} {ps:List PC} (h:nW (s::l) ps): ∃p r,ps=p::r∧QN s p∧nW l r:=by
 obtain⟨h1,h2⟩:=h
 match ps with
 |p::r=>exact⟨p,r,rfl,h2 0 s p rfl rfl,by simpa using h1,λi s p hi hp=>h2 (i+1) s p (by simpa using hi) (by simpa using hp)⟩
 | []=>simp at h1
theorem SP {ps:List PC} (h:nW [] ps):ps= []:=List.eq_nil_of_length_eq_zero h.1
theorem Bx {s:TS} {p:PC} (h:QN (.t s) p):BO s p:=by cases h;assumption
theorem WE {l:List TS} {p:PC} (h:QN (.ex l) p):UO l p:=by cases h;assumption
theorem Tz {p:PC} (h:QN (.sl Tv) p): ∃l:List jA,p=cZ br l∧ ∀d∈l,Ua d.body∧ ∀a∈d.dims++d.red,c6 a.2:=by
 cases h with
 | @sl _ rows hm hl h=>
  have key: ∀rs:List (List PC),(∀r∈rs,r∈rows)→ ∃l:List jA,rs=l.map br∧ ∀d∈l,Ua d.body∧ ∀a∈d.dims++d.red,c6 a.2:=by
   intro rs
   induction rs with
   |nil=>intro _;exact⟨[],rfl,by simp⟩
   |cons r rs J=>
    intro z
    have hr:=z r List.mem_cons_self
    obtain⟨l,M,hq⟩:=J λx hx=>z x (List.mem_cons_of_mem _ hx)
    have o:r.length=22:=hl r hr
    have hE:nW Tv r:=⟨hl r hr,h r hr⟩
    obtain⟨p1,r1,rfl,h1,q1⟩:=dc hE
    obtain⟨p2,r2,rfl,h2,q2⟩:=dc q1
    obtain⟨p3,r3,rfl,h3,q3⟩:=dc q2
    obtain⟨p4,r4,rfl,h4,q4⟩:=dc q3
    obtain⟨p5,r5,rfl,h5,q5⟩:=dc q4
    obtain⟨p6,r6,rfl,h6,q6⟩:=dc q5
    obtain⟨p7,r7,rfl,h7,q7⟩:=dc q6
    obtain⟨p8,r8,rfl,h8,q8⟩:=dc q7
    obtain⟨p9,r9,rfl,h9,q9⟩:=dc q8
    obtain⟨p10,r10,rfl,D,q10⟩:=dc q9
    obtain⟨p11,r11,rfl,F,q11⟩:=dc q10
    obtain⟨p12,r12,rfl,G,q12⟩:=dc q11
    obtain⟨p13,r13,rfl,hG,q13⟩:=dc q12
    obtain⟨p14,r14,rfl,hH,q14⟩:=dc q13
    obtain⟨p15,r15,rfl,hI,q15⟩:=dc q14
    obtain⟨p16,r16,rfl,hJ,q16⟩:=dc q15
    obtain⟨p17,r17,rfl,hK,q17⟩:=dc q16
    obtain⟨p18,r18,rfl,hM,q18⟩:=dc q17
    obtain⟨p19,r19,rfl,hN,q19⟩:=dc q18
    obtain⟨p20,r20,rfl,hR,q20⟩:=dc q19
    obtain⟨p21,r21,rfl,hS,q21⟩:=dc q20
    obtain⟨p22,r22,rfl,hT,q22⟩:=dc q21
    obtain rfl:=SP q22
    obtain⟨s1,rfl,_⟩:=yo (Bx h1)
    obtain⟨n2,rfl,_⟩:=de (Bx h2)
    obtain⟨n3,rfl,_⟩:=de (Bx h3)
    obtain⟨n4,rfl,_⟩:=de (Bx h4)
    obtain⟨n5,rfl,_⟩:=de (Bx h5)
    obtain⟨n6,rfl,_⟩:=de (Bx h6)
    obtain⟨a7,rfl,i7⟩:=SR (Bx h7)
    obtain⟨a8,rfl,i8⟩:=SR (Bx h8)
    obtain⟨n9,rfl,_⟩:=de (Bx h9)
    obtain⟨n10,rfl,_⟩:=de (Bx D)
    obtain⟨s11,rfl,_⟩:=yo (Bx F)
    obtain⟨n12,rfl,i12⟩:=de (Bx G)
    obtain⟨n13,rfl,i13⟩:=de (Bx hG)
    obtain⟨SK,rfl,_⟩:=de (Bx hH)
    obtain⟨n15,rfl,_⟩:=de (Bx hI)
    obtain⟨n16,rfl,_⟩:=de (Bx hJ)
    obtain⟨n17,rfl,_⟩:=de (Bx hK)
    obtain⟨n18,rfl,_⟩:=de (Bx hM)
    obtain⟨n19,rfl,i19⟩:=de (Bx hN)
    obtain⟨m20,rfl,i20⟩:=tG (Bx hR)
    obtain⟨x21,rfl,i21⟩:=Sh (Bx hS)
    obtain⟨ars,rfl,ha⟩:=Vj (WE hT)
    refine⟨⟨s1,(n2,n3,n4,n5,n6),a7,a8,n9,.mk n10 s11 (n12,n13) (SK,n15,n16,n17,n18) (n19,m20) x21 ars⟩::l,by rw[List.map_cons,←M];rfl,λd hd=> ?_⟩
    rcases List.mem_cons.1 hd with rfl|hd
    ·exact⟨Qk ⟨⟨i12,i13⟩,Jt (e:= .mk n10 s11 (n12,n13) (SK,n15,n16,n17,n18) (n19,m20) x21 ars) ⟨i19,i20⟩ i21⟩ ha,λa h=>(List.mem_append.1 h).elim (i7 a) (i8 a)⟩
    ·exact hq d hd
  obtain⟨l,M,hq⟩:=key rows λr hr=>hr
  exact⟨l,by rw[M],hq⟩
theorem VG {ps:List PC} (h:nW S3 ps): ∃p:be,ps= [b6 p.sizes,cZ cP p.wher,cZ d7 p.params,cZ br p.defs,b6 p.outs]∧ij p∧pu p:=by
 obtain⟨p1,r1,rfl,h1,q1⟩:=dc h
 obtain⟨p2,r2,rfl,h2,q2⟩:=dc q1
 obtain⟨p3,r3,rfl,h3,q3⟩:=dc q2
 obtain⟨p4,r4,rfl,h4,q4⟩:=dc q3
 obtain⟨p5,r5,rfl,h5,q5⟩:=dc q4
 obtain rfl:=SP q5
 obtain⟨a,rfl,_⟩:=Om (Bx h1)
 obtain⟨b,rfl,hb⟩:=TQ (Bx h2)
 obtain⟨c,rfl,hc⟩:=TC (Bx h3)
 obtain⟨d,rfl,hd⟩:=Tz h4
 obtain⟨e,rfl,_⟩:=Om (Bx h5)
 exact⟨⟨a,b,c,d,e⟩,rfl,λx hx a ha=>((hd x hx).1 a ha).1,hb,hc,λx hx=>⟨(hd x hx).2,λa ha=>((hd x hx).1 a ha).2⟩⟩
end Go.Proofs.YtjhkikmonejkjaaGreatDoor
