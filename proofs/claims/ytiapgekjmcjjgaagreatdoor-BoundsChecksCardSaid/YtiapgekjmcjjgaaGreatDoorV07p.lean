import Derived.Test.YtiapgekjmcjjgaaGreatDoorV07k
set_option maxHeartbeats 4000000
set_option linter.unusedVariables false
set_option linter.unusedSimpArgs false
set_option maxRecDepth 1000000
namespace Go.Proofs.YtiapgekjmcjjgaaGreatDoor
open Go.Abs Go.RowKit
noncomputable section
def jY (g:Nat) (s:Bool) (l:List aR):List aR:=l.map λm=>(m.1,(mo m.2 g s).1)
def rq (g:Nat) (s:Bool) (l:List aR):Bool:=l.all λm=>(mo m.2 g s).2
theorem Bz {l:List aR} {g k:Nat} {s:Bool} (h:k<l.length):(jY g s (l.take (k+1))).map mP=(jY g s (l.take k)).map mP++ [[pS l[k].1,pI (mo l[k].2 g s).1]]:=by
 rw[List.take_succ_eq_append_getElem h]
 show((l.take k++ [l[k]]).map _).map mP=_
 rw[List.map_append,List.map_append]
 rfl
theorem DE {l:List aR} {g k:Nat} {s:Bool} (h:k<l.length):rq g s (l.take (k+1))=(rq g s (l.take k)&&(mo l[k].2 g s).2):=by
 rw[List.take_succ_eq_append_getElem h]
 show(l.take k++ [l[k]]).all _=_
 rw[List.all_append,List.all_cons,List.all_nil,Bool.and_true]
 rfl
theorem JI {g:Nat} {l:List aR}:rq g false l=true:=by simp[rq,mo]
theorem Ga {g:Nat} {l:List aR}:jY g false l=eU g l:=by simp[jY,eU,mo]
theorem Do {g:Nat} {l:List aR}:rq g true l=true↔ ∀m∈eU g l,am (-m.2):=by
 simp only[rq,mo,List.all_eq_true,if_true,eU,List.mem_map]
 constructor
 ·rintro h m ⟨x,hx,rfl⟩
  exact jO.1 (h x hx)
 ·intro h x hx
  exact jO.2 (h _ ⟨x,hx,rfl⟩)
theorem JJ {g:Nat} {l:List aR} (h:rq g true l=true):jY g true l=(eU g l).map λm=>(m.1,-m.2):=by
 rw[jY,eU,List.map_map]
 refine List.map_congr_left λm hm=> ?_
 have:=jO.1 (by simpa[mo]using List.all_eq_true.1 h m hm:(dg (-(m.2/(g:Int)))).2=true)
 simp only[mo,if_true,Function.comp_apply,el this]
def y6 (k:Int) (G:Nat) (q neg:Bool) (L:List aR):aU×Int:=if((mo k G neg).2&&rq G neg L)=true then((((mo k G neg).1,jY G neg L),q),0)else(mM,3)
theorem Hc {k:Int} {L:List aR} {q:Bool} (t:aI L) (hl:L≠ []):((cG ((k,L),q)).1,(cG ((k,L),q)).2.2)=
  if q=true∧k.natAbs%fi L≠0 then(Kx,0)else y6 k (fi L) q (q&&decide ((L.headD (.empty,0)).2<0)) L:=by
 unfold cG
 simp only
 rw[if_neg (not_not_intro t),if_neg hl]
 generalize fi L=G
 by_cases h1:q=true∧k.natAbs%G≠0
 ·rw[if_pos h1,if_pos h1]
 ·rw[if_neg h1,if_neg h1]
  by_cases h2:q=true∧(L.headD (.empty,0)).2<0
  ·rw[if_pos h2]
   obtain⟨rfl,h3⟩:=h2
   have e:(true&&decide ((L.headD (ByteArray.empty,(0:Int))).2<0))=true:=by rw[decide_eq_true h3];rfl
   rw[e]
   unfold y6
   by_cases h4:am (-(k/(G:Int)))
   ·by_cases h5:rq G true L=true
    ·rw[if_pos ⟨h4,Do.1 h5⟩,if_pos (by simp[mo,el h4,h5]),JJ h5]
     simp only[mo,if_true,el h4]
    ·rw[if_neg (λh=>h5 (Do.2 h.2)),if_neg (by simp[h5])]
   ·rw[if_neg (λh=>h4 h.1),if_neg (by simp[mo,i9 h4])]
  ·rw[if_neg h2]
   have e:(q&&decide ((L.headD (ByteArray.empty,(0:Int))).2<0))=false:=by
    cases q
    ·rfl
    ·simpa using h2
   rw[e]
   unfold y6
   rw[if_pos (by simp[mo,JI]),Ga]
   simp[mo]
theorem yk {c:aU} (o:br c) (hs:c.1.2.length≤1000000000):ac Tryz.prog 141 [iS c] (.tup [iS (cG c).1,I (cG c).2.2]):=by
 refine ac.of Bo (by simp) λ_=>aa ?_
 obtain⟨⟨k,l⟩,q⟩:=c
 obtain⟨hk,o⟩:=o
 simp only at hk o hs
 have pv:=dA k l
 conv in bh _ _=>cbv
 by_cases t:aI l
 ·rw[decide_eq_true t]at pv
  cases l with
  |nil=>
   unfold cG
   simp only
   rw[if_neg (not_not_intro t)]
   first|rw[if_pos rfl]|rw[if_pos trivial]|skip
   by_cases hD:k<0
   ·rw[if_neg (by omega)]
    repeat' first|simp(disch:=omega)only[go_sem, *]|apply ab<;>intro h<;>try omega|refine aq pv rfl rfl ?_
    all_goals rfl
   ·by_cases h0:k=0
    ·subst h0
     rw[if_pos (.inl rfl)]
     cases q
     all_goals
      repeat' first|simp(disch:=omega)only[go_sem, *]|apply ab<;>intro h<;>try omega|refine aq pv rfl rfl ?_
      all_goals rfl
    ·cases q
     ·rw[if_pos (.inr ⟨by omega,rfl⟩)]
      repeat' first|simp(disch:=omega)only[go_sem, *,h0]|apply ab<;>intro h<;>try omega|refine aq pv rfl rfl ?_
      all_goals rfl
     ·rw[if_neg (by rintro(h|h);exact h0 h;cases h.2)]
      repeat' first|simp(disch:=omega)only[go_sem, *,h0]|apply ab<;>intro h<;>try omega|refine aq pv rfl rfl ?_
      all_goals rfl
  |cons m r=>
   have A:=(bD.1 t).2
   have F:(m::r)≠ []:=by simp
   have H:=Hc (k:=k) (q:=q) t F
   have hg:=Ac F (λx hx=>(A x hx).2)
   have C:=K0 F (λx hx=>(A x hx).2) o
   have pz:=lF hk
   have e0: ¬(((m::r).length:Nat):Int)=0:=by simp;omega
   have gD:((m::r).map mP)[0]? =some [pS m.1,pI m.2]:=rfl
   have R:((m::r).headD (.empty,0)).2=m.2:=rfl
   rw[R]at H
   generalize m.1=n0 at*
   generalize m.2=x0 at*
   generalize hL:m::r=L at*
   clear hL t F A R
   generalize cG ((k,L),q)=TS at*
   obtain⟨TC,TT,TE⟩:=TS
   simp only at H ⊢
   have HSP:=Lib.hid H
   clear H
   obtain⟨G,hG⟩: ∃G,G=sL 0 (L.drop 0):=⟨_,rfl⟩
   have u:fi L=G:=hG.symm
   rw[u]at hg C HSP
   have HG:=Lib.hid hG
   clear hG u
   generalize hM:k.natAbs%G=M at*
   have HM:=Lib.hid hM
   clear hM
   repeat' first|simp(disch:=omega)only[go_sem, *,e0]|apply ab<;>intro h<;>try omega|refine aq pv rfl rfl ?_
   refine ai (λs:Nat×Nat=>⟨[(1,.c (.ptr 0 0)),(2,.c (.ptr 1 0)),(4,.c (.ptr 2 0)),(5,U s.2),(6,I s.1)], [(2,.var [.pure (pI (-1)),.nils,.pure (pB false)]),(1,.var [.pure (pI 0),.nils,.pure (pB false)]),(0,.var [.pure (pI k),.pure (ay L),.pure (pB q)])],3,0⟩)
    (λs=>s.1≤L.length∧s.2≤9223372036854775808∧Hid (G=sL s.2 (L.drop s.1))) (λs=>L.length-s.1) ⟨(0,0), [],⟨Nat.zero_le _,by simp,HG⟩,by simp⟩ ?_
   clear HG pv
   rintro⟨j,g⟩ ⟨hj,J,HG⟩
   simp only at hj J HG
   refine aa ?_
   by_cases i:j<L.length
   ·have g1:=ah (f:=mP) i
    have h2:=HG.out
    rw[List.drop_eq_getElem_cons i]at h2
    have hx:=o _ (List.getElem_mem i)
    clear HG
    generalize L[j]=m at*
    obtain⟨n,x⟩:=m
    simp only[mP]at g1
    simp only[sL,List.foldl_cons]at h2
    simp only at hx
    have ps:=lF hx
    have pg:=B8 g x.natAbs
    have T:Nat.gcd g x.natAbs≤9223372036854775808:=by
     have hA:x.natAbs≤9223372036854775808:=by unfold am at hx;omega
     by_cases h0:g=0
     ·rw[h0,Nat.gcd_zero_left];exact hA
     ·exact Nat.le_trans (Nat.gcd_le_left _ (Nat.pos_of_ne_zero h0)) J
    have HG:Hid (G=sL (Nat.gcd g x.natAbs) (L.drop (j+1))):=Lib.hid h2
    clear h2
    generalize Nat.gcd g x.natAbs=g' at*
    generalize x.natAbs=X at*
    repeat' first|simp(disch:=omega)only[go_sem, *,g1,wrap_i64]|apply ab<;>intro h<;>try omega|refine aq ps rfl rfl ?_|refine aq pg rfl rfl ?_
    exact⟨(j+1,g'), [],⟨i,T,HG⟩,by show _-_<_-_;omega,by simp⟩
   ·have h2:=HG.out
    rw[List.drop_eq_nil_of_le (by omega)]at h2
    simp only[sL,List.foldl_nil]at h2
    subst h2
    clear HG J
    have E: ¬(G:Int)=0:=by omega
    have w:((k.natAbs:Nat):Int).tmod (G:Int)=(M:Int):=by rw[gZ,HM.out]
    generalize k.natAbs=KN at*
    clear HM
    cases q
    ·have h3:=HSP.out
     rw[if_neg (by simp)]at h3
     simp only[Bool.false_and]at h3
     have pd:=gf (x:=k) false hk hg C
     unfold y6 at h3
     generalize mo k G false=KR at*
     obtain⟨KR,kok⟩:=KR
     simp only at h3
     have H3:=Lib.hid h3
     clear h3 HSP
     repeat' first|simp(disch:=omega)only[go_sem, *,E,ne_eq,w,gD,wrap_i64]|apply ab<;>intro h<;>try omega|refine aq pz rfl rfl ?_|refine aq pd rfl rfl ?_
     refine ci 3 1 85 2 [.pure (pI KR),.nils,.pure (pB false)] rfl rfl (by decide) ?_
     refine ai (λj:Nat=>⟨[(1,.c (.ptr 0 0)),(2,.c (.ptr 1 0)),(5,U G),(7,Go.Abs.B false),(8,.c (.ptr 3 0)),(10,Go.Abs.B (kok&&rq G false (L.take j))),(11,I j)], [(4,.arr 85 2 ((jY G false (L.take j)).map mP)),(3,.var [.pure (pI KR),.ref 4,.pure (pB false)]),(1,.var [.pure (pI 0),.nils,.pure (pB false)]),(0,.var [.pure (pI k),.pure (ay L),.pure (pB false)])],5,0⟩)
      (λj=>j≤L.length) (λj=>L.length-j) ⟨0, [],Nat.zero_le _,by simp[rq,jY,dJ]⟩ ?_
     clear pz pd gD w E
     intro j hj
     refine aa ?_
     by_cases i:j<L.length
     ·have g1:=ah (f:=mP) i
      have e1:=Bz (g:=G) (s:=false) i
      have e2:=DE (g:=G) (s:=false) i
      have hx:=o _ (List.getElem_mem i)
      have hB:((jY G false (L.take j)).map mP).length≤1000000000:=by simp[jY];omega
      generalize (jY G false (L.take j)).map mP=D at*
      generalize rq G false (L.take j)=ak at*
      generalize L[j]=m at*
      obtain⟨n,x⟩:=m
      simp only[mP]at g1
      simp only at hx
      have pd:=gf (x:=x) false hx hg C
      simp only at e1 e2
      generalize mo x G false=Y at*
      obtain⟨Y,yok⟩:=Y
      simp only at e1 e2
      cases kok
      ·repeat' first|simp(disch:=omega)only[go_sem, *,g1,Bool.false_and,Bool.true_and,wrap_i64]|apply ab<;>intro h<;>try omega|refine aq pd rfl rfl ?_|refine aA rfl (by intro h;cases h) (an rfl) (by simp;omega) (by simp;omega) ?_
       exact⟨j+1, [(4,5)],i,by omega,by simp[e1,e2]⟩
      ·cases ak
       ·repeat' first|simp(disch:=omega)only[go_sem, *,g1,Bool.false_and,Bool.true_and,wrap_i64]|apply ab<;>intro h<;>try omega|refine aq pd rfl rfl ?_|refine aA rfl (by intro h;cases h) (an rfl) (by simp;omega) (by simp;omega) ?_
        exact⟨j+1, [(4,5)],i,by omega,by simp[e1,e2]⟩
       ·repeat' first|simp(disch:=omega)only[go_sem, *,g1,Bool.false_and,Bool.true_and,wrap_i64]|apply ab<;>intro h<;>try omega|refine aq pd rfl rfl ?_|refine aA rfl (by intro h;cases h) (an rfl) (by simp;omega) (by simp;omega) ?_
        exact⟨j+1, [(4,5)],i,by omega,by simp[e1,e2]⟩
     ·obtain rfl:j=L.length:=by omega
      rw[List.take_of_length_le (Nat.le_refl _)]
      have h3:=H3.out
      clear H3
      generalize (kok&&rq G false L)=fin at*
      cases fin
      ·rw[if_neg (by simp)]at h3
       cases h3
       repeat' first|simp(disch:=omega)only[go_sem, *]|apply ab<;>intro h<;>try omega
       all_goals rfl
      ·rw[if_pos rfl]at h3
       cases h3
       repeat' first|simp(disch:=omega)only[go_sem, *]|apply ab<;>intro h<;>try omega
       all_goals rfl
    ·by_cases V:M=0
     ·subst V
      have h3:=HSP.out
      rw[if_neg (by simp)]at h3
      simp only[Bool.true_and]at h3
      obtain⟨neg,hn⟩: ∃neg,neg=decide (x0<0):=⟨_,rfl⟩
      rw[←hn]at h3
      have W:=hn.symm
      clear hn
      have pd:=gf (x:=k) neg hk hg C
      unfold y6 at h3
      generalize mo k G neg=KR at*
      obtain⟨KR,kok⟩:=KR
      simp only at h3
      have H3:=Lib.hid h3
      clear h3 HSP
      repeat' first|simp(disch:=omega)only[go_sem, *,W,Int.natCast_zero,Int.toNat_zero,E,ne_eq,w,gD,wrap_i64]|apply ab<;>intro h<;>try omega|refine aq pz rfl rfl ?_|refine aq pd rfl rfl ?_
      refine ci 3 1 85 2 [.pure (pI KR),.nils,.pure (pB true)] rfl rfl (by decide) ?_
      refine ai (λj:Nat=>⟨[(1,.c (.ptr 0 0)),(2,.c (.ptr 1 0)),(5,U G),(7,Go.Abs.B neg),(8,.c (.ptr 3 0)),(10,Go.Abs.B (kok&&rq G neg (L.take j))),(11,I j)], [(4,.arr 85 2 ((jY G neg (L.take j)).map mP)),(3,.var [.pure (pI KR),.ref 4,.pure (pB true)]),(1,.var [.pure (pI 0),.nils,.pure (pB false)]),(0,.var [.pure (pI k),.pure (ay L),.pure (pB true)])],5,0⟩)
       (λj=>j≤L.length) (λj=>L.length-j) ⟨0, [],Nat.zero_le _,by simp[rq,jY,dJ]⟩ ?_
      clear pz pd gD w E W
      intro j hj
      refine aa ?_
      by_cases i:j<L.length
      ·have g1:=ah (f:=mP) i
       have e1:=Bz (g:=G) (s:=neg) i
       have e2:=DE (g:=G) (s:=neg) i
       have hx:=o _ (List.getElem_mem i)
       have hB:((jY G neg (L.take j)).map mP).length≤1000000000:=by simp[jY];omega
       generalize (jY G neg (L.take j)).map mP=D at*
       generalize rq G neg (L.take j)=ak at*
       generalize L[j]=m at*
       obtain⟨n,x⟩:=m
       simp only[mP]at g1
       simp only at hx
       have pd:=gf (x:=x) neg hx hg C
       simp only at e1 e2
       generalize mo x G neg=Y at*
       obtain⟨Y,yok⟩:=Y
       simp only at e1 e2
       cases kok
       ·repeat' first|simp(disch:=omega)only[go_sem, *,g1,Bool.false_and,Bool.true_and,wrap_i64]|apply ab<;>intro h<;>try omega|refine aq pd rfl rfl ?_|refine aA rfl (by intro h;cases h) (an rfl) (by simp;omega) (by simp;omega) ?_
        exact⟨j+1, [(4,5)],i,by omega,by simp[e1,e2]⟩
       ·cases ak
        ·repeat' first|simp(disch:=omega)only[go_sem, *,g1,Bool.false_and,Bool.true_and,wrap_i64]|apply ab<;>intro h<;>try omega|refine aq pd rfl rfl ?_|refine aA rfl (by intro h;cases h) (an rfl) (by simp;omega) (by simp;omega) ?_
         exact⟨j+1, [(4,5)],i,by omega,by simp[e1,e2]⟩
        ·repeat' first|simp(disch:=omega)only[go_sem, *,g1,Bool.false_and,Bool.true_and,wrap_i64]|apply ab<;>intro h<;>try omega|refine aq pd rfl rfl ?_|refine aA rfl (by intro h;cases h) (an rfl) (by simp;omega) (by simp;omega) ?_
         exact⟨j+1, [(4,5)],i,by omega,by simp[e1,e2]⟩
      ·obtain rfl:j=L.length:=by omega
       rw[List.take_of_length_le (Nat.le_refl _)]
       have h3:=H3.out
       clear H3
       generalize (kok&&rq G neg L)=fin at*
       cases fin
       ·rw[if_neg (by simp)]at h3
        cases h3
        repeat' first|simp(disch:=omega)only[go_sem, *]|apply ab<;>intro h<;>try omega
        all_goals rfl
       ·rw[if_pos rfl]at h3
        cases h3
        repeat' first|simp(disch:=omega)only[go_sem, *]|apply ab<;>intro h<;>try omega
        all_goals rfl
     ·have h3:=HSP.out
      rw[if_pos ⟨rfl,V⟩]at h3
      cases h3
      have hC: ¬(M:Int)=0:=by omega
      clear HSP
      repeat' first|simp(disch:=omega)only[go_sem, *,E,ne_eq,w,hC,wrap_i64]|apply ab<;>intro h<;>try omega|refine aq pz rfl rfl ?_
      all_goals rfl
 ·rw[decide_eq_false t]at pv
  unfold cG
  simp only
  rw[if_pos t]
  repeat' first|simp(disch:=omega)only[go_sem, *]|apply ab<;>intro h<;>try omega|refine aq pv rfl rfl ?_
  all_goals rfl
theorem Im: ∀{l:List (aU×Int)} {out:bW} {eq:Bool},bl out→br (ep out eq l).1
 | [],out,eq,h=>h
 |p::r,out,eq,h=>by
  rw[ep]
  split
  ·exact⟨bL,λm hm=>by cases hm⟩
  ·rename_i hn
   exact Im (Fm (Classical.byContradiction λh'=>hn (.inr h')))
theorem Fu:br mM:=⟨bL,λm hm=>by cases hm⟩
theorem td (l:List aU) (b:List Int):br (aD l b).1:=by
 rw[aD]
 split
 ·exact Fu
 ·split
  ·exact Fu
  ·exact Im ⟨bL,λm hm=>by cases hm⟩
def RM:List (aU×Int)→Nat
 | []=>0
 |p::r=>p.1.1.2.length+RM r
theorem Dp: ∀{l:List (aU×Int)} {out:bW} {eq:Bool},(ep out eq l).1.1.2.length≤out.2.length+RM l
 | [],out,eq=>Nat.le_refl _
 |p::r,out,eq=>by
  rw[ep]
  split
  ·exact Nat.zero_le _
  ·have h1:=Dp (l:=r) (out:=gz out (bq p.1.1 p.2)) (eq:=eq&&(p.1.2||decide (p.2=0)))
   have h2:=zQ out (bq p.1.1 p.2)
   have h3:=tV p.1.1 p.2
   show _≤out.2.length+(p.1.1.2.length+RM r)
   omega
theorem ya (a b:aU) (x y:Int):(aD [a,b] [x,y]).1.1.2.length≤a.1.2.length+b.1.2.length:=by
 rw[aD]
 split
 ·exact Nat.zero_le _
 ·split
  ·exact Nat.zero_le _
  ·refine Nat.le_trans Dp ?_
   simp[RM]
abbrev cH:=aU×List Int
def Kv:cH:=(mM, [])
def qC (g:Nat) (l:List Int):Nat:=l.foldl (λg n=>Nat.gcd g n.natAbs) g
def Rj (g:Nat) (l:List aR):List aR:=l.map λm=>(m.1,m.2.tdiv (g:Int))
def QX (g:Nat) (l:List Int):List Int:=l.map λn=>n.tdiv (g:Int)
def ny (d:cH):cH:=
 if qC 0 d.2<2∨4611686018427387904<qC 0 d.2 then d else
 (((d.1.1.1.tdiv (qC 0 d.2:Int),Rj (qC 0 d.2) d.1.1.2),d.1.2),QX (qC 0 d.2) d.2)
def tb (x y:Int) (p:Int×Int):Bool:=decide (am (p.1*x))&&(decide (am (p.2*y))&&decide (am (p.1*x+p.2*y)))
def gl (x y:Int):List (Int×Int)→Option (List Int)
 | []=>some []
 |p::r=>if tb x y p=true then(gl x y r).map ((p.1*x+p.2*y):: ·)else none
def ei (fuel:Int) (a b:cH) (x y:Int):cH×Int:=
 if fuel≤0 then(Kv,14)else
 if(aD [a.1,b.1] [x,y]).2≠0 then(Kv,(aD [a.1,b.1] [x,y]).2)else
 match gl x y (a.2.zip b.2)with
 |none=>(Kv,3)
 |some l=>(ny ((aD [a.1,b.1] [x,y]).1,l),0)
def y3 (r d:cH):Prop:=r.1.2=d.1.2∧r.1.1.2=d.1.1.2∧(d.1.2=false∨r.1.1.1=d.1.1.1)
instance (r d:cH):Decidable (y3 r d):=Classical.propDecidable _
def pH (d:cH):List cH→Option (List cH)
 | []=>none
 |r::l=>if y3 r d then some ((if d.1.1.1<r.1.1.1 then d else r)::l)else(pH d l).map (r:: ·)
def cE (rows:List cH) (d:cH):List cH×Int:=
 if d.1.1.2= []∧ ¬dM d.1 then(rows,0)else
 match pH d rows with
 |some l=>(l,0)
 |none=>if 256≤rows.length then(rows,2)else(rows++ [d],0)
def mW (n:ByteArray):Nat→List cH→Option Nat
 |_, []=>none
 |k,r::l=>if cf r.1.1.2 n≠0∧r.1.2=true then some k else mW n (k+1) l
def qu (n:ByteArray) (l:List cH):Nat:=(l.filter λr=>decide (0<cf r.1.1.2 n)).length
def Hd (n:ByteArray) (l:List cH):Nat:=(l.filter λr=>decide (cf r.1.1.2 n<0)).length
def cK (rows:List cH):List ByteArray→Int→ByteArray→ByteArray×Int×Bool
 | [],best,name=>(name,-1,decide (0≤best))
 |v::vs,best,name=>match mW v 0 rows with
  |some k=>(v,k,true)
  |none=>if best<0∨((qu v rows*Hd v rows:Nat):Int)<best then cK rows vs ((qu v rows*Hd v rows:Nat):Int) v else cK rows vs best name
def eL (rows:List cH):List ByteArray:=rows.flatMap λr=>r.1.1.2.map (·.1)
def fO (c d:Int):Int×Int×Bool:=
 ((jB (c.natAbs/Nat.gcd c.natAbs d.natAbs) false).1,(jB (d.natAbs/Nat.gcd c.natAbs d.natAbs) (decide (0<c)==decide (0<d))).1,
  (jB (c.natAbs/Nat.gcd c.natAbs d.natAbs) false).2&&(jB (d.natAbs/Nat.gcd c.natAbs d.natAbs) (decide (0<c)==decide (0<d))).2)
def e9 (p q:Int):Int×Int×Bool:=
 ((jB (q.natAbs/Nat.gcd p.natAbs q.natAbs) false).1,(jB (p.natAbs/Nat.gcd p.natAbs q.natAbs) false).1,(jB (q.natAbs/Nat.gcd p.natAbs q.natAbs) false).2&&(jB (p.natAbs/Nat.gcd p.natAbs q.natAbs) false).2)
abbrev MG:=List cH×Int×Int
def ji (a b:cH) (x y:Int) (acc:List cH) (fuel:Int):MG:=
 if(ei fuel a b x y).2≠0 then(acc,fuel-1,(ei fuel a b x y).2)else((cE acc (ei fuel a b x y).1).1,fuel-1,(cE acc (ei fuel a b x y).1).2)
def cd {α:Type} (step:α→List cH→Int→MG):List α→List cH→Int→MG
 | [],acc,fuel=>(acc,fuel,0)
 |x::l,acc,fuel=>if(step x acc fuel).2.2≠0 then step x acc fuel else cd step l (step x acc fuel).1 (step x acc fuel).2.1
def o9 (n:ByteArray) (q:cH) (e:Nat) (r:Nat×cH) (acc:List cH) (fuel:Int):MG:=
 if r.1=e then(acc,fuel,0)else
 if cf r.2.1.1.2 n=0 then((cE acc r.2).1,fuel,(cE acc r.2).2)else
 if(fO (cf q.1.1.2 n) (cf r.2.1.1.2 n)).2.2=false then(acc,fuel,3)else
 ji r.2 q (fO (cf q.1.1.2 n) (cf r.2.1.1.2 n)).1 (fO (cf q.1.1.2 n) (cf r.2.1.1.2 n)).2.1 acc fuel
def gi (n:ByteArray) (r:cH) (acc:List cH) (fuel:Int):MG:=
 if cf r.1.1.2 n=0 then((cE acc r).1,fuel,(cE acc r).2)else(acc,fuel,0)
def dx (n:ByteArray) (a b:cH) (acc:List cH) (fuel:Int):MG:=
 if cf a.1.1.2 n≤0∨0≤cf b.1.1.2 n then(acc,fuel,0)else
 if(e9 (cf a.1.1.2 n) (cf b.1.1.2 n)).2.2=false then(acc,fuel,3)else
 ji a b (e9 (cf a.1.1.2 n) (cf b.1.1.2 n)).1 (e9 (cf a.1.1.2 n) (cf b.1.1.2 n)).2.1 acc fuel
def ut {α:Type}:Nat→List α→List (Nat×α)
 |_, []=> []
 |k,x::l=>(k,x)::ut (k+1) l
def tr (n:ByteArray) (e:Nat) (rows:List cH) (fuel:Int):MG:=cd (o9 n (rows.getD e Kv) e) (ut 0 rows) [] fuel
def ko (n:ByteArray) (rows:List cH) (fuel:Int):MG:=
 if(cd (gi n) rows [] fuel).2.2≠0 then cd (gi n) rows [] fuel else cd (λa=>cd (dx n a) rows) rows (cd (gi n) rows [] fuel).1 (cd (gi n) rows [] fuel).2.1
set_option maxRecDepth 20000
set_option maxRecDepth 1000000
theorem m7 {a b:Int} (ha:am a) (hb:am b):ac Tryz.prog 172 [I a,I b] (.tup [I (IntKind.wrap .i64 (a*b)),Go.Abs.B (decide (am (a*b)))]):=by
 refine ac.of ym (by simp) λ_=>aa ?_
 conv in bh _ _=>cbv
 by_cases h0:a=0
 ·subst h0
  have e:decide (am (0*b))=true:=decide_eq_true (by rw[Int.zero_mul];exact bL)
  rw[e]
  repeat' first|simp(disch:=omega)only[go_sem, *]|apply ab<;>intro h<;>try omega
 ·have hc:IntKind.wrap .i64 (b*a)=IntKind.wrap .i64 (a*b):=by rw[Int.mul_comm]
  by_cases hm:a= -1∧b= -9223372036854775808
  ·obtain⟨rfl,rfl⟩:=hm
   have e:decide (am (-1* -9223372036854775808))=false:=decide_eq_false (by unfold am;omega)
   rw[e]
   have e1:IntKind.wrap .i64 (-1* -9223372036854775808)= -9223372036854775808:=by decide
   have e2:IntKind.wrap .i64 (Int.tdiv (-9223372036854775808) (-1))= -9223372036854775808:=by decide
   repeat' first|simp(disch:=omega)only[go_sem, *,e1,e2]|apply ab<;>intro h<;>try omega
   all_goals rfl
  ·have hw:=we hb ha h0 hm
   rw[hc]at hw
   have N:am (b*a)↔am (a*b):=by rw[Int.mul_comm]
   rw[N]at hw
   by_cases hx:a= -1
   ·subst hx
    have hr:am (-1*b):=by unfold am at*;omega
    rw[decide_eq_true hr]
    have e1:IntKind.wrap .i64 (-1*b)= -b:=by rw[wrap_i64 (by unfold am at hr;omega)];omega
    have e2:IntKind.wrap .i64 ((-b).tdiv (-1))=b:=by rw[Int.tdiv_neg,Int.tdiv_one,Int.neg_neg];exact wrap_i64 hb
    clear hw hc N hr
    by_cases hE:b<0
    ·have O: ¬b= -b:=by omega
     repeat' first|simp(disch:=omega)only[go_sem, *,e1,e2,O]|apply ab<;>intro h<;>try omega
     all_goals rfl
    ·by_cases hz:b=0
     ·subst hz
      repeat' first|simp(disch:=omega)only[go_sem, *,e1,e2]|apply ab<;>intro h<;>try omega
      all_goals rfl
     ·have O: ¬b= -b:=by omega
      repeat' first|simp(disch:=omega)only[go_sem, *,e1,e2,O]|apply ab<;>intro h<;>try omega
      all_goals rfl
   ·clear hc N hm
    by_cases z:am (a*b)
    ·rw[decide_eq_true z]
     have hq:=hw.2 z
     clear hw z
     repeat' first|simp(disch:=omega)only[go_sem, *,h0,ne_eq,hq,hx]|apply ab<;>intro h<;>try omega
     all_goals rfl
    ·rw[decide_eq_false z]
     have hq: ¬IntKind.wrap .i64 ((IntKind.wrap .i64 (a*b)).tdiv a)=b:= λh=>z (hw.1 h)
     clear hw z
     repeat' first|simp(disch:=omega)only[go_sem, *,h0,ne_eq,hq,hx]|apply ab<;>intro h<;>try omega
     all_goals rfl
abbrev dF (d:cH):List PC:= [pI d.1.1.1,ay d.1.1.2,pB d.1.2,qN d.2]
abbrev Mk (d:cH):AV:= .agg [.pure (pI d.1.1.1),.pure (ay d.1.1.2),.pure (pB d.1.2),.pure (qN d.2)]
def G8 (d:cH):Prop:=br d.1∧ ∀n∈d.2,am n
theorem s7 {α β:Type} {f:α→β} {l:List α} {k:Nat} (h:k<l.length):(l.take (k+1)).map f=(l.take k).map f++ [f l[k]]:=by
 rw[List.take_succ_eq_append_getElem h,List.map_append]
 rfl
theorem rN {x:Int} {g:Nat} (hx:am x) (hg:2≤g):am (x.tdiv g):=by
 rcases LM (g:=g) hx with h|h
 ·exact h
 ·have h1:(x.tdiv g).natAbs=x.natAbs/g:=by rw[Int.natAbs_tdiv,Int.natAbs_natCast];rfl
  have h2:x.natAbs/g≤x.natAbs/2:=Nat.div_le_div_left hg (by omega)
  unfold am at hx
  omega
theorem Qs {g:Nat} {l:List aR}:(Rj g l).map mP=l.map λm=> [pS m.1,pI (m.2.tdiv (g:Int))]:=by
 rw[Rj,List.map_map]
 rfl
theorem QJ {g:Nat} {l:List Int}:(QX g l).map (λn=> [pI n])=l.map λn=> [pI (n.tdiv (g:Int))]:=by
 rw[QX,List.map_map]
 rfl
theorem Mq {g k:Nat} {l:List Int} (h:k<l.length):qC g (l.drop k)=qC (Nat.gcd g l[k].natAbs) (l.drop (k+1)):=by
 rw[List.drop_eq_getElem_cons h]
 rfl
theorem O3 {g k:Nat} {l:List Int} (h:l.length≤k):qC g (l.drop k)=g:=by
 rw[List.drop_eq_nil_of_le h]
 rfl
theorem ws {d:cH} (o:G8 d) (hl:d.1.1.2.length≤1000000000) (hb:d.2.length≤1000000000):ac Tryz.prog 173 [Mk d] (Mk (ny d)):=by
 refine ac.of xR (by simp) λ_=>aa ?_
 obtain⟨⟨⟨K,l⟩,q⟩,by'⟩:=d
 obtain⟨⟨hK,o⟩,P⟩:=o
 simp only at hK o P hl hb
 conv in bh _ _=>cbv
 obtain⟨G,hG⟩: ∃G,G=qC 0 (by'.drop 0):=⟨_,rfl⟩
 have u:qC 0 by'=G:=hG.symm
 unfold ny
 simp only
 rw[u]
 have HG:=Lib.hid hG
 clear hG u
 repeat' first|simp(disch:=omega)only[go_sem, *]|apply ab<;>intro h<;>try omega
 refine ai (λs:Nat×Nat=>⟨[(1,.c (.ptr 0 0)),(2,.c (.ptr 1 0)),(3,U s.2),(12,iE by'),(13,I by'.length),(14,I s.1)],
  [(0,.var [.pure (pI K),.pure (ay l),.pure (pB q),.pure (qN by')]),(1,.var [.pure (pI 0),.nils,.pure (pB false),.nils])],2,0⟩) (λs=>s.1≤by'.length∧Hid (G=qC s.2 (by'.drop s.1))) (λs=>by'.length-s.1) ⟨(0,0), [],⟨Nat.zero_le _,HG⟩,by simp⟩ ?_
 clear HG
 rintro⟨j,g⟩ ⟨hj,HG⟩
 simp only at hj HG
 refine aa ?_
 by_cases i:j<by'.length
 ·have g1:=ah (f:= λn=> [pI n]) i
  have h2:=HG.out
  rw[Mq i]at h2
  have pm:=eI (P _ (List.getElem_mem i))
  generalize by'[j]=x at*
  have pg:=oO g x.natAbs
  have HG:=Lib.hid h2
  clear h2
  repeat' first|simp(disch:=omega)only[go_sem, *,g1,wrap_i64]|apply ab<;>intro h<;>try omega|refine aq pm rfl rfl ?_|refine aq pg rfl rfl ?_
  exact⟨(j+1,Nat.gcd g x.natAbs), [],⟨i,HG⟩,by show _-_<_-_;omega,by simp⟩
 ·have h2:=HG.out
  rw[O3 (by omega)]at h2
  clear HG
  subst h2
  by_cases hs:G<2∨4611686018427387904<G
  ·rw[if_pos hs]
   rcases hs with hs|hs
   ·repeat' first|simp(disch:=omega)only[go_sem, *]|apply ab<;>intro h<;>try omega
    all_goals rfl
   ·repeat' first|simp(disch:=omega)only[go_sem, *]|apply ab<;>intro h<;>try omega
    all_goals rfl
  ·rw[if_neg hs]
   have Q:2≤G:=by omega
   have eG:IntKind.wrap .i64 (G:Int)=G:=wrap_i64 (by omega)
   have eK:IntKind.wrap .i64 (K.tdiv G)=K.tdiv G:=wrap_i64 (rN hK Q)
   have u: ¬(G:Int)=0:=by omega
   repeat' first|simp(disch:=omega)only[go_sem, *,eG,eK,u,ne_eq]|apply ab<;>intro h<;>try omega
   refine ci 2 1 85 2 _ rfl rfl (by decide) ?_
   refine ai (λj:Nat=>⟨[(1,.c (.ptr 0 0)),(2,.c (.ptr 1 0)),(3,U G),(6,.c (.ptr 2 0)),(48,.c (.pure (ay l))),(49,I l.length),(50,I j)],
    [(0,.var [.pure (pI K),.pure (ay l),.pure (pB q),.pure (qN by')]),(1,.var [.pure (pI 0),.nils,.pure (pB false),.nils]),(2,.var [.pure (pI (K.tdiv G)),.ref 3,.pure (pB q),.nils]),
     (3,.arr 85 2 ((l.take j).map λm=> [pS m.1,pI (m.2.tdiv (G:Int))]))],4,0⟩) (λj=>j≤l.length) (λj=>l.length-j) ⟨0, [],Nat.zero_le _,by simp⟩ ?_
   intro j hj
   refine aa ?_
   by_cases i:j<l.length
   ·have e1:=s7 (f:= λm:aR=> [pS m.1,pI (m.2.tdiv (G:Int))]) i
    have g1:=ah (f:=mP) i
    have Z:((l.take j).map λm=> [pS m.1,pI (m.2.tdiv (G:Int))]).length≤1000000000:=by simp;omega
    have ex:IntKind.wrap .i64 ((l[j].2).tdiv G)=(l[j].2).tdiv G:=wrap_i64 (rN (o _ (List.getElem_mem i)) Q)
    generalize l[j]=m at*
    obtain⟨n,x⟩:=m
    simp only[mP]at g1 e1 ex
    generalize ((l.take j).map λm=> [pS m.1,pI (m.2.tdiv (G:Int))])=D0 at*
    repeat' first|simp(disch:=omega)only[go_sem, *,g1,eG,ex,u,ne_eq,wrap_i64]|apply ab<;>intro h<;>try omega|refine aA rfl (by intro h;cases h) (an rfl) (by simp;omega) (by simp;omega) ?_
    exact⟨j+1, [(3,5)],i,by omega,by simp[e1]⟩
   ·obtain rfl:j=l.length:=by omega
    rw[List.take_of_length_le (Nat.le_refl _)]
    repeat' first|simp(disch:=omega)only[go_sem, *]|apply ab<;>intro h<;>try omega
    refine ci 2 3 2 1 _ rfl rfl (by decide) ?_
    refine ai (λj:Nat=>⟨[(2,.c (.ptr 1 0)),(3,U G),(6,.c (.ptr 2 0)),(73,iE by'),(74,I by'.length),(75,I j)],
     [(1,.var [.pure (pI 0),.nils,.pure (pB false),.nils]),(2,.var [.pure (pI (K.tdiv G)),.ref 3,.pure (pB q),.ref 4]),
      (3,.arr 85 2 (l.map λm=> [pS m.1,pI (m.2.tdiv (G:Int))])),(4,.arr 2 1 ((by'.take j).map λn=> [pI (n.tdiv (G:Int))]))],5,0⟩) (λj=>j≤by'.length) (λj=>by'.length-j) ⟨0, [],Nat.zero_le _,by simp⟩ ?_
    intro j hj
    refine aa ?_
    by_cases i:j<by'.length
    ·have e1:=s7 (f:= λn:Int=> [pI (n.tdiv (G:Int))]) i
     have g1:=ah (f:= λn=> [pI n]) i
     have Z:((by'.take j).map λn=> [pI (n.tdiv (G:Int))]).length≤1000000000:=by simp;omega
     have ex:IntKind.wrap .i64 ((by'[j]).tdiv G)=(by'[j]).tdiv G:=wrap_i64 (rN (P _ (List.getElem_mem i)) Q)
     generalize by'[j]=x at*
     generalize ((by'.take j).map λn=> [pI (n.tdiv (G:Int))])=D0 at*
     repeat' first|simp(disch:=omega)only[go_sem, *,g1,eG,ex,u,ne_eq,wrap_i64]|apply ab<;>intro h<;>try omega|refine aA rfl (by intro h;cases h) (an rfl) (by simp;omega) (by simp;omega) ?_
     exact⟨j+1, [(4,5)],i,by omega,by simp[e1]⟩
    ·obtain rfl:j=by'.length:=by omega
     rw[List.take_of_length_le (Nat.le_refl _)]
     repeat' first|simp(disch:=omega)only[go_sem, *]|apply ab<;>intro h<;>try omega
     show _=AV.agg [_,.pure (.slice ((Rj G l).map mP)),_,.pure (.slice ((QX G by').map λn=> [pI n]))]
     rw[Qs,QJ]
end
