import Derived.Test.YtiapgekjmcjjgaaGreatDoorV18A
set_option maxHeartbeats 4000000
set_option linter.unusedVariables false
set_option linter.unusedSimpArgs false
set_option maxRecDepth 1000000
open Go.Proofs.Tryz renaming prog→Ya
namespace Go.Proofs.YtiapgekjmcjjgaaGreatDoor
open Go.Abs Go.RowKit
abbrev Pf:=(Int×Int×aU)×List Int
abbrev DC (y:Pf):List PC:= [pI y.1.1,pI y.1.2.1,pI y.1.2.2.1.1,ay y.1.2.2.1.2,pB y.1.2.2.2,qN y.2]
abbrev Fk (l:List Pf):AV:=i6 DC l
def Mj (x:ww):Int×Int×aU:=(x.1,x.2.1,x.2.2.1)
def Ip (y:I5):Pf:=(Mj y.1,y.2)
theorem MV (l:List I5):l.map TB=(l.map Ip).map DC:=by
 rw[List.map_map]
 rfl
noncomputable def FU (p:bG) (L:List ww):Nat→List Pf→Int×Int
 |i, []=>if i<L.length then((i:Int),17)else(0,0)
 |i,y::r=>match L[i]? with
  |none=>((i:Int),17)
  |some x=>if y.1≠Mj x then((i:Int),17)else if uR (fF p x) x.2.2.1 y.2≠0 then((i:Int),uR (fF p x) x.2.2.1 y.2)else FU p L (i+1) r
noncomputable def Cx (p:bG) (l:List Pf):Int×Int:=if(bn p).2≠0 then bn p else FU p (im p) 0 l
theorem La {p:bG} {L:List ww} {l:List Pf} {i:Nat} (h:l.length≤i):FU p L i (l.drop i)=if i<L.length then((i:Int),17)else(0,0):=by
 rw[List.drop_of_length_le h,FU]
theorem KH {p:bG} {L:List ww} {l:List Pf} {i:Nat} (h:i<l.length) (hL:L.length≤i):FU p L i (l.drop i)=((i:Int),17):=by
 rw[List.drop_eq_getElem_cons h,FU,List.getElem?_eq_none hL]
theorem N7 {p:bG} {L:List ww} {l:List Pf} {i:Nat} {e:Int} (h:i<l.length) (hL:i<L.length) (hr:uR (fF p L[i]) L[i].2.2.1 l[i].2=e):FU p L i (l.drop i)=if l[i].1≠Mj L[i]then((i:Int),17)else if e≠0 then((i:Int),e)else FU p L (i+1) (l.drop (i+1)):=by
 rw[List.drop_eq_getElem_cons h,FU,List.getElem?_eq_getElem hL]
 simp only
 rw[hr]
theorem FA (a b:bW):ac Ya 41 [da a.1 a.2,da b.1 b.2] (Go.Abs.B (decide (a=b))):=by
 refine ac.of HJ (by simp) λ_=>aa ?_
 conv in bh _ _=>cbv
 have pe:=lR a.2 b.2
 by_cases h1:a.1=b.1
 ·by_cases h2:a.2=b.2
  ·rw[decide_eq_true h2]at pe
   rw[decide_eq_true (Prod.ext h1 h2)]
   repeat' first|simp(disch:=omega)only[go_sem,h1]|((with_reducible refine ab ?_ ?_)<;>intro h<;>try first|omega|simp(disch:=omega)only[go_sem, *,h1])|apply af|(with_reducible refine ag (λh=> ?_) ?_)|refine aq pe rfl rfl ?_
   all_goals rfl
  ·rw[decide_eq_false h2]at pe
   rw[decide_eq_false (λh=>h2 (by rw[h]))]
   clear h2
   repeat' first|simp(disch:=omega)only[go_sem,h1]|((with_reducible refine ab ?_ ?_)<;>intro h<;>try first|omega|simp(disch:=omega)only[go_sem, *,h1])|apply af|(with_reducible refine ag (λh=> ?_) ?_)|refine aq pe rfl rfl ?_
   all_goals rfl
 ·rw[decide_eq_false (λh=>h1 (by rw[h]))]
  repeat' first|simp(disch:=omega)only[go_sem,h1]|((with_reducible refine ab ?_ ?_)<;>intro h<;>try first|omega|simp(disch:=omega)only[go_sem, *,h1])|apply af|(with_reducible refine ag (λh=> ?_) ?_)|refine aq pe rfl rfl ?_
  all_goals rfl
theorem sT (a b:aU):ac Ya 17 [iS a,iS b] (Go.Abs.B (decide (a=b))):=by
 refine ac.of tW (by simp) λ_=>aa ?_
 conv in bh _ _=>cbv
 have pe:=FA a.1 b.1
 obtain⟨x,q⟩:=a
 obtain⟨y,r⟩:=b
 simp only at pe ⊢
 by_cases h2:x=y
 ·rw[decide_eq_true h2]at pe
  subst h2
  cases q<;>cases r
  all_goals
   first|rw[decide_eq_true (by rfl)]|rw[decide_eq_false (by simp)]
   repeat' first|simp(disch:=omega)only[go_sem, *]|apply ab<;>intro h<;>try omega|apply af|(with_reducible refine ag (λh=> ?_) ?_)|refine aq pe rfl rfl ?_
   all_goals rfl
 ·rw[decide_eq_false h2]at pe
  rw[decide_eq_false (λh=>h2 (Prod.ext_iff.1 h).1)]
  clear h2
  cases q<;>cases r
  all_goals
   repeat' first|simp(disch:=omega)only[go_sem, *]|apply ab<;>intro h<;>try omega|apply af|(with_reducible refine ag (λh=> ?_) ?_)|refine aq pe rfl rfl ?_
   all_goals rfl
theorem fM {p:bG} {l:List Pf} (hf:iR p) (D:kI p) (o:(bn p).2=0→Ci p) (u:(bn p).2=0→ ∀x∈im p,BE p x) (E: ∀y∈l,∀x∈y.2,am x):
  ac Ya 7 [gy p,Fk l] (.tup [I (Cx p l).1,I (Cx p l).2]):=by
 refine ac.of qc (by simp) λhb=>aa ?_
 have O:l.length≤9223372036854775807:=by
  have:=hb.2.1
  simpa[gw,gT]using this
 simp only[j0]
 clear hb
 have pv:=kc hf D
 unfold Cx
 by_cases h0:(bn p).2=0
 ·have pa:=qe hf (o h0)
  have N:=uH (o h0)
  have hp:=u h0
  have pm: ∀x∈im p,ac Ya 16 [gy p,UL x.1 x.2.1 x.2.2] (bB (fF p x)):= λx hx=>kC (hp x hx)
  have pk: ∀x∈im p,∀y∈l,ac Ya 18 [bB (fF p x),iS x.2.2.1,iE y.2] (I (uR (fF p x) x.2.2.1 y.2)):= λx hx y hy=>by
   obtain⟨_,_,q1,q2,q3,q4⟩:=hp x hx
   exact kQ q2 q1.1 q3 q4 (E y hy)
  rw[if_neg (not_not_intro h0)]
  rw[h0]at pv
  clear h0 o u hp D
  generalize im p=L at*
  obtain⟨R,hR⟩: ∃R,R=FU p L 0 l:=⟨_,rfl⟩
  rw[←hR]
  have HR:Hid (FU p L 0 (l.drop 0)=R):=Lib.hid hR.symm
  clear hR
  repeat' first|simp(disch:=omega)only[go_sem, *]|apply ab<;>intro h<;>try omega|apply af|(with_reducible refine ag (λh=> ?_) ?_)|refine aq pv rfl rfl ?_|refine aW pa rfl rfl ?_
  refine ai (λi:Nat=>⟨[(1,Fk l),(2,.c (.ptr 0 0)),(8,i6 a6 L),(23,Fk l),(24,I l.length),(25,I i)], [(0,eJ p)],1,0⟩) (λi=>i≤l.length∧Hid (FU p L i (l.drop i)=R)) (λi=>l.length-i) ⟨0, [],⟨by omega,HR⟩,by simp⟩ ?_
  clear pv pa HR
  rintro i ⟨hi,hr⟩
  refine aa ?_
  have hd:=hr.out
  clear hr
  by_cases g:i<l.length
  ·have g1:(l.map DC)[i]? =some (DC l[i]):=ah (f:=DC) g
   by_cases m:i<L.length
   ·have g2:(L.map a6)[i]? =some (VB L[i]):=ah (f:=a6) m
    have p1:=pm _ (List.getElem_mem m)
    have p2:=pk _ (List.getElem_mem m) _ (List.getElem_mem g)
    have p3:=sT l[i].1.2.2 L[i].2.2.1
    obtain⟨e,he⟩: ∃e,e=uR (fF p L[i]) L[i].2.2.1 l[i].2:=⟨_,rfl⟩
    rw[N7 g m he.symm]at hd
    rw[←he]at p2
    clear he pm pk
    by_cases hk:l[i].1=Mj L[i]
    ·have k1:l[i].1.1=L[i].1:=by rw[hk];rfl
     have k2:l[i].1.2.1=L[i].2.1:=by rw[hk];rfl
     have k3:l[i].1.2.2=L[i].2.2.1:=by rw[hk];rfl
     rw[if_neg (not_not_intro hk)]at hd
     rw[decide_eq_true k3]at p3
     clear hk k3
     by_cases h0:e=0
     ·subst h0
      rw[if_neg (by simp)]at hd
      have HD:=Lib.hid hd
      clear hd
      repeat' first|simp(disch:=omega)only[go_sem, *,g1,g2,k1,k2,wrap_i64]|apply ab<;>intro h<;>try omega|apply af|(with_reducible refine ag (λh=> ?_) ?_)|refine aq p3 rfl rfl ?_|refine aW p1 rfl rfl ?_|refine aq p2 rfl rfl ?_
      all_goals exact⟨i+1, [],⟨by omega,HD⟩,by omega,by simp⟩
     ·rw[if_pos h0]at hd
      subst hd
      repeat' first|simp(disch:=omega)only[go_sem, *,g1,g2,k1,k2,h0]|apply ab<;>intro h<;>try omega|apply af|(with_reducible refine ag (λh=> ?_) ?_)|refine aq p3 rfl rfl ?_|refine aW p1 rfl rfl ?_|refine aq p2 rfl rfl ?_
      all_goals rfl
    ·rw[if_pos hk]at hd
     subst hd
     by_cases k1:l[i].1.1=L[i].1
     ·by_cases k2:l[i].1.2.1=L[i].2.1
      ·have k3: ¬l[i].1.2.2=L[i].2.2.1:= λh=>hk (Prod.ext k1 (Prod.ext k2 h))
       rw[decide_eq_false k3]at p3
       clear hk k3
       repeat' first|simp(disch:=omega)only[go_sem, *,g1,g2,k1,k2]|apply ab<;>intro h<;>try omega|apply af|(with_reducible refine ag (λh=> ?_) ?_)|refine aq p3 rfl rfl ?_
       all_goals rfl
      ·clear hk
       repeat' first|simp(disch:=omega)only[go_sem, *,g1,g2,k1,k2]|apply ab<;>intro h<;>try omega|apply af|(with_reducible refine ag (λh=> ?_) ?_)|refine aq p3 rfl rfl ?_
       all_goals rfl
     ·clear hk
      repeat' first|simp(disch:=omega)only[go_sem, *,g1,g2,k1]|apply ab<;>intro h<;>try omega|apply af|(with_reducible refine ag (λh=> ?_) ?_)|refine aq p3 rfl rfl ?_
      all_goals rfl
   ·rw[KH g (by omega)]at hd
    subst hd
    clear pm pk
    repeat' first|simp(disch:=omega)only[go_sem, *,g1]|apply ab<;>intro h<;>try omega|apply af|(with_reducible refine ag (λh=> ?_) ?_)
    all_goals rfl
  ·obtain rfl:i=l.length:=by omega
   rw[La (Nat.le_refl _)]at hd
   by_cases F:l.length<L.length
   ·rw[if_pos F]at hd
    subst hd
    repeat' first|simp(disch:=omega)only[go_sem, *]|apply ab<;>intro h<;>try omega
    all_goals rfl
   ·rw[if_neg F]at hd
    subst hd
    repeat' first|simp(disch:=omega)only[go_sem, *]|apply ab<;>intro h<;>try omega
    all_goals rfl
 ·rw[if_pos h0]
  clear o u
  repeat' first|simp(disch:=omega)only[go_sem, *,h0]|apply ab<;>intro h<;>try omega|refine aq pv rfl rfl ?_
  all_goals rfl
set_option maxRecDepth 20000
set_option maxRecDepth 1000000
abbrev Lu:=Int×Int×Int
abbrev UO (x:Lu):AV:= .agg [.pure (pI x.1),.pure (pI x.2.1),.pure (pI x.2.2)]
abbrev VN (x:Lu):bk:= .var [.pure (pI x.1),.pure (pI x.2.1),.pure (pI x.2.2)]
def QB (x:Lu) (y:Pf):Pf:=if x.1=1 then(y.1,y.2.take (y.2.length-1))else if x.1=2 then(y.1,y.2.set 0 x.2.2)else if x.1=3 then((y.1.1,IntKind.wrap .i64 (y.1.2.1+1),y.1.2.2),y.2)else y
def Mv (x:Lu) (i:Nat) (y:Pf):List Pf:=if(i:Int)=x.2.1 then(if x.1=4 then []else [QB x y])else [y]
def wS (x:Lu) (l:List Pf) (k:Nat):List Pf:=((l.take k).zipIdx).flatMap λz=>Mv x z.2 z.1
def SN (x:Lu) (l:List Pf):List Pf:=if x.1=5∧0≤x.2.1 then(l[x.2.1.toNat]?).toList else []
def PO (x:Lu) (l:List Pf):List Pf:=wS x l l.length++SN x l
theorem Eb {x:Lu} {l:List Pf} {k:Nat} (h:k<l.length):wS x l (k+1)=wS x l k++Mv x k l[k]:=by
 unfold wS
 rw[List.take_succ_eq_append_getElem h,List.zipIdx_append,List.flatMap_append]
 simp[Nat.min_eq_left (Nat.le_of_lt h)]
theorem P7 {x:Lu} {i:Nat} {y:Pf}:(Mv x i y).length≤1:=by
 unfold Mv
 (repeat' split)<;>simp
theorem Iq {x:Lu} {l:List Pf}: ∀k,(wS x l k).length≤k:=by
 intro k
 induction k with
 |zero=>simp[wS]
 |succ k ih=>
  by_cases g:k<l.length
  ·rw[Eb g,List.length_append]
   have:=P7 (x:=x) (i:=k) (y:=l[k])
   omega
  ·have:wS x l (k+1)=wS x l k:=by
    unfold wS
    rw[List.take_of_length_le (by omega),List.take_of_length_le (by omega)]
   rw[this]
   omega
theorem QI {x:Lu} {y:Pf} (hx:am x.2.2) (h: ∀z∈y.2,am z): ∀z∈(QB x y).2,am z:=by
 unfold QB
 split
 ·exact λz hz=>h z (List.mem_of_mem_take hz)
 ·split
  ·intro z hz
   rcases List.mem_or_eq_of_mem_set hz with hz|rfl
   ·exact h z hz
   ·exact hx
  ·split
   ·exact h
   ·exact h
theorem KJ {x:Lu} {l:List Pf} (hx:am x.2.2) (h: ∀y∈l,∀z∈y.2,am z): ∀y∈PO x l,∀z∈y.2,am z:=by
 intro y hy
 unfold PO at hy
 rcases List.mem_append.1 hy with hy|hy
 ·obtain⟨⟨w,i⟩,hw,hy⟩:=List.mem_flatMap.1 hy
  have hm:w∈l:=List.mem_of_mem_take (List.mem_of_getElem? (List.mem_zipIdx_iff_getElem?.1 hw))
  unfold Mv at hy
  split at hy
  ·split at hy
   ·cases hy
   ·rw[List.mem_singleton.1 hy]
    exact QI hx (h w hm)
  ·rw[List.mem_singleton.1 hy]
   exact h w hm
 ·unfold SN at hy
  split at hy
  ·exact h y (List.mem_of_getElem? (Option.mem_toList.1 hy))
  ·cases hy
theorem Rg (b:List Int) (k:Nat):(b.map λn=> [pI n]).take k=(b.take k).map λn=> [pI n]:=by rw[List.map_take]
theorem Sn (b:List Int) (v:Int):(b.map λn=> [pI n]).set 0 [pI v]=(b.set 0 v).map λn=> [pI n]:=by rw[List.map_set]
theorem uU {l:List Pf} {x:Lu} (hl:l.length≤1440000000) (A: ∀y∈l,y.2.length≤1000000):ac Ya 9 [Fk l,UO x] (Fk (PO x l)):=by
 refine ac.of wy (by simp) λhb=>aa ?_
 conv in bh _ _=>cbv
 clear hb
 repeat' first|simp(disch:=omega)only[go_sem, *]|apply ab<;>intro h<;>try omega
 refine dv 5 74 6 rfl (by decide) ?_
 refine ai (λi:Nat=>⟨[(0,Fk l),(3,.c (.ptr 0 0)),(5,.c (.ref 1)),(6,I i)], [(1,.arr 74 6 ((wS x l i).map DC)),(0,VN x)],2,0⟩) (λi=>i≤l.length) (λi=>l.length-i) ⟨0, [],by omega,by simp[wS]⟩ ?_
 intro i hi
 refine aa ?_
 by_cases g:i<l.length
 ·have hs:=Eb (x:=x) g
  have G:=Iq (x:=x) (l:=l) i
  have g1:(l.map DC)[i]? =some (DC l[i]):=ah (f:=DC) g
  have J:=A _ (List.getElem_mem g)
  clear A
  generalize wS x l i=acc at*
  generalize l[i]=y at*
  obtain⟨⟨d,ax,c⟩,by'⟩:=y
  have ok0:aK 1 ([]:List (List PC)):=aZ
  have ok1:aK 1 (by'.map λn=> [pI n]):=ar λ_=>rfl
  have o:(acc.map DC).length≤1440000000:=by simp;omega
  simp only at J
  unfold Mv at hs
  by_cases s:(i:Int)=x.2.1
  ·rw[if_pos s]at hs
   have j:=s.symm
   clear s
   by_cases w4:x.1=4
   ·rw[if_pos w4,List.append_nil]at hs
    have HS:=Lib.hid hs
    clear hs
    repeat' first|simp(disch:=omega)only[go_sem, *,g1,j,w4,wrap_i64]|apply ab<;>intro h<;>try omega|refine cN ok0 ok1 (by simp;omega) (by simp;omega) ?_
    refine⟨i+1, [],by omega,by omega, ?_⟩
    rw[HS.out]
    simp
   ·rw[if_neg w4]at hs
    unfold QB at hs
    by_cases w1:x.1=1
    ·rw[if_pos w1]at hs
     have HS:=Lib.hid hs
     have etk:(max 0 ((by'.length:Int)-1)).toNat=by'.length-1:=by omega
     have em:max 0 ((by'.length:Int)-1)≤by'.length:=by omega
     have em0:0≤max 0 ((by'.length:Int)-1):=by omega
     clear hs
     repeat' first|simp(disch:=omega)only[go_sem, *,g1,j,w1,wrap_i64,etk,em,em0,ok1,Rg,and_false,List.length_map,Option.getD_some,Option.getD_none,List.drop_zero,Int.toNat_zero]|apply ab<;>intro h<;>try omega|refine cN ok0 ok1 (by simp;omega) (by simp;omega) ?_|refine aA rfl (by intro h;cases h) (an rfl) (by simp only[List.length_cons,List.length_nil];omega) (by simp only[List.length_cons,List.length_nil];omega) ?_
     refine⟨i+1, [(1,3)],by omega,by omega, ?_⟩
     rw[HS.out,List.map_append]
     simp
    ·rw[if_neg w1]at hs
     by_cases w2:x.1=2
     ·rw[if_pos w2]at hs
      have HS:=Lib.hid hs
      clear hs
      by_cases C:by'= []
      ·subst C
       repeat' first|simp(disch:=omega)only[go_sem, *,g1,j,w1,w2,wrap_i64,List.map_nil]|apply ab<;>intro h<;>try omega|refine dy ok0 ?_|refine aA rfl (by intro h;cases h) (an rfl) (by simp only[List.length_cons,List.length_nil];omega) (by simp only[List.length_cons,List.length_nil];omega) ?_
       refine⟨i+1, [(1,3)],by omega,by omega, ?_⟩
       rw[HS.out,List.map_append]
       simp
      ·have K:0<by'.length:=List.length_pos_iff.2 C
       have M:by'.map (λn=> [pI n])≠ []:=by simpa using C
       have H:=Sn by' x.2.2
       have g0:(by'.map λn=> [pI n])[0]? =some [pI by'[0]]:=ah (f:= λn=> [pI n]) K
       repeat' first|simp(disch:=omega)only[go_sem, *,g1,g0,H,j,w1,w2,wrap_i64,Int.toNat_zero]|apply ab<;>intro h<;>try omega|refine c8 ok0 ok1 M (by simp;omega) (by simp;omega) ?_|refine aA rfl (by intro h;cases h) (an rfl) (by simp only[List.length_cons,List.length_nil];omega) (by simp only[List.length_cons,List.length_nil];omega) ?_
       refine⟨i+1, [(1,4)],by omega,by omega, ?_⟩
       rw[HS.out,List.map_append]
       simp
     ·rw[if_neg w2]at hs
      by_cases w3:x.1=3
      ·rw[if_pos w3]at hs
       have HS:=Lib.hid hs
       clear hs
       repeat' first|simp(disch:=omega)only[go_sem, *,g1,j,w1,w2,w3,wrap_i64]|apply ab<;>intro h<;>try omega|refine cN ok0 ok1 (by simp;omega) (by simp;omega) ?_|refine aA rfl (by intro h;cases h) (an rfl) (by simp only[List.length_cons,List.length_nil];omega) (by simp only[List.length_cons,List.length_nil];omega) ?_
       refine⟨i+1, [(1,3)],by omega,by omega, ?_⟩
       rw[HS.out,List.map_append]
       simp
      ·rw[if_neg w3]at hs
       have HS:=Lib.hid hs
       clear hs
       repeat' first|simp(disch:=omega)only[go_sem, *,g1,j,w1,w2,w3,w4,wrap_i64]|apply ab<;>intro h<;>try omega|refine cN ok0 ok1 (by simp;omega) (by simp;omega) ?_|refine aA rfl (by intro h;cases h) (an rfl) (by simp only[List.length_cons,List.length_nil];omega) (by simp only[List.length_cons,List.length_nil];omega) ?_
       refine⟨i+1, [(1,3)],by omega,by omega, ?_⟩
       rw[HS.out,List.map_append]
       simp
  ·rw[if_neg s]at hs
   have HS:=Lib.hid hs
   clear hs
   repeat' first|simp(disch:=omega)only[go_sem, *,g1,s,wrap_i64]|apply ab<;>intro h<;>try omega|refine cN ok0 ok1 (by simp;omega) (by simp;omega) ?_|refine aA rfl (by intro h;cases h) (an rfl) (by simp only[List.length_cons,List.length_nil];omega) (by simp only[List.length_cons,List.length_nil];omega) ?_
   refine⟨i+1, [(1,3)],by omega,by omega, ?_⟩
   rw[HS.out,List.map_append]
   simp
 ·obtain rfl:i=l.length:=by omega
  have G:=Iq (x:=x) (l:=l) l.length
  obtain⟨acc,t⟩: ∃acc,acc=wS x l l.length:=⟨_,rfl⟩
  unfold PO SN
  rw[←t]
  rw[←t]at G
  clear t A
  by_cases h5:x.1=5
  ·by_cases h6:0≤x.2.1
   ·obtain⟨n,hn⟩: ∃n:Nat,x.2.1=n:=⟨x.2.1.toNat,by omega⟩
    by_cases h7:n<l.length
    ·have g1:(l.map DC)[n]? =some (DC l[n]):=ah (f:=DC) h7
     have o:(acc.map DC).length≤1440000000:=by simp;omega
     have e:(if x.1=5∧0≤x.2.1 then(l[x.2.1.toNat]?).toList else [])= [l[n]]:=by
      rw[if_pos ⟨h5,h6⟩,hn,Int.toNat_natCast,List.getElem?_eq_getElem h7]
      rfl
     rw[e]
     clear e h6
     have HM:=Lib.hid (show acc.map DC++ [DC l[n]]=(acc++ [l[n]]).map DC by simp)
     repeat' first|simp(disch:=omega)only[go_sem, *,g1,h5,hn]|apply ab<;>intro h<;>try omega|apply af|(with_reducible refine ag (λh=> ?_) ?_)|refine aA rfl (by intro h;cases h) (an rfl) (by simp only[List.length_cons,List.length_nil];omega) (by simp only[List.length_cons,List.length_nil];omega) ?_
     rw[HM.out]
    ·have e:(if x.1=5∧0≤x.2.1 then(l[x.2.1.toNat]?).toList else [])= []:=by
      rw[if_pos ⟨h5,h6⟩,hn,Int.toNat_natCast,List.getElem?_eq_none (by omega)]
      rfl
     rw[e,List.append_nil]
     clear e
     repeat' first|simp(disch:=omega)only[go_sem, *,h5,hn]|apply ab<;>intro h<;>try omega|apply af|(with_reducible refine ag (λh=> ?_) ?_)
     all_goals rfl
   ·rw[if_neg λh=>h6 h.2,List.append_nil]
    repeat' first|simp(disch:=omega)only[go_sem, *,h5,h6]|apply ab<;>intro h<;>try omega|apply af|(with_reducible refine ag (λh=> ?_) ?_)
    all_goals rfl
  ·rw[if_neg λh=>h5 h.1,List.append_nil]
   repeat' first|simp(disch:=omega)only[go_sem, *,h5]|apply ab<;>intro h<;>try omega|apply af|(with_reducible refine ag (λh=> ?_) ?_)
   all_goals rfl
