import Derived.Test.YtjhkikmonejkjaaGreatDoorV14b
set_option linter.unusedVariables false
set_option linter.unusedSimpArgs false
set_option maxRecDepth 20000
open Go.Proofs.Tryz renaming prog→Ya
namespace Go.Proofs.YtjhkikmonejkjaaGreatDoor
open Go.Abs Go.RowKit
def Wn (x:Ix):Prop:=dZ x.1.2∧ ∀l∈x.2.2,dZ l.2
theorem y6 {e:Ex}:pq e↔(e.op=1→e7 e.ty e.val)∧dZ e.lin.2∧ ∀x∈e.idx,Wn x:=by
 unfold pq Ex.forms Wn
 constructor
 ·rintro⟨h1,h2⟩
  refine⟨h1,h2 _ List.mem_cons_self,λx hx=>⟨h2 _ (List.mem_cons_of_mem _ (List.mem_flatMap.2 ⟨x,hx,List.mem_cons_self⟩)),λl hl=>h2 _ (List.mem_cons_of_mem _ (List.mem_flatMap.2 ⟨x,hx,List.mem_cons_of_mem _ hl⟩))⟩⟩
 ·rintro⟨h1,h2,h3⟩
  refine⟨h1,λl hl=> ?_⟩
  rcases List.mem_cons.1 hl with rfl|hl
  ·exact h2
  ·obtain⟨x,hx,hl⟩:=List.mem_flatMap.1 hl
   rcases List.mem_cons.1 hl with rfl|hl
   ·exact(h3 x hx).1
   ·exact(h3 x hx).2 l hl
theorem nS {e:Ex} (ht:e.op=1→ju e.ty) (hv:o9 e.val) (hr: ∀x∈e.idx,x.2.2.length≤6):af Ya sN [gc e] (Go.Abs.B (decide (pq e))):=by
 refine af.of BB (by simp) λhb=>aa ?_
 have hl:=(dt hb).2
 simp only[tl]
 repeat' first|simp(disch:=omega)only[go_sem, *]|apply ab<;>intro h<;>try omega|refine av (Kw (ht (by assumption)) hv) rfl rfl ?_|refine av (dX _ _) rfl rfl ?_
 all_goals first
  |(refine BD ?_;clear hb;simp only[Bool.not_eq_true',A3,BF,reduceCtorEq,false_iff,true_iff,not_exists,not_and,Classical.not_not,decide_eq_true_iff,decide_eq_false_iff_not];first|done|grind [y6])
  |skip
 all_goals(
  have hs:(e.op=1→e7 e.ty e.val)∧dZ e.lin.2:=by grind
  refine ai (λk:Nat=>⟨[(3,I k),(1,.c (.ptr 0 0))], [(0,tL e)],1,0⟩) (λk=>k≤e.idx.length∧bI (λi=> ∀h:i<e.idx.length,Wn e.idx[i]) k) (λk=>e.idx.length-k) ⟨0, [],⟨by omega,.zero⟩,by simp[*]⟩ ?_
  repeat clear h
  have HT:=Lib.hid hs
  clear hs ht
  rintro k ⟨hk,f⟩
  refine aa ?_
  by_cases d:k<e.idx.length
  ·have h6:=hr _ (List.getElem_mem d)
   repeat' first|simp(disch:=omega)only[go_sem, *,ac d,dN,wrap_i64]|apply ab<;>intro h<;>try omega|refine av (dX _ _) rfl rfl ?_
   ·refine ai (λj:Nat=>⟨[(4,I j),(3,I k),(1,.c (.ptr 0 0))], [(0,tL e)],1,0⟩) (λj=>j≤e.idx[k].2.2.length∧bI (λi=> ∀h:i<e.idx[k].2.2.length,dZ e.idx[k].2.2[i].2) j) (λj=>e.idx[k].2.2.length-j) ⟨0, [],⟨by omega,.zero⟩,by simp⟩ ?_
    rintro j ⟨hj,t⟩
    refine aa ?_
    by_cases v:j<e.idx[k].2.2.length
    ·repeat' first|simp(disch:=omega)only[go_sem, *,ac d,ac v,dN,bP,wrap_i64]|apply ab<;>intro h<;>try omega|refine av (dX _ _) rfl rfl ?_
     ·exact⟨j+1, [],⟨by omega,t.succ λ_=>h⟩,by omega,by simp⟩
     ·refine BD ⟨λh=>(by cases h),λh'=> ?_⟩
      exact absurd (((y6.1 h').2.2 _ (List.getElem_mem d)).2 _ (List.getElem_mem v)) h
    ·repeat' first|simp(disch:=omega)only[go_sem, *,ac d,dN,wrap_i64]|apply ab<;>intro h<;>try omega
     refine⟨k+1, [],⟨by omega,f.succ λ_=>⟨‹_›,λl hl=> ?_⟩⟩,by omega,by simp⟩
     obtain⟨i,hi,rfl⟩:=List.mem_iff_getElem.1 hl
     exact t i (by omega) hi
   ·refine BD ⟨λh=>(by cases h),λh'=> ?_⟩
    exact absurd ((y6.1 h').2.2 _ (List.getElem_mem d)).1 h
  ·repeat' first|simp(disch:=omega)only[go_sem, *]|apply ab<;>intro h<;>try omega
   refine BD ⟨λ_=>y6.2 ⟨HT.out.1,HT.out.2,λx hx=> ?_⟩,λ_=>rfl⟩
   obtain⟨i,hi,rfl⟩:=List.mem_iff_getElem.1 hx
   exact f i (by omega) hi)
theorem GJ {l:List Ex} {k:Nat} (h:k<l.length) (hf:bY ((Ex.pres (l.take k)).map aP)=0):bY ((Ex.pres (l.take (k+1))).map aP)=iK l[k]:=by
 rw[Ex.pres_take h,List.map_append,jL,if_neg (by rw[hf];simp)]
 rfl
theorem MY {l:List Ex} {k:Nat} (h:k<l.length) (hf:bY ((Ex.pres (l.take k)).map aP)=0) (hp:iK l[k]≠0):bY ((Ex.pres l).map aP)=iK l[k]:=by
 have key:bY ((Ex.pres (l.take (k+1)++l.drop (k+1))).map aP)=iK l[k]:=by
  rw[Ex.pres_append,List.map_append,jL,GJ h hf,if_pos hp]
 rw[List.take_append_drop]at key
 exact key
theorem Rh {e a b:Ex} (ha:a∈e.args) (hb:b∈a.pre):b∈e.pre:=by
 rw[Ex.pre_eq]
 refine List.mem_cons_of_mem _ ?_
 generalize e.args=l at ha
 induction l with
 |nil=>cases ha
 |cons x r w=>
  rw[Ex.pres]
  rcases List.mem_cons.1 ha with rfl|ha
  ·exact List.mem_append_left _ hb
  ·exact List.mem_append_right _ (w ha)
theorem CP (e:Ex):(∀a∈e.pre,o9 a.val)→af Ya pF [gc e] (I (iK e)):=by
 refine Ex.ind (p:= λe=>(∀a∈e.pre,o9 a.val)→af Ya pF [gc e] (I (iK e))) (λe ih q=> ?_) e
 refine af.of EJ (by simp) λhb=>aa ?_
 have hl:=(dt hb).1
 have hv:o9 e.val:=q e (by rw[Ex.pre_eq];exact List.mem_cons_self)
 have u: ∀a∈e.args,∀b∈a.pre,o9 b.val:= λa ha b hb=>q b (Rh ha hb)
 simp only[xF]
 rw[Ld]
 by_cases h1:qc e
 ·by_cases h2:qq e
  ·by_cases h3:qx e
   ·by_cases h4:kn e
    ·by_cases h5:pq e
     ·have hn:aP e=0:=by simp[aP,h1,h2,h3,h4,h5]
      have g:=nS (e:=e) (λh=>h4.1 (.inl h)) hv h3.2.2
      rw[if_neg (by rw[hn];simp)]
      have HN:=Lib.hid hn
      clear hn
      repeat' first|simp(disch:=omega)only[go_sem, *,h1,h2,h3,h4,h5]|apply ab<;>intro h<;>try omega|refine av (dT e) rfl rfl ?_|refine av (e9 e) rfl rfl ?_|refine av (fT e) rfl rfl ?_|refine av (kj e) rfl rfl ?_|refine av g rfl rfl ?_
      refine ai (λk:Nat=>⟨[(3,I k),(1,.c (.ptr 0 0))], [(0,tL e)],1,0⟩) (λk=>k≤e.args.length∧Hid (bY ((Ex.pres (e.args.take k)).map aP)=0)) (λk=>e.args.length-k) ⟨0, [],⟨by omega,by show _=_;simp[Ex.pres,bY]⟩,by simp⟩ ?_
      clear h1 h2 h3 h4 h5 g
      rintro k ⟨hk,f⟩
      refine aa ?_
      by_cases d:k<e.args.length
      ·have o:=ih _ (List.getElem_mem d) (u _ (List.getElem_mem d))
       clear ih u
       by_cases hp:iK e.args[k]=0
       ·repeat' first|simp(disch:=omega)only[go_sem, *,ac d,Ex.row_eq,wrap_i64,hp]|apply ab<;>intro h<;>try omega|refine av o rfl rfl ?_
        exact⟨k+1, [],⟨by omega,by show _=_;rw[GJ d f.out];exact hp⟩,by omega,by simp⟩
       ·repeat' first|simp(disch:=omega)only[go_sem, *,ac d,Ex.row_eq,wrap_i64,hp]|apply ab<;>intro h<;>try omega|refine av o rfl rfl ?_
        rw[MY d f.out hp]
      ·repeat' first|simp(disch:=omega)only[go_sem, *]|apply ab<;>intro h<;>try omega
       have:=f.out
       rw[List.take_of_length_le (by omega)]at this
       rw[this]
     ·have hn:aP e=1:=by simp[aP,h1,h2,h3,h4,h5]
      have g:=nS (e:=e) (λh=>h4.1 (.inl h)) hv h3.2.2
      rw[if_pos (by rw[hn];simp),hn]
      clear hn ih
      repeat' first|simp(disch:=omega)only[go_sem, *,h1,h2,h3,h4,h5]|apply ab<;>intro h<;>try omega|refine av (dT e) rfl rfl ?_|refine av (e9 e) rfl rfl ?_|refine av (fT e) rfl rfl ?_|refine av (kj e) rfl rfl ?_|refine av g rfl rfl ?_
    ·have hn:aP e=10:=by simp[aP,h1,h2,h3,h4]
     rw[if_pos (by rw[hn];simp),hn]
     clear hn ih
     repeat' first|simp(disch:=omega)only[go_sem, *,h1,h2,h3,h4]|apply ab<;>intro h<;>try omega|refine av (dT e) rfl rfl ?_|refine av (e9 e) rfl rfl ?_|refine av (fT e) rfl rfl ?_|refine av (kj e) rfl rfl ?_
   ·have hn:aP e=11:=by simp[aP,h1,h2,h3]
    rw[if_pos (by rw[hn];simp),hn]
    clear hn ih
    repeat' first|simp(disch:=omega)only[go_sem, *,h1,h2,h3]|apply ab<;>intro h<;>try omega|refine av (dT e) rfl rfl ?_|refine av (e9 e) rfl rfl ?_|refine av (fT e) rfl rfl ?_
  ·have hn:aP e=7:=by simp[aP,h1,h2]
   rw[if_pos (by rw[hn];simp),hn]
   clear hn ih
   repeat' first|simp(disch:=omega)only[go_sem, *,h1,h2]|apply ab<;>intro h<;>try omega|refine av (dT e) rfl rfl ?_|refine av (e9 e) rfl rfl ?_
 ·have hn:aP e=5:=by simp[aP,h1]
  rw[if_pos (by rw[hn];simp),hn]
  clear hn ih
  repeat' first|simp(disch:=omega)only[go_sem, *,h1]|apply ab<;>intro h<;>try omega|refine av (dT e) rfl rfl ?_
theorem Bt (e:Ex): ∀n:Nat,1≤n→n≤1000000→af Ya nC [gc e,I n] (I (min e.dep n:Nat)):=by
 refine Ex.ind (p:= λe=> ∀n:Nat,1≤n→n≤1000000→af Ya nC [gc e,I n] (I (min e.dep n:Nat))) (λe ih n h1 h2=> ?_) e
 refine af.of B7 (by simp) λhb=>aa ?_
 have hl:=(dt hb).1
 simp only[uB]
 rw[Ex.dep_eq]
 repeat' first|simp(disch:=omega)only[go_sem, *]|apply ab<;>intro h<;>try omega
 refine ai (λk:Nat=>⟨[(6,I k),(5,I (min (1+Ex.deps (e.args.take k)) n:Nat)),(1,I n),(2,.c (.ptr 0 0))], [(0,tL e)],1,0⟩) (λk=>k≤e.args.length) (λk=>e.args.length-k) ⟨0, [],by omega,by simp[Ex.deps,Nat.min_eq_left h1]⟩ ?_
 rintro k hk
 refine aa ?_
 by_cases hn:1<n
 ·by_cases d:k<e.args.length
  ·have o:=ih _ (List.getElem_mem d) (n-1) (by omega) (by omega)
   rw[show((n-1:Nat):Int)=(n:Int)-1 by omega]at o
   have hd:=Ex.deps_take d
   clear ih
   repeat' first|simp(disch:=omega)only[go_sem, *,ac d,Ex.row_eq,wrap_i64]|apply ab<;>intro h<;>try omega|refine av o rfl rfl ?_
   have he:max ((min (1+Ex.deps (e.args.take k)) n:Nat):Int) (1+((min e.args[k].dep (n-1):Nat):Int))=((min (1+Ex.deps (e.args.take (k+1))) n:Nat):Int):=by rw[hd];omega
   rw[he]
   exact⟨k+1, [],by omega,by omega,by simp⟩
  ·repeat' first|simp(disch:=omega)only[go_sem, *]|apply ab<;>intro h<;>try omega
   rw[List.take_of_length_le (by omega)]
 ·have e1:min (1+Ex.deps (e.args.take k)) n=min (1+Ex.deps e.args) n:=by omega
  repeat' first|simp(disch:=omega)only[go_sem, *]|apply ab<;>intro h<;>try omega
  all_goals rw[e1]
theorem BJ (e:Ex):af Ya vB [gc e] (I (min e.dep 41:Nat)):=by
 refine af.of DD (by simp) λhb=>aa ?_
 simp only[uL]
 repeat' first|simp(disch:=omega)only[go_sem, *]|apply ab<;>intro h<;>try omega|refine av (Bt e 41 (by omega) (by omega)) rfl rfl ?_
theorem CG (e:Ex): ∀n:Nat,n≤1000000→af Ya pR [gc e,I n] (I (min e.sz (n+1):Nat)):=by
 refine Ex.ind (p:= λe=> ∀n:Nat,n≤1000000→af Ya pR [gc e,I n] (I (min e.sz (n+1):Nat))) (λe ih n h2=> ?_) e
 refine af.of EW (by simp) λhb=>aa ?_
 have hl:=(dt hb).1
 simp only[yC]
 rw[Ex.sz_eq]
 repeat' first|simp(disch:=omega)only[go_sem, *]|apply ab<;>intro h<;>try omega
 refine ai (λs:Nat×Nat=>⟨[(6,I s.1),(5,I s.2),(1,I n),(2,.c (.ptr 0 0))], [(0,tL e)],1,0⟩) (λs=>s.1≤e.args.length∧Hid (s.2=min (1+Ex.szs (e.args.take s.1)) (n+1))) (λs=>e.args.length-s.1) ⟨(0,1), [],⟨by omega,by show _=_;simp[Ex.szs]⟩,by simp⟩ ?_
 rintro⟨k,m⟩ ⟨hk,hm⟩
 refine aa ?_
 simp only at hk hm
 by_cases hn:m≤n
 ·by_cases d:k<e.args.length
  ·have o:=ih _ (List.getElem_mem d) (n-m) (by omega)
   rw[show((n-m:Nat):Int)=(n:Int)-m by omega]at o
   have hd:=Ex.szs_take d
   have he:m+min e.args[k].sz (n-m+1)=min (1+Ex.szs (e.args.take (k+1))) (n+1):=by have:=hm.out;rw[hd];omega
   have HE:=Lib.hid he
   clear ih hd he
   repeat' first|simp(disch:=omega)only[go_sem, *,ac d,Ex.row_eq,wrap_i64]|apply ab<;>intro h<;>try omega|refine av o rfl rfl ?_
   exact⟨(k+1,m+min e.args[k].sz (n-m+1)), [],⟨by omega,HE⟩,by show _-_<_-_;omega,by simp⟩
  ·repeat' first|simp(disch:=omega)only[go_sem, *]|apply ab<;>intro h<;>try omega
   have:=hm.out
   rw[List.take_of_length_le (by omega)]at this
   rw[this]
 ·have y:=hm.out
  have h3:Ex.szs (e.args.take k)≤Ex.szs e.args:=by
   conv=>rhs;rw[←List.take_append_drop k e.args,Ex.szs_append]
   omega
  have e1:(m:Int)=((min (1+Ex.szs e.args) (n+1):Nat):Int):=by omega
  have E1:=Lib.hid e1
  clear e1 y h3
  repeat' first|simp(disch:=omega)only[go_sem, *]|apply ab<;>intro h<;>try omega
  all_goals rw[E1.out]
theorem DN (e:Ex):af Ya ya [gc e] (I (min e.sz 2001:Nat)):=by
 refine af.of Fi (by simp) λhb=>aa ?_
 simp only[wR]
 repeat' first|simp(disch:=omega)only[go_sem, *]|apply ab<;>intro h<;>try omega|refine av (CG e 2000 (by omega)) rfl rfl ?_
 rw[show min ((min e.sz (2000+1):Nat):Int) 2001=((min e.sz 2001:Nat):Int) by omega]
theorem vF {e:Ex} (q: ∀a∈e.pre,o9 a.val):af Ya nX [gc e] (I (gn e)):=by
 refine af.of yt (by simp) λhb=>aa ?_
 simp only[od]
 have h1:=CP e q
 unfold gn
 repeat' first|simp(disch:=omega)only[go_sem, *]|apply ab<;>intro h<;>try omega|refine av (BJ e) rfl rfl ?_|refine av (DN e) rfl rfl ?_|refine av h1 rfl rfl ?_
 all_goals(repeat' split)<;>first|rfl|omega
end Go.Proofs.YtjhkikmonejkjaaGreatDoor
