import Derived.Test.YtiapgekjmcjjgaaGreatDoorV14b
set_option maxHeartbeats 4000000
set_option linter.unusedVariables false
set_option linter.unusedSimpArgs false
set_option maxRecDepth 1000000
open Go.Proofs.Tryz renaming prog→Ya
namespace Go.Proofs.YtiapgekjmcjjgaaGreatDoor
open Go.Abs Go.RowKit
def Vr (x:Ix):Prop:=aI x.1.2∧ ∀l∈x.2.2,aI l.2
theorem uQ {e:Ex}:rc e↔(e.op=1→fR e.ty e.val)∧aI e.lin.2∧ ∀x∈e.idx,Vr x:=by
 unfold rc Ex.forms Vr
 constructor
 ·rintro⟨h1,h2⟩
  refine⟨h1,h2 _ List.mem_cons_self,λx hx=>⟨h2 _ (List.mem_cons_of_mem _ (List.mem_flatMap.2 ⟨x,hx,List.mem_cons_self⟩)),λl hl=>h2 _ (List.mem_cons_of_mem _ (List.mem_flatMap.2 ⟨x,hx,List.mem_cons_of_mem _ hl⟩))⟩⟩
 ·rintro⟨h1,h2,h3⟩
  refine⟨h1,λl hl=> ?_⟩
  rcases List.mem_cons.1 hl with rfl|hl
  ·exact h2
  ·obtain⟨x,hx,hl⟩:=List.mem_flatMap.1 hl
   rcases List.mem_cons.1 hl with rfl|hl
   ·exact(h3 x hx).1
   ·exact(h3 x hx).2 l hl
theorem m9 {e:Ex} (ht:e.op=1→kU e.ty) (hv:pE e.val) (hr: ∀x∈e.idx,x.2.2.length≤6):ac Ya 215 [fE e] (Go.Abs.B (decide (rc e))):=by
 refine ac.of yr (by simp) λhb=>aa ?_
 have hl:=(ed hb).2
 conv in bh _ _=>cbv
 repeat' first|simp(disch:=omega)only[go_sem, *]|apply ab<;>intro h<;>try omega|refine aq (H4 (ht (by assumption)) hv) rfl rfl ?_|refine aq (dA _ _) rfl rfl ?_
 all_goals first
  |(refine BD ?_;clear hb;simp only[Bool.not_eq_true',xP,yB,reduceCtorEq,false_iff,true_iff,not_exists,not_and,Classical.not_not,decide_eq_true_iff,decide_eq_false_iff_not];first|done|grind [uQ])
  |skip
 all_goals(
  have hs:(e.op=1→fR e.ty e.val)∧aI e.lin.2:=by grind
  refine ai (λk:Nat=>⟨[(3,I k),(1,.c (.ptr 0 0))], [(0,zB e)],1,0⟩) (λk=>k≤e.idx.length∧dZ (λi=> ∀h:i<e.idx.length,Vr e.idx[i]) k) (λk=>e.idx.length-k) ⟨0, [],⟨by omega,.zero⟩,by simp[*]⟩ ?_
  repeat clear h
  have HT:=Lib.hid hs
  clear hs ht
  rintro k ⟨hk,f⟩
  refine aa ?_
  by_cases d:k<e.idx.length
  ·have h6:=hr _ (List.getElem_mem d)
   repeat' first|simp(disch:=omega)only[go_sem, *,ah d,eR,wrap_i64]|apply ab<;>intro h<;>try omega|refine aq (dA _ _) rfl rfl ?_
   ·refine ai (λj:Nat=>⟨[(4,I j),(3,I k),(1,.c (.ptr 0 0))], [(0,zB e)],1,0⟩) (λj=>j≤e.idx[k].2.2.length∧dZ (λi=> ∀h:i<e.idx[k].2.2.length,aI e.idx[k].2.2[i].2) j) (λj=>e.idx[k].2.2.length-j) ⟨0, [],⟨by omega,.zero⟩,by simp⟩ ?_
    rintro j ⟨hj,t⟩
    refine aa ?_
    by_cases v:j<e.idx[k].2.2.length
    ·repeat' first|simp(disch:=omega)only[go_sem, *,ah d,ah v,eR,b9,wrap_i64]|apply ab<;>intro h<;>try omega|refine aq (dA _ _) rfl rfl ?_
     ·exact⟨j+1, [],⟨by omega,t.succ λ_=>h⟩,by omega,by simp⟩
     ·refine BD ⟨λh=>(by cases h),λh'=> ?_⟩
      exact absurd (((uQ.1 h').2.2 _ (List.getElem_mem d)).2 _ (List.getElem_mem v)) h
    ·repeat' first|simp(disch:=omega)only[go_sem, *,ah d,eR,wrap_i64]|apply ab<;>intro h<;>try omega
     refine⟨k+1, [],⟨by omega,f.succ λ_=>⟨‹_›,λl hl=> ?_⟩⟩,by omega,by simp⟩
     obtain⟨i,hi,rfl⟩:=List.mem_iff_getElem.1 hl
     exact t i (by omega) hi
   ·refine BD ⟨λh=>(by cases h),λh'=> ?_⟩
    exact absurd ((uQ.1 h').2.2 _ (List.getElem_mem d)).1 h
  ·repeat' first|simp(disch:=omega)only[go_sem, *]|apply ab<;>intro h<;>try omega
   refine BD ⟨λ_=>uQ.2 ⟨HT.out.1,HT.out.2,λx hx=> ?_⟩,λ_=>rfl⟩
   obtain⟨i,hi,rfl⟩:=List.mem_iff_getElem.1 hx
   exact f i (by omega) hi)
theorem C2 {l:List Ex} {k:Nat} (h:k<l.length) (hf:de ((Ex.pres (l.take k)).map bf)=0):de ((Ex.pres (l.take (k+1))).map bf)=i5 l[k]:=by
 rw[Ex.pres_take h,List.map_append,jQ,if_neg (by rw[hf];simp)]
 rfl
theorem Nk {l:List Ex} {k:Nat} (h:k<l.length) (hf:de ((Ex.pres (l.take k)).map bf)=0) (hp:i5 l[k]≠0):de ((Ex.pres l).map bf)=i5 l[k]:=by
 have key:de ((Ex.pres (l.take (k+1)++l.drop (k+1))).map bf)=i5 l[k]:=by
  rw[Ex.pres_append,List.map_append,jQ,C2 h hf,if_pos hp]
 rw[List.take_append_drop]at key
 exact key
theorem Rs {e a b:Ex} (ha:a∈e.args) (hb:b∈a.pre):b∈e.pre:=by
 rw[Ex.pre_eq]
 refine List.mem_cons_of_mem _ ?_
 generalize e.args=l at ha
 induction l with
 |nil=>cases ha
 |cons x r w=>
  rw[Ex.pres]
  rcases List.mem_cons.1 ha with rfl|ha
  ·exact List.mem_append_left _ hb
  ·exact List.mem_append_right _ (w ha)
theorem zk (e:Ex):(∀a∈e.pre,pE a.val)→ac Ya 182 [fE e] (I (i5 e)):=by
 refine Ex.ind (p:= λe=>(∀a∈e.pre,pE a.val)→ac Ya 182 [fE e] (I (i5 e))) (λe ih q=> ?_) e
 refine ac.of Cn (by simp) λhb=>aa ?_
 have hl:=(ed hb).1
 have hv:pE e.val:=q e (by rw[Ex.pre_eq];exact List.mem_cons_self)
 have u: ∀a∈e.args,∀b∈a.pre,pE b.val:= λa ha b hb=>q b (Rs ha hb)
 conv in bh _ _=>cbv
 rw[JF]
 by_cases h1:nK e
 ·by_cases h2:rv e
  ·by_cases h3:rt e
   ·by_cases h4:lB e
    ·by_cases h5:rc e
     ·have hn:bf e=0:=by simp[bf,h1,h2,h3,h4,h5]
      have g:=m9 (e:=e) (λh=>h4.1 (.inl h)) hv h3.2.2
      rw[if_neg (by rw[hn];simp)]
      have HN:=Lib.hid hn
      clear hn
      repeat' first|simp(disch:=omega)only[go_sem, *,h1,h2,h3,h4,h5]|apply ab<;>intro h<;>try omega|refine aq (eX e) rfl rfl ?_|refine aq (fT e) rfl rfl ?_|refine aq (gJ e) rfl rfl ?_|refine aq (kg e) rfl rfl ?_|refine aq g rfl rfl ?_
      refine ai (λk:Nat=>⟨[(3,I k),(1,.c (.ptr 0 0))], [(0,zB e)],1,0⟩) (λk=>k≤e.args.length∧Hid (de ((Ex.pres (e.args.take k)).map bf)=0)) (λk=>e.args.length-k) ⟨0, [],⟨by omega,by show _=_;simp[Ex.pres,de]⟩,by simp⟩ ?_
      clear h1 h2 h3 h4 h5 g
      rintro k ⟨hk,f⟩
      refine aa ?_
      by_cases d:k<e.args.length
      ·have o:=ih _ (List.getElem_mem d) (u _ (List.getElem_mem d))
       clear ih u
       by_cases hp:i5 e.args[k]=0
       ·repeat' first|simp(disch:=omega)only[go_sem, *,ah d,Ex.row_eq,wrap_i64,hp]|apply ab<;>intro h<;>try omega|refine aq o rfl rfl ?_
        exact⟨k+1, [],⟨by omega,by show _=_;rw[C2 d f.out];exact hp⟩,by omega,by simp⟩
       ·repeat' first|simp(disch:=omega)only[go_sem, *,ah d,Ex.row_eq,wrap_i64,hp]|apply ab<;>intro h<;>try omega|refine aq o rfl rfl ?_
        rw[Nk d f.out hp]
      ·repeat' first|simp(disch:=omega)only[go_sem, *]|apply ab<;>intro h<;>try omega
       have:=f.out
       rw[List.take_of_length_le (by omega)]at this
       rw[this]
     ·have hn:bf e=1:=by simp[bf,h1,h2,h3,h4,h5]
      have g:=m9 (e:=e) (λh=>h4.1 (.inl h)) hv h3.2.2
      rw[if_pos (by rw[hn];simp),hn]
      clear hn ih
      repeat' first|simp(disch:=omega)only[go_sem, *,h1,h2,h3,h4,h5]|apply ab<;>intro h<;>try omega|refine aq (eX e) rfl rfl ?_|refine aq (fT e) rfl rfl ?_|refine aq (gJ e) rfl rfl ?_|refine aq (kg e) rfl rfl ?_|refine aq g rfl rfl ?_
    ·have hn:bf e=10:=by simp[bf,h1,h2,h3,h4]
     rw[if_pos (by rw[hn];simp),hn]
     clear hn ih
     repeat' first|simp(disch:=omega)only[go_sem, *,h1,h2,h3,h4]|apply ab<;>intro h<;>try omega|refine aq (eX e) rfl rfl ?_|refine aq (fT e) rfl rfl ?_|refine aq (gJ e) rfl rfl ?_|refine aq (kg e) rfl rfl ?_
   ·have hn:bf e=11:=by simp[bf,h1,h2,h3]
    rw[if_pos (by rw[hn];simp),hn]
    clear hn ih
    repeat' first|simp(disch:=omega)only[go_sem, *,h1,h2,h3]|apply ab<;>intro h<;>try omega|refine aq (eX e) rfl rfl ?_|refine aq (fT e) rfl rfl ?_|refine aq (gJ e) rfl rfl ?_
  ·have hn:bf e=7:=by simp[bf,h1,h2]
   rw[if_pos (by rw[hn];simp),hn]
   clear hn ih
   repeat' first|simp(disch:=omega)only[go_sem, *,h1,h2]|apply ab<;>intro h<;>try omega|refine aq (eX e) rfl rfl ?_|refine aq (fT e) rfl rfl ?_
 ·have hn:bf e=5:=by simp[bf,h1]
  rw[if_pos (by rw[hn];simp),hn]
  clear hn ih
  repeat' first|simp(disch:=omega)only[go_sem, *,h1]|apply ab<;>intro h<;>try omega|refine aq (eX e) rfl rfl ?_
theorem xS (e:Ex): ∀n:Nat,1≤n→n≤1000000→ac Ya 209 [fE e,I n] (I (min e.dep n:Nat)):=by
 refine Ex.ind (p:= λe=> ∀n:Nat,1≤n→n≤1000000→ac Ya 209 [fE e,I n] (I (min e.dep n:Nat))) (λe ih n h1 h2=> ?_) e
 refine ac.of zH (by simp) λhb=>aa ?_
 have hl:=(ed hb).1
 conv in bh _ _=>cbv
 rw[Ex.dep_eq]
 repeat' first|simp(disch:=omega)only[go_sem, *]|apply ab<;>intro h<;>try omega
 refine ai (λk:Nat=>⟨[(6,I k),(5,I (min (1+Ex.deps (e.args.take k)) n:Nat)),(1,I n),(2,.c (.ptr 0 0))], [(0,zB e)],1,0⟩) (λk=>k≤e.args.length) (λk=>e.args.length-k) ⟨0, [],by omega,by simp[Ex.deps,Nat.min_eq_left h1]⟩ ?_
 rintro k hk
 refine aa ?_
 by_cases hn:1<n
 ·by_cases d:k<e.args.length
  ·have o:=ih _ (List.getElem_mem d) (n-1) (by omega) (by omega)
   rw[show((n-1:Nat):Int)=(n:Int)-1 by omega]at o
   have hd:=Ex.deps_take d
   clear ih
   repeat' first|simp(disch:=omega)only[go_sem, *,ah d,Ex.row_eq,wrap_i64]|apply ab<;>intro h<;>try omega|refine aq o rfl rfl ?_
   have he:max ((min (1+Ex.deps (e.args.take k)) n:Nat):Int) (1+((min e.args[k].dep (n-1):Nat):Int))=((min (1+Ex.deps (e.args.take (k+1))) n:Nat):Int):=by rw[hd];omega
   rw[he]
   exact⟨k+1, [],by omega,by omega,by simp⟩
  ·repeat' first|simp(disch:=omega)only[go_sem, *]|apply ab<;>intro h<;>try omega
   rw[List.take_of_length_le (by omega)]
 ·have e1:min (1+Ex.deps (e.args.take k)) n=min (1+Ex.deps e.args) n:=by omega
  repeat' first|simp(disch:=omega)only[go_sem, *]|apply ab<;>intro h<;>try omega
  all_goals rw[e1]
theorem xT (e:Ex):ac Ya 180 [fE e] (I (min e.dep 41:Nat)):=by
 refine ac.of z7 (by simp) λhb=>aa ?_
 conv in bh _ _=>cbv
 repeat' first|simp(disch:=omega)only[go_sem, *]|apply ab<;>intro h<;>try omega|refine aq (xS e 41 (by omega) (by omega)) rfl rfl ?_
theorem zC (e:Ex): ∀n:Nat,n≤1000000→ac Ya 210 [fE e,I n] (I (min e.sz (n+1):Nat)):=by
 refine Ex.ind (p:= λe=> ∀n:Nat,n≤1000000→ac Ya 210 [fE e,I n] (I (min e.sz (n+1):Nat))) (λe ih n h2=> ?_) e
 refine ac.of BZ (by simp) λhb=>aa ?_
 have hl:=(ed hb).1
 conv in bh _ _=>cbv
 rw[Ex.sz_eq]
 repeat' first|simp(disch:=omega)only[go_sem, *]|apply ab<;>intro h<;>try omega
 refine ai (λs:Nat×Nat=>⟨[(6,I s.1),(5,I s.2),(1,I n),(2,.c (.ptr 0 0))], [(0,zB e)],1,0⟩) (λs=>s.1≤e.args.length∧Hid (s.2=min (1+Ex.szs (e.args.take s.1)) (n+1))) (λs=>e.args.length-s.1) ⟨(0,1), [],⟨by omega,by show _=_;simp[Ex.szs]⟩,by simp⟩ ?_
 rintro⟨k,m⟩ ⟨hk,hm⟩
 refine aa ?_
 simp only at hk hm
 by_cases hn:m≤n
 ·by_cases d:k<e.args.length
  ·have o:=ih _ (List.getElem_mem d) (n-m) (by omega)
   rw[show((n-m:Nat):Int)=(n:Int)-m by omega]at o
   have hd:=Ex.szs_take d
   have he:m+min e.args[k].sz (n-m+1)=min (1+Ex.szs (e.args.take (k+1))) (n+1):=by have:=hm.out;rw[hd];omega
   have HE:=Lib.hid he
   clear ih hd he
   repeat' first|simp(disch:=omega)only[go_sem, *,ah d,Ex.row_eq,wrap_i64]|apply ab<;>intro h<;>try omega|refine aq o rfl rfl ?_
   exact⟨(k+1,m+min e.args[k].sz (n-m+1)), [],⟨by omega,HE⟩,by show _-_<_-_;omega,by simp⟩
  ·repeat' first|simp(disch:=omega)only[go_sem, *]|apply ab<;>intro h<;>try omega
   have:=hm.out
   rw[List.take_of_length_le (by omega)]at this
   rw[this]
 ·have y:=hm.out
  have h3:Ex.szs (e.args.take k)≤Ex.szs e.args:=by
   conv=>rhs;rw[←List.take_append_drop k e.args,Ex.szs_append]
   omega
  have e1:(m:Int)=((min (1+Ex.szs e.args) (n+1):Nat):Int):=by omega
  have E1:=Lib.hid e1
  clear e1 y h3
  repeat' first|simp(disch:=omega)only[go_sem, *]|apply ab<;>intro h<;>try omega
  all_goals rw[E1.out]
theorem AT (e:Ex):ac Ya 181 [fE e] (I (min e.sz 2001:Nat)):=by
 refine ac.of Cu (by simp) λhb=>aa ?_
 conv in bh _ _=>cbv
 repeat' first|simp(disch:=omega)only[go_sem, *]|apply ab<;>intro h<;>try omega|refine aq (zC e 2000 (by omega)) rfl rfl ?_
 rw[show min ((min e.sz (2000+1):Nat):Int) 2001=((min e.sz 2001:Nat):Int) by omega]
theorem tx {e:Ex} (q: ∀a∈e.pre,pE a.val):ac Ya 137 [fE e] (I (gG e)):=by
 refine ac.of u5 (by simp) λhb=>aa ?_
 conv in bh _ _=>cbv
 have h1:=zk e q
 unfold gG
 repeat' first|simp(disch:=omega)only[go_sem, *]|apply ab<;>intro h<;>try omega|refine aq (xT e) rfl rfl ?_|refine aq (AT e) rfl rfl ?_|refine aq h1 rfl rfl ?_
 all_goals(repeat' split)<;>first|rfl|omega
end Go.Proofs.YtiapgekjmcjjgaaGreatDoor
