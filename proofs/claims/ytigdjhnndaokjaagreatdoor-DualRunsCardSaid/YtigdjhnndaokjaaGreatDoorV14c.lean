import Derived.Test.YtigdjhnndaokjaaGreatDoorV14b
set_option linter.unusedVariables false
set_option linter.unusedSimpArgs false
set_option maxHeartbeats 4000000
set_option maxRecDepth 1000000
open Go.Proofs.Tryz renaming prog→Pa0
namespace Go.Proofs.YtigdjhnndaokjaaGreatDoor
open Go.Abs Go.RowKit
def ixF (x:Ix):Prop:=gN x.1.2∧ ∀l∈x.2.2,gN l.2
variable {e:Ex}
theorem Ek:Ci e↔(e.op=1→aK e.ty e.val)∧gN e.lin.2∧ ∀x∈e.idx,ixF x:=by
 unfold Ci Ex.forms ixF
 constructor
 ·rintro⟨h1,h2⟩
  refine⟨h1,h2 _ zC5,λx hx=>⟨h2 _ (zC3 _ (zM9.2 ⟨x,hx,zC5⟩)),λl hl=>h2 _ (zC3 _ (zM9.2 ⟨x,hx,zC3 _ hl⟩))⟩⟩
 ·rintro⟨h1,h2,h3⟩
  refine⟨h1,λl hl=> ?_⟩
  rcases zD7.1 hl with rfl|hl
  ·exact h2
  ·obtain⟨x,hx,hl⟩:=zM9.1 hl
   rcases zD7.1 hl with rfl|hl
   ·exact(h3 x hx).1
   ·exact(h3 x hx).2 l hl
theorem tH (ht:e.op=1→cj e.ty) (hv:bD e.val) (hr: ∀x∈e.idx,x.2.2.length≤6):ac Pa0 qw [fp e] (Go.Abs.B (decide (Ci e))):=by
 refine ac.of IZ zR6 λhb=>aa ?_
 have hl:=(dq hb).2
 conv in yS=>cbv
 repeat' first|simp(disch:=omega)only[go_sem, *]|apply ab<;>intro h<;>try omega|refine ah (eZ (ht (by assumption)) hv) rfl (.inl rfl) ?_|refine ak (fl _ _) ?_
 all_goals first
  |(refine BD ?_;clear hb;simp only[Bool.not_eq_true',H6,Hw,reduceCtorEq,false_iff,true_iff,not_exists,not_and,Classical.not_not,decide_eq_true_iff,decide_eq_false_iff_not];first|done|grind [Ek])
  |skip
 all_goals(
  have hs:(e.op=1→aK e.ty e.val)∧gN e.lin.2:=by grind
  refine al (λk:Nat=>⟨[(3,I k),(1,.c (.ptr 0 0))], [(0,zO e)],1,0⟩) (λk=>k≤e.idx.length∧ct (λi=> ∀h:i<e.idx.length,ixF e.idx[i]) k) (λk=>e.idx.length-k) ⟨0, [],⟨by omega,.zero⟩,by simp[*]⟩ ?_
  repeat clear h
  have HT:=Lib.hid hs
  clear hs ht
  rintro k ⟨hk,f⟩
  refine aa ?_
  by_cases d:k<e.idx.length
  ·have h6:=hr _ (zA6 d)
   repeat' first|simp(disch:=omega)only[go_sem, *,ae d,gS,wrap_i64]|apply ab<;>intro h<;>try omega|refine ak (fl _ _) ?_
   ·refine al (λj:Nat=>⟨[(4,I j),(3,I k),(1,.c (.ptr 0 0))], [(0,zO e)],1,0⟩) (λj=>j≤e.idx[k].2.2.length∧ct (λi=> ∀h:i<e.idx[k].2.2.length,gN e.idx[k].2.2[i].2) j) (λj=>e.idx[k].2.2.length-j) ⟨0, [],⟨by omega,.zero⟩,by simp⟩ ?_
    rintro j ⟨hj,t⟩
    refine aa ?_
    by_cases v:j<e.idx[k].2.2.length
    ·repeat' first|simp(disch:=omega)only[go_sem, *,ae d,ae v,gS,bT,wrap_i64]|apply ab<;>intro h<;>try omega|refine ak (fl _ _) ?_
     ·exact⟨j+1, [],⟨by omega,t.succ λ_=>h⟩,by omega,by simp⟩
     ·refine BD ⟨λh=> zT0,λh'=> ?_⟩
      exact absurd (((Ek.1 h').2.2 _ (zA6 d)).2 _ (zA6 v)) h
    ·repeat' first|simp(disch:=omega)only[go_sem, *,ae d,gS,wrap_i64]|apply ab<;>intro h<;>try omega
     refine⟨k+1, [],⟨by omega,f.succ λ_=>⟨‹_›,λl hl=> ?_⟩⟩,by omega,by simp⟩
     obtain⟨i,hi,rfl⟩:=zC2.1 hl
     exact t i zR5 hi
   ·refine BD ⟨λh=> zT0,λh'=> ?_⟩
    exact absurd ((Ek.1 h').2.2 _ (zA6 d)).1 h
  ·repeat' first|simp(disch:=omega)only[go_sem, *]|apply ab<;>intro h<;>try omega
   refine BD ⟨λ_=>Ek.2 ⟨HT.out.1,HT.out.2,λx hx=> ?_⟩,λ_=>rfl⟩
   obtain⟨i,hi,rfl⟩:=zC2.1 hx
   exact f i zR5 hi)
variable {l:List Ex}
theorem O2 {k:Nat} (h:k<l.length) (hf:dz ((Ex.pres (l.take k)).map bo)=0):dz ((Ex.pres (l.take (k+1))).map bo)=jE l[k]:=by
 rw[Ex.pres_take h,zC8,nl,if_neg (by rw[hf];simp)]
 rfl
theorem WV {k:Nat} (h:k<l.length) (hf:dz ((Ex.pres (l.take k)).map bo)=0) (hp:jE l[k]≠0):dz ((Ex.pres l).map bo)=jE l[k]:=by
 have key:dz ((Ex.pres (l.take (k+1)++l.drop (k+1))).map bo)=jE l[k]:=by
  rw[Ex.pres_append,zC8,nl,O2 h hf,if_pos hp]
 rw[zF1]at key
 exact key
theorem abD {a b:Ex} (ha:a∈e.args) (hb:b∈a.pre):b∈e.pre:=by
 rw[Ex.pre_eq]
 refine zC3 _ ?_
 generalize e.args=l at ha
 induction l with
 |nil=>cases ha
 |cons x r w=>
  rw[Ex.pres]
  rcases zD7.1 ha with rfl|ha
  ·exact zF5 _ hb
  ·exact zE5 _ (w ha)
theorem MH (e:Ex):(∀a∈e.pre,bD a.val)→ac Pa0 oG [fp e] (I (jE e)):=by
 refine Ex.ind (p:= λe=>(∀a∈e.pre,bD a.val)→ac Pa0 oG [fp e] (I (jE e))) (λe ih q=> ?_) e
 refine ac.of No zR6 λhb=>aa ?_
 have hl:=(dq hb).1
 have hv:bD e.val:=q e (by rw[Ex.pre_eq];exact zC5)
 have u: ∀a∈e.args,∀b∈a.pre,bD b.val:= λa ha b hb=>q b (abD ha hb)
 conv in CW=>cbv
 rw[J7]
 by_cases h1:AH e
 ·by_cases h2:AB e
  ·by_cases h3:AM e
   ·by_cases h4:tf e
    ·by_cases h5:Ci e
     ·have hn:bo e=0:=by simp[bo,h1,h2,h3,h4,h5]
      have g:=tH (e:=e) (λh=>h4.1 (.inl h)) hv h3.2.2
      rw[if_neg zU0]
      have HN:=Lib.hid hn
      clear hn
      repeat' first|simp(disch:=omega)only[go_sem, *,h1,h2,h3,h4,h5]|apply ab<;>intro h<;>try omega|refine ak (eY e) ?_|refine ak (gB e) ?_|refine ak (iJ e) ?_|refine ak (nJ e) ?_|refine ak g ?_
      refine al (λk:Nat=>⟨[(3,I k),(1,.c (.ptr 0 0))], [(0,zO e)],1,0⟩) (λk=>k≤e.args.length∧Hid (dz ((Ex.pres (e.args.take k)).map bo)=0)) (λk=>e.args.length-k) ⟨0, [],⟨by omega,by show _=_;simp[Ex.pres,dz]⟩,by simp⟩ ?_
      clear h1 h2 h3 h4 h5 g
      rintro k ⟨hk,f⟩
      refine aa ?_
      by_cases d:k<e.args.length
      ·have o:=ih _ (zA6 d) (u _ (zA6 d))
       clear ih u
       by_cases hp:jE e.args[k]=0
       ·repeat' first|simp(disch:=omega)only[go_sem, *,ae d,Ex.row_eq,wrap_i64,hp]|apply ab<;>intro h<;>try omega|refine ak o ?_
        exact⟨k+1, [],⟨by omega,by show _=_;rw[O2 d f.out];exact hp⟩,by omega,by simp⟩
       ·repeat' first|simp(disch:=omega)only[go_sem, *,ae d,Ex.row_eq,wrap_i64,hp]|apply ab<;>intro h<;>try omega|refine ak o ?_
        rw[WV d f.out hp]
      ·repeat' first|simp(disch:=omega)only[go_sem, *]|apply ab<;>intro h<;>try omega
       have:=f.out
       rw[zB6 zR5]at this
       rw[this]
     ·have hn:bo e=1:=by simp[bo,h1,h2,h3,h4,h5]
      have g:=tH (e:=e) (λh=>h4.1 (.inl h)) hv h3.2.2
      rw[if_pos zU0,hn]
      clear hn ih
      repeat' first|simp(disch:=omega)only[go_sem, *,h1,h2,h3,h4,h5]|apply ab<;>intro h<;>try omega|refine ak (eY e) ?_|refine ak (gB e) ?_|refine ak (iJ e) ?_|refine ak (nJ e) ?_|refine ak g ?_
    ·have hn:bo e=10:=by simp[bo,h1,h2,h3,h4]
     rw[if_pos zU0,hn]
     clear hn ih
     repeat' first|simp(disch:=omega)only[go_sem, *,h1,h2,h3,h4]|apply ab<;>intro h<;>try omega|refine ak (eY e) ?_|refine ak (gB e) ?_|refine ak (iJ e) ?_|refine ak (nJ e) ?_
   ·have hn:bo e=11:=by simp[bo,h1,h2,h3]
    rw[if_pos zU0,hn]
    clear hn ih
    repeat' first|simp(disch:=omega)only[go_sem, *,h1,h2,h3]|apply ab<;>intro h<;>try omega|refine ak (eY e) ?_|refine ak (gB e) ?_|refine ak (iJ e) ?_
  ·have hn:bo e=7:=by simp[bo,h1,h2]
   rw[if_pos zU0,hn]
   clear hn ih
   repeat' first|simp(disch:=omega)only[go_sem, *,h1,h2]|apply ab<;>intro h<;>try omega|refine ak (eY e) ?_|refine ak (gB e) ?_
 ·have hn:bo e=5:=by simp[bo,h1]
  rw[if_pos zU0,hn]
  clear hn ih
  repeat' first|simp(disch:=omega)only[go_sem, *,h1]|apply ab<;>intro h<;>try omega|refine ak (eY e) ?_
theorem IQ (e:Ex): ∀n:Nat,1≤n→n≤1000000→ac Pa0 mG [fp e,I n] (I (min e.dep n:Nat)):=by
 refine Ex.ind (p:= λe=> ∀n:Nat,1≤n→n≤1000000→ac Pa0 mG [fp e,I n] (I (min e.dep n:Nat))) (λe ih n h1 h2=> ?_) e
 refine ac.of Lm zR6 λhb=>aa ?_
 have hl:=(dq hb).1
 conv in AS=>cbv
 rw[Ex.dep_eq]
 repeat' first|simp(disch:=omega)only[go_sem, *]|apply ab<;>intro h<;>try omega
 refine al (λk:Nat=>⟨[(6,I k),(5,I (min (1+Ex.deps (e.args.take k)) n:Nat)),(1,I n),(2,.c (.ptr 0 0))], [(0,zO e)],1,0⟩) (λk=>k≤e.args.length) (λk=>e.args.length-k) ⟨0, [],by omega,by simp[Ex.deps,zI8 h1]⟩ ?_
 rintro k hk
 refine aa ?_
 by_cases hn:1<n
 ·by_cases d:k<e.args.length
  ·have o:=ih _ (zA6 d) (n-1) zR5 zR5
   rw[show((n-1:Nat):Int)=(n:Int)-1 by omega]at o
   have hd:=Ex.deps_take d
   clear ih
   repeat' first|simp(disch:=omega)only[go_sem, *,ae d,Ex.row_eq,wrap_i64]|apply ab<;>intro h<;>try omega|refine ak o ?_
   have he:max ((min (1+Ex.deps (e.args.take k)) n:Nat):Int) (1+((min e.args[k].dep (n-1):Nat):Int))=((min (1+Ex.deps (e.args.take (k+1))) n:Nat):Int):=by rw[hd];omega
   rw[he]
   exact⟨k+1, [],by omega,by omega,by simp⟩
  ·repeat' first|simp(disch:=omega)only[go_sem, *]|apply ab<;>intro h<;>try omega
   rw[zB6 zR5]
 ·have e1:min (1+Ex.deps (e.args.take k)) n=min (1+Ex.deps e.args) n:=by omega
  repeat' first|simp(disch:=omega)only[go_sem, *]|apply ab<;>intro h<;>try omega
  all_goals rw[e1]
theorem Io (e:Ex):ac Pa0 sV [fp e] (I (min e.dep 41:Nat)):=by
 refine ac.of Kp zR6 λhb=>aa ?_
 conv in BQ=>cbv
 repeat' first|simp(disch:=omega)only[go_sem, *]|apply ab<;>intro h<;>try omega|refine ak (IQ e 41 zR5 zR5) ?_
theorem K3 (e:Ex): ∀n:Nat,n≤1000000→ac Pa0 oL [fp e,I n] (I (min e.sz (n+1):Nat)):=by
 refine Ex.ind (p:= λe=> ∀n:Nat,n≤1000000→ac Pa0 oL [fp e,I n] (I (min e.sz (n+1):Nat))) (λe ih n h2=> ?_) e
 refine ac.of NA zR6 λhb=>aa ?_
 have hl:=(dq hb).1
 conv in Dj=>cbv
 rw[Ex.sz_eq]
 repeat' first|simp(disch:=omega)only[go_sem, *]|apply ab<;>intro h<;>try omega
 refine al (λs:Nat×Nat=>⟨[(6,I s.1),(5,I s.2),(1,I n),(2,.c (.ptr 0 0))], [(0,zO e)],1,0⟩) (λs=>s.1≤e.args.length∧Hid (s.2=min (1+Ex.szs (e.args.take s.1)) (n+1))) (λs=>e.args.length-s.1) ⟨(0,1), [],⟨by omega,by show _=_;simp[Ex.szs]⟩,by simp⟩ ?_
 rintro⟨k,m⟩ ⟨hk,hm⟩
 refine aa ?_
 simp only at hk hm
 by_cases hn:m≤n
 ·by_cases d:k<e.args.length
  ·have o:=ih _ (zA6 d) (n-m) zR5
   rw[show((n-m:Nat):Int)=(n:Int)-m by omega]at o
   have hd:=Ex.szs_take d
   have he:m+min e.args[k].sz (n-m+1)=min (1+Ex.szs (e.args.take (k+1))) (n+1):=by have:=hm.out;rw[hd];omega
   have HE:=Lib.hid he
   clear ih hd he
   repeat' first|simp(disch:=omega)only[go_sem, *,ae d,Ex.row_eq,wrap_i64]|apply ab<;>intro h<;>try omega|refine ak o ?_
   exact⟨(k+1,m+min e.args[k].sz (n-m+1)), [],⟨by omega,HE⟩,by show _-_<_-_;omega,by simp⟩
  ·repeat' first|simp(disch:=omega)only[go_sem, *]|apply ab<;>intro h<;>try omega
   have:=hm.out
   rw[zB6 zR5]at this
   rw[this]
 ·have y:=hm.out
  have h3:Ex.szs (e.args.take k)≤Ex.szs e.args:=by
   conv=>rhs;rw[←zF1 k e.args,Ex.szs_append]
   omega
  have e1:(m:Int)=((min (1+Ex.szs e.args) (n+1):Nat):Int):=by omega
  have E1:=Lib.hid e1
  clear e1 y h3
  repeat' first|simp(disch:=omega)only[go_sem, *]|apply ab<;>intro h<;>try omega
  all_goals rw[E1.out]
theorem Lv (e:Ex):ac Pa0 uV [fp e] (I (min e.sz 2001:Nat)):=by
 refine ac.of M8 zR6 λhb=>aa ?_
 conv in D4=>cbv
 repeat' first|simp(disch:=omega)only[go_sem, *]|apply ab<;>intro h<;>try omega|refine ak (K3 e 2000 zR5) ?_
 rw[show min ((min e.sz (2000+1):Nat):Int) 2001=((min e.sz 2001:Nat):Int) by omega]
theorem pL (q: ∀a∈e.pre,bD a.val):ac Pa0 mr [fp e] (I (hO e)):=by
 refine ac.of CS zR6 λhb=>aa ?_
 conv in tv=>cbv
 have h1:=MH e q
 unfold hO
 repeat' first|simp(disch:=omega)only[go_sem, *]|apply ab<;>intro h<;>try omega|refine ak (Io e) ?_|refine ak (Lv e) ?_|refine ak h1 ?_
 all_goals(repeat' split)<;>first|rfl|omega
end Go.Proofs.YtigdjhnndaokjaaGreatDoor
