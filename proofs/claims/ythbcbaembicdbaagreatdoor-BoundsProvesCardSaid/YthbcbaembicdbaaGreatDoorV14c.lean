import Derived.Test.YthbcbaembicdbaaGreatDoorV14b
set_option linter.unusedVariables false
set_option linter.unusedSimpArgs false
set_option maxRecDepth 20000
set_option maxHeartbeats 4000000
set_option maxRecDepth 1000000
namespace Go.Proofs.YthbcbaembicdbaaGreatDoor
open Go.Abs Go.RowKit
def ixF (x:Ix):Prop:=bi x.1.2∧ ∀l∈x.2.2,bi l.2
theorem Bp {e:Ex}:vQ e↔(e.op=1→fY e.ty e.val)∧bi e.lin.2∧ ∀x∈e.idx,ixF x:=by
 unfold vQ Ex.forms ixF
 constructor
 ·rintro⟨h1,h2⟩
  refine⟨h1,h2 _ List.mem_cons_self,fun x hx=>⟨h2 _ (List.mem_cons_of_mem _ (List.mem_flatMap.2 ⟨x,hx,List.mem_cons_self⟩)),fun l hl=>h2 _ (List.mem_cons_of_mem _ (List.mem_flatMap.2 ⟨x,hx,List.mem_cons_of_mem _ hl⟩))⟩⟩
 ·rintro⟨h1,h2,h3⟩
  refine⟨h1,fun l hl=> ?_⟩
  rcases List.mem_cons.1 hl with rfl|hl
  ·exact h2
  ·obtain⟨x,hx,hl⟩:=List.mem_flatMap.1 hl
   rcases List.mem_cons.1 hl with rfl|hl
   ·exact(h3 x hx).1
   ·exact(h3 x hx).2 l hl
theorem rH {e:Ex} (ht:e.op=1→nb e.ty) (hv:tL e.val) (hr: ∀x∈e.idx,x.2.2.length≤6):ac Tryz.prog uM [fJ e] (Go.Abs.B (decide (vQ e))):=by
 refine ac.of EP (by simp) fun hb=>aa ?_
 have hl:=(eh hb).2
 conv in u0=>cbv
 repeat' first|simp(disch:=omega) only[go_sem, *]|((with_reducible apply ab)<;>intro h<;>try omega)|(refine aF (MZ (ht (by assumption)) hv) rfl rfl ?_)|(refine aF (d9 _ _) rfl rfl ?_)
 all_goals first
  |(refine BD ?_;clear hb;simp only[Bool.not_eq_true',D9,D7,reduceCtorEq,false_iff,true_iff,not_exists,not_and,Classical.not_not,decide_eq_true_iff,decide_eq_false_iff_not];first|done|grind [Bp])
  |skip
 all_goals(
  have hs:(e.op=1→fY e.ty e.val)∧bi e.lin.2:=by grind
  refine an (fun k:Nat=>⟨[(3,I k),(1,.c (.ptr 0 0))], [(0,Gy e)],1,0⟩) (fun k=>k≤e.idx.length∧el (fun i=> ∀h:i<e.idx.length,ixF e.idx[i]) k) (fun k=>e.idx.length-k) ⟨0, [],⟨by omega,.zero⟩,by simp[*]⟩ ?_
  repeat clear h
  have HT:=Lib.hid hs
  clear hs ht
  rintro k ⟨hk,hall⟩
  refine aa ?_
  by_cases hlt:k<e.idx.length
  ·have h6:=hr _ (List.getElem_mem hlt)
   repeat' first|simp(disch:=omega) only[go_sem, *,ah hlt,eQ,wrap_i64]|((with_reducible apply ab)<;>intro h<;>try omega)|(refine aF (d9 _ _) rfl rfl ?_)
   ·refine an (fun j:Nat=>⟨[(4,I j),(3,I k),(1,.c (.ptr 0 0))], [(0,Gy e)],1,0⟩) (fun j=>j≤e.idx[k].2.2.length∧el (fun i=> ∀h:i<e.idx[k].2.2.length,bi e.idx[k].2.2[i].2) j) (fun j=>e.idx[k].2.2.length-j) ⟨0, [],⟨by omega,.zero⟩,by simp⟩ ?_
    rintro j ⟨hj,halj⟩
    refine aa ?_
    by_cases hlj:j<e.idx[k].2.2.length
    ·repeat' first|simp(disch:=omega) only[go_sem, *,ah hlt,ah hlj,eQ,cd,wrap_i64]|((with_reducible apply ab)<;>intro h<;>try omega)|(refine aF (d9 _ _) rfl rfl ?_)
     ·exact⟨j+1, [],⟨by omega,halj.succ fun _=>h⟩,by omega,by simp⟩
     ·refine BD ⟨fun h=>(by cases h),fun h'=> ?_⟩
      exact absurd (((Bp.1 h').2.2 _ (List.getElem_mem hlt)).2 _ (List.getElem_mem hlj)) h
    ·repeat' first|simp(disch:=omega) only[go_sem, *,ah hlt,eQ,wrap_i64]|((with_reducible apply ab)<;>intro h<;>try omega)
     refine⟨k+1, [],⟨by omega,hall.succ fun _=>⟨‹_›,fun l hl=> ?_⟩⟩,by omega,by simp⟩
     obtain⟨i,hi,rfl⟩:=List.mem_iff_getElem.1 hl
     exact halj i (by omega) hi
   ·refine BD ⟨fun h=>(by cases h),fun h'=> ?_⟩
    exact absurd ((Bp.1 h').2.2 _ (List.getElem_mem hlt)).1 h
  ·repeat' first|simp(disch:=omega) only[go_sem, *]|((with_reducible apply ab)<;>intro h<;>try omega)
   refine BD ⟨fun _=>Bp.2 ⟨HT.out.1,HT.out.2,fun x hx=> ?_⟩,fun _=>rfl⟩
   obtain⟨i,hi,rfl⟩:=List.mem_iff_getElem.1 hx
   exact hall i (by omega) hi)
theorem JM {l:List Ex} {k:Nat} (h:k<l.length) (hf:de ((Ex.pres (l.take k)).map bh)=0):de ((Ex.pres (l.take (k+1))).map bh)=jX l[k]:=by
 rw[Ex.pres_take h,List.map_append,li,if_neg (by rw[hf];simp)]
 rfl
theorem Th {l:List Ex} {k:Nat} (h:k<l.length) (hf:de ((Ex.pres (l.take k)).map bh)=0) (hp:jX l[k]≠0):de ((Ex.pres l).map bh)=jX l[k]:=by
 have key:de ((Ex.pres (l.take (k+1)++l.drop (k+1))).map bh)=jX l[k]:=by
  rw[Ex.pres_append,List.map_append,li,JM h hf,if_pos hp]
 rw[List.take_append_drop]at key
 exact key
theorem XZ {e a b:Ex} (ha:a∈e.args) (hb:b∈a.pre):b∈e.pre:=by
 rw[Ex.pre_eq]
 refine List.mem_cons_of_mem _ ?_
 generalize e.args=l at ha
 induction l with
 |nil=>cases ha
 |cons x r ihr=>
  rw[Ex.pres]
  rcases List.mem_cons.1 ha with rfl|ha
  ·exact List.mem_append_left _ hb
  ·exact List.mem_append_right _ (ihr ha)
theorem HU (e:Ex):(∀a∈e.pre,tL a.val)→ac Tryz.prog rP [fJ e] (I (jX e)):=by
 refine Ex.ind (p:=fun e=>(∀a∈e.pre,tL a.val)→ac Tryz.prog rP [fJ e] (I (jX e))) (fun e ih h64=> ?_) e
 refine ac.of Jg (by simp) fun hb=>aa ?_
 have hl:=(eh hb).1
 have hv:tL e.val:=h64 e (by rw[Ex.pre_eq];exact List.mem_cons_self)
 have h64': ∀a∈e.args,∀b∈a.pre,tL b.val:=fun a ha b hb=>h64 b (XZ ha hb)
 conv in BE=>cbv
 rw[QW]
 by_cases h1:ry e
 ·by_cases h2:uB e
  ·by_cases h3:uh e
   ·by_cases h4:nQ e
    ·by_cases h5:vQ e
     ·have hn:bh e=0:=by simp[bh,h1,h2,h3,h4,h5]
      have hform:=rH (e:=e) (fun h=>h4.1 (.inl h)) hv h3.2.2
      rw[if_neg (by rw[hn];simp)]
      have HN:=Lib.hid hn
      clear hn
      repeat' first|simp(disch:=omega) only[go_sem, *,h1,h2,h3,h4,h5]|((with_reducible apply ab)<;>intro h<;>try omega)|(refine aF (e8 e) rfl rfl ?_)|(refine aF (gl e) rfl rfl ?_)|(refine aF (ib e) rfl rfl ?_)|(refine aF (mq e) rfl rfl ?_)|(refine aF hform rfl rfl ?_)
      refine an (fun k:Nat=>⟨[(3,I k),(1,.c (.ptr 0 0))], [(0,Gy e)],1,0⟩) (fun k=>k≤e.args.length∧Hid (de ((Ex.pres (e.args.take k)).map bh)=0)) (fun k=>e.args.length-k) ⟨0, [],⟨by omega,by show _=_;simp[Ex.pres,de]⟩,by simp⟩ ?_
      clear h1 h2 h3 h4 h5 hform
      rintro k ⟨hk,hall⟩
      refine aa ?_
      by_cases hlt:k<e.args.length
      ·have hih:=ih _ (List.getElem_mem hlt) (h64' _ (List.getElem_mem hlt))
       clear ih h64'
       by_cases hp:jX e.args[k]=0
       ·repeat' first|simp(disch:=omega) only[go_sem, *,ah hlt,Ex.row_eq,wrap_i64,hp]|((with_reducible apply ab)<;>intro h<;>try omega)|(refine aF hih rfl rfl ?_)
        exact⟨k+1, [],⟨by omega,by show _=_;rw[JM hlt hall.out];exact hp⟩,by omega,by simp⟩
       ·repeat' first|simp(disch:=omega) only[go_sem, *,ah hlt,Ex.row_eq,wrap_i64,hp]|((with_reducible apply ab)<;>intro h<;>try omega)|(refine aF hih rfl rfl ?_)
        rw[Th hlt hall.out hp]
      ·repeat' first|simp(disch:=omega) only[go_sem, *]|((with_reducible apply ab)<;>intro h<;>try omega)
       have:=hall.out
       rw[List.take_of_length_le (by omega)]at this
       rw[this]
     ·have hn:bh e=1:=by simp[bh,h1,h2,h3,h4,h5]
      have hform:=rH (e:=e) (fun h=>h4.1 (.inl h)) hv h3.2.2
      rw[if_pos (by rw[hn];simp),hn]
      clear hn ih
      repeat' first|simp(disch:=omega) only[go_sem, *,h1,h2,h3,h4,h5]|((with_reducible apply ab)<;>intro h<;>try omega)|(refine aF (e8 e) rfl rfl ?_)|(refine aF (gl e) rfl rfl ?_)|(refine aF (ib e) rfl rfl ?_)|(refine aF (mq e) rfl rfl ?_)|(refine aF hform rfl rfl ?_)
    ·have hn:bh e=10:=by simp[bh,h1,h2,h3,h4]
     rw[if_pos (by rw[hn];simp),hn]
     clear hn ih
     repeat' first|simp(disch:=omega) only[go_sem, *,h1,h2,h3,h4]|((with_reducible apply ab)<;>intro h<;>try omega)|(refine aF (e8 e) rfl rfl ?_)|(refine aF (gl e) rfl rfl ?_)|(refine aF (ib e) rfl rfl ?_)|(refine aF (mq e) rfl rfl ?_)
   ·have hn:bh e=11:=by simp[bh,h1,h2,h3]
    rw[if_pos (by rw[hn];simp),hn]
    clear hn ih
    repeat' first|simp(disch:=omega) only[go_sem, *,h1,h2,h3]|((with_reducible apply ab)<;>intro h<;>try omega)|(refine aF (e8 e) rfl rfl ?_)|(refine aF (gl e) rfl rfl ?_)|(refine aF (ib e) rfl rfl ?_)
  ·have hn:bh e=7:=by simp[bh,h1,h2]
   rw[if_pos (by rw[hn];simp),hn]
   clear hn ih
   repeat' first|simp(disch:=omega) only[go_sem, *,h1,h2]|((with_reducible apply ab)<;>intro h<;>try omega)|(refine aF (e8 e) rfl rfl ?_)|(refine aF (gl e) rfl rfl ?_)
 ·have hn:bh e=5:=by simp[bh,h1]
  rw[if_pos (by rw[hn];simp),hn]
  clear hn ih
  repeat' first|simp(disch:=omega) only[go_sem, *,h1]|((with_reducible apply ab)<;>intro h<;>try omega)|(refine aF (e8 e) rfl rfl ?_)
theorem Ef (e:Ex): ∀n:Nat,1≤n→n≤1000000→ac Tryz.prog qk [fJ e,I n] (I (min e.dep n:Nat)):=by
 refine Ex.ind (p:=fun e=> ∀n:Nat,1≤n→n≤1000000→ac Tryz.prog qk [fJ e,I n] (I (min e.dep n:Nat))) (fun e ih n h1 h2=> ?_) e
 refine ac.of Ic (by simp) fun hb=>aa ?_
 have hl:=(eh hb).1
 conv in yr=>cbv
 rw[Ex.dep_eq]
 repeat' first|simp(disch:=omega) only[go_sem, *]|((with_reducible apply ab)<;>intro h<;>try omega)
 refine an (fun k:Nat=>⟨[(6,I k),(5,I (min (1+Ex.deps (e.args.take k)) n:Nat)),(1,I n),(2,.c (.ptr 0 0))], [(0,Gy e)],1,0⟩) (fun k=>k≤e.args.length) (fun k=>e.args.length-k) ⟨0, [],by omega,by simp[Ex.deps,Nat.min_eq_left h1]⟩ ?_
 rintro k hk
 refine aa ?_
 by_cases hn:1<n
 ·by_cases hlt:k<e.args.length
  ·have hih:=ih _ (List.getElem_mem hlt) (n-1) (by omega) (by omega)
   rw[show((n-1:Nat):Int)=(n:Int)-1 by omega]at hih
   have hd:=Ex.deps_take hlt
   clear ih
   repeat' first|simp(disch:=omega) only[go_sem, *,ah hlt,Ex.row_eq,wrap_i64]|((with_reducible apply ab)<;>intro h<;>try omega)|(refine aF hih rfl rfl ?_)
   have he:max ((min (1+Ex.deps (e.args.take k)) n:Nat):Int) (1+((min e.args[k].dep (n-1):Nat):Int))=((min (1+Ex.deps (e.args.take (k+1))) n:Nat):Int):=by rw[hd];omega
   rw[he]
   exact⟨k+1, [],by omega,by omega,by simp⟩
  ·repeat' first|simp(disch:=omega) only[go_sem, *]|((with_reducible apply ab)<;>intro h<;>try omega)
   rw[List.take_of_length_le (by omega)]
 ·have e1:min (1+Ex.deps (e.args.take k)) n=min (1+Ex.deps e.args) n:=by omega
  repeat' first|simp(disch:=omega) only[go_sem, *]|((with_reducible apply ab)<;>intro h<;>try omega)
  all_goals rw[e1]
theorem EC (e:Ex):ac Tryz.prog yG [fJ e] (I (min e.dep 41:Nat)):=by
 refine ac.of Ie (by simp) fun hb=>aa ?_
 conv in yq=>cbv
 repeat' first|simp(disch:=omega) only[go_sem, *]|((with_reducible apply ab)<;>intro h<;>try omega)|(refine aF (Ef e 41 (by omega) (by omega)) rfl rfl ?_)
theorem FF (e:Ex): ∀n:Nat,n≤1000000→ac Tryz.prog sj [fJ e,I n] (I (min e.sz (n+1):Nat)):=by
 refine Ex.ind (p:=fun e=> ∀n:Nat,n≤1000000→ac Tryz.prog sj [fJ e,I n] (I (min e.sz (n+1):Nat))) (fun e ih n h2=> ?_) e
 refine ac.of Jh (by simp) fun hb=>aa ?_
 have hl:=(eh hb).1
 conv in Bn=>cbv
 rw[Ex.sz_eq]
 repeat' first|simp(disch:=omega) only[go_sem, *]|((with_reducible apply ab)<;>intro h<;>try omega)
 refine an (fun s:Nat×Nat=>⟨[(6,I s.1),(5,I s.2),(1,I n),(2,.c (.ptr 0 0))], [(0,Gy e)],1,0⟩) (fun s=>s.1≤e.args.length∧Hid (s.2=min (1+Ex.szs (e.args.take s.1)) (n+1))) (fun s=>e.args.length-s.1) ⟨(0,1), [],⟨by omega,by show _=_;simp[Ex.szs]⟩,by simp⟩ ?_
 rintro⟨k,m⟩ ⟨hk,hm⟩
 refine aa ?_
 simp only at hk hm
 by_cases hn:m≤n
 ·by_cases hlt:k<e.args.length
  ·have hih:=ih _ (List.getElem_mem hlt) (n-m) (by omega)
   rw[show((n-m:Nat):Int)=(n:Int)-m by omega]at hih
   have hd:=Ex.szs_take hlt
   have he:m+min e.args[k].sz (n-m+1)=min (1+Ex.szs (e.args.take (k+1))) (n+1):=by have:=hm.out;rw[hd];omega
   have HE:=Lib.hid he
   clear ih hd he
   repeat' first|simp(disch:=omega) only[go_sem, *,ah hlt,Ex.row_eq,wrap_i64]|((with_reducible apply ab)<;>intro h<;>try omega)|(refine aF hih rfl rfl ?_)
   exact⟨(k+1,m+min e.args[k].sz (n-m+1)), [],⟨by omega,HE⟩,by show _-_<_-_;omega,by simp⟩
  ·repeat' first|simp(disch:=omega) only[go_sem, *]|((with_reducible apply ab)<;>intro h<;>try omega)
   have:=hm.out
   rw[List.take_of_length_le (by omega)]at this
   rw[this]
 ·have hm':=hm.out
  have h3:Ex.szs (e.args.take k)≤Ex.szs e.args:=by
   conv=>rhs;rw[←List.take_append_drop k e.args,Ex.szs_append]
   omega
  have e1:(m:Int)=((min (1+Ex.szs e.args) (n+1):Nat):Int):=by omega
  have E1:=Lib.hid e1
  clear e1 hm' h3
  repeat' first|simp(disch:=omega) only[go_sem, *]|((with_reducible apply ab)<;>intro h<;>try omega)
  all_goals rw[E1.out]
theorem Iz (e:Ex):ac Tryz.prog AD [fJ e] (I (min e.sz 2001:Nat)):=by
 refine ac.of I2 (by simp) fun hb=>aa ?_
 conv in zT=>cbv
 repeat' first|simp(disch:=omega) only[go_sem, *]|((with_reducible apply ab)<;>intro h<;>try omega)|(refine aF (FF e 2000 (by omega)) rfl rfl ?_)
 rw[show min ((min e.sz (2000+1):Nat):Int) 2001=((min e.sz 2001:Nat):Int) by omega]
theorem yY {e:Ex} (h64: ∀a∈e.pre,tL a.val):ac Tryz.prog rI [fJ e] (I (gZ e)):=by
 refine ac.of AU (by simp) fun hb=>aa ?_
 conv in rG=>cbv
 have h1:=HU e h64
 unfold gZ
 repeat' first|simp(disch:=omega) only[go_sem, *]|((with_reducible apply ab)<;>intro h<;>try omega)|(refine aF (EC e) rfl rfl ?_)|(refine aF (Iz e) rfl rfl ?_)|(refine aF h1 rfl rfl ?_)
 all_goals(repeat' split)<;>first|rfl|omega
end Go.Proofs.YthbcbaembicdbaaGreatDoor
