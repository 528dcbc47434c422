import Derived.Test.YthkaaahphlneiaaGreatDoorV14b
set_option linter.unusedVariables false
set_option linter.unusedSimpArgs false
set_option maxRecDepth 20000
set_option maxHeartbeats 4000000
set_option maxRecDepth 1000000
namespace Go.Proofs.YthkaaahphlneiaaGreatDoor
open Go.Abs Go.RowKit
def YN (x:Ix):Prop:=cd x.1.2∧ ∀l∈x.2.2,cd l.2
theorem zt {e:Ex}:tO e↔(e.op=1→fI e.ty e.val)∧cd e.lin.2∧ ∀x∈e.idx,YN x:=by
 unfold tO Ex.forms YN
 constructor
 ·rintro⟨h1,h2⟩
  refine⟨h1,h2 _ List.mem_cons_self,fun x hx=>⟨h2 _ (List.mem_cons_of_mem _ (List.mem_flatMap.2 ⟨x,hx,List.mem_cons_self⟩)),fun l hl=>h2 _ (List.mem_cons_of_mem _ (List.mem_flatMap.2 ⟨x,hx,List.mem_cons_of_mem _ hl⟩))⟩⟩
 ·rintro⟨h1,h2,h3⟩
  refine⟨h1,fun l hl=> ?_⟩
  rcases List.mem_cons.1 hl with rfl|hl
  ·exact h2
  ·obtain⟨x,hx,hl⟩:=List.mem_flatMap.1 hl
   rcases List.mem_cons.1 hl with rfl|hl
   ·exact(h3 x hx).1
   ·exact(h3 x hx).2 l hl
theorem pA {e:Ex} (ht:e.op=1→l8 e.ty) (hv:sS e.val) (hr: ∀x∈e.idx,x.2.2.length≤6):ac Tryz.prog ng [fm e] (Go.Abs.B (decide (tO e))):=by
 refine ac.of B7 (by simp) fun hb=>aa ?_
 have hl:=(dX hb).2
 conv in uS=>cbv
 repeat' first|simp(disch:=omega) only[go_sem, *]|((with_reducible refine ab ?_ ?_)<;>intro h<;>try omega)|(refine av (J8 (ht (by assumption)) hv) rfl rfl ?_)|(refine av (dT _ _) rfl rfl ?_)
 all_goals first
  |(refine BD ?_;clear hb;simp only[Bool.not_eq_true',BT,B4,reduceCtorEq,false_iff,true_iff,not_exists,not_and,Classical.not_not,decide_eq_true_iff,decide_eq_false_iff_not];first|done|grind [zt])
  |skip
 all_goals(
  have hs:(e.op=1→fI e.ty e.val)∧cd e.lin.2:=by grind
  refine aj (fun k:Nat=>⟨[(3,I k),(1,.c (.ptr 0 0))], [(0,Ey e)],1,0⟩) (fun k=>k≤e.idx.length∧dW (fun i=> ∀h:i<e.idx.length,YN e.idx[i]) k) (fun k=>e.idx.length-k) ⟨0, [],⟨by omega,.zero⟩,by simp[*]⟩ ?_
  repeat clear h
  have HT:=Lib.hid hs
  clear hs ht
  rintro k ⟨hk,hall⟩
  refine aa ?_
  by_cases hlt:k<e.idx.length
  ·have h6:=hr _ (List.getElem_mem hlt)
   repeat' first|simp(disch:=omega) only[go_sem, *,ae hlt,eB,wrap_i64]|((with_reducible refine ab ?_ ?_)<;>intro h<;>try omega)|(refine av (dT _ _) rfl rfl ?_)
   ·refine aj (fun j:Nat=>⟨[(4,I j),(3,I k),(1,.c (.ptr 0 0))], [(0,Ey e)],1,0⟩) (fun j=>j≤e.idx[k].2.2.length∧dW (fun i=> ∀h:i<e.idx[k].2.2.length,cd e.idx[k].2.2[i].2) j) (fun j=>e.idx[k].2.2.length-j) ⟨0, [],⟨by omega,.zero⟩,by simp⟩ ?_
    rintro j ⟨hj,halj⟩
    refine aa ?_
    by_cases hlj:j<e.idx[k].2.2.length
    ·repeat' first|simp(disch:=omega) only[go_sem, *,ae hlt,ae hlj,eB,bQ,wrap_i64]|((with_reducible refine ab ?_ ?_)<;>intro h<;>try omega)|(refine av (dT _ _) rfl rfl ?_)
     ·exact⟨j+1, [],⟨by omega,halj.succ fun _=>h⟩,by omega,by simp⟩
     ·refine BD ⟨fun h=>(by cases h),fun h'=> ?_⟩
      exact absurd (((zt.1 h').2.2 _ (List.getElem_mem hlt)).2 _ (List.getElem_mem hlj)) h
    ·repeat' first|simp(disch:=omega) only[go_sem, *,ae hlt,eB,wrap_i64]|((with_reducible refine ab ?_ ?_)<;>intro h<;>try omega)
     refine⟨k+1, [],⟨by omega,hall.succ fun _=>⟨‹_›,fun l hl=> ?_⟩⟩,by omega,by simp⟩
     obtain⟨i,hi,rfl⟩:=List.mem_iff_getElem.1 hl
     exact halj i (by omega) hi
   ·refine BD ⟨fun h=>(by cases h),fun h'=> ?_⟩
    exact absurd ((zt.1 h').2.2 _ (List.getElem_mem hlt)).1 h
  ·repeat' first|simp(disch:=omega) only[go_sem, *]|((with_reducible refine ab ?_ ?_)<;>intro h<;>try omega)
   refine BD ⟨fun _=>zt.2 ⟨HT.out.1,HT.out.2,fun x hx=> ?_⟩,fun _=>rfl⟩
   obtain⟨i,hi,rfl⟩:=List.mem_iff_getElem.1 hx
   exact hall i (by omega) hi)
theorem Ik {l:List Ex} {k:Nat} (h:k<l.length) (hf:cQ ((Ex.pres (l.take k)).map ba)=0):cQ ((Ex.pres (l.take (k+1))).map ba)=jt l[k]:=by
 rw[Ex.pres_take h,List.map_append,kV,if_neg (by rw[hf];simp)]
 rfl
theorem P9 {l:List Ex} {k:Nat} (h:k<l.length) (hf:cQ ((Ex.pres (l.take k)).map ba)=0) (hp:jt l[k]≠0):cQ ((Ex.pres l).map ba)=jt l[k]:=by
 have key:cQ ((Ex.pres (l.take (k+1)++l.drop (k+1))).map ba)=jt l[k]:=by
  rw[Ex.pres_append,List.map_append,kV,Ik h hf,if_pos hp]
 rw[List.take_append_drop]at key
 exact key
theorem Ud {e a b:Ex} (ha:a∈e.args) (hb:b∈a.pre):b∈e.pre:=by
 rw[Ex.pre_eq]
 refine List.mem_cons_of_mem _ ?_
 generalize e.args=l at ha
 induction l with
 |nil=>cases ha
 |cons x r ihr=>
  rw[Ex.pres]
  rcases List.mem_cons.1 ha with rfl|ha
  ·exact List.mem_append_left _ hb
  ·exact List.mem_append_right _ (ihr ha)
theorem Dh (e:Ex):(∀a∈e.pre,sS a.val)→ac Tryz.prog mu [fm e] (I (jt e)):=by
 refine Ex.ind (p:=fun e=>(∀a∈e.pre,sS a.val)→ac Tryz.prog mu [fm e] (I (jt e))) (fun e ih h64=> ?_) e
 refine ac.of Gm (by simp) fun hb=>aa ?_
 have hl:=(dX hb).1
 have hv:sS e.val:=h64 e (by rw[Ex.pre_eq];exact List.mem_cons_self)
 have h64': ∀a∈e.args,∀b∈a.pre,sS b.val:=fun a ha b hb=>h64 b (Ud ha hb)
 conv in zr=>cbv
 rw[Nk]
 by_cases h1:qz e
 ·by_cases h2:tG e
  ·by_cases h3:tg e
   ·by_cases h4:nv e
    ·by_cases h5:tO e
     ·have hn:ba e=0:=by simp[ba,h1,h2,h3,h4,h5]
      have hform:=pA (e:=e) (fun h=>h4.1 (.inl h)) hv h3.2.2
      rw[if_neg (by rw[hn];simp)]
      have HN:=Lib.hid hn
      clear hn
      repeat' first|simp(disch:=omega) only[go_sem, *,h1,h2,h3,h4,h5]|((with_reducible refine ab ?_ ?_)<;>intro h<;>try omega)|(refine av (eJ e) rfl rfl ?_)|(refine av (fG e) rfl rfl ?_)|(refine av (gM e) rfl rfl ?_)|(refine av (lr e) rfl rfl ?_)|(refine av hform rfl rfl ?_)
      refine aj (fun k:Nat=>⟨[(3,I k),(1,.c (.ptr 0 0))], [(0,Ey e)],1,0⟩) (fun k=>k≤e.args.length∧Hid (cQ ((Ex.pres (e.args.take k)).map ba)=0)) (fun k=>e.args.length-k) ⟨0, [],⟨by omega,by show _=_;simp[Ex.pres,cQ]⟩,by simp⟩ ?_
      clear h1 h2 h3 h4 h5 hform
      rintro k ⟨hk,hall⟩
      refine aa ?_
      by_cases hlt:k<e.args.length
      ·have hih:=ih _ (List.getElem_mem hlt) (h64' _ (List.getElem_mem hlt))
       clear ih h64'
       by_cases hp:jt e.args[k]=0
       ·repeat' first|simp(disch:=omega) only[go_sem, *,ae hlt,Ex.row_eq,wrap_i64,hp]|((with_reducible refine ab ?_ ?_)<;>intro h<;>try omega)|(refine av hih rfl rfl ?_)
        exact⟨k+1, [],⟨by omega,by show _=_;rw[Ik hlt hall.out];exact hp⟩,by omega,by simp⟩
       ·repeat' first|simp(disch:=omega) only[go_sem, *,ae hlt,Ex.row_eq,wrap_i64,hp]|((with_reducible refine ab ?_ ?_)<;>intro h<;>try omega)|(refine av hih rfl rfl ?_)
        rw[P9 hlt hall.out hp]
      ·repeat' first|simp(disch:=omega) only[go_sem, *]|((with_reducible refine ab ?_ ?_)<;>intro h<;>try omega)
       have:=hall.out
       rw[List.take_of_length_le (by omega)]at this
       rw[this]
     ·have hn:ba e=1:=by simp[ba,h1,h2,h3,h4,h5]
      have hform:=pA (e:=e) (fun h=>h4.1 (.inl h)) hv h3.2.2
      rw[if_pos (by rw[hn];simp),hn]
      clear hn ih
      repeat' first|simp(disch:=omega) only[go_sem, *,h1,h2,h3,h4,h5]|((with_reducible refine ab ?_ ?_)<;>intro h<;>try omega)|(refine av (eJ e) rfl rfl ?_)|(refine av (fG e) rfl rfl ?_)|(refine av (gM e) rfl rfl ?_)|(refine av (lr e) rfl rfl ?_)|(refine av hform rfl rfl ?_)
    ·have hn:ba e=10:=by simp[ba,h1,h2,h3,h4]
     rw[if_pos (by rw[hn];simp),hn]
     clear hn ih
     repeat' first|simp(disch:=omega) only[go_sem, *,h1,h2,h3,h4]|((with_reducible refine ab ?_ ?_)<;>intro h<;>try omega)|(refine av (eJ e) rfl rfl ?_)|(refine av (fG e) rfl rfl ?_)|(refine av (gM e) rfl rfl ?_)|(refine av (lr e) rfl rfl ?_)
   ·have hn:ba e=11:=by simp[ba,h1,h2,h3]
    rw[if_pos (by rw[hn];simp),hn]
    clear hn ih
    repeat' first|simp(disch:=omega) only[go_sem, *,h1,h2,h3]|((with_reducible refine ab ?_ ?_)<;>intro h<;>try omega)|(refine av (eJ e) rfl rfl ?_)|(refine av (fG e) rfl rfl ?_)|(refine av (gM e) rfl rfl ?_)
  ·have hn:ba e=7:=by simp[ba,h1,h2]
   rw[if_pos (by rw[hn];simp),hn]
   clear hn ih
   repeat' first|simp(disch:=omega) only[go_sem, *,h1,h2]|((with_reducible refine ab ?_ ?_)<;>intro h<;>try omega)|(refine av (eJ e) rfl rfl ?_)|(refine av (fG e) rfl rfl ?_)
 ·have hn:ba e=5:=by simp[ba,h1]
  rw[if_pos (by rw[hn];simp),hn]
  clear hn ih
  repeat' first|simp(disch:=omega) only[go_sem, *,h1]|((with_reducible refine ab ?_ ?_)<;>intro h<;>try omega)|(refine av (eJ e) rfl rfl ?_)
theorem Cr (e:Ex): ∀n:Nat,1≤n→n≤1000000→ac Tryz.prog kw [fm e,I n] (I (min e.dep n:Nat)):=by
 refine Ex.ind (p:=fun e=> ∀n:Nat,1≤n→n≤1000000→ac Tryz.prog kw [fm e,I n] (I (min e.dep n:Nat))) (fun e ih n h1 h2=> ?_) e
 refine ac.of EM (by simp) fun hb=>aa ?_
 have hl:=(dX hb).1
 conv in wz=>cbv
 rw[Ex.dep_eq]
 repeat' first|simp(disch:=omega) only[go_sem, *]|((with_reducible refine ab ?_ ?_)<;>intro h<;>try omega)
 refine aj (fun k:Nat=>⟨[(6,I k),(5,I (min (1+Ex.deps (e.args.take k)) n:Nat)),(1,I n),(2,.c (.ptr 0 0))], [(0,Ey e)],1,0⟩) (fun k=>k≤e.args.length) (fun k=>e.args.length-k) ⟨0, [],by omega,by simp[Ex.deps,Nat.min_eq_left h1]⟩ ?_
 rintro k hk
 refine aa ?_
 by_cases hn:1<n
 ·by_cases hlt:k<e.args.length
  ·have hih:=ih _ (List.getElem_mem hlt) (n-1) (by omega) (by omega)
   rw[show((n-1:Nat):Int)=(n:Int)-1 by omega]at hih
   have hd:=Ex.deps_take hlt
   clear ih
   repeat' first|simp(disch:=omega) only[go_sem, *,ae hlt,Ex.row_eq,wrap_i64]|((with_reducible refine ab ?_ ?_)<;>intro h<;>try omega)|(refine av hih rfl rfl ?_)
   have he:max ((min (1+Ex.deps (e.args.take k)) n:Nat):Int) (1+((min e.args[k].dep (n-1):Nat):Int))=((min (1+Ex.deps (e.args.take (k+1))) n:Nat):Int):=by rw[hd];omega
   rw[he]
   exact⟨k+1, [],by omega,by omega,by simp⟩
  ·repeat' first|simp(disch:=omega) only[go_sem, *]|((with_reducible refine ab ?_ ?_)<;>intro h<;>try omega)
   rw[List.take_of_length_le (by omega)]
 ·have e1:min (1+Ex.deps (e.args.take k)) n=min (1+Ex.deps e.args) n:=by omega
  repeat' first|simp(disch:=omega) only[go_sem, *]|((with_reducible refine ab ?_ ?_)<;>intro h<;>try omega)
  all_goals rw[e1]
theorem Ck (e:Ex):ac Tryz.prog oA [fm e] (I (min e.dep 41:Nat)):=by
 refine ac.of DT (by simp) fun hb=>aa ?_
 conv in v7=>cbv
 repeat' first|simp(disch:=omega) only[go_sem, *]|((with_reducible refine ab ?_ ?_)<;>intro h<;>try omega)|(refine av (Cr e 41 (by omega) (by omega)) rfl rfl ?_)
theorem Dr (e:Ex): ∀n:Nat,n≤1000000→ac Tryz.prog mp [fm e,I n] (I (min e.sz (n+1):Nat)):=by
 refine Ex.ind (p:=fun e=> ∀n:Nat,n≤1000000→ac Tryz.prog mp [fm e,I n] (I (min e.sz (n+1):Nat))) (fun e ih n h2=> ?_) e
 refine ac.of GG (by simp) fun hb=>aa ?_
 have hl:=(dX hb).1
 conv in zi=>cbv
 rw[Ex.sz_eq]
 repeat' first|simp(disch:=omega) only[go_sem, *]|((with_reducible refine ab ?_ ?_)<;>intro h<;>try omega)
 refine aj (fun s:Nat×Nat=>⟨[(6,I s.1),(5,I s.2),(1,I n),(2,.c (.ptr 0 0))], [(0,Ey e)],1,0⟩) (fun s=>s.1≤e.args.length∧Hid (s.2=min (1+Ex.szs (e.args.take s.1)) (n+1))) (fun s=>e.args.length-s.1) ⟨(0,1), [],⟨by omega,by show _=_;simp[Ex.szs]⟩,by simp⟩ ?_
 rintro⟨k,m⟩ ⟨hk,hm⟩
 refine aa ?_
 simp only at hk hm
 by_cases hn:m≤n
 ·by_cases hlt:k<e.args.length
  ·have hih:=ih _ (List.getElem_mem hlt) (n-m) (by omega)
   rw[show((n-m:Nat):Int)=(n:Int)-m by omega]at hih
   have hd:=Ex.szs_take hlt
   have he:m+min e.args[k].sz (n-m+1)=min (1+Ex.szs (e.args.take (k+1))) (n+1):=by have:=hm.out;rw[hd];omega
   have HE:=Lib.hid he
   clear ih hd he
   repeat' first|simp(disch:=omega) only[go_sem, *,ae hlt,Ex.row_eq,wrap_i64]|((with_reducible refine ab ?_ ?_)<;>intro h<;>try omega)|(refine av hih rfl rfl ?_)
   exact⟨(k+1,m+min e.args[k].sz (n-m+1)), [],⟨by omega,HE⟩,by show _-_<_-_;omega,by simp⟩
  ·repeat' first|simp(disch:=omega) only[go_sem, *]|((with_reducible refine ab ?_ ?_)<;>intro h<;>try omega)
   have:=hm.out
   rw[List.take_of_length_le (by omega)]at this
   rw[this]
 ·have hm':=hm.out
  have h3:Ex.szs (e.args.take k)≤Ex.szs e.args:=by
   conv=>rhs;rw[←List.take_append_drop k e.args,Ex.szs_append]
   omega
  have e1:(m:Int)=((min (1+Ex.szs e.args) (n+1):Nat):Int):=by omega
  have E1:=Lib.hid e1
  clear e1 hm' h3
  repeat' first|simp(disch:=omega) only[go_sem, *]|((with_reducible refine ab ?_ ?_)<;>intro h<;>try omega)
  all_goals rw[E1.out]
theorem Ed (e:Ex):ac Tryz.prog rF [fm e] (I (min e.sz 2001:Nat)):=by
 refine ac.of FW (by simp) fun hb=>aa ?_
 conv in yL=>cbv
 repeat' first|simp(disch:=omega) only[go_sem, *]|((with_reducible refine ab ?_ ?_)<;>intro h<;>try omega)|(refine av (Dr e 2000 (by omega)) rfl rfl ?_)
 rw[show min ((min e.sz (2000+1):Nat):Int) 2001=((min e.sz 2001:Nat):Int) by omega]
theorem xh {e:Ex} (h64: ∀a∈e.pre,sS a.val):ac Tryz.prog kf [fm e] (I (gT e)):=by
 refine ac.of xW (by simp) fun hb=>aa ?_
 conv in pZ=>cbv
 have h1:=Dh e h64
 unfold gT
 repeat' first|simp(disch:=omega) only[go_sem, *]|((with_reducible refine ab ?_ ?_)<;>intro h<;>try omega)|(refine av (Ck e) rfl rfl ?_)|(refine av (Ed e) rfl rfl ?_)|(refine av h1 rfl rfl ?_)
 all_goals(repeat' split)<;>first|rfl|omega
end Go.Proofs.YthkaaahphlneiaaGreatDoor
