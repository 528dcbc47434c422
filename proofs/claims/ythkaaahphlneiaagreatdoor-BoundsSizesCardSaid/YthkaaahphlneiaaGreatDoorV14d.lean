import Derived.Test.YthkaaahphlneiaaGreatDoorVWalk
import Derived.Test.YthkaaahphlneiaaGreatDoorVLex
set_option linter.unusedVariables false
set_option linter.unusedSimpArgs false
set_option maxRecDepth 20000
set_option maxHeartbeats 4000000
set_option maxRecDepth 1000000
namespace Go.Proofs.YthkaaahphlneiaaGreatDoor
open Go.Abs Go.RowKit
theorem Du (e:Ex): ∀n:Nat,1≤n→n≤1000000→ac Tryz.prog rI [fm e,I n] (I (min e.dep n:Nat)):=by
 refine Ex.ind (p:=fun e=> ∀n:Nat,1≤n→n≤1000000→ac Tryz.prog rI [fm e,I n] (I (min e.dep n:Nat))) (fun e ih n h1 h2=> ?_) e
 refine ac.of Gb (by simp) fun hb=>aa ?_
 have hl:=(dX hb).1
 simp only[zG]
 have hd0:=Ex.dep_pos e
 by_cases hn:n=1
 ·subst hn
  repeat' first|simp(disch:=omega) only[go_sem, *]|((with_reducible refine ab ?_ ?_)<;>intro h<;>try omega)
  rw[Nat.min_eq_right hd0]
 ·rw[Ex.dep_eq]
  have hn1: ¬(n:Int)≤1:=by omega
  repeat' first|simp(disch:=omega) only[go_sem, *,hn1]|((with_reducible refine ab ?_ ?_)<;>intro h<;>try omega)
  refine aj (fun k:Nat=>⟨[(14,I k),(13,I e.args.length),(12,.c (.pure (.slice (e.args.map Ex.row)))),(5,I (min (1+Ex.deps (e.args.take k)) n:Nat)),(1,I n)], [],0,0⟩) (fun k=>k≤e.args.length) (fun k=>e.args.length-k) ⟨0, [],by omega,by simp[Ex.deps,Nat.min_eq_left h1]⟩ ?_
  rintro k hk
  refine aa ?_
  by_cases hlt:k<e.args.length
  ·have hih:=ih _ (List.getElem_mem hlt) (n-1) (by omega) (by omega)
   rw[show((n-1:Nat):Int)=(n:Int)-1 by omega]at hih
   have hd:=Ex.deps_take hlt
   clear ih
   repeat' first|simp(disch:=omega) only[go_sem, *,ae hlt,Ex.row_eq,wrap_i64]|((with_reducible refine ab ?_ ?_)<;>intro h<;>try omega)|(refine av hih rfl rfl ?_)
   have he:max ((min (1+Ex.deps (e.args.take k)) n:Nat):Int) (1+((min e.args[k].dep (n-1):Nat):Int))=((min (1+Ex.deps (e.args.take (k+1))) n:Nat):Int):=by rw[hd];omega
   rw[he]
   exact⟨k+1, [],by omega,by omega,by simp⟩
  ·repeat' first|simp(disch:=omega) only[go_sem, *]|((with_reducible refine ab ?_ ?_)<;>intro h<;>try omega)
   rw[List.take_of_length_le (by omega)]
theorem nf (e:Ex):ac Tryz.prog yp [fm e] (I (min e.dep 41:Nat)):=by
 refine ac.of Gk (by simp) fun hb=>aa ?_
 simp only[yM]
 repeat' first|simp(disch:=omega) only[go_sem, *]|((with_reducible refine ab ?_ ?_)<;>intro h<;>try omega)|(refine av (Du e 41 (by omega) (by omega)) rfl rfl ?_)
theorem vM (e:Ex):ac Tryz.prog AZ [fm e] (I (min e.sz 2001:Nat)):=by
 refine ac.of IN (by simp) fun hb=>aa ?_
 simp only[A6]
 repeat' first|simp(disch:=omega) only[go_sem, *]|((with_reducible refine ab ?_ ?_)<;>intro h<;>try omega)|(refine bS (w8 e) rfl rfl ?_)
 have hlen:(e.pre.map fun a=> [fm a]).length=e.sz:=by rw[List.length_map,Ex.pre_length]
 refine pD 2 [(3,.c (.ptr 1 0))] (fun k (_:Unit)=>([(1,.var [.pure (pI k)]),(0,Ey e)],2)) (fun k _=>k≤2000) rfl rfl rfl (wl e) ?_ ⟨by simp,by simp⟩ (by simp[gi,ia,cZ,b8,df,rn,yv,ct,aZ,cK,cz,bu,c6,ci,ay,ak,i6,gR,cp]) ⟨(), [],by omega,by simp⟩ ?_ ?_
 ·intro x hx
  obtain⟨a,_,rfl⟩:=List.mem_map.1 hx
  rfl
 ·intro k x t hx hk
  obtain⟨a,ha,rfl⟩: ∃a,e.pre[k]? =some a∧ [fm a]=x:=by
   rw[List.getElem?_map]at hx
   exact Option.map_eq_some_iff.1 hx
  have hk1:k<e.sz:=by rw[←Ex.pre_length];exact(List.getElem?_eq_some_iff.1 ha).1
  clear hx ha
  repeat' first|simp(disch:=omega) only[go_sem, *,wrap_i64]|((with_reducible refine ab ?_ ?_)<;>intro h<;>try omega)
  ·rw[show(k:Int)+1=((min e.sz 2001:Nat):Int) by omega]
  ·exact⟨(), [],by omega,by simp⟩
 ·intro t hk
  rw[hlen]at hk ⊢
  repeat' first|simp(disch:=omega) only[go_sem, *]|((with_reducible refine ab ?_ ?_)<;>intro h<;>try omega)
  rw[Nat.min_eq_left (by omega)]
theorem zU:QL tM (fun x=> ¬(x.2.1≠⟨⟨[]⟩⟩→fp x.2.1)):=by
 intro x
 refine ac.of Cj (by simp) fun hb=>aa ?_
 simp only[tY]
 repeat' first|simp(disch:=omega) only[go_sem, *]|((with_reducible refine ab ?_ ?_)<;>intro h<;>try omega)|(refine av (br _) rfl rfl ?_)
 all_goals(refine BC ?_;clear hb;simp only[Bool.not_eq_true',BT,B4,reduceCtorEq,false_iff,true_iff,not_exists,not_and,Classical.not_not,decide_eq_true_iff,decide_eq_false_iff_not];first|done|grind [])
theorem gH (e:Ex):ac Tryz.prog ym [fm e] (Go.Abs.B (decide (tG e))):=by
 refine ac.of F5 (by simp) fun hb=>aa ?_
 simp only[zc]
 repeat' first|simp(disch:=omega) only[go_sem, *]|((with_reducible refine ab ?_ ?_)<;>intro h<;>try omega)|(refine av (br _) rfl rfl ?_)|(refine av (el zU e.idx) rfl rfl ?_)
 all_goals(refine BD ?_;clear hb;simp only[Bool.not_eq_true',BT,B4,reduceCtorEq,false_iff,true_iff,not_exists,not_and,Classical.not_not,decide_eq_true_iff,decide_eq_false_iff_not];first|done|grind [tG])
theorem Gc {e:Ex} (h1:qz e) (h2:tG e) (h3:tg e) (h4:nv e) (h5:e.op=1→fI e.ty e.val):((∀l∈e.forms,cd l.2)→ba e=0)∧((¬ ∀l∈e.forms,cd l.2)→ba e=1):=by
 unfold ba
 rw[if_neg (not_not_intro h1),if_neg (not_not_intro h2),if_neg (not_not_intro h3),if_neg (not_not_intro h4)]
 exact⟨fun hf=>if_neg (not_not_intro ⟨h5,hf⟩),fun hf=>if_pos fun h=>hf h.2⟩
set_option maxHeartbeats 1000000 in
theorem xB {e:Ex} (hv:sS e.val):ac Tryz.prog jZ [fm e] (I (ba e)):=by
 refine ac.of xY (by simp) fun hb=>aa ?_
 conv in qy=>cbv
 by_cases h1:qz e
 ·by_cases h2:tG e
  ·by_cases h3:tg e
   ·by_cases h4:nv e
    ·have hvt:=fun h=>Ev (h4.1 (.inl h)) hv
     by_cases h5:e.op=1→fI e.ty e.val
     ·obtain⟨n0,n1⟩:=Gc h1 h2 h3 h4 h5
      have hY:=Dg e h3.2.2 h3.2.1
      have c1:=eI e
      have c2:=gH e
      have c3:=kz e
      have c4:=nk e
      have c5:=DZ e
      have hlen:(e.forms.map fun a:ca=> [dj a.1 a.2]).length=e.forms.length:=List.length_map _
      have hget: ∀(k:Nat) x,(e.forms.map fun a:ca=> [dj a.1 a.2])[k]? =some x→ ∃h:k<e.forms.length,x= [dj e.forms[k].1 e.forms[k].2]:=fun k x hx=>by
       rw[List.getElem?_map]at hx
       obtain⟨a,ha,rfl⟩:=Option.map_eq_some_iff.1 hx
       obtain⟨hk,rfl⟩:=List.getElem?_eq_some_iff.1 ha
       exact⟨hk,rfl⟩
      have h1d: ∀x∈e.forms.map fun a:ca=> [dj a.1 a.2],x.length=1:=fun x hx=>by
       obtain⟨a,_,rfl⟩:=List.mem_map.1 hx
       rfl
      have hmem: ∀k (h:k<e.forms.length),e.forms[k]∈e.forms:=fun k h=>List.getElem_mem h
      generalize ba e=E at*
      by_cases hop:e.op=1
      ·have hvt':=hvt hop
       have h5':=h5 hop
       obtain⟨op,name,val,ty,lin,idx,args⟩:=e
       simp only[Ex.op]at hop
       subst hop
       generalize (Ex.mk 1 name val ty lin idx args).forms=fs at*
       have N0:=Lib.hid n0
       have N1:=Lib.hid n1
       have HY:=Lib.hid hY
       have HG:=Lib.hid hget
       have HL:=Lib.hid hlen
       have HD:=Lib.hid h1d
       clear n0 n1 hvt h5 hb hmem hget hlen h1d hY
       repeat' first|simp(disch:=omega) only[go_sem, *,h1,h2,h3,h4,h5',Ex.op]|((with_reducible refine ab ?_ ?_)<;>intro h<;>try omega)|(refine av c1 rfl rfl ?_)|(refine av c2 rfl rfl ?_)|(refine av c3 rfl rfl ?_)|(refine av c4 rfl rfl ?_)|(refine av hvt' rfl rfl ?_)|(refine bS c5 rfl rfl ?_)
       have n0:=N0.out
       have n1:=N1.out
       have hY:=HY.out
       have hget:=HG.out
       have hlen:=HL.out
       have h1d:=HD.out
       clear N0 N1 HY HG HL HD
       refine pD 2 [(2,.c (.ptr 1 0))] (fun k (_:Unit)=>([(1,.var [.pure (pI 0)]),(0,Ey (Ex.mk 1 name val ty lin idx args))],2)) (fun k _=>dW (fun i=> ∀h:i<fs.length,cd fs[i].2) k) rfl rfl rfl hY h1d ⟨by simp,by simp⟩ (by simp[gi,ia,cZ,b8,df,rn,yv,ct,aZ,cK,cz,bu,c6,ci,ay,ak,i6,gR,cp]) ⟨(), [],.zero,by simp[Ex.op]⟩ ?_ ?_
       ·intro k x t hx hk
        obtain⟨hlt,rfl⟩:=hget k x hx
        clear hx hlen hget h1d hY
        by_cases hok:cd fs[k].2
        ·clear n1
         repeat' first|simp(disch:=omega) only[go_sem, *,hok,Ex.op]|((with_reducible refine ab ?_ ?_)<;>intro h<;>try omega)|(refine av (bD _ _) rfl rfl ?_)
         exact⟨(), [],hk.succ fun _=>hok,by simp[Ex.op]⟩
        ·have hE:=n1 fun h=>hok (h _ (List.getElem_mem hlt))
         subst hE
         clear n0 n1 hk
         repeat' first|simp(disch:=omega) only[go_sem, *,hok,Ex.op]|((with_reducible refine ab ?_ ?_)<;>intro h<;>try omega)|(refine av (bD _ _) rfl rfl ?_)
       ·intro t hk
        rw[hlen]at hk
        have hE:=n0 fun l hl=>by
         obtain⟨i,hi,rfl⟩:=List.mem_iff_getElem.1 hl
         exact hk i hi hi
        subst hE
        clear n0 n1 hk hlen hget h1d hY
        repeat' first|simp(disch:=omega) only[go_sem, *,Ex.op]|((with_reducible refine ab ?_ ?_)<;>intro h<;>try omega)
      ·have hvt':=trivial
       generalize e.forms=fs at*
       have N0:=Lib.hid n0
       have N1:=Lib.hid n1
       have HY:=Lib.hid hY
       have HG:=Lib.hid hget
       have HL:=Lib.hid hlen
       have HD:=Lib.hid h1d
       clear n0 n1 hvt h5 hb hmem hget hlen h1d hY
       repeat' first|simp(disch:=omega) only[go_sem, *,h1,h2,h3,h4,hop]|((with_reducible refine ab ?_ ?_)<;>intro h<;>try omega)|(refine av c1 rfl rfl ?_)|(refine av c2 rfl rfl ?_)|(refine av c3 rfl rfl ?_)|(refine av c4 rfl rfl ?_)|(refine av hvt' rfl rfl ?_)|(refine bS c5 rfl rfl ?_)
       have n0:=N0.out
       have n1:=N1.out
       have hY:=HY.out
       have hget:=HG.out
       have hlen:=HL.out
       have h1d:=HD.out
       clear N0 N1 HY HG HL HD
       refine pD 2 [(2,.c (.ptr 1 0))] (fun k (_:Unit)=>([(1,.var [.pure (pI 0)]),(0,Ey e)],2)) (fun k _=>dW (fun i=> ∀h:i<fs.length,cd fs[i].2) k) rfl rfl rfl hY h1d ⟨by simp,by simp⟩ (by simp[gi,ia,cZ,b8,df,rn,yv,ct,aZ,cK,cz,bu,c6,ci,ay,ak,i6,gR,cp]) ⟨(), [],.zero,by simp[Ex.op]⟩ ?_ ?_
       ·intro k x t hx hk
        obtain⟨hlt,rfl⟩:=hget k x hx
        clear hx hlen hget h1d hY
        by_cases hok:cd fs[k].2
        ·clear n1
         repeat' first|simp(disch:=omega) only[go_sem, *,hok,Ex.op]|((with_reducible refine ab ?_ ?_)<;>intro h<;>try omega)|(refine av (bD _ _) rfl rfl ?_)
         exact⟨(), [],hk.succ fun _=>hok,by simp[Ex.op]⟩
        ·have hE:=n1 fun h=>hok (h _ (List.getElem_mem hlt))
         subst hE
         clear n0 n1 hk
         repeat' first|simp(disch:=omega) only[go_sem, *,hok,Ex.op]|((with_reducible refine ab ?_ ?_)<;>intro h<;>try omega)|(refine av (bD _ _) rfl rfl ?_)
       ·intro t hk
        rw[hlen]at hk
        have hE:=n0 fun l hl=>by
         obtain⟨i,hi,rfl⟩:=List.mem_iff_getElem.1 hl
         exact hk i hi hi
        subst hE
        clear n0 n1 hk hlen hget h1d hY
        repeat' first|simp(disch:=omega) only[go_sem, *,Ex.op]|((with_reducible refine ab ?_ ?_)<;>intro h<;>try omega)
     ·have hop:e.op=1:=Classical.byContradiction fun h=>h5 fun h'=>absurd h' h
      have hnv: ¬fI e.ty e.val:=fun h=>h5 fun _=>h
      have hE:ba e=1:=by
       unfold ba
       rw[if_neg (not_not_intro h1),if_neg (not_not_intro h2),if_neg (not_not_intro h3),if_neg (not_not_intro h4)]
       exact if_pos fun h=>h5 h.1
      have hvt':=hvt hop
      have c1:=eI e
      have c2:=gH e
      have c3:=kz e
      have c4:=nk e
      rw[hE]
      clear hE h5 hvt
      obtain⟨op,name,val,ty,lin,idx,args⟩:=e
      simp only[Ex.op]at hop
      subst hop
      repeat' first|simp(disch:=omega) only[go_sem, *,h1,h2,h3,h4,hnv,Ex.op]|((with_reducible refine ab ?_ ?_)<;>intro h<;>try omega)|(refine av c1 rfl rfl ?_)|(refine av c2 rfl rfl ?_)|(refine av c3 rfl rfl ?_)|(refine av c4 rfl rfl ?_)|(refine av hvt' rfl rfl ?_)
    ·have hn:ba e=10:=by simp[ba,h1,h2,h3,h4]
     rw[hn]
     clear hn
     repeat' first|simp(disch:=omega) only[go_sem, *,h1,h2,h3,h4]|((with_reducible refine ab ?_ ?_)<;>intro h<;>try omega)|(refine av (eI e) rfl rfl ?_)|(refine av (gH e) rfl rfl ?_)|(refine av (kz e) rfl rfl ?_)|(refine av (nk e) rfl rfl ?_)
   ·have hn:ba e=11:=by simp[ba,h1,h2,h3]
    rw[hn]
    clear hn
    repeat' first|simp(disch:=omega) only[go_sem, *,h1,h2,h3]|((with_reducible refine ab ?_ ?_)<;>intro h<;>try omega)|(refine av (eI e) rfl rfl ?_)|(refine av (gH e) rfl rfl ?_)|(refine av (kz e) rfl rfl ?_)
  ·have hn:ba e=7:=by simp[ba,h1,h2]
   rw[hn]
   clear hn
   repeat' first|simp(disch:=omega) only[go_sem, *,h1,h2]|((with_reducible refine ab ?_ ?_)<;>intro h<;>try omega)|(refine av (eI e) rfl rfl ?_)|(refine av (gH e) rfl rfl ?_)
 ·have hn:ba e=5:=by simp[ba,h1]
  rw[hn]
  clear hn
  repeat' first|simp(disch:=omega) only[go_sem, *,h1]|((with_reducible refine ab ?_ ?_)<;>intro h<;>try omega)|(refine av (eI e) rfl rfl ?_)
theorem yG {e:Ex} (h64: ∀a∈e.pre,sS a.val):ac Tryz.prog lw [fm e] (I (gT e)):=by
 refine ac.of z7 (by simp) fun hb=>aa ?_
 conv in rN=>cbv
 by_cases h1:40<e.dep
 ·have hE:gT e=13:=if_pos h1
  rw[hE]
  clear hE h64
  repeat' first|simp(disch:=omega) only[go_sem,show((min e.dep 41:Nat):Int)=41 by omega]|((with_reducible refine ab ?_ ?_)<;>intro h<;>try first|omega|simp(disch:=omega) only[go_sem, *,show((min e.dep 41:Nat):Int)=41 by omega])|(refine av (nf e) rfl rfl ?_)
 ·by_cases h2:2000<e.sz
  ·have hE:gT e=2:=by unfold gT;rw[if_neg h1,if_pos h2]
   rw[hE]
   clear hE h64
   repeat' first|simp(disch:=omega) only[go_sem,show((min e.dep 41:Nat):Int)=e.dep by omega,show((min e.sz 2001:Nat):Int)=2001 by omega,show ¬(e.dep:Int)>40 by omega]|((with_reducible refine ab ?_ ?_)<;>intro h<;>try first|omega|simp(disch:=omega) only[go_sem, *,show((min e.dep 41:Nat):Int)=e.dep by omega,show((min e.sz 2001:Nat):Int)=2001 by omega,show ¬(e.dep:Int)>40 by omega])|(refine av (nf e) rfl rfl ?_)|(refine av (vM e) rfl rfl ?_)
  ·have hE:gT e=cQ (e.pre.map ba):=by unfold gT;rw[if_neg h1,if_neg h2];rfl
   rw[hE]
   have hY:=wl e
   have hlen:(e.pre.map fun a=> [fm a]).length=e.pre.length:=List.length_map _
   have hget: ∀(k:Nat) x,(e.pre.map fun a=> [fm a])[k]? =some x→ ∃h:k<e.pre.length,x= [fm e.pre[k]]:=fun k x hx=>by
    rw[List.getElem?_map]at hx
    obtain⟨a,ha,rfl⟩:=Option.map_eq_some_iff.1 hx
    obtain⟨hk,rfl⟩:=List.getElem?_eq_some_iff.1 ha
    exact⟨hk,rfl⟩
   have h1d: ∀x∈e.pre.map fun a=> [fm a],x.length=1:=fun x hx=>by
    obtain⟨a,_,rfl⟩:=List.mem_map.1 hx
    rfl
   generalize e.pre=fs at*
   have HY:=Lib.hid hY
   have HG:=Lib.hid hget
   have HL:=Lib.hid hlen
   have HD:=Lib.hid h1d
   have H64:=Lib.hid h64
   clear hget hlen h1d hY h64 hE
   repeat' first|simp(disch:=omega) only[go_sem,show((min e.dep 41:Nat):Int)=e.dep by omega,show((min e.sz 2001:Nat):Int)=e.sz by omega,show ¬(e.dep:Int)>40 by omega,show ¬(e.sz:Int)>2000 by omega]|((with_reducible refine ab ?_ ?_)<;>intro h<;>try first|omega|simp(disch:=omega) only[go_sem, *,show((min e.dep 41:Nat):Int)=e.dep by omega,show((min e.sz 2001:Nat):Int)=e.sz by omega,show ¬(e.dep:Int)>40 by omega,show ¬(e.sz:Int)>2000 by omega])|(refine av (nf e) rfl rfl ?_)|(refine av (vM e) rfl rfl ?_)|(refine bS (w8 e) rfl rfl ?_)
   refine pD 2 [(2,.c (.ptr 1 0))] (fun k (_:Unit)=>([(1,.var [.pure (pI 0)]),(0,Ey e)],2)) (fun k _=>Hid (cQ ((fs.map ba).take k)=0)) rfl rfl rfl HY.out HD.out ⟨by simp,by simp⟩ (by simp[gi,ia,cZ,b8,df,rn,yv,ct,aZ,cK,cz,bu,c6,ci,ay,ak,i6,gR,cp]) ⟨(), [],by show _=_;simp[cQ],by simp⟩ ?_ ?_
   ·intro k x t hx hk
    obtain⟨hlt,rfl⟩:=HG.out k x hx
    have hvn:=xB (H64.out _ (List.getElem_mem hlt))
    have hlm:k<(fs.map ba).length:=by simpa using hlt
    have h3:=iD hlm hk.out
    have h4:=m9 hlm hk.out
    rw[List.getElem_map]at h3 h4
    clear hx HG HL HD HY H64 hk
    by_cases hp:ba fs[k]=0
    ·have H3:=Lib.hid (h3.trans hp)
     clear h3 h4
     repeat' first|simp(disch:=omega) only[go_sem,hp]|((with_reducible refine ab ?_ ?_)<;>intro h<;>try first|omega|simp(disch:=omega) only[go_sem, *,hp])|(refine av hvn rfl rfl ?_)
     exact⟨(), [],H3,by simp⟩
    ·have h5:=h4 hp
     rw[h5]
     clear h3 h4 h5
     repeat' first|simp(disch:=omega) only[go_sem,hp]|((with_reducible refine ab ?_ ?_)<;>intro h<;>try first|omega|simp(disch:=omega) only[go_sem, *,hp])|(refine av hvn rfl rfl ?_)
   ·intro t hk
    have hk':=hk.out
    rw[HL.out,List.take_of_length_le (by simp)]at hk'
    rw[hk']
    clear hk hk' HG HL HD HY H64
    repeat' first|simp(disch:=omega) only[go_sem]|((with_reducible refine ab ?_ ?_)<;>intro h<;>try first|omega|simp(disch:=omega) only[go_sem, *])
end Go.Proofs.YthkaaahphlneiaaGreatDoor
