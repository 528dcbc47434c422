import Derived.Test.YthbcbaembicdbaaGreatDoorVWalk
import Derived.Test.YthbcbaembicdbaaGreatDoorVLex
set_option linter.unusedVariables false
set_option linter.unusedSimpArgs false
set_option maxRecDepth 20000
set_option maxHeartbeats 4000000
set_option maxRecDepth 1000000
namespace Go.Proofs.YthbcbaembicdbaaGreatDoor
open Go.Abs Go.RowKit
theorem Fo (e:Ex): ∀n:Nat,1≤n→n≤1000000→ac Tryz.prog rN [fJ e,I n] (I (min e.dep n:Nat)):=by
 refine Ex.ind (p:=fun e=> ∀n:Nat,1≤n→n≤1000000→ac Tryz.prog rN [fJ e,I n] (I (min e.dep n:Nat))) (fun e ih n h1 h2=> ?_) e
 refine ac.of Ji (by simp) fun hb=>aa ?_
 have hl:=(eh hb).1
 conv in Ak=>cbv
 have hd0:=Ex.dep_pos e
 by_cases hn:n=1
 ·subst hn
  repeat' first|simp(disch:=omega) only[go_sem, *]|((with_reducible apply ab)<;>intro h<;>try omega)
  rw[Nat.min_eq_right hd0]
 ·rw[Ex.dep_eq]
  have hn1: ¬(n:Int)≤1:=by omega
  repeat' first|simp(disch:=omega) only[go_sem, *,hn1]|((with_reducible apply ab)<;>intro h<;>try omega)
  refine an (fun k:Nat=>⟨[(14,I k),(13,I e.args.length),(12,.c (.pure (.slice (e.args.map Ex.row)))),(5,I (min (1+Ex.deps (e.args.take k)) n:Nat)),(1,I n)], [],0,0⟩) (fun k=>k≤e.args.length) (fun k=>e.args.length-k) ⟨0, [],by omega,by simp[Ex.deps,Nat.min_eq_left h1]⟩ ?_
  rintro k hk
  refine aa ?_
  by_cases hlt:k<e.args.length
  ·have hih:=ih _ (List.getElem_mem hlt) (n-1) (by omega) (by omega)
   rw[show((n-1:Nat):Int)=(n:Int)-1 by omega]at hih
   have hd:=Ex.deps_take hlt
   clear ih
   repeat' first|simp(disch:=omega) only[go_sem, *,ah hlt,Ex.row_eq,wrap_i64]|((with_reducible apply ab)<;>intro h<;>try omega)|(refine aF hih rfl rfl ?_)
   have he:max ((min (1+Ex.deps (e.args.take k)) n:Nat):Int) (1+((min e.args[k].dep (n-1):Nat):Int))=((min (1+Ex.deps (e.args.take (k+1))) n:Nat):Int):=by rw[hd];omega
   rw[he]
   exact⟨k+1, [],by omega,by omega,by simp⟩
  ·repeat' first|simp(disch:=omega) only[go_sem, *]|((with_reducible apply ab)<;>intro h<;>try omega)
   rw[List.take_of_length_le (by omega)]
theorem nF (e:Ex):ac Tryz.prog Ar [fJ e] (I (min e.dep 41:Nat)):=by
 refine ac.of IQ (by simp) fun hb=>aa ?_
 conv in AP=>cbv
 repeat' first|simp(disch:=omega) only[go_sem, *]|((with_reducible apply ab)<;>intro h<;>try omega)|(refine aF (Fo e 41 (by omega) (by omega)) rfl rfl ?_)
theorem x5 (e:Ex):ac Tryz.prog Dy [fJ e] (I (min e.sz 2001:Nat)):=by
 refine ac.of L9 (by simp) fun hb=>aa ?_
 conv in Dv=>cbv
 repeat' first|simp(disch:=omega) only[go_sem, *]|((with_reducible apply ab)<;>intro h<;>try omega)|(refine cg (xr e) rfl rfl ?_)
 have hlen:(e.pre.map fun a=> [fJ a]).length=e.sz:=by rw[List.length_map,Ex.pre_length]
 refine wH 2 [(3,.c (.ptr 1 0))] (fun k (_:Unit)=>([(1,.var [.pure (pI k)]),(0,Gy e)],2)) (fun k _=>k≤2000) rfl rfl rfl (xK e) ?_ ⟨by simp,by simp⟩ (by simp[na,m6,eN,dB,fw,rn,yv,dQ,bG,ej,d6,cJ,eL,dS,aM,am,oJ,k7,dU]) ⟨(), [],by omega,by simp⟩ ?_ ?_
 ·intro x hx
  obtain⟨a,_,rfl⟩:=List.mem_map.1 hx
  rfl
 ·intro k x t hx hk
  obtain⟨a,ha,rfl⟩: ∃a,e.pre[k]? =some a∧ [fJ a]=x:=by
   rw[List.getElem?_map]at hx
   exact Option.map_eq_some_iff.1 hx
  have hk1:k<e.sz:=by rw[←Ex.pre_length];exact(List.getElem?_eq_some_iff.1 ha).1
  clear hx ha
  repeat' first|simp(disch:=omega) only[go_sem, *,wrap_i64]|((with_reducible apply ab)<;>intro h<;>try omega)
  ·rw[show(k:Int)+1=((min e.sz 2001:Nat):Int) by omega]
  ·exact⟨(), [],by omega,by simp⟩
 ·intro t hk
  rw[hlen]at hk ⊢
  repeat' first|simp(disch:=omega) only[go_sem, *]|((with_reducible apply ab)<;>intro h<;>try omega)
  rw[Nat.min_eq_left (by omega)]
theorem BU:UD ub (fun x=> ¬(x.2.1≠⟨⟨[]⟩⟩→gc x.2.1)):=by
 intro x
 refine ac.of EB (by simp) fun hb=>aa ?_
 conv in u6=>cbv
 repeat' first|simp(disch:=omega) only[go_sem, *]|((with_reducible apply ab)<;>intro h<;>try omega)|(refine aF (bH _) rfl rfl ?_)
 all_goals(refine BC ?_;clear hb;simp only[Bool.not_eq_true',D9,D7,reduceCtorEq,false_iff,true_iff,not_exists,not_and,Classical.not_not,decide_eq_true_iff,decide_eq_false_iff_not];first|done|grind [])
theorem gF (e:Ex):ac Tryz.prog Ap [fJ e] (Go.Abs.B (decide (uB e))):=by
 refine ac.of I7 (by simp) fun hb=>aa ?_
 conv in Bb=>cbv
 repeat' first|simp(disch:=omega) only[go_sem, *]|((with_reducible apply ab)<;>intro h<;>try omega)|(refine aF (bH _) rfl rfl ?_)|(refine aF (eJ BU e.idx) rfl rfl ?_)
 all_goals(refine BD ?_;clear hb;simp only[Bool.not_eq_true',D9,D7,reduceCtorEq,false_iff,true_iff,not_exists,not_and,Classical.not_not,decide_eq_true_iff,decide_eq_false_iff_not];first|done|grind [uB])
theorem I6 {e:Ex} (h1:ry e) (h2:uB e) (h3:uh e) (h4:nQ e) (h5:e.op=1→fY e.ty e.val):((∀l∈e.forms,bi l.2)→bh e=0)∧((¬ ∀l∈e.forms,bi l.2)→bh e=1):=by
 unfold bh
 rw[if_neg (not_not_intro h1),if_neg (not_not_intro h2),if_neg (not_not_intro h3),if_neg (not_not_intro h4)]
 exact⟨fun hf=>if_neg (not_not_intro ⟨h5,hf⟩),fun hf=>if_pos fun h=>hf h.2⟩
set_option maxHeartbeats 1000000 in
theorem zx {e:Ex} (hv:tL e.val):ac Tryz.prog qV [fJ e] (I (bh e)):=by
 refine ac.of AM (by simp) fun hb=>aa ?_
 conv in qu=>cbv
 by_cases h1:ry e
 ·by_cases h2:uB e
  ·by_cases h3:uh e
   ·by_cases h4:nQ e
    ·have hvt:=fun h=>Hf (h4.1 (.inl h)) hv
     by_cases h5:e.op=1→fY e.ty e.val
     ·obtain⟨n0,n1⟩:=I6 h1 h2 h3 h4 h5
      have hY:=Hw e h3.2.2 h3.2.1
      have c1:=e9 e
      have c2:=gF e
      have c3:=kW e
      have c4:=ny e
      have c5:=GJ e
      have hlen:(e.forms.map fun a:bY=> [dm a.1 a.2]).length=e.forms.length:=List.length_map _
      have hget: ∀(k:Nat) x,(e.forms.map fun a:bY=> [dm a.1 a.2])[k]? =some x→ ∃h:k<e.forms.length,x= [dm e.forms[k].1 e.forms[k].2]:=fun k x hx=>by
       rw[List.getElem?_map]at hx
       obtain⟨a,ha,rfl⟩:=Option.map_eq_some_iff.1 hx
       obtain⟨hk,rfl⟩:=List.getElem?_eq_some_iff.1 ha
       exact⟨hk,rfl⟩
      have h1d: ∀x∈e.forms.map fun a:bY=> [dm a.1 a.2],x.length=1:=fun x hx=>by
       obtain⟨a,_,rfl⟩:=List.mem_map.1 hx
       rfl
      have hmem: ∀k (h:k<e.forms.length),e.forms[k]∈e.forms:=fun k h=>List.getElem_mem h
      generalize bh e=E at*
      by_cases hop:e.op=1
      ·have hvt':=hvt hop
       have h5':=h5 hop
       obtain⟨op,name,val,ty,lin,idx,args⟩:=e
       simp only[Ex.op]at hop
       subst hop
       generalize (Ex.mk 1 name val ty lin idx args).forms=fs at*
       have N0:=Lib.hid n0
       have N1:=Lib.hid n1
       have HY:=Lib.hid hY
       have HG:=Lib.hid hget
       have HL:=Lib.hid hlen
       have HD:=Lib.hid h1d
       clear n0 n1 hvt h5 hb hmem hget hlen h1d hY
       repeat' first|simp(disch:=omega) only[go_sem, *,h1,h2,h3,h4,h5',Ex.op]|((with_reducible apply ab)<;>intro h<;>try omega)|(refine aF c1 rfl rfl ?_)|(refine aF c2 rfl rfl ?_)|(refine aF c3 rfl rfl ?_)|(refine aF c4 rfl rfl ?_)|(refine aF hvt' rfl rfl ?_)|(refine cg c5 rfl rfl ?_)
       have n0:=N0.out
       have n1:=N1.out
       have hY:=HY.out
       have hget:=HG.out
       have hlen:=HL.out
       have h1d:=HD.out
       clear N0 N1 HY HG HL HD
       refine wH 2 [(2,.c (.ptr 1 0))] (fun k (_:Unit)=>([(1,.var [.pure (pI 0)]),(0,Gy (Ex.mk 1 name val ty lin idx args))],2)) (fun k _=>el (fun i=> ∀h:i<fs.length,bi fs[i].2) k) rfl rfl rfl hY h1d ⟨by simp,by simp⟩ (by simp[na,m6,eN,dB,fw,rn,yv,dQ,bG,ej,d6,cJ,eL,dS,aM,am,oJ,k7,dU]) ⟨(), [],.zero,by simp[Ex.op]⟩ ?_ ?_
       ·intro k x t hx hk
        obtain⟨hlt,rfl⟩:=hget k x hx
        clear hx hlen hget h1d hY
        by_cases hok:bi fs[k].2
        ·clear n1
         repeat' first|simp(disch:=omega) only[go_sem, *,hok,Ex.op]|((with_reducible apply ab)<;>intro h<;>try omega)|(refine aF (cE _ _) rfl rfl ?_)
         exact⟨(), [],hk.succ fun _=>hok,by simp[Ex.op]⟩
        ·have hE:=n1 fun h=>hok (h _ (List.getElem_mem hlt))
         subst hE
         clear n0 n1 hk
         repeat' first|simp(disch:=omega) only[go_sem, *,hok,Ex.op]|((with_reducible apply ab)<;>intro h<;>try omega)|(refine aF (cE _ _) rfl rfl ?_)
       ·intro t hk
        rw[hlen]at hk
        have hE:=n0 fun l hl=>by
         obtain⟨i,hi,rfl⟩:=List.mem_iff_getElem.1 hl
         exact hk i hi hi
        subst hE
        clear n0 n1 hk hlen hget h1d hY
        repeat' first|simp(disch:=omega) only[go_sem, *,Ex.op]|((with_reducible apply ab)<;>intro h<;>try omega)
      ·have hvt':=trivial
       generalize e.forms=fs at*
       have N0:=Lib.hid n0
       have N1:=Lib.hid n1
       have HY:=Lib.hid hY
       have HG:=Lib.hid hget
       have HL:=Lib.hid hlen
       have HD:=Lib.hid h1d
       clear n0 n1 hvt h5 hb hmem hget hlen h1d hY
       repeat' first|simp(disch:=omega) only[go_sem, *,h1,h2,h3,h4,hop]|((with_reducible apply ab)<;>intro h<;>try omega)|(refine aF c1 rfl rfl ?_)|(refine aF c2 rfl rfl ?_)|(refine aF c3 rfl rfl ?_)|(refine aF c4 rfl rfl ?_)|(refine aF hvt' rfl rfl ?_)|(refine cg c5 rfl rfl ?_)
       have n0:=N0.out
       have n1:=N1.out
       have hY:=HY.out
       have hget:=HG.out
       have hlen:=HL.out
       have h1d:=HD.out
       clear N0 N1 HY HG HL HD
       refine wH 2 [(2,.c (.ptr 1 0))] (fun k (_:Unit)=>([(1,.var [.pure (pI 0)]),(0,Gy e)],2)) (fun k _=>el (fun i=> ∀h:i<fs.length,bi fs[i].2) k) rfl rfl rfl hY h1d ⟨by simp,by simp⟩ (by simp[na,m6,eN,dB,fw,rn,yv,dQ,bG,ej,d6,cJ,eL,dS,aM,am,oJ,k7,dU]) ⟨(), [],.zero,by simp[Ex.op]⟩ ?_ ?_
       ·intro k x t hx hk
        obtain⟨hlt,rfl⟩:=hget k x hx
        clear hx hlen hget h1d hY
        by_cases hok:bi fs[k].2
        ·clear n1
         repeat' first|simp(disch:=omega) only[go_sem, *,hok,Ex.op]|((with_reducible apply ab)<;>intro h<;>try omega)|(refine aF (cE _ _) rfl rfl ?_)
         exact⟨(), [],hk.succ fun _=>hok,by simp[Ex.op]⟩
        ·have hE:=n1 fun h=>hok (h _ (List.getElem_mem hlt))
         subst hE
         clear n0 n1 hk
         repeat' first|simp(disch:=omega) only[go_sem, *,hok,Ex.op]|((with_reducible apply ab)<;>intro h<;>try omega)|(refine aF (cE _ _) rfl rfl ?_)
       ·intro t hk
        rw[hlen]at hk
        have hE:=n0 fun l hl=>by
         obtain⟨i,hi,rfl⟩:=List.mem_iff_getElem.1 hl
         exact hk i hi hi
        subst hE
        clear n0 n1 hk hlen hget h1d hY
        repeat' first|simp(disch:=omega) only[go_sem, *,Ex.op]|((with_reducible apply ab)<;>intro h<;>try omega)
     ·have hop:e.op=1:=Classical.byContradiction fun h=>h5 fun h'=>absurd h' h
      have hnv: ¬fY e.ty e.val:=fun h=>h5 fun _=>h
      have hE:bh e=1:=by
       unfold bh
       rw[if_neg (not_not_intro h1),if_neg (not_not_intro h2),if_neg (not_not_intro h3),if_neg (not_not_intro h4)]
       exact if_pos fun h=>h5 h.1
      have hvt':=hvt hop
      have c1:=e9 e
      have c2:=gF e
      have c3:=kW e
      have c4:=ny e
      rw[hE]
      clear hE h5 hvt
      obtain⟨op,name,val,ty,lin,idx,args⟩:=e
      simp only[Ex.op]at hop
      subst hop
      repeat' first|simp(disch:=omega) only[go_sem, *,h1,h2,h3,h4,hnv,Ex.op]|((with_reducible apply ab)<;>intro h<;>try omega)|(refine aF c1 rfl rfl ?_)|(refine aF c2 rfl rfl ?_)|(refine aF c3 rfl rfl ?_)|(refine aF c4 rfl rfl ?_)|(refine aF hvt' rfl rfl ?_)
    ·have hn:bh e=10:=by simp[bh,h1,h2,h3,h4]
     rw[hn]
     clear hn
     repeat' first|simp(disch:=omega) only[go_sem, *,h1,h2,h3,h4]|((with_reducible apply ab)<;>intro h<;>try omega)|(refine aF (e9 e) rfl rfl ?_)|(refine aF (gF e) rfl rfl ?_)|(refine aF (kW e) rfl rfl ?_)|(refine aF (ny e) rfl rfl ?_)
   ·have hn:bh e=11:=by simp[bh,h1,h2,h3]
    rw[hn]
    clear hn
    repeat' first|simp(disch:=omega) only[go_sem, *,h1,h2,h3]|((with_reducible apply ab)<;>intro h<;>try omega)|(refine aF (e9 e) rfl rfl ?_)|(refine aF (gF e) rfl rfl ?_)|(refine aF (kW e) rfl rfl ?_)
  ·have hn:bh e=7:=by simp[bh,h1,h2]
   rw[hn]
   clear hn
   repeat' first|simp(disch:=omega) only[go_sem, *,h1,h2]|((with_reducible apply ab)<;>intro h<;>try omega)|(refine aF (e9 e) rfl rfl ?_)|(refine aF (gF e) rfl rfl ?_)
 ·have hn:bh e=5:=by simp[bh,h1]
  rw[hn]
  clear hn
  repeat' first|simp(disch:=omega) only[go_sem, *,h1]|((with_reducible apply ab)<;>intro h<;>try omega)|(refine aF (e9 e) rfl rfl ?_)
theorem A6 {e:Ex} (h64: ∀a∈e.pre,tL a.val):ac Tryz.prog tA [fJ e] (I (gZ e)):=by
 refine ac.of Cv (by simp) fun hb=>aa ?_
 conv in sY=>cbv
 by_cases h1:40<e.dep
 ·have hE:gZ e=13:=if_pos h1
  rw[hE]
  clear hE h64
  repeat' first|simp(disch:=omega) only[go_sem,show((min e.dep 41:Nat):Int)=41 by omega]|((with_reducible refine ab ?_ ?_)<;>intro h<;>try first|omega|simp(disch:=omega) only[go_sem, *,show((min e.dep 41:Nat):Int)=41 by omega])|(refine aF (nF e) rfl rfl ?_)
 ·by_cases h2:2000<e.sz
  ·have hE:gZ e=2:=by unfold gZ;rw[if_neg h1,if_pos h2]
   rw[hE]
   clear hE h64
   repeat' first|simp(disch:=omega) only[go_sem,show((min e.dep 41:Nat):Int)=e.dep by omega,show((min e.sz 2001:Nat):Int)=2001 by omega,show ¬(e.dep:Int)>40 by omega]|((with_reducible refine ab ?_ ?_)<;>intro h<;>try first|omega|simp(disch:=omega) only[go_sem, *,show((min e.dep 41:Nat):Int)=e.dep by omega,show((min e.sz 2001:Nat):Int)=2001 by omega,show ¬(e.dep:Int)>40 by omega])|(refine aF (nF e) rfl rfl ?_)|(refine aF (x5 e) rfl rfl ?_)
  ·have hE:gZ e=de (e.pre.map bh):=by unfold gZ;rw[if_neg h1,if_neg h2];rfl
   rw[hE]
   have hY:=xK e
   have hlen:(e.pre.map fun a=> [fJ a]).length=e.pre.length:=List.length_map _
   have hget: ∀(k:Nat) x,(e.pre.map fun a=> [fJ a])[k]? =some x→ ∃h:k<e.pre.length,x= [fJ e.pre[k]]:=fun k x hx=>by
    rw[List.getElem?_map]at hx
    obtain⟨a,ha,rfl⟩:=Option.map_eq_some_iff.1 hx
    obtain⟨hk,rfl⟩:=List.getElem?_eq_some_iff.1 ha
    exact⟨hk,rfl⟩
   have h1d: ∀x∈e.pre.map fun a=> [fJ a],x.length=1:=fun x hx=>by
    obtain⟨a,_,rfl⟩:=List.mem_map.1 hx
    rfl
   generalize e.pre=fs at*
   have HY:=Lib.hid hY
   have HG:=Lib.hid hget
   have HL:=Lib.hid hlen
   have HD:=Lib.hid h1d
   have H64:=Lib.hid h64
   clear hget hlen h1d hY h64 hE
   repeat' first|simp(disch:=omega) only[go_sem,show((min e.dep 41:Nat):Int)=e.dep by omega,show((min e.sz 2001:Nat):Int)=e.sz by omega,show ¬(e.dep:Int)>40 by omega,show ¬(e.sz:Int)>2000 by omega]|((with_reducible refine ab ?_ ?_)<;>intro h<;>try first|omega|simp(disch:=omega) only[go_sem, *,show((min e.dep 41:Nat):Int)=e.dep by omega,show((min e.sz 2001:Nat):Int)=e.sz by omega,show ¬(e.dep:Int)>40 by omega,show ¬(e.sz:Int)>2000 by omega])|(refine aF (nF e) rfl rfl ?_)|(refine aF (x5 e) rfl rfl ?_)|(refine cg (xr e) rfl rfl ?_)
   refine wH 2 [(2,.c (.ptr 1 0))] (fun k (_:Unit)=>([(1,.var [.pure (pI 0)]),(0,Gy e)],2)) (fun k _=>Hid (de ((fs.map bh).take k)=0)) rfl rfl rfl HY.out HD.out ⟨by simp,by simp⟩ (by simp[na,m6,eN,dB,fw,rn,yv,dQ,bG,ej,d6,cJ,eL,dS,aM,am,oJ,k7,dU]) ⟨(), [],by show _=_;simp[de],by simp⟩ ?_ ?_
   ·intro k x t hx hk
    obtain⟨hlt,rfl⟩:=HG.out k x hx
    have hvn:=zx (H64.out _ (List.getElem_mem hlt))
    have hlm:k<(fs.map bh).length:=by simpa using hlt
    have h3:=iR hlm hk.out
    have h4:=oH hlm hk.out
    rw[List.getElem_map]at h3 h4
    clear hx HG HL HD HY H64 hk
    by_cases hp:bh fs[k]=0
    ·have H3:=Lib.hid (h3.trans hp)
     clear h3 h4
     repeat' first|simp(disch:=omega) only[go_sem,hp]|((with_reducible refine ab ?_ ?_)<;>intro h<;>try first|omega|simp(disch:=omega) only[go_sem, *,hp])|(refine aF hvn rfl rfl ?_)
     exact⟨(), [],H3,by simp⟩
    ·have h5:=h4 hp
     rw[h5]
     clear h3 h4 h5
     repeat' first|simp(disch:=omega) only[go_sem,hp]|((with_reducible refine ab ?_ ?_)<;>intro h<;>try first|omega|simp(disch:=omega) only[go_sem, *,hp])|(refine aF hvn rfl rfl ?_)
   ·intro t hk
    have hk':=hk.out
    rw[HL.out,List.take_of_length_le (by simp)]at hk'
    rw[hk']
    clear hk hk' HG HL HD HY H64
    repeat' first|simp(disch:=omega) only[go_sem]|((with_reducible refine ab ?_ ?_)<;>intro h<;>try first|omega|simp(disch:=omega) only[go_sem, *])
end Go.Proofs.YthbcbaembicdbaaGreatDoor
