import Derived.Test.YthkaaahphlneiaaGreatDoorP17
import Derived.Test.YthkaaahphlneiaaGreatDoorV14d
import Derived.Test.YthkaaahphlneiaaGreatDoorV17c
import Derived.Test.YthkaaahphlneiaaGreatDoorV17g
set_option linter.unusedVariables false
set_option linter.unusedSimpArgs false
namespace Go.Proofs.YthkaaahphlneiaaGreatDoor
open Go.Abs Go.RowKit
def Qp (m:Int):List ca→Int→Int
 | [],n=>n
 |x::r,n=>if n≤m then Qp m r (IntKind.wrap .i64 (n+x.2.length))else n
def An (m:Int):List Ix→Int→Int
 | [],n=>n
 |x::r,n=>if n≤m then An m r (Qp m x.2.2 (IntKind.wrap .i64 (IntKind.wrap .i64 (n+x.1.2.length)+x.2.2.length)))else n
def w0 (e:Ex):Int:=IntKind.wrap .i64 (IntKind.wrap .i64 (1+e.lin.2.length)+e.idx.length)
mutual
def mQ:Ex→Int→Int
 | .mk op name val ty lin idx args,m=>rL args m (An m idx (IntKind.wrap .i64 (IntKind.wrap .i64 (1+lin.2.length)+idx.length)))
def rL:List Ex→Int→Int→Int
 | [],m,n=>n
 |a::r,m,n=>if n≤m then rL r m (IntKind.wrap .i64 (n+mQ a (IntKind.wrap .i64 (m-n))))else n
end
theorem LZ (e:Ex) (m:Int):mQ e m=rL e.args m (An m e.idx (w0 e)):=by
 obtain⟨op,name,val,ty,lin,idx,args⟩:=e
 rw[mQ]
 rfl
theorem Wt {m:Int} {l:List ca} {k:Nat} {n:Int} (h:k<l.length) (hn:n≤m):Qp m (l.drop k) n=Qp m (l.drop (k+1)) (IntKind.wrap .i64 (n+l[k].2.length)):=by
 rw[List.drop_eq_getElem_cons h,Qp,if_pos hn]
theorem RF {m:Int} {l:List ca} {k:Nat} {n:Int} (h: ¬(k<l.length∧n≤m)):Qp m (l.drop k) n=n:=by
 by_cases hk:k<l.length
 ·rw[List.drop_eq_getElem_cons hk,Qp,if_neg fun hn=>h ⟨hk,hn⟩]
 ·rw[List.drop_eq_nil_of_le (by omega),Qp]
theorem Uc {m:Int} {l:List Ix} {k:Nat} {n:Int} (h:k<l.length) (hn:n≤m):An m (l.drop k) n=An m (l.drop (k+1)) (Qp m l[k].2.2 (IntKind.wrap .i64 (IntKind.wrap .i64 (n+l[k].1.2.length)+l[k].2.2.length))):=by
 rw[List.drop_eq_getElem_cons h,An,if_pos hn]
theorem PD {m:Int} {l:List Ix} {k:Nat} {n:Int} (h: ¬(k<l.length∧n≤m)):An m (l.drop k) n=n:=by
 by_cases hk:k<l.length
 ·rw[List.drop_eq_getElem_cons hk,An,if_neg fun hn=>h ⟨hk,hn⟩]
 ·rw[List.drop_eq_nil_of_le (by omega),An]
theorem Rw {m:Int} {l:List Ex} {k:Nat} {n:Int} (h:k<l.length) (hn:n≤m):rL (l.drop k) m n=rL (l.drop (k+1)) m (IntKind.wrap .i64 (n+mQ l[k] (IntKind.wrap .i64 (m-n)))):=by
 rw[List.drop_eq_getElem_cons h,rL,if_pos hn]
theorem EL {m:Int} {l:List Ex} {k:Nat} {n:Int} (h: ¬(k<l.length∧n≤m)):rL (l.drop k) m n=n:=by
 by_cases hk:k<l.length
 ·rw[List.drop_eq_getElem_cons hk,rL,if_neg fun hn=>h ⟨hk,hn⟩]
 ·rw[List.drop_eq_nil_of_le (by omega),rL]
def D1 (d:zH):Prop:=12<d.dims.length∨12<d.red.length∨300<mQ d.body 300∨ ∃a∈d.dims++d.red,20<a.2.2.length
def Dn (x:pH):Prop:=12<x.2.2.length∨ ∃l∈x.2.2,20<l.2.length
def lR (p:bK):Prop:=(12<p.sizes.length∨12<p.wher.length∨12<p.params.length∨12<p.defs.length∨12<p.outs.length)∨(∃c∈p.wher,20<c.1.2.length)∨(∃x∈p.params,Dn x)∨ ∃d∈p.defs,D1 d
noncomputable instance (d:zH):Decidable (D1 d):=Classical.propDecidable _
noncomputable instance (x:pH):Decidable (Dn x):=Classical.propDecidable _
noncomputable instance (p:bK):Decidable (lR p):=Classical.propDecidable _
theorem Aq {p:bK} (h: ¬lR p):j8 p:=by
 refine⟨fun x hx=> ?_,fun d hd=> ?_⟩
 ·have hn: ¬Dn x:=fun hh=>h (.inr (.inr (.inl ⟨x,hx,hh⟩)))
  exact⟨Nat.le_of_not_lt fun hh=>hn (.inl hh),fun l hl=>Nat.le_of_not_lt fun hh=>hn (.inr ⟨l,hl,hh⟩)⟩
 ·have hn: ¬D1 d:=fun hh=>h (.inr (.inr (.inr ⟨d,hd,hh⟩)))
  exact⟨Nat.le_of_not_lt fun hh=>hn (.inl hh),Nat.le_of_not_lt fun hh=>hn (.inr (.inl hh)),
   fun a ha=>Nat.le_of_not_lt fun hh=>hn (.inr (.inr (.inr ⟨a,List.mem_append_left _ ha,hh⟩))),fun a ha=>Nat.le_of_not_lt fun hh=>hn (.inr (.inr (.inr ⟨a,List.mem_append_right _ ha,hh⟩)))⟩
set_option maxRecDepth 20000
set_option maxHeartbeats 4000000
set_option maxRecDepth 1000000
open Go.Abs Go.RowKit
set_option maxHeartbeats 2000000 in
theorem Di (e:Ex): ∀m:Int,ac Tryz.prog mg [fm e,I m] (I (mQ e m)):=by
 refine Ex.ind (p:=fun e=> ∀m:Int,ac Tryz.prog mg [fm e,I m] (I (mQ e m))) (fun e ih m=> ?_) e
 refine ac.of Gi (by simp) fun hb=>aa ?_
 obtain⟨hla,hli⟩:=dX hb
 have hR:rL e.args m (An m e.idx (w0 e))=mQ e m:=(LZ e m).symm
 generalize mQ e m=R at*
 have HR:=Lib.hid hR
 clear hR
 conv in yF=>cbv
 repeat' first|simp(disch:=omega) only[go_sem, *]|((with_reducible refine ab ?_ ?_)<;>intro h<;>try omega)
 refine aj (fun s:Nat×Int=>⟨[(6,I s.1),(5,I s.2),(2,.c (.ptr 0 0)),(1,I m)], [(0,Ey e)],1,0⟩) (fun s=>s.1≤e.idx.length∧Hid (An m (e.idx.drop s.1) s.2=An m e.idx (w0 e))) (fun s=>e.idx.length-s.1) ⟨(0,w0 e), [],⟨by omega,rfl⟩,by simp[w0]⟩ ?_
 rintro⟨k,n⟩ ⟨hk,hall⟩
 refine aa ?_
 simp only at hk hall
 by_cases hgo:k<e.idx.length∧n≤m
 ·obtain⟨hlt,hn⟩:=hgo
  have hs:=(Uc hlt hn).symm.trans hall.out
  have HS:=Lib.hid hs
  clear hall hs
  repeat' first|simp(disch:=omega) only[go_sem, *,ae hlt,eB,wrap_i64,hn]|((with_reducible refine ab ?_ ?_)<;>intro h<;>try omega)
  refine Q3 45 fun hbd=> ?_
  have hla2:e.idx[k].2.2.length≤9223372036854775807:=by simpa[ay,ie,iz]using hbd
  clear hbd
  generalize hB:IntKind.wrap .i64 (IntKind.wrap .i64 (n+e.idx[k].1.2.length)+e.idx[k].2.2.length)=n1 at*
  obtain⟨N2,hN2⟩: ∃N2,Qp m e.idx[k].2.2 n1=N2:=⟨_,rfl⟩
  rw[hN2]at HS
  have H2:=Lib.hid hN2
  clear hN2 hB hn
  refine aj (fun s:Nat×Int=>⟨[(7,I s.1),(6,I k),(5,I s.2),(2,.c (.ptr 0 0)),(1,I m)], [(0,Ey e)],1,0⟩) (fun s=>s.1≤e.idx[k].2.2.length∧Hid (Qp m (e.idx[k].2.2.drop s.1) s.2=N2)) (fun s=>e.idx[k].2.2.length-s.1) ⟨(0,n1), [],⟨by omega,H2⟩,by simp⟩ ?_
  clear H2
  rintro⟨j,n2⟩ ⟨hj,hall2⟩
  refine aa ?_
  simp only at hj hall2
  by_cases hgo2:j<e.idx[k].2.2.length∧n2≤m
  ·obtain⟨hlt2,hn2⟩:=hgo2
   have hs2:=(Wt hlt2 hn2).symm.trans hall2.out
   have HS2:=Lib.hid hs2
   clear hall2 hs2
   repeat' first|simp(disch:=omega) only[go_sem, *,ae hlt,ae hlt2,eB,bQ,wrap_i64,hn2]|((with_reducible refine ab ?_ ?_)<;>intro h<;>try omega)
   exact⟨(j+1,IntKind.wrap .i64 (n2+e.idx[k].2.2[j].2.length)), [],⟨by omega,HS2⟩,by show _-_<_-_;omega,by simp⟩
  ·have hs2:=(RF hgo2).symm.trans hall2.out
   subst hs2
   clear hall2
   by_cases hlt2:j<e.idx[k].2.2.length
   ·have hn2: ¬n2≤m:=fun h=>hgo2 ⟨hlt2,h⟩
    clear hgo2
    repeat' first|simp(disch:=omega) only[go_sem, *,ae hlt,eB,wrap_i64,hn2]|((with_reducible refine ab ?_ ?_)<;>intro h<;>try omega)
    exact⟨(k+1,n2), [],⟨by omega,HS⟩,by show _-_<_-_;omega,by simp⟩
   ·clear hgo2
    repeat' first|simp(disch:=omega) only[go_sem, *,ae hlt,eB,wrap_i64]|((with_reducible refine ab ?_ ?_)<;>intro h<;>try omega)
    exact⟨(k+1,n2), [],⟨by omega,HS⟩,by show _-_<_-_;omega,by simp⟩
 ·have hs:=(PD hgo).symm.trans hall.out
  clear hall
  rw[←hs]at HR
  have fin: ∀(P:Prop),P→P:=fun _ h=>h
  clear hs
  have hcase:(k<e.idx.length∧ ¬n≤m)∨ ¬k<e.idx.length:=by
   by_cases h:k<e.idx.length
   ·exact .inl ⟨h,fun hh=>hgo ⟨h,hh⟩⟩
   ·exact .inr h
  clear hgo fin
  rcases hcase with⟨hlt,hn⟩|hlt
  all_goals
   repeat' first|simp(disch:=omega) only[go_sem, *,wrap_i64]|((with_reducible refine ab ?_ ?_)<;>intro h<;>try omega)
   repeat clear hn
   refine aj (fun s:Nat×Int=>⟨[(8,I s.1),(5,I s.2),(2,.c (.ptr 0 0)),(1,I m)], [(0,Ey e)],1,0⟩) (fun s=>s.1≤e.args.length∧Hid (rL (e.args.drop s.1) m s.2=R)) (fun s=>e.args.length-s.1) ⟨(0,n), [],⟨by omega,HR⟩,by simp⟩ ?_
   clear HR
   repeat clear hlt
   rintro⟨j,n2⟩ ⟨hj,hall2⟩
   refine aa ?_
   simp only at hj hall2
   by_cases hlt2:j<e.args.length
   ·by_cases hn2:n2≤m
    ·have hs2:=(Rw hlt2 hn2).symm.trans hall2.out
     have HS2:=Lib.hid hs2
     have cW:=ih _ (List.getElem_mem hlt2) (IntKind.wrap .i64 (m-n2))
     clear hall2 hs2 ih
     repeat' first|simp(disch:=omega) only[go_sem, *,ae hlt2,Ex.row_eq,wrap_i64,hn2]|((with_reducible refine ab ?_ ?_)<;>intro h<;>try omega)|(refine av cW rfl rfl ?_)
     exact⟨(j+1,IntKind.wrap .i64 (n2+mQ e.args[j] (IntKind.wrap .i64 (m-n2)))), [],⟨by omega,HS2⟩,by show _-_<_-_;omega,by simp⟩
    ·have hs2:=(EL (l:=e.args) (k:=j) fun h=>hn2 h.2).symm.trans hall2.out
     rw[←hs2]
     clear hall2 hs2 ih
     repeat' first|simp(disch:=omega) only[go_sem, *,hn2]|((with_reducible refine ab ?_ ?_)<;>intro h<;>try omega)
   ·have hs2:=(EL (m:=m) (n:=n2) (l:=e.args) (k:=j) fun h=>hlt2 h.1).symm.trans hall2.out
    rw[←hs2]
    clear hall2 hs2 ih
    repeat' first|simp(disch:=omega) only[go_sem, *]|((with_reducible refine ab ?_ ?_)<;>intro h<;>try omega)
set_option maxRecDepth 20000
set_option maxRecDepth 1000000
noncomputable instance IT (l:List ca):Decidable (∃x∈l,20<x.2.length):=Classical.propDecidable _
theorem Eg (l:List ca):ac Tryz.prog rG [kL l] (Go.Abs.B (@decide (∃x∈l,20<x.2.length) (IT l))):=by
 refine ac.of FY (by simp) fun hb=>aa ?_
 have hl:l.length≤9223372036854775807:=by
  have:=hb.1
  simpa[ie,iz]using this
 conv in x6=>cbv
 repeat' first|simp(disch:=omega) only[go_sem, *]|((with_reducible refine ab ?_ ?_)<;>intro h<;>try omega)
 refine aj (fun k:Nat=>⟨[(3,I k),(0,kL l)], [],0,0⟩) (fun k=>k≤l.length∧dW (fun i=> ∀h:i<l.length,¬20<l[i].2.length) k) (fun k=>l.length-k) ⟨0, [],⟨by omega,.zero⟩,by simp⟩ ?_
 rintro k ⟨hk,hall⟩
 refine aa ?_
 by_cases hlt:k<l.length
 ·by_cases h:20<l[k].2.length
  ·rw[@decide_eq_true _ (IT l) ⟨l[k],List.getElem_mem hlt,h⟩]
   have h':(l[k].2.length:Int)>20:=by omega
   clear hall
   repeat' first|simp(disch:=omega) only[go_sem, *,ae hlt,bQ,wrap_i64,h']|((with_reducible refine ab ?_ ?_)<;>intro h<;>try omega)
  ·have HA:=Lib.hid (hall.succ fun _=>h)
   have h': ¬(l[k].2.length:Int)>20:=by omega
   clear hall h
   repeat' first|simp(disch:=omega) only[go_sem, *,ae hlt,bQ,wrap_i64,h']|((with_reducible refine ab ?_ ?_)<;>intro h<;>try omega)
   exact⟨k+1, [],⟨by omega,HA.out⟩,by omega,by simp⟩
 ·rw[@decide_eq_false _ (IT l) (by
   rintro⟨x,hx,h⟩
   obtain⟨i,hi,rfl⟩:=List.mem_iff_getElem.1 hx
   exact hall i (by omega) hi h)]
  clear hall
  repeat' first|simp(disch:=omega) only[go_sem, *]|((with_reducible refine ab ?_ ?_)<;>intro h<;>try omega)
set_option maxHeartbeats 4000000 in
theorem EJ (p:bK):ac Tryz.prog rc [fK p,I 300] (Go.Abs.B (decide (lR p))):=by
 refine ac.of Gl (by simp) fun hb=>aa ?_
 conv in yI=>cbv
 by_cases h5:12<p.sizes.length∨12<p.wher.length∨12<p.params.length∨12<p.defs.length∨12<p.outs.length
 ·rw[decide_eq_true (show lR p from .inl h5)]
  repeat' first|simp(disch:=omega) only[go_sem]|((with_reducible refine ab ?_ ?_)<;>intro h<;>try first|omega|simp(disch:=omega) only[go_sem, *])
 ·have hd:(∀i (h:i<p.wher.length),¬20<p.wher[i].1.2.length)→(∀i (h:i<p.params.length),¬Dn p.params[i])→(∀i (h:i<p.defs.length),¬D1 p.defs[i])→decide (lR p)=false:=fun g1 g2 g3=>decide_eq_false (by
   rintro(h|⟨x,hx,h⟩|⟨x,hx,h⟩|⟨x,hx,h⟩)
   ·exact h5 h
   ·obtain⟨i,hi,rfl⟩:=List.mem_iff_getElem.1 hx
    exact g1 i hi h
   ·obtain⟨i,hi,rfl⟩:=List.mem_iff_getElem.1 hx
    exact g2 i hi h
   ·obtain⟨i,hi,rfl⟩:=List.mem_iff_getElem.1 hx
    exact g3 i hi h)
  have HF:=Lib.hid hd
  clear hd
  obtain⟨hl1,hl2,hl3,hl4,hl5⟩:p.sizes.length≤12∧p.wher.length≤12∧p.params.length≤12∧p.defs.length≤12∧p.outs.length≤12:=by omega
  clear h5
  repeat' first|simp(disch:=omega) only[go_sem]|((with_reducible refine ab ?_ ?_)<;>intro h<;>try first|omega|simp(disch:=omega) only[go_sem, *])
  refine aj (fun k:Nat=>⟨[(5,I k),(2,.c (.ptr 0 0)),(1,I 300)], [(0,d6 p)],1,0⟩) (fun k=>k≤p.wher.length∧dW (fun i=> ∀h:i<p.wher.length,¬20<p.wher[i].1.2.length) k) (fun k=>p.wher.length-k) ⟨0, [],⟨by omega,.zero⟩,by simp⟩ ?_
  rintro k ⟨hk,hall⟩
  refine aa ?_
  by_cases hlt:k<p.wher.length
  ·by_cases h:20<p.wher[k].1.2.length
   ·rw[decide_eq_true (show lR p from .inr (.inl ⟨_,List.getElem_mem hlt,h⟩))]
    have h':(p.wher[k].1.2.length:Int)>20:=by omega
    clear hall
    repeat' first|simp(disch:=omega) only[go_sem,ae hlt,cP,wrap_i64,h']|((with_reducible refine ab ?_ ?_)<;>intro h<;>try first|omega|simp(disch:=omega) only[go_sem, *,ae hlt,cP,wrap_i64,h'])
   ·have HA:=Lib.hid (hall.succ fun _=>h)
    have h': ¬(p.wher[k].1.2.length:Int)>20:=by omega
    clear hall h
    repeat' first|simp(disch:=omega) only[go_sem,ae hlt,cP,wrap_i64,h']|((with_reducible refine ab ?_ ?_)<;>intro h<;>try first|omega|simp(disch:=omega) only[go_sem, *,ae hlt,cP,wrap_i64,h'])
    exact⟨k+1, [],⟨by omega,HA.out⟩,by omega,by simp⟩
  have H1:Hid (∀i (h:i<p.wher.length),¬20<p.wher[i].1.2.length):=fun i hi=>hall i (by omega) hi
  clear hall
  repeat' first|simp(disch:=omega) only[go_sem]|((with_reducible refine ab ?_ ?_)<;>intro h<;>try first|omega|simp(disch:=omega) only[go_sem, *])
  repeat clear hlt
  repeat clear hk
  refine aj (fun k:Nat=>⟨[(6,I k),(2,.c (.ptr 0 0)),(1,I 300)], [(0,d6 p)],1,0⟩) (fun k=>k≤p.params.length∧dW (fun i=> ∀h:i<p.params.length,¬Dn p.params[i]) k) (fun k=>p.params.length-k) ⟨0, [],⟨by omega,.zero⟩,by simp⟩ ?_
  rintro k ⟨hk,hall⟩
  refine aa ?_
  by_cases hlt:k<p.params.length
  ·have cW:=Eg p.params[k].2.2
   by_cases h:Dn p.params[k]
   ·rw[decide_eq_true (show lR p from .inr (.inr (.inl ⟨_,List.getElem_mem hlt,h⟩)))]
    by_cases hw: ∃l∈p.params[k].2.2,20<l.2.length
    ·rw[decide_eq_true hw]at cW
     clear hall h hw
     repeat' first|simp(disch:=omega) only[go_sem,ae hlt,gV,wrap_i64]|((with_reducible refine ab ?_ ?_)<;>intro h<;>try first|omega|simp(disch:=omega) only[go_sem, *,ae hlt,gV,wrap_i64])|(refine av cW rfl rfl ?_)
    ·have h':12<p.params[k].2.2.length:=h.resolve_right hw
     clear hall h hw cW
     repeat' first|simp(disch:=omega) only[go_sem,ae hlt,gV,wrap_i64]|((with_reducible refine ab ?_ ?_)<;>intro h<;>try first|omega|simp(disch:=omega) only[go_sem, *,ae hlt,gV,wrap_i64])
   ·have HA:=Lib.hid (hall.succ fun _=>h)
    have hw: ¬ ∃l∈p.params[k].2.2,20<l.2.length:=fun hh=>h (.inr hh)
    have h': ¬12<p.params[k].2.2.length:=fun hh=>h (.inl hh)
    rw[decide_eq_false hw]at cW
    clear hall h hw
    repeat' first|simp(disch:=omega) only[go_sem,ae hlt,gV,wrap_i64]|((with_reducible refine ab ?_ ?_)<;>intro h<;>try first|omega|simp(disch:=omega) only[go_sem, *,ae hlt,gV,wrap_i64])|(refine av cW rfl rfl ?_)
    exact⟨k+1, [],⟨by omega,HA.out⟩,by omega,by simp⟩
  have H2:Hid (∀i (h:i<p.params.length),¬Dn p.params[i]):=fun i hi=>hall i (by omega) hi
  clear hall
  repeat' first|simp(disch:=omega) only[go_sem]|((with_reducible refine ab ?_ ?_)<;>intro h<;>try first|omega|simp(disch:=omega) only[go_sem, *])
  repeat clear hlt
  repeat clear hk
  refine aj (fun k:Nat=>⟨[(7,I k),(2,.c (.ptr 0 0)),(1,I 300)], [(0,d6 p)],1,0⟩) (fun k=>k≤p.defs.length∧dW (fun i=> ∀h:i<p.defs.length,¬D1 p.defs[i]) k) (fun k=>p.defs.length-k) ⟨0, [],⟨by omega,.zero⟩,by simp⟩ ?_
  rintro k ⟨hk,hall⟩
  refine aa ?_
  by_cases hlt:k<p.defs.length
  ·have cW:=Di p.defs[k].body 300
   have hyes:D1 p.defs[k]→lR p:=fun h=> .inr (.inr (.inr ⟨_,List.getElem_mem hlt,h⟩))
   by_cases h:12<p.defs[k].dims.length∨12<p.defs[k].red.length∨300<mQ p.defs[k].body 300
   ·rw[decide_eq_true (hyes (by
     rcases h with h|h|h
     ·exact .inl h
     ·exact .inr (.inl h)
     ·exact .inr (.inr (.inl h))))]
    clear hall hyes
    generalize mQ p.defs[k].body 300=W at*
    repeat' first|simp(disch:=omega) only[go_sem,ae hlt,cr,wrap_i64]|((with_reducible refine ab ?_ ?_)<;>intro h<;>try first|omega|simp(disch:=omega) only[go_sem, *,ae hlt,cr,wrap_i64])|(refine av cW rfl rfl ?_)
   ·have hD:(∀i (h:i<(p.defs[k].dims++p.defs[k].red).length),¬20<(p.defs[k].dims++p.defs[k].red)[i].2.2.length)→Hid (dW (fun i=> ∀h:i<p.defs.length,¬D1 p.defs[i]) (k+1)):=fun g=>hall.succ fun _ hh=>by
     rcases hh with hh|hh|hh|⟨a,ha,hh⟩
     ·exact h (.inl hh)
     ·exact h (.inr (.inl hh))
     ·exact h (.inr (.inr hh))
     ·obtain⟨i,hi,rfl⟩:=List.mem_iff_getElem.1 ha
      exact g i hi hh
    have hy2: ∀i (h:i<(p.defs[k].dims++p.defs[k].red).length),20<(p.defs[k].dims++p.defs[k].red)[i].2.2.length→lR p:=fun i hi hh=>hyes (.inr (.inr (.inr ⟨_,List.getElem_mem hi,hh⟩)))
    obtain⟨h1,h2,h3⟩:p.defs[k].dims.length≤12∧p.defs[k].red.length≤12∧mQ p.defs[k].body 300≤300:=by omega
    clear hall hyes h
    generalize mQ p.defs[k].body 300=W at*
    repeat' first|simp(disch:=omega) only[go_sem,ae hlt,cr,wrap_i64]|((with_reducible refine ab ?_ ?_)<;>intro h<;>try first|omega|simp(disch:=omega) only[go_sem, *,ae hlt,cr,wrap_i64])|(refine av cW rfl rfl ?_)
    clear cW h3
    refine aj (fun j:Nat=>⟨[(9,I j),(8,.c (.ptr 1 0)),(7,I k),(2,.c (.ptr 0 0)),(1,I 300)], [(1,J4 p.defs[k]),(0,d6 p)],2,0⟩) (fun j=>j≤(p.defs[k].dims++p.defs[k].red).length∧dW (fun i=> ∀h:i<(p.defs[k].dims++p.defs[k].red).length,¬20<(p.defs[k].dims++p.defs[k].red)[i].2.2.length) j) (fun j=>(p.defs[k].dims++p.defs[k].red).length-j) ⟨0, [],⟨by omega,.zero⟩,by simp⟩ ?_
    rintro j ⟨hj,hal2⟩
    refine aa ?_
    have hLl:(p.defs[k].dims++p.defs[k].red).length=p.defs[k].dims.length+p.defs[k].red.length:=List.length_append
    by_cases hlt2:j<(p.defs[k].dims++p.defs[k].red).length
    ·have hlt3:(j:Int)<p.defs[k].dims.length+p.defs[k].red.length:=by omega
     by_cases hdn:p.defs[k].dims= []
     ·have hget:(p.defs[k].dims++p.defs[k].red)[j]=p.defs[k].red[j]'(by simpa[hdn]using hlt2):=by simp[hdn]
      have hltr:j<p.defs[k].red.length:=by simpa[hdn]using hlt2
      by_cases h:20<(p.defs[k].dims++p.defs[k].red)[j].2.2.length
      ·rw[decide_eq_true (hy2 j hlt2 h)]
       rw[hget]at h
       have h':(p.defs[k].red[j].2.2.length:Int)>20:=by omega
       clear hal2 hy2 hD hget h hlt2 hLl hj
       repeat' first|simp(disch:=omega) only[go_sem,hdn,ae hltr,ed,wrap_i64,h']|((with_reducible refine ab ?_ ?_)<;>intro h<;>try first|omega|simp(disch:=omega) only[go_sem, *,hdn,ae hltr,ed,wrap_i64,h'])|(with_reducible refine af ?_ ?_)|(with_reducible refine ag (fun h=> ?_) ?_)|(refine dN aU ?_)|(refine im aU (ar fun x=>rfl) (by simp;omega) (by simp;omega) ?_)
      ·have HA:=Lib.hid (hal2.succ fun _=>h)
       rw[hget]at h
       have h': ¬(p.defs[k].red[j].2.2.length:Int)>20:=by omega
       have hj2:j+1≤(p.defs[k].dims++p.defs[k].red).length:=by omega
       have hj3:(p.defs[k].dims++p.defs[k].red).length-(j+1)<(p.defs[k].dims++p.defs[k].red).length-j:=by omega
       have ha2:=HA.out
       simp only[hdn,List.nil_append]at ha2 hj2 hj3
       have HA2:=Lib.hid ha2
       have HJ2:=Lib.hid hj2
       have HJ3:=Lib.hid hj3
       clear hal2 hy2 hget h hlt2 hLl hj hj2 hj3 ha2 HA
       repeat' first|simp(disch:=omega) only[go_sem,hdn,ae hltr,ed,wrap_i64,h']|((with_reducible refine ab ?_ ?_)<;>intro h<;>try first|omega|simp(disch:=omega) only[go_sem, *,hdn,ae hltr,ed,wrap_i64,h'])|(with_reducible refine af ?_ ?_)|(with_reducible refine ag (fun h=> ?_) ?_)|(refine dN aU ?_)|(refine im aU (ar fun x=>rfl) (by simp;omega) (by simp;omega) ?_)
       all_goals exact⟨j+1, [],⟨HJ2.out,HA2.out⟩,HJ3.out,by simp[hdn]⟩
     ·by_cases h:20<(p.defs[k].dims++p.defs[k].red)[j].2.2.length
      ·rw[decide_eq_true (hy2 j hlt2 h)]
       have h':((p.defs[k].dims++p.defs[k].red)[j].2.2.length:Int)>20:=by omega
       clear hal2 hy2 hD h hj
       repeat' first|simp(disch:=omega) only[go_sem,←List.map_append,ae hlt2,ed,wrap_i64,h']|((with_reducible refine ab ?_ ?_)<;>intro h<;>try first|omega|simp(disch:=omega) only[go_sem, *,←List.map_append,ae hlt2,ed,wrap_i64,h'])|(with_reducible refine af ?_ ?_)|(with_reducible refine ag (fun h=> ?_) ?_)|(refine dI aU (ar fun x=>rfl) (by simpa using hdn) (by simp;omega) (by simp;omega) ?_)|(refine aN rfl (by intro h;cases h) (ar fun x=>rfl) (by simp;omega) (by simp;omega) ?_)
      ·have HA:=Lib.hid (hal2.succ fun _=>h)
       have h': ¬((p.defs[k].dims++p.defs[k].red)[j].2.2.length:Int)>20:=by omega
       clear hal2 hy2 h
       repeat' first|simp(disch:=omega) only[go_sem,←List.map_append,ae hlt2,ed,wrap_i64,h']|((with_reducible refine ab ?_ ?_)<;>intro h<;>try first|omega|simp(disch:=omega) only[go_sem, *,←List.map_append,ae hlt2,ed,wrap_i64,h'])|(with_reducible refine af ?_ ?_)|(with_reducible refine ag (fun h=> ?_) ?_)|(refine dI aU (ar fun x=>rfl) (by simpa using hdn) (by simp;omega) (by simp;omega) ?_)|(refine aN rfl (by intro h;cases h) (ar fun x=>rfl) (by simp;omega) (by simp;omega) ?_)
       all_goals exact⟨j+1, [],⟨by omega,HA.out⟩,by omega,by simp⟩
    ·have HA:=hD fun i hi=>hal2 i (by omega) hi
     have hlt3: ¬(j:Int)<p.defs[k].dims.length+p.defs[k].red.length:=by omega
     clear hal2 hD hy2 hlt2 hLl hj
     repeat' first|simp(disch:=omega) only[go_sem,wrap_i64]|((with_reducible refine ab ?_ ?_)<;>intro h<;>try first|omega|simp(disch:=omega) only[go_sem, *,wrap_i64])
     exact⟨k+1, [],⟨by omega,HA.out⟩,by omega,by simp⟩
  ·rw[HF.out H1.out H2.out fun i hi=>hall i (by omega) hi]
   clear hall
   repeat' first|simp(disch:=omega) only[go_sem]|((with_reducible refine ab ?_ ?_)<;>intro h<;>try first|omega|simp(disch:=omega) only[go_sem, *])
theorem Ca (p:bK):ac Tryz.prog o6 [fK p] (Go.Abs.B (decide (p.defs.length≤8∧ ¬lR p))):=by
 refine ac.of Et (by simp) fun hb=>aa ?_
 have cL:=EJ p
 conv in vW=>cbv
 by_cases h1:p.defs.length≤8
 ·by_cases h2:lR p
  ·rw[decide_eq_true h2]at cL
   rw[decide_eq_false (fun h=>h.2 h2)]
   clear h2
   repeat' first|simp(disch:=omega) only[go_sem, *]|((with_reducible refine ab ?_ ?_)<;>intro h<;>try omega)|(refine av cL rfl rfl ?_)
   all_goals rfl
  ·rw[decide_eq_false h2]at cL
   rw[decide_eq_true ⟨h1,h2⟩]
   clear h2
   repeat' first|simp(disch:=omega) only[go_sem, *]|((with_reducible refine ab ?_ ?_)<;>intro h<;>try omega)|(refine av cL rfl rfl ?_)
   all_goals rfl
 ·rw[decide_eq_false (fun h=>h1 h.1)]
  clear cL
  repeat' first|simp(disch:=omega) only[go_sem, *]|((with_reducible refine ab ?_ ?_)<;>intro h<;>try omega)
end Go.Proofs.YthkaaahphlneiaaGreatDoor
