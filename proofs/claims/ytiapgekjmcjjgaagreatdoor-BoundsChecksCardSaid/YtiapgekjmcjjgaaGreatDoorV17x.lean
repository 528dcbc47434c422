import Derived.Test.YtiapgekjmcjjgaaGreatDoorV14d
import Derived.Test.YtiapgekjmcjjgaaGreatDoorV17g
set_option maxHeartbeats 4000000
set_option linter.unusedVariables false
set_option linter.unusedSimpArgs false
open Go.Proofs.Tryz renaming prog→Ya
namespace Go.Proofs.YtiapgekjmcjjgaaGreatDoor
open Go.Abs Go.RowKit
noncomputable section
def Nm (m:Int):List bW→Int→Int
 | [],n=>n
 |x::r,n=>if n≤m then Nm m r (IntKind.wrap .i64 (n+x.2.length))else n
def wL (m:Int):List Ix→Int→Int
 | [],n=>n
 |x::r,n=>if n≤m then wL m r (Nm m x.2.2 (IntKind.wrap .i64 (IntKind.wrap .i64 (n+x.1.2.length)+x.2.2.length)))else n
def w0 (e:Ex):Int:=IntKind.wrap .i64 (IntKind.wrap .i64 (1+e.lin.2.length)+e.idx.length)
mutual
def lX:Ex→Int→Int
 | .mk op name val ty lin idx args,m=>oT args m (wL m idx (IntKind.wrap .i64 (IntKind.wrap .i64 (1+lin.2.length)+idx.length)))
def oT:List Ex→Int→Int→Int
 | [],m,n=>n
 |a::r,m,n=>if n≤m then oT r m (IntKind.wrap .i64 (n+lX a (IntKind.wrap .i64 (m-n))))else n
end
theorem Gq (e:Ex) (m:Int):lX e m=oT e.args m (wL m e.idx (w0 e)):=by
 obtain⟨op,name,val,ty,lin,idx,args⟩:=e
 rw[lX]
 rfl
theorem SE {m:Int} {l:List bW} {k:Nat} {n:Int} (h:k<l.length) (hn:n≤m):Nm m (l.drop k) n=Nm m (l.drop (k+1)) (IntKind.wrap .i64 (n+l[k].2.length)):=by
 rw[List.drop_eq_getElem_cons h,Nm,if_pos hn]
theorem PG {m:Int} {l:List bW} {k:Nat} {n:Int} (h: ¬(k<l.length∧n≤m)):Nm m (l.drop k) n=n:=by
 by_cases hk:k<l.length
 ·rw[List.drop_eq_getElem_cons hk,Nm,if_neg λhn=>h ⟨hk,hn⟩]
 ·rw[List.drop_eq_nil_of_le (by omega),Nm]
theorem Rf {m:Int} {l:List Ix} {k:Nat} {n:Int} (h:k<l.length) (hn:n≤m):wL m (l.drop k) n=wL m (l.drop (k+1)) (Nm m l[k].2.2 (IntKind.wrap .i64 (IntKind.wrap .i64 (n+l[k].1.2.length)+l[k].2.2.length))):=by
 rw[List.drop_eq_getElem_cons h,wL,if_pos hn]
theorem Ml {m:Int} {l:List Ix} {k:Nat} {n:Int} (h: ¬(k<l.length∧n≤m)):wL m (l.drop k) n=n:=by
 by_cases hk:k<l.length
 ·rw[List.drop_eq_getElem_cons hk,wL,if_neg λhn=>h ⟨hk,hn⟩]
 ·rw[List.drop_eq_nil_of_le (by omega),wL]
theorem Om {m:Int} {l:List Ex} {k:Nat} {n:Int} (h:k<l.length) (hn:n≤m):oT (l.drop k) m n=oT (l.drop (k+1)) m (IntKind.wrap .i64 (n+lX l[k] (IntKind.wrap .i64 (m-n)))):=by
 rw[List.drop_eq_getElem_cons h,oT,if_pos hn]
theorem A5 {m:Int} {l:List Ex} {k:Nat} {n:Int} (h: ¬(k<l.length∧n≤m)):oT (l.drop k) m n=n:=by
 by_cases hk:k<l.length
 ·rw[List.drop_eq_getElem_cons hk,oT,if_neg λhn=>h ⟨hk,hn⟩]
 ·rw[List.drop_eq_nil_of_le (by omega),oT]
def Ag (d:uu):Prop:=12<d.dims.length∨12<d.red.length∨300<lX d.body 300∨ ∃a∈d.dims++d.red,20<a.2.2.length
def BG (x:nP):Prop:=12<x.2.2.length∨ ∃l∈x.2.2,20<l.2.length
def iM (p:bG):Prop:=(12<p.sizes.length∨12<p.wher.length∨12<p.params.length∨12<p.defs.length∨12<p.outs.length)∨(∃c∈p.wher,20<c.1.2.length)∨(∃x∈p.params,BG x)∨ ∃d∈p.defs,Ag d
instance (d:uu):Decidable (Ag d):=Classical.propDecidable _
instance (x:nP):Decidable (BG x):=Classical.propDecidable _
instance (p:bG):Decidable (iM p):=Classical.propDecidable _
theorem mQ {p:bG} (h: ¬iM p):iR p:=by
 refine⟨λx hx=> ?_,λd hd=> ?_⟩
 ·have hn: ¬BG x:= λhh=>h (.inr (.inr (.inl ⟨x,hx,hh⟩)))
  exact⟨Nat.le_of_not_lt λhh=>hn (.inl hh),λl hl=>Nat.le_of_not_lt λhh=>hn (.inr ⟨l,hl,hh⟩)⟩
 ·have hn: ¬Ag d:= λhh=>h (.inr (.inr (.inr ⟨d,hd,hh⟩)))
  exact⟨Nat.le_of_not_lt λhh=>hn (.inl hh),Nat.le_of_not_lt λhh=>hn (.inr (.inl hh)),
   λa ha=>Nat.le_of_not_lt λhh=>hn (.inr (.inr (.inr ⟨a,List.mem_append_left _ ha,hh⟩))),λa ha=>Nat.le_of_not_lt λhh=>hn (.inr (.inr (.inr ⟨a,List.mem_append_right _ ha,hh⟩)))⟩
set_option maxRecDepth 1000000
open Go.Abs Go.RowKit
theorem zp (e:Ex): ∀m:Int,ac Ya 56 [fE e,I m] (I (lX e m)):=by
 refine Ex.ind (p:= λe=> ∀m:Int,ac Ya 56 [fE e,I m] (I (lX e m))) (λe ih m=> ?_) e
 refine ac.of B4 (by simp) λhb=>aa ?_
 obtain⟨Q,T⟩:=ed hb
 have hR:oT e.args m (wL m e.idx (w0 e))=lX e m:=(Gq e m).symm
 generalize lX e m=R at*
 have HR:=Lib.hid hR
 clear hR
 conv in bh _ _=>cbv
 repeat' first|simp(disch:=omega)only[go_sem, *]|apply ab<;>intro h<;>try omega
 refine ai (λs:Nat×Int=>⟨[(6,I s.1),(5,I s.2),(2,.c (.ptr 0 0)),(1,I m)], [(0,zB e)],1,0⟩) (λs=>s.1≤e.idx.length∧Hid (wL m (e.idx.drop s.1) s.2=wL m e.idx (w0 e))) (λs=>e.idx.length-s.1) ⟨(0,w0 e), [],⟨by omega,rfl⟩,by simp[w0]⟩ ?_
 rintro⟨k,n⟩ ⟨hk,b⟩
 refine aa ?_
 simp only at hk b
 by_cases E:k<e.idx.length∧n≤m
 ·obtain⟨f,hn⟩:=E
  have hs:=(Rf f hn).symm.trans b.out
  have HS:=Lib.hid hs
  clear b hs
  repeat' first|simp(disch:=omega)only[go_sem, *,ah f,eR,wrap_i64,hn]|apply ab<;>intro h<;>try omega
  refine Kb 45 λM=> ?_
  have O:e.idx[k].2.2.length≤9223372036854775807:=by simpa[aJ,gw,gT]using M
  clear M
  generalize hB:IntKind.wrap .i64 (IntKind.wrap .i64 (n+e.idx[k].1.2.length)+e.idx[k].2.2.length)=n1 at*
  obtain⟨N2,F⟩: ∃N2,Nm m e.idx[k].2.2 n1=N2:=⟨_,rfl⟩
  rw[F]at HS
  have H2:=Lib.hid F
  clear F hB hn
  refine ai (λs:Nat×Int=>⟨[(7,I s.1),(6,I k),(5,I s.2),(2,.c (.ptr 0 0)),(1,I m)], [(0,zB e)],1,0⟩) (λs=>s.1≤e.idx[k].2.2.length∧Hid (Nm m (e.idx[k].2.2.drop s.1) s.2=N2)) (λs=>e.idx[k].2.2.length-s.1) ⟨(0,n1), [],⟨by omega,H2⟩,by simp⟩ ?_
  clear H2
  rintro⟨j,n2⟩ ⟨hj,q⟩
  refine aa ?_
  simp only at hj q
  by_cases y:j<e.idx[k].2.2.length∧n2≤m
  ·obtain⟨o,w⟩:=y
   have t:=(SE o w).symm.trans q.out
   have HS2:=Lib.hid t
   clear q t
   repeat' first|simp(disch:=omega)only[go_sem, *,ah f,ah o,eR,b9,wrap_i64,w]|apply ab<;>intro h<;>try omega
   exact⟨(j+1,IntKind.wrap .i64 (n2+e.idx[k].2.2[j].2.length)), [],⟨by omega,HS2⟩,by show _-_<_-_;omega,by simp⟩
  ·have t:=(PG y).symm.trans q.out
   subst t
   clear q
   by_cases o:j<e.idx[k].2.2.length
   ·have w: ¬n2≤m:= λh=>y ⟨o,h⟩
    clear y
    repeat' first|simp(disch:=omega)only[go_sem, *,ah f,eR,wrap_i64,w]|apply ab<;>intro h<;>try omega
    exact⟨(k+1,n2), [],⟨by omega,HS⟩,by show _-_<_-_;omega,by simp⟩
   ·clear y
    repeat' first|simp(disch:=omega)only[go_sem, *,ah f,eR,wrap_i64]|apply ab<;>intro h<;>try omega
    exact⟨(k+1,n2), [],⟨by omega,HS⟩,by show _-_<_-_;omega,by simp⟩
 ·have hs:=(Ml E).symm.trans b.out
  clear b
  rw[←hs]at HR
  have fin: ∀(P:Prop),P→P:= λ_ h=>h
  clear hs
  have G:(k<e.idx.length∧ ¬n≤m)∨ ¬k<e.idx.length:=by
   by_cases h:k<e.idx.length
   ·exact .inl ⟨h,λhh=>E ⟨h,hh⟩⟩
   ·exact .inr h
  clear E fin
  rcases G with⟨f,hn⟩|f
  all_goals
   repeat' first|simp(disch:=omega)only[go_sem, *,wrap_i64]|apply ab<;>intro h<;>try omega
   repeat clear hn
   refine ai (λs:Nat×Int=>⟨[(8,I s.1),(5,I s.2),(2,.c (.ptr 0 0)),(1,I m)], [(0,zB e)],1,0⟩) (λs=>s.1≤e.args.length∧Hid (oT (e.args.drop s.1) m s.2=R)) (λs=>e.args.length-s.1) ⟨(0,n), [],⟨by omega,HR⟩,by simp⟩ ?_
   clear HR
   repeat clear f
   rintro⟨j,n2⟩ ⟨hj,q⟩
   refine aa ?_
   simp only at hj q
   by_cases o:j<e.args.length
   ·by_cases w:n2≤m
    ·have t:=(Om o w).symm.trans q.out
     have HS2:=Lib.hid t
     have cW:=ih _ (List.getElem_mem o) (IntKind.wrap .i64 (m-n2))
     clear q t ih
     repeat' first|simp(disch:=omega)only[go_sem, *,ah o,Ex.row_eq,wrap_i64,w]|apply ab<;>intro h<;>try omega|refine aq cW rfl rfl ?_
     exact⟨(j+1,IntKind.wrap .i64 (n2+lX e.args[j] (IntKind.wrap .i64 (m-n2)))), [],⟨by omega,HS2⟩,by show _-_<_-_;omega,by simp⟩
    ·have t:=(A5 (l:=e.args) (k:=j) λh=>w h.2).symm.trans q.out
     rw[←t]
     clear q t ih
     repeat' first|simp(disch:=omega)only[go_sem, *,w]|apply ab<;>intro h<;>try omega
   ·have t:=(A5 (m:=m) (n:=n2) (l:=e.args) (k:=j) λh=>o h.1).symm.trans q.out
    rw[←t]
    clear q t ih
    repeat' first|simp(disch:=omega)only[go_sem, *]|apply ab<;>intro h<;>try omega
set_option maxRecDepth 20000
set_option maxRecDepth 1000000
instance EK (l:List bW):Decidable (∃x∈l,20<x.2.length):=Classical.propDecidable _
theorem zl (l:List bW):ac Ya 55 [j6 l] (Go.Abs.B (@decide (∃x∈l,20<x.2.length) (EK l))):=by
 refine ac.of Cc (by simp) λhb=>aa ?_
 have hl:l.length≤9223372036854775807:=by
  have:=hb.1
  simpa[gw,gT]using this
 conv in bh _ _=>cbv
 repeat' first|simp(disch:=omega)only[go_sem, *]|apply ab<;>intro h<;>try omega
 refine ai (λk:Nat=>⟨[(3,I k),(0,j6 l)], [],0,0⟩) (λk=>k≤l.length∧dZ (λi=> ∀h:i<l.length,¬20<l[i].2.length) k) (λk=>l.length-k) ⟨0, [],⟨by omega,.zero⟩,by simp⟩ ?_
 rintro k ⟨hk,b⟩
 refine aa ?_
 by_cases f:k<l.length
 ·by_cases h:20<l[k].2.length
  ·rw[@decide_eq_true _ (EK l) ⟨l[k],List.getElem_mem f,h⟩]
   have h':(l[k].2.length:Int)>20:=by omega
   clear b
   repeat' first|simp(disch:=omega)only[go_sem, *,ah f,b9,wrap_i64,h']|apply ab<;>intro h<;>try omega
  ·have HA:=Lib.hid (b.succ λ_=>h)
   have h': ¬(l[k].2.length:Int)>20:=by omega
   clear b h
   repeat' first|simp(disch:=omega)only[go_sem, *,ah f,b9,wrap_i64,h']|apply ab<;>intro h<;>try omega
   exact⟨k+1, [],⟨by omega,HA.out⟩,by omega,by simp⟩
 ·rw[@decide_eq_false _ (EK l) (by
   rintro⟨x,hx,h⟩
   obtain⟨i,hi,rfl⟩:=List.mem_iff_getElem.1 hx
   exact b i (by omega) hi h)]
  clear b
  repeat' first|simp(disch:=omega)only[go_sem, *]|apply ab<;>intro h<;>try omega
theorem Bl (p:bG):ac Ya 24 [gy p,I 300] (Go.Abs.B (decide (iM p))):=by
 refine ac.of B6 (by simp) λhb=>aa ?_
 conv in bh _ _=>cbv
 by_cases h5:12<p.sizes.length∨12<p.wher.length∨12<p.params.length∨12<p.defs.length∨12<p.outs.length
 ·rw[decide_eq_true (show iM p from .inl h5)]
  repeat' first|simp(disch:=omega)only[go_sem]|((with_reducible refine ab ?_ ?_)<;>intro h<;>try first|omega|simp(disch:=omega)only[go_sem, *])
 ·have hd:(∀i (h:i<p.wher.length),¬20<p.wher[i].1.2.length)→(∀i (h:i<p.params.length),¬BG p.params[i])→(∀i (h:i<p.defs.length),¬Ag p.defs[i])→decide (iM p)=false:= λg1 g2 g3=>decide_eq_false (by
   rintro(h|⟨x,hx,h⟩|⟨x,hx,h⟩|⟨x,hx,h⟩)
   ·exact h5 h
   ·obtain⟨i,hi,rfl⟩:=List.mem_iff_getElem.1 hx
    exact g1 i hi h
   ·obtain⟨i,hi,rfl⟩:=List.mem_iff_getElem.1 hx
    exact g2 i hi h
   ·obtain⟨i,hi,rfl⟩:=List.mem_iff_getElem.1 hx
    exact g3 i hi h)
  have HF:=Lib.hid hd
  clear hd
  obtain⟨V,X,Y,Z,hA⟩:p.sizes.length≤12∧p.wher.length≤12∧p.params.length≤12∧p.defs.length≤12∧p.outs.length≤12:=by omega
  clear h5
  repeat' first|simp(disch:=omega)only[go_sem]|((with_reducible refine ab ?_ ?_)<;>intro h<;>try first|omega|simp(disch:=omega)only[go_sem, *])
  refine ai (λk:Nat=>⟨[(5,I k),(2,.c (.ptr 0 0)),(1,I 300)], [(0,eJ p)],1,0⟩) (λk=>k≤p.wher.length∧dZ (λi=> ∀h:i<p.wher.length,¬20<p.wher[i].1.2.length) k) (λk=>p.wher.length-k) ⟨0, [],⟨by omega,.zero⟩,by simp⟩ ?_
  rintro k ⟨hk,b⟩
  refine aa ?_
  by_cases f:k<p.wher.length
  ·by_cases h:20<p.wher[k].1.2.length
   ·rw[decide_eq_true (show iM p from .inr (.inl ⟨_,List.getElem_mem f,h⟩))]
    have h':(p.wher[k].1.2.length:Int)>20:=by omega
    clear b
    repeat' first|simp(disch:=omega)only[go_sem,ah f,cP,wrap_i64,h']|((with_reducible refine ab ?_ ?_)<;>intro h<;>try first|omega|simp(disch:=omega)only[go_sem, *,ah f,cP,wrap_i64,h'])
   ·have HA:=Lib.hid (b.succ λ_=>h)
    have h': ¬(p.wher[k].1.2.length:Int)>20:=by omega
    clear b h
    repeat' first|simp(disch:=omega)only[go_sem,ah f,cP,wrap_i64,h']|((with_reducible refine ab ?_ ?_)<;>intro h<;>try first|omega|simp(disch:=omega)only[go_sem, *,ah f,cP,wrap_i64,h'])
    exact⟨k+1, [],⟨by omega,HA.out⟩,by omega,by simp⟩
  have H1:Hid (∀i (h:i<p.wher.length),¬20<p.wher[i].1.2.length):= λi hi=>b i (by omega) hi
  clear b
  repeat' first|simp(disch:=omega)only[go_sem]|((with_reducible refine ab ?_ ?_)<;>intro h<;>try first|omega|simp(disch:=omega)only[go_sem, *])
  repeat clear f
  repeat clear hk
  refine ai (λk:Nat=>⟨[(6,I k),(2,.c (.ptr 0 0)),(1,I 300)], [(0,eJ p)],1,0⟩) (λk=>k≤p.params.length∧dZ (λi=> ∀h:i<p.params.length,¬BG p.params[i]) k) (λk=>p.params.length-k) ⟨0, [],⟨by omega,.zero⟩,by simp⟩ ?_
  rintro k ⟨hk,b⟩
  refine aa ?_
  by_cases f:k<p.params.length
  ·have cW:=zl p.params[k].2.2
   by_cases h:BG p.params[k]
   ·rw[decide_eq_true (show iM p from .inr (.inr (.inl ⟨_,List.getElem_mem f,h⟩)))]
    by_cases hw: ∃l∈p.params[k].2.2,20<l.2.length
    ·rw[decide_eq_true hw]at cW
     clear b h hw
     repeat' first|simp(disch:=omega)only[go_sem,ah f,gR,wrap_i64]|((with_reducible refine ab ?_ ?_)<;>intro h<;>try first|omega|simp(disch:=omega)only[go_sem, *,ah f,gR,wrap_i64])|refine aq cW rfl rfl ?_
    ·have h':12<p.params[k].2.2.length:=h.resolve_right hw
     clear b h hw cW
     repeat' first|simp(disch:=omega)only[go_sem,ah f,gR,wrap_i64]|((with_reducible refine ab ?_ ?_)<;>intro h<;>try first|omega|simp(disch:=omega)only[go_sem, *,ah f,gR,wrap_i64])
   ·have HA:=Lib.hid (b.succ λ_=>h)
    have hw: ¬ ∃l∈p.params[k].2.2,20<l.2.length:= λhh=>h (.inr hh)
    have h': ¬12<p.params[k].2.2.length:= λhh=>h (.inl hh)
    rw[decide_eq_false hw]at cW
    clear b h hw
    repeat' first|simp(disch:=omega)only[go_sem,ah f,gR,wrap_i64]|((with_reducible refine ab ?_ ?_)<;>intro h<;>try first|omega|simp(disch:=omega)only[go_sem, *,ah f,gR,wrap_i64])|refine aq cW rfl rfl ?_
    exact⟨k+1, [],⟨by omega,HA.out⟩,by omega,by simp⟩
  have H2:Hid (∀i (h:i<p.params.length),¬BG p.params[i]):= λi hi=>b i (by omega) hi
  clear b
  repeat' first|simp(disch:=omega)only[go_sem]|((with_reducible refine ab ?_ ?_)<;>intro h<;>try first|omega|simp(disch:=omega)only[go_sem, *])
  repeat clear f
  repeat clear hk
  refine ai (λk:Nat=>⟨[(7,I k),(2,.c (.ptr 0 0)),(1,I 300)], [(0,eJ p)],1,0⟩) (λk=>k≤p.defs.length∧dZ (λi=> ∀h:i<p.defs.length,¬Ag p.defs[i]) k) (λk=>p.defs.length-k) ⟨0, [],⟨by omega,.zero⟩,by simp⟩ ?_
  rintro k ⟨hk,b⟩
  refine aa ?_
  by_cases f:k<p.defs.length
  ·have cW:=zp p.defs[k].body 300
   have A:Ag p.defs[k]→iM p:= λh=> .inr (.inr (.inr ⟨_,List.getElem_mem f,h⟩))
   by_cases h:12<p.defs[k].dims.length∨12<p.defs[k].red.length∨300<lX p.defs[k].body 300
   ·rw[decide_eq_true (A (by
     rcases h with h|h|h
     ·exact .inl h
     ·exact .inr (.inl h)
     ·exact .inr (.inr (.inl h))))]
    clear b A
    generalize lX p.defs[k].body 300=W at*
    repeat' first|simp(disch:=omega)only[go_sem,ah f,di,wrap_i64]|((with_reducible refine ab ?_ ?_)<;>intro h<;>try first|omega|simp(disch:=omega)only[go_sem, *,ah f,di,wrap_i64])|refine aq cW rfl rfl ?_
   ·have hD:(∀i (h:i<(p.defs[k].dims++p.defs[k].red).length),¬20<(p.defs[k].dims++p.defs[k].red)[i].2.2.length)→Hid (dZ (λi=> ∀h:i<p.defs.length,¬Ag p.defs[i]) (k+1)):= λg=>b.succ λ_ hh=>by
     rcases hh with hh|hh|hh|⟨a,ha,hh⟩
     ·exact h (.inl hh)
     ·exact h (.inr (.inl hh))
     ·exact h (.inr (.inr hh))
     ·obtain⟨i,hi,rfl⟩:=List.mem_iff_getElem.1 ha
      exact g i hi hh
    have z: ∀i (h:i<(p.defs[k].dims++p.defs[k].red).length),20<(p.defs[k].dims++p.defs[k].red)[i].2.2.length→iM p:= λi hi hh=>A (.inr (.inr (.inr ⟨_,List.getElem_mem hi,hh⟩)))
    obtain⟨h1,h2,h3⟩:p.defs[k].dims.length≤12∧p.defs[k].red.length≤12∧lX p.defs[k].body 300≤300:=by omega
    clear b A h
    generalize lX p.defs[k].body 300=W at*
    repeat' first|simp(disch:=omega)only[go_sem,ah f,di,wrap_i64]|((with_reducible refine ab ?_ ?_)<;>intro h<;>try first|omega|simp(disch:=omega)only[go_sem, *,ah f,di,wrap_i64])|refine aq cW rfl rfl ?_
    clear cW h3
    refine ai (λj:Nat=>⟨[(9,I j),(8,.c (.ptr 1 0)),(7,I k),(2,.c (.ptr 0 0)),(1,I 300)], [(1,L0 p.defs[k]),(0,eJ p)],2,0⟩) (λj=>j≤(p.defs[k].dims++p.defs[k].red).length∧dZ (λi=> ∀h:i<(p.defs[k].dims++p.defs[k].red).length,¬20<(p.defs[k].dims++p.defs[k].red)[i].2.2.length) j) (λj=>(p.defs[k].dims++p.defs[k].red).length-j) ⟨0, [],⟨by omega,.zero⟩,by simp⟩ ?_
    rintro j ⟨hj,u⟩
    refine aa ?_
    have H:(p.defs[k].dims++p.defs[k].red).length=p.defs[k].dims.length+p.defs[k].red.length:=List.length_append
    by_cases o:j<(p.defs[k].dims++p.defs[k].red).length
    ·have N:(j:Int)<p.defs[k].dims.length+p.defs[k].red.length:=by omega
     by_cases v:p.defs[k].dims= []
     ·have C:(p.defs[k].dims++p.defs[k].red)[j]=p.defs[k].red[j]'(by simpa[v]using o):=by simp[v]
      have D:j<p.defs[k].red.length:=by simpa[v]using o
      by_cases h:20<(p.defs[k].dims++p.defs[k].red)[j].2.2.length
      ·rw[decide_eq_true (z j o h)]
       rw[C]at h
       have h':(p.defs[k].red[j].2.2.length:Int)>20:=by omega
       clear u z hD C h o H hj
       repeat' first|simp(disch:=omega)only[go_sem,v,ah D,fg,wrap_i64,h']|((with_reducible refine ab ?_ ?_)<;>intro h<;>try first|omega|simp(disch:=omega)only[go_sem, *,v,ah D,fg,wrap_i64,h'])|apply af|(with_reducible refine ag (λh=> ?_) ?_)|refine dy aZ ?_|refine cN aZ (ar λx=>rfl) (by simp;omega) (by simp;omega) ?_
      ·have HA:=Lib.hid (u.succ λ_=>h)
       rw[C]at h
       have h': ¬(p.defs[k].red[j].2.2.length:Int)>20:=by omega
       have J:j+1≤(p.defs[k].dims++p.defs[k].red).length:=by omega
       have K:(p.defs[k].dims++p.defs[k].red).length-(j+1)<(p.defs[k].dims++p.defs[k].red).length-j:=by omega
       have L:=HA.out
       simp only[v,List.nil_append]at L J K
       have HA2:=Lib.hid L
       have HJ2:=Lib.hid J
       have HJ3:=Lib.hid K
       clear u z C h o H hj J K L HA
       repeat' first|simp(disch:=omega)only[go_sem,v,ah D,fg,wrap_i64,h']|((with_reducible refine ab ?_ ?_)<;>intro h<;>try first|omega|simp(disch:=omega)only[go_sem, *,v,ah D,fg,wrap_i64,h'])|apply af|(with_reducible refine ag (λh=> ?_) ?_)|refine dy aZ ?_|refine cN aZ (ar λx=>rfl) (by simp;omega) (by simp;omega) ?_
       all_goals exact⟨j+1, [],⟨HJ2.out,HA2.out⟩,HJ3.out,by simp[v]⟩
     ·by_cases h:20<(p.defs[k].dims++p.defs[k].red)[j].2.2.length
      ·rw[decide_eq_true (z j o h)]
       have h':((p.defs[k].dims++p.defs[k].red)[j].2.2.length:Int)>20:=by omega
       clear u z hD h hj
       repeat' first|simp(disch:=omega)only[go_sem,←List.map_append,ah o,fg,wrap_i64,h']|((with_reducible refine ab ?_ ?_)<;>intro h<;>try first|omega|simp(disch:=omega)only[go_sem, *,←List.map_append,ah o,fg,wrap_i64,h'])|apply af|(with_reducible refine ag (λh=> ?_) ?_)|refine c8 aZ (ar λx=>rfl) (by simpa using v) (by simp;omega) (by simp;omega) ?_|refine aA rfl (by intro h;cases h) (ar λx=>rfl) (by simp;omega) (by simp;omega) ?_
      ·have HA:=Lib.hid (u.succ λ_=>h)
       have h': ¬((p.defs[k].dims++p.defs[k].red)[j].2.2.length:Int)>20:=by omega
       clear u z h
       repeat' first|simp(disch:=omega)only[go_sem,←List.map_append,ah o,fg,wrap_i64,h']|((with_reducible refine ab ?_ ?_)<;>intro h<;>try first|omega|simp(disch:=omega)only[go_sem, *,←List.map_append,ah o,fg,wrap_i64,h'])|apply af|(with_reducible refine ag (λh=> ?_) ?_)|refine c8 aZ (ar λx=>rfl) (by simpa using v) (by simp;omega) (by simp;omega) ?_|refine aA rfl (by intro h;cases h) (ar λx=>rfl) (by simp;omega) (by simp;omega) ?_
       all_goals exact⟨j+1, [],⟨by omega,HA.out⟩,by omega,by simp⟩
    ·have HA:=hD λi hi=>u i (by omega) hi
     have N: ¬(j:Int)<p.defs[k].dims.length+p.defs[k].red.length:=by omega
     clear u hD z o H hj
     repeat' first|simp(disch:=omega)only[go_sem,wrap_i64]|((with_reducible refine ab ?_ ?_)<;>intro h<;>try first|omega|simp(disch:=omega)only[go_sem, *,wrap_i64])
     exact⟨k+1, [],⟨by omega,HA.out⟩,by omega,by simp⟩
  ·rw[HF.out H1.out H2.out λi hi=>b i (by omega) hi]
   clear b
   repeat' first|simp(disch:=omega)only[go_sem]|((with_reducible refine ab ?_ ?_)<;>intro h<;>try first|omega|simp(disch:=omega)only[go_sem, *])
theorem yb (p:bG):ac Ya 10 [gy p] (Go.Abs.B (decide (p.defs.length≤8∧ ¬iM p))):=by
 refine ac.of zu (by simp) λhb=>aa ?_
 have cL:=Bl p
 conv in bh _ _=>cbv
 by_cases h1:p.defs.length≤8
 ·by_cases h2:iM p
  ·rw[decide_eq_true h2]at cL
   rw[decide_eq_false (λh=>h.2 h2)]
   clear h2
   repeat' first|simp(disch:=omega)only[go_sem, *]|apply ab<;>intro h<;>try omega|refine aq cL rfl rfl ?_
   all_goals rfl
  ·rw[decide_eq_false h2]at cL
   rw[decide_eq_true ⟨h1,h2⟩]
   clear h2
   repeat' first|simp(disch:=omega)only[go_sem, *]|apply ab<;>intro h<;>try omega|refine aq cL rfl rfl ?_
   all_goals rfl
 ·rw[decide_eq_false (λh=>h1 h.1)]
  clear cL
  repeat' first|simp(disch:=omega)only[go_sem, *]|apply ab<;>intro h<;>try omega
end
end Go.Proofs.YtiapgekjmcjjgaaGreatDoor
