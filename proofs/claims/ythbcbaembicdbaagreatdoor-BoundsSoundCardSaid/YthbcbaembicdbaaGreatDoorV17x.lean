import Derived.Test.YthbcbaembicdbaaGreatDoorV14d
import Derived.Test.YthbcbaembicdbaaGreatDoorV17g
set_option maxHeartbeats 4000000
set_option linter.unusedVariables false
set_option linter.unusedSimpArgs false
namespace Go.Proofs.YthbcbaembicdbaaGreatDoor
open Go.Abs Go.RowKit
noncomputable section
def R3 (m:Int):List bU→Int→Int
 | [],n=>n
 |x::r,n=>if n≤m then R3 m r (IntKind.wrap .i64 (n+x.2.length))else n
def AI (m:Int):List Ix→Int→Int
 | [],n=>n
 |x::r,n=>if n≤m then AI m r (R3 m x.2.2 (IntKind.wrap .i64 (IntKind.wrap .i64 (n+x.1.2.length)+x.2.2.length)))else n
def w0 (e:Ex):Int:=IntKind.wrap .i64 (IntKind.wrap .i64 (1+e.lin.2.length)+e.idx.length)
mutual
def nu:Ex→Int→Int
 | .mk op name val ty lin idx args,m=>sK args m (AI m idx (IntKind.wrap .i64 (IntKind.wrap .i64 (1+lin.2.length)+idx.length)))
def sK:List Ex→Int→Int→Int
 | [],m,n=>n
 |a::r,m,n=>if n≤m then sK r m (IntKind.wrap .i64 (n+nu a (IntKind.wrap .i64 (m-n))))else n
end
theorem KD (e:Ex) (m:Int):nu e m=sK e.args m (AI m e.idx (w0 e)):=by
 obtain⟨op,name,val,ty,lin,idx,args⟩:=e
 rw[nu]
 rfl
theorem Zu {m:Int} {l:List bU} {k:Nat} {n:Int} (h:k<l.length) (hn:n≤m):R3 m (l.drop k) n=R3 m (l.drop (k+1)) (IntKind.wrap .i64 (n+l[k].2.length)):=by
 rw[List.drop_eq_getElem_cons h,R3,if_pos hn]
theorem VJ {m:Int} {l:List bU} {k:Nat} {n:Int} (h: ¬(k<l.length∧n≤m)):R3 m (l.drop k) n=n:=by
 by_cases hk:k<l.length
 ·rw[List.drop_eq_getElem_cons hk,R3,if_neg λhn=>h ⟨hk,hn⟩]
 ·rw[List.drop_eq_nil_of_le (by omega),R3]
theorem Wj {m:Int} {l:List Ix} {k:Nat} {n:Int} (h:k<l.length) (hn:n≤m):AI m (l.drop k) n=AI m (l.drop (k+1)) (R3 m l[k].2.2 (IntKind.wrap .i64 (IntKind.wrap .i64 (n+l[k].1.2.length)+l[k].2.2.length))):=by
 rw[List.drop_eq_getElem_cons h,AI,if_pos hn]
theorem QN {m:Int} {l:List Ix} {k:Nat} {n:Int} (h: ¬(k<l.length∧n≤m)):AI m (l.drop k) n=n:=by
 by_cases hk:k<l.length
 ·rw[List.drop_eq_getElem_cons hk,AI,if_neg λhn=>h ⟨hk,hn⟩]
 ·rw[List.drop_eq_nil_of_le (by omega),AI]
theorem T9 {m:Int} {l:List Ex} {k:Nat} {n:Int} (h:k<l.length) (hn:n≤m):sK (l.drop k) m n=sK (l.drop (k+1)) m (IntKind.wrap .i64 (n+nu l[k] (IntKind.wrap .i64 (m-n)))):=by
 rw[List.drop_eq_getElem_cons h,sK,if_pos hn]
theorem DO {m:Int} {l:List Ex} {k:Nat} {n:Int} (h: ¬(k<l.length∧n≤m)):sK (l.drop k) m n=n:=by
 by_cases hk:k<l.length
 ·rw[List.drop_eq_getElem_cons hk,sK,if_neg λhn=>h ⟨hk,hn⟩]
 ·rw[List.drop_eq_nil_of_le (by omega),sK]
def Ff (d:y5):Prop:=12<d.dims.length∨12<d.red.length∨300<nu d.body 300∨ ∃a∈d.dims++d.red,20<a.2.2.length
def Dv (x:su):Prop:=12<x.2.2.length∨ ∃l∈x.2.2,20<l.2.length
def iT (p:bz):Prop:=(12<p.sizes.length∨12<p.wher.length∨12<p.params.length∨12<p.defs.length∨12<p.outs.length)∨(∃c∈p.wher,20<c.1.2.length)∨(∃x∈p.params,Dv x)∨ ∃d∈p.defs,Ff d
instance (d:y5):Decidable (Ff d):=Classical.propDecidable _
instance (x:su):Decidable (Dv x):=Classical.propDecidable _
instance (p:bz):Decidable (iT p):=Classical.propDecidable _
theorem pD {p:bz} (h: ¬iT p):rI p:=by
 refine⟨λx hx=> ?_,λd hd=> ?_⟩
 ·have hn: ¬Dv x:= λhh=>h (.inr (.inr (.inl ⟨x,hx,hh⟩)))
  exact⟨Nat.le_of_not_lt λhh=>hn (.inl hh),λl hl=>Nat.le_of_not_lt λhh=>hn (.inr ⟨l,hl,hh⟩)⟩
 ·have hn: ¬Ff d:= λhh=>h (.inr (.inr (.inr ⟨d,hd,hh⟩)))
  exact⟨Nat.le_of_not_lt λhh=>hn (.inl hh),Nat.le_of_not_lt λhh=>hn (.inr (.inl hh)),
   λa ha=>Nat.le_of_not_lt λhh=>hn (.inr (.inr (.inr ⟨a,List.mem_append_left _ ha,hh⟩))),λa ha=>Nat.le_of_not_lt λhh=>hn (.inr (.inr (.inr ⟨a,List.mem_append_right _ ha,hh⟩)))⟩
set_option maxRecDepth 1000000
open Go.Abs Go.RowKit
theorem D7 (e:Ex): ∀m:Int,af Tryz.prog rt [j5 e,I m] (I (nu e m)):=by
 refine Ex.ind (p:= λe=> ∀m:Int,af Tryz.prog rt [j5 e,I m] (I (nu e m))) (λe ih m=> ?_) e
 refine af.of GM (by simp) λhb=>aa ?_
 obtain⟨hla,hli⟩:=qr hb
 have hR:sK e.args m (AI m e.idx (w0 e))=nu e m:=(KD e m).symm
 generalize nu e m=R at*
 have HR:=Lib.hid hR
 clear hR
 conv in zY=>cbv
 repeat' first|simp(disch:=omega) only[go_sem, *]|((with_reducible apply ab)<;>intro h<;>try omega)
 refine ap (λs:Nat×Int=>⟨[(6,I s.1),(5,I s.2),(2,.c (.ptr 0 0)),(1,I m)], [(0,R2 e)],1,0⟩) (λs=>s.1≤e.idx.length∧Hid (AI m (e.idx.drop s.1) s.2=AI m e.idx (w0 e))) (λs=>e.idx.length-s.1) ⟨(0,w0 e), [],⟨by omega,rfl⟩,by simp[w0]⟩ ?_
 rintro⟨k,n⟩ ⟨hk,hall⟩
 refine aa ?_
 simp only at hk hall
 by_cases hgo:k<e.idx.length∧n≤m
 ·obtain⟨hlt,hn⟩:=hgo
  have hs:=(Wj hlt hn).symm.trans hall.out
  have HS:=Lib.hid hs
  clear hall hs
  repeat' first|simp(disch:=omega) only[go_sem, *,ai hlt,fQ,wrap_i64,hn]|((with_reducible apply ab)<;>intro h<;>try omega)
  refine MY 45 λhbd=> ?_
  have hla2:e.idx[k].2.2.length≤9223372036854775807:=by simpa[aA,iI,jt]using hbd
  clear hbd
  generalize hB:IntKind.wrap .i64 (IntKind.wrap .i64 (n+e.idx[k].1.2.length)+e.idx[k].2.2.length)=n1 at*
  obtain⟨N2,hN2⟩: ∃N2,R3 m e.idx[k].2.2 n1=N2:=⟨_,rfl⟩
  rw[hN2]at HS
  have H2:=Lib.hid hN2
  clear hN2 hB hn
  refine ap (λs:Nat×Int=>⟨[(7,I s.1),(6,I k),(5,I s.2),(2,.c (.ptr 0 0)),(1,I m)], [(0,R2 e)],1,0⟩) (λs=>s.1≤e.idx[k].2.2.length∧Hid (R3 m (e.idx[k].2.2.drop s.1) s.2=N2)) (λs=>e.idx[k].2.2.length-s.1) ⟨(0,n1), [],⟨by omega,H2⟩,by simp⟩ ?_
  clear H2
  rintro⟨j,n2⟩ ⟨hj,hall2⟩
  refine aa ?_
  simp only at hj hall2
  by_cases hgo2:j<e.idx[k].2.2.length∧n2≤m
  ·obtain⟨hlt2,hn2⟩:=hgo2
   have hs2:=(Zu hlt2 hn2).symm.trans hall2.out
   have HS2:=Lib.hid hs2
   clear hall2 hs2
   repeat' first|simp(disch:=omega) only[go_sem, *,ai hlt,ai hlt2,fQ,cR,wrap_i64,hn2]|((with_reducible apply ab)<;>intro h<;>try omega)
   exact⟨(j+1,IntKind.wrap .i64 (n2+e.idx[k].2.2[j].2.length)), [],⟨by omega,HS2⟩,by show _-_<_-_;omega,by simp⟩
  ·have hs2:=(VJ hgo2).symm.trans hall2.out
   subst hs2
   clear hall2
   by_cases hlt2:j<e.idx[k].2.2.length
   ·have hn2: ¬n2≤m:= λh=>hgo2 ⟨hlt2,h⟩
    clear hgo2
    repeat' first|simp(disch:=omega) only[go_sem, *,ai hlt,fQ,wrap_i64,hn2]|((with_reducible apply ab)<;>intro h<;>try omega)
    exact⟨(k+1,n2), [],⟨by omega,HS⟩,by show _-_<_-_;omega,by simp⟩
   ·clear hgo2
    repeat' first|simp(disch:=omega) only[go_sem, *,ai hlt,fQ,wrap_i64]|((with_reducible apply ab)<;>intro h<;>try omega)
    exact⟨(k+1,n2), [],⟨by omega,HS⟩,by show _-_<_-_;omega,by simp⟩
 ·have hs:=(QN hgo).symm.trans hall.out
  clear hall
  rw[←hs]at HR
  have fin: ∀(P:Prop),P→P:= λ_ h=>h
  clear hs
  have hcase:(k<e.idx.length∧ ¬n≤m)∨ ¬k<e.idx.length:=by
   by_cases h:k<e.idx.length
   ·exact .inl ⟨h,λhh=>hgo ⟨h,hh⟩⟩
   ·exact .inr h
  clear hgo fin
  rcases hcase with⟨hlt,hn⟩|hlt
  all_goals
   repeat' first|simp(disch:=omega) only[go_sem, *,wrap_i64]|((with_reducible apply ab)<;>intro h<;>try omega)
   repeat clear hn
   refine ap (λs:Nat×Int=>⟨[(8,I s.1),(5,I s.2),(2,.c (.ptr 0 0)),(1,I m)], [(0,R2 e)],1,0⟩) (λs=>s.1≤e.args.length∧Hid (sK (e.args.drop s.1) m s.2=R)) (λs=>e.args.length-s.1) ⟨(0,n), [],⟨by omega,HR⟩,by simp⟩ ?_
   clear HR
   repeat clear hlt
   rintro⟨j,n2⟩ ⟨hj,hall2⟩
   refine aa ?_
   simp only at hj hall2
   by_cases hlt2:j<e.args.length
   ·by_cases hn2:n2≤m
    ·have hs2:=(T9 hlt2 hn2).symm.trans hall2.out
     have HS2:=Lib.hid hs2
     have cW:=ih _ (List.getElem_mem hlt2) (IntKind.wrap .i64 (m-n2))
     clear hall2 hs2 ih
     repeat' first|simp(disch:=omega) only[go_sem, *,ai hlt2,Ex.row_eq,wrap_i64,hn2]|((with_reducible apply ab)<;>intro h<;>try omega)|(refine aY cW rfl rfl ?_)
     exact⟨(j+1,IntKind.wrap .i64 (n2+nu e.args[j] (IntKind.wrap .i64 (m-n2)))), [],⟨by omega,HS2⟩,by show _-_<_-_;omega,by simp⟩
    ·have hs2:=(DO (l:=e.args) (k:=j) λh=>hn2 h.2).symm.trans hall2.out
     rw[←hs2]
     clear hall2 hs2 ih
     repeat' first|simp(disch:=omega) only[go_sem, *,hn2]|((with_reducible apply ab)<;>intro h<;>try omega)
   ·have hs2:=(DO (m:=m) (n:=n2) (l:=e.args) (k:=j) λh=>hlt2 h.1).symm.trans hall2.out
    rw[←hs2]
    clear hall2 hs2 ih
    repeat' first|simp(disch:=omega) only[go_sem, *]|((with_reducible apply ab)<;>intro h<;>try omega)
set_option maxRecDepth 20000
set_option maxRecDepth 1000000
instance Ja (l:List bU):Decidable (∃x∈l,20<x.2.length):=Classical.propDecidable _
theorem E8 (l:List bU):af Tryz.prog zA [sH l] (Go.Abs.B (@decide (∃x∈l,20<x.2.length) (Ja l))):=by
 refine af.of GI (by simp) λhb=>aa ?_
 have hl:l.length≤9223372036854775807:=by
  have:=hb.1
  simpa[iI,jt]using this
 conv in yE=>cbv
 repeat' first|simp(disch:=omega) only[go_sem, *]|((with_reducible apply ab)<;>intro h<;>try omega)
 refine ap (λk:Nat=>⟨[(3,I k),(0,sH l)], [],0,0⟩) (λk=>k≤l.length∧fY (λi=> ∀h:i<l.length,¬20<l[i].2.length) k) (λk=>l.length-k) ⟨0, [],⟨by omega,.zero⟩,by simp⟩ ?_
 rintro k ⟨hk,hall⟩
 refine aa ?_
 by_cases hlt:k<l.length
 ·by_cases h:20<l[k].2.length
  ·rw[@decide_eq_true _ (Ja l) ⟨l[k],List.getElem_mem hlt,h⟩]
   have h':(l[k].2.length:Int)>20:=by omega
   clear hall
   repeat' first|simp(disch:=omega) only[go_sem, *,ai hlt,cR,wrap_i64,h']|((with_reducible apply ab)<;>intro h<;>try omega)
  ·have HA:=Lib.hid (hall.succ λ_=>h)
   have h': ¬(l[k].2.length:Int)>20:=by omega
   clear hall h
   repeat' first|simp(disch:=omega) only[go_sem, *,ai hlt,cR,wrap_i64,h']|((with_reducible apply ab)<;>intro h<;>try omega)
   exact⟨k+1, [],⟨by omega,HA.out⟩,by omega,by simp⟩
 ·rw[@decide_eq_false _ (Ja l) (by
   rintro⟨x,hx,h⟩
   obtain⟨i,hi,rfl⟩:=List.mem_iff_getElem.1 hx
   exact hall i (by omega) hi h)]
  clear hall
  repeat' first|simp(disch:=omega) only[go_sem, *]|((with_reducible apply ab)<;>intro h<;>try omega)
theorem Ez (p:bz):af Tryz.prog zN [jE p,I 300] (Go.Abs.B (decide (iT p))):=by
 refine af.of Gs (by simp) λhb=>aa ?_
 conv in y7=>cbv
 by_cases h5:12<p.sizes.length∨12<p.wher.length∨12<p.params.length∨12<p.defs.length∨12<p.outs.length
 ·rw[decide_eq_true (show iT p from .inl h5)]
  repeat' first|simp(disch:=omega) only[go_sem]|((with_reducible refine ab ?_ ?_)<;>intro h<;>try first|omega|simp(disch:=omega) only[go_sem, *])
 ·have hd:(∀i (h:i<p.wher.length),¬20<p.wher[i].1.2.length)→(∀i (h:i<p.params.length),¬Dv p.params[i])→(∀i (h:i<p.defs.length),¬Ff p.defs[i])→decide (iT p)=false:= λg1 g2 g3=>decide_eq_false (by
   rintro(h|⟨x,hx,h⟩|⟨x,hx,h⟩|⟨x,hx,h⟩)
   ·exact h5 h
   ·obtain⟨i,hi,rfl⟩:=List.mem_iff_getElem.1 hx
    exact g1 i hi h
   ·obtain⟨i,hi,rfl⟩:=List.mem_iff_getElem.1 hx
    exact g2 i hi h
   ·obtain⟨i,hi,rfl⟩:=List.mem_iff_getElem.1 hx
    exact g3 i hi h)
  have HF:=Lib.hid hd
  clear hd
  obtain⟨hl1,hl2,hl3,hl4,hl5⟩:p.sizes.length≤12∧p.wher.length≤12∧p.params.length≤12∧p.defs.length≤12∧p.outs.length≤12:=by omega
  clear h5
  repeat' first|simp(disch:=omega) only[go_sem]|((with_reducible refine ab ?_ ?_)<;>intro h<;>try first|omega|simp(disch:=omega) only[go_sem, *])
  refine ap (λk:Nat=>⟨[(5,I k),(2,.c (.ptr 0 0)),(1,I 300)], [(0,kx p)],1,0⟩) (λk=>k≤p.wher.length∧fY (λi=> ∀h:i<p.wher.length,¬20<p.wher[i].1.2.length) k) (λk=>p.wher.length-k) ⟨0, [],⟨by omega,.zero⟩,by simp⟩ ?_
  rintro k ⟨hk,hall⟩
  refine aa ?_
  by_cases hlt:k<p.wher.length
  ·by_cases h:20<p.wher[k].1.2.length
   ·rw[decide_eq_true (show iT p from .inr (.inl ⟨_,List.getElem_mem hlt,h⟩))]
    have h':(p.wher[k].1.2.length:Int)>20:=by omega
    clear hall
    repeat' first|simp(disch:=omega) only[go_sem,ai hlt,cP,wrap_i64,h']|((with_reducible refine ab ?_ ?_)<;>intro h<;>try first|omega|simp(disch:=omega) only[go_sem, *,ai hlt,cP,wrap_i64,h'])
   ·have HA:=Lib.hid (hall.succ λ_=>h)
    have h': ¬(p.wher[k].1.2.length:Int)>20:=by omega
    clear hall h
    repeat' first|simp(disch:=omega) only[go_sem,ai hlt,cP,wrap_i64,h']|((with_reducible refine ab ?_ ?_)<;>intro h<;>try first|omega|simp(disch:=omega) only[go_sem, *,ai hlt,cP,wrap_i64,h'])
    exact⟨k+1, [],⟨by omega,HA.out⟩,by omega,by simp⟩
  have H1:Hid (∀i (h:i<p.wher.length),¬20<p.wher[i].1.2.length):= λi hi=>hall i (by omega) hi
  clear hall
  repeat' first|simp(disch:=omega) only[go_sem]|((with_reducible refine ab ?_ ?_)<;>intro h<;>try first|omega|simp(disch:=omega) only[go_sem, *])
  repeat clear hlt
  repeat clear hk
  refine ap (λk:Nat=>⟨[(6,I k),(2,.c (.ptr 0 0)),(1,I 300)], [(0,kx p)],1,0⟩) (λk=>k≤p.params.length∧fY (λi=> ∀h:i<p.params.length,¬Dv p.params[i]) k) (λk=>p.params.length-k) ⟨0, [],⟨by omega,.zero⟩,by simp⟩ ?_
  rintro k ⟨hk,hall⟩
  refine aa ?_
  by_cases hlt:k<p.params.length
  ·have cW:=E8 p.params[k].2.2
   by_cases h:Dv p.params[k]
   ·rw[decide_eq_true (show iT p from .inr (.inr (.inl ⟨_,List.getElem_mem hlt,h⟩)))]
    by_cases hw: ∃l∈p.params[k].2.2,20<l.2.length
    ·rw[decide_eq_true hw]at cW
     clear hall h hw
     repeat' first|simp(disch:=omega) only[go_sem,ai hlt,ku,wrap_i64]|((with_reducible refine ab ?_ ?_)<;>intro h<;>try first|omega|simp(disch:=omega) only[go_sem, *,ai hlt,ku,wrap_i64])|(refine aY cW rfl rfl ?_)
    ·have h':12<p.params[k].2.2.length:=h.resolve_right hw
     clear hall h hw cW
     repeat' first|simp(disch:=omega) only[go_sem,ai hlt,ku,wrap_i64]|((with_reducible refine ab ?_ ?_)<;>intro h<;>try first|omega|simp(disch:=omega) only[go_sem, *,ai hlt,ku,wrap_i64])
   ·have HA:=Lib.hid (hall.succ λ_=>h)
    have hw: ¬ ∃l∈p.params[k].2.2,20<l.2.length:= λhh=>h (.inr hh)
    have h': ¬12<p.params[k].2.2.length:= λhh=>h (.inl hh)
    rw[decide_eq_false hw]at cW
    clear hall h hw
    repeat' first|simp(disch:=omega) only[go_sem,ai hlt,ku,wrap_i64]|((with_reducible refine ab ?_ ?_)<;>intro h<;>try first|omega|simp(disch:=omega) only[go_sem, *,ai hlt,ku,wrap_i64])|(refine aY cW rfl rfl ?_)
    exact⟨k+1, [],⟨by omega,HA.out⟩,by omega,by simp⟩
  have H2:Hid (∀i (h:i<p.params.length),¬Dv p.params[i]):= λi hi=>hall i (by omega) hi
  clear hall
  repeat' first|simp(disch:=omega) only[go_sem]|((with_reducible refine ab ?_ ?_)<;>intro h<;>try first|omega|simp(disch:=omega) only[go_sem, *])
  repeat clear hlt
  repeat clear hk
  refine ap (λk:Nat=>⟨[(7,I k),(2,.c (.ptr 0 0)),(1,I 300)], [(0,kx p)],1,0⟩) (λk=>k≤p.defs.length∧fY (λi=> ∀h:i<p.defs.length,¬Ff p.defs[i]) k) (λk=>p.defs.length-k) ⟨0, [],⟨by omega,.zero⟩,by simp⟩ ?_
  rintro k ⟨hk,hall⟩
  refine aa ?_
  by_cases hlt:k<p.defs.length
  ·have cW:=D7 p.defs[k].body 300
   have hyes:Ff p.defs[k]→iT p:= λh=> .inr (.inr (.inr ⟨_,List.getElem_mem hlt,h⟩))
   by_cases h:12<p.defs[k].dims.length∨12<p.defs[k].red.length∨300<nu p.defs[k].body 300
   ·rw[decide_eq_true (hyes (by
     rcases h with h|h|h
     ·exact .inl h
     ·exact .inr (.inl h)
     ·exact .inr (.inr (.inl h))))]
    clear hall hyes
    generalize nu p.defs[k].body 300=W at*
    repeat' first|simp(disch:=omega) only[go_sem,ai hlt,eh,wrap_i64]|((with_reducible refine ab ?_ ?_)<;>intro h<;>try first|omega|simp(disch:=omega) only[go_sem, *,ai hlt,eh,wrap_i64])|(refine aY cW rfl rfl ?_)
   ·have hD:(∀i (h:i<(p.defs[k].dims++p.defs[k].red).length),¬20<(p.defs[k].dims++p.defs[k].red)[i].2.2.length)→Hid (fY (λi=> ∀h:i<p.defs.length,¬Ff p.defs[i]) (k+1)):= λg=>hall.succ λ_ hh=>by
     rcases hh with hh|hh|hh|⟨a,ha,hh⟩
     ·exact h (.inl hh)
     ·exact h (.inr (.inl hh))
     ·exact h (.inr (.inr hh))
     ·obtain⟨i,hi,rfl⟩:=List.mem_iff_getElem.1 ha
      exact g i hi hh
    have hy2: ∀i (h:i<(p.defs[k].dims++p.defs[k].red).length),20<(p.defs[k].dims++p.defs[k].red)[i].2.2.length→iT p:= λi hi hh=>hyes (.inr (.inr (.inr ⟨_,List.getElem_mem hi,hh⟩)))
    obtain⟨h1,h2,h3⟩:p.defs[k].dims.length≤12∧p.defs[k].red.length≤12∧nu p.defs[k].body 300≤300:=by omega
    clear hall hyes h
    generalize nu p.defs[k].body 300=W at*
    repeat' first|simp(disch:=omega) only[go_sem,ai hlt,eh,wrap_i64]|((with_reducible refine ab ?_ ?_)<;>intro h<;>try first|omega|simp(disch:=omega) only[go_sem, *,ai hlt,eh,wrap_i64])|(refine aY cW rfl rfl ?_)
    clear cW h3
    refine ap (λj:Nat=>⟨[(9,I j),(8,.c (.ptr 1 0)),(7,I k),(2,.c (.ptr 0 0)),(1,I 300)], [(1,QD p.defs[k]),(0,kx p)],2,0⟩) (λj=>j≤(p.defs[k].dims++p.defs[k].red).length∧fY (λi=> ∀h:i<(p.defs[k].dims++p.defs[k].red).length,¬20<(p.defs[k].dims++p.defs[k].red)[i].2.2.length) j) (λj=>(p.defs[k].dims++p.defs[k].red).length-j) ⟨0, [],⟨by omega,.zero⟩,by simp⟩ ?_
    rintro j ⟨hj,hal2⟩
    refine aa ?_
    have hLl:(p.defs[k].dims++p.defs[k].red).length=p.defs[k].dims.length+p.defs[k].red.length:=List.length_append
    by_cases hlt2:j<(p.defs[k].dims++p.defs[k].red).length
    ·have hlt3:(j:Int)<p.defs[k].dims.length+p.defs[k].red.length:=by omega
     by_cases hdn:p.defs[k].dims= []
     ·have hget:(p.defs[k].dims++p.defs[k].red)[j]=p.defs[k].red[j]'(by simpa[hdn]using hlt2):=by simp[hdn]
      have hltr:j<p.defs[k].red.length:=by simpa[hdn]using hlt2
      by_cases h:20<(p.defs[k].dims++p.defs[k].red)[j].2.2.length
      ·rw[decide_eq_true (hy2 j hlt2 h)]
       rw[hget]at h
       have h':(p.defs[k].red[j].2.2.length:Int)>20:=by omega
       clear hal2 hy2 hD hget h hlt2 hLl hj
       repeat' first|simp(disch:=omega) only[go_sem,hdn,ai hltr,ic,wrap_i64,h']|((with_reducible refine ab ?_ ?_)<;>intro h<;>try first|omega|simp(disch:=omega) only[go_sem, *,hdn,ai hltr,ic,wrap_i64,h'])|(with_reducible apply ah)|(with_reducible refine aj (λh=> ?_) ?_)|(refine gj iR ?_)|(refine nJ iR (aQ λx=>rfl) (by simp;omega) (by simp;omega) ?_)
      ·have HA:=Lib.hid (hal2.succ λ_=>h)
       rw[hget]at h
       have h': ¬(p.defs[k].red[j].2.2.length:Int)>20:=by omega
       have hj2:j+1≤(p.defs[k].dims++p.defs[k].red).length:=by omega
       have hj3:(p.defs[k].dims++p.defs[k].red).length-(j+1)<(p.defs[k].dims++p.defs[k].red).length-j:=by omega
       have ha2:=HA.out
       simp only[hdn,List.nil_append]at ha2 hj2 hj3
       have HA2:=Lib.hid ha2
       have HJ2:=Lib.hid hj2
       have HJ3:=Lib.hid hj3
       clear hal2 hy2 hget h hlt2 hLl hj hj2 hj3 ha2 HA
       repeat' first|simp(disch:=omega) only[go_sem,hdn,ai hltr,ic,wrap_i64,h']|((with_reducible refine ab ?_ ?_)<;>intro h<;>try first|omega|simp(disch:=omega) only[go_sem, *,hdn,ai hltr,ic,wrap_i64,h'])|(with_reducible apply ah)|(with_reducible refine aj (λh=> ?_) ?_)|(refine gj iR ?_)|(refine nJ iR (aQ λx=>rfl) (by simp;omega) (by simp;omega) ?_)
       all_goals exact⟨j+1, [],⟨HJ2.out,HA2.out⟩,HJ3.out,by simp[hdn]⟩
     ·by_cases h:20<(p.defs[k].dims++p.defs[k].red)[j].2.2.length
      ·rw[decide_eq_true (hy2 j hlt2 h)]
       have h':((p.defs[k].dims++p.defs[k].red)[j].2.2.length:Int)>20:=by omega
       clear hal2 hy2 hD h hj
       repeat' first|simp(disch:=omega) only[go_sem,←List.map_append,ai hlt2,ic,wrap_i64,h']|((with_reducible refine ab ?_ ?_)<;>intro h<;>try first|omega|simp(disch:=omega) only[go_sem, *,←List.map_append,ai hlt2,ic,wrap_i64,h'])|(with_reducible apply ah)|(with_reducible refine aj (λh=> ?_) ?_)|(refine iD iR (aQ λx=>rfl) (by simpa using hdn) (by simp;omega) (by simp;omega) ?_)|(refine bf rfl (by intro h;cases h) (aQ λx=>rfl) (by simp;omega) (by simp;omega) ?_)
      ·have HA:=Lib.hid (hal2.succ λ_=>h)
       have h': ¬((p.defs[k].dims++p.defs[k].red)[j].2.2.length:Int)>20:=by omega
       clear hal2 hy2 h
       repeat' first|simp(disch:=omega) only[go_sem,←List.map_append,ai hlt2,ic,wrap_i64,h']|((with_reducible refine ab ?_ ?_)<;>intro h<;>try first|omega|simp(disch:=omega) only[go_sem, *,←List.map_append,ai hlt2,ic,wrap_i64,h'])|(with_reducible apply ah)|(with_reducible refine aj (λh=> ?_) ?_)|(refine iD iR (aQ λx=>rfl) (by simpa using hdn) (by simp;omega) (by simp;omega) ?_)|(refine bf rfl (by intro h;cases h) (aQ λx=>rfl) (by simp;omega) (by simp;omega) ?_)
       all_goals exact⟨j+1, [],⟨by omega,HA.out⟩,by omega,by simp⟩
    ·have HA:=hD λi hi=>hal2 i (by omega) hi
     have hlt3: ¬(j:Int)<p.defs[k].dims.length+p.defs[k].red.length:=by omega
     clear hal2 hD hy2 hlt2 hLl hj
     repeat' first|simp(disch:=omega) only[go_sem,wrap_i64]|((with_reducible refine ab ?_ ?_)<;>intro h<;>try first|omega|simp(disch:=omega) only[go_sem, *,wrap_i64])
     exact⟨k+1, [],⟨by omega,HA.out⟩,by omega,by simp⟩
  ·rw[HF.out H1.out H2.out λi hi=>hall i (by omega) hi]
   clear hall
   repeat' first|simp(disch:=omega) only[go_sem]|((with_reducible refine ab ?_ ?_)<;>intro h<;>try first|omega|simp(disch:=omega) only[go_sem, *])
theorem CW (p:bz):af Tryz.prog xx [jE p] (Go.Abs.B (decide (p.defs.length≤8∧ ¬iT p))):=by
 refine af.of DS (by simp) λhb=>aa ?_
 have cL:=Ez p
 conv in wY=>cbv
 by_cases h1:p.defs.length≤8
 ·by_cases h2:iT p
  ·rw[decide_eq_true h2]at cL
   rw[decide_eq_false (λh=>h.2 h2)]
   clear h2
   repeat' first|simp(disch:=omega) only[go_sem, *]|((with_reducible apply ab)<;>intro h<;>try omega)|(refine aY cL rfl rfl ?_)
   all_goals rfl
  ·rw[decide_eq_false h2]at cL
   rw[decide_eq_true ⟨h1,h2⟩]
   clear h2
   repeat' first|simp(disch:=omega) only[go_sem, *]|((with_reducible apply ab)<;>intro h<;>try omega)|(refine aY cL rfl rfl ?_)
   all_goals rfl
 ·rw[decide_eq_false (λh=>h1 h.1)]
  clear cL
  repeat' first|simp(disch:=omega) only[go_sem, *]|((with_reducible apply ab)<;>intro h<;>try omega)
end
end Go.Proofs.YthbcbaembicdbaaGreatDoor
