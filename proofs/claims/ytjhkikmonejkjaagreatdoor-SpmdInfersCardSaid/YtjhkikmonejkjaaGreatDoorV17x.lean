import Derived.Test.YtjhkikmonejkjaaGreatDoorV14d
import Derived.Test.YtjhkikmonejkjaaGreatDoorV17g
set_option linter.unusedVariables false
set_option linter.unusedSimpArgs false
namespace Go.Proofs.YtjhkikmonejkjaaGreatDoor
open Go.Abs Go.RowKit
noncomputable section
def QD (m:Int):List fc→Int→Int
 | [],n=>n
 |x::r,n=>if n≤m then QD m r (IntKind.wrap .i64 (n+x.2.length))else n
def BE (m:Int):List Ix→Int→Int
 | [],n=>n
 |x::r,n=>if n≤m then BE m r (QD m x.2.2 (IntKind.wrap .i64 (IntKind.wrap .i64 (n+x.1.2.length)+x.2.2.length)))else n
def w0 (e:Ex):Int:=IntKind.wrap .i64 (IntKind.wrap .i64 (1+e.lin.2.length)+e.idx.length)
mutual
def mS:Ex→Int→Int
 | .mk op name val ty lin idx args,m=>sZ args m (BE m idx (IntKind.wrap .i64 (IntKind.wrap .i64 (1+lin.2.length)+idx.length)))
def sZ:List Ex→Int→Int→Int
 | [],m,n=>n
 |a::r,m,n=>if n≤m then sZ r m (IntKind.wrap .i64 (n+mS a (IntKind.wrap .i64 (m-n))))else n
end
theorem QH (e:Ex) (m:Int):mS e m=sZ e.args m (BE m e.idx (w0 e)):=by
 obtain⟨op,name,val,ty,lin,idx,args⟩:=e
 rw[mS]
 rfl
theorem TI {m:Int} {l:List fc} {k:Nat} {n:Int} (h:k<l.length) (hn:n≤m):QD m (l.drop k) n=QD m (l.drop (k+1)) (IntKind.wrap .i64 (n+l[k].2.length)):=by
 rw[List.drop_eq_getElem_cons h,QD,if_pos hn]
theorem P9 {m:Int} {l:List fc} {k:Nat} {n:Int} (h: ¬(k<l.length∧n≤m)):QD m (l.drop k) n=n:=by
 by_cases hk:k<l.length
 ·rw[List.drop_eq_getElem_cons hk,QD,if_neg λhn=>h ⟨hk,hn⟩]
 ·rw[List.drop_eq_nil_of_le (by omega),QD]
theorem Re {m:Int} {l:List Ix} {k:Nat} {n:Int} (h:k<l.length) (hn:n≤m):BE m (l.drop k) n=BE m (l.drop (k+1)) (QD m l[k].2.2 (IntKind.wrap .i64 (IntKind.wrap .i64 (n+l[k].1.2.length)+l[k].2.2.length))):=by
 rw[List.drop_eq_getElem_cons h,BE,if_pos hn]
theorem Nw {m:Int} {l:List Ix} {k:Nat} {n:Int} (h: ¬(k<l.length∧n≤m)):BE m (l.drop k) n=n:=by
 by_cases hk:k<l.length
 ·rw[List.drop_eq_getElem_cons hk,BE,if_neg λhn=>h ⟨hk,hn⟩]
 ·rw[List.drop_eq_nil_of_le (by omega),BE]
theorem Qf {m:Int} {l:List Ex} {k:Nat} {n:Int} (h:k<l.length) (hn:n≤m):sZ (l.drop k) m n=sZ (l.drop (k+1)) m (IntKind.wrap .i64 (n+mS l[k] (IntKind.wrap .i64 (m-n)))):=by
 rw[List.drop_eq_getElem_cons h,sZ,if_pos hn]
theorem Cs {m:Int} {l:List Ex} {k:Nat} {n:Int} (h: ¬(k<l.length∧n≤m)):sZ (l.drop k) m n=n:=by
 by_cases hk:k<l.length
 ·rw[List.drop_eq_getElem_cons hk,sZ,if_neg λhn=>h ⟨hk,hn⟩]
 ·rw[List.drop_eq_nil_of_le (by omega),sZ]
def DF (d:jA):Prop:=12<d.dims.length∨12<d.red.length∨400<mS d.body 400∨ ∃a∈d.dims++d.red,20<a.2.2.length
def Cm (x:kO):Prop:=12<x.2.2.length∨ ∃l∈x.2.2,20<l.2.length
def rD (p:be):Prop:=(12<p.sizes.length∨12<p.wher.length∨12<p.params.length∨12<p.defs.length∨12<p.outs.length)∨(∃c∈p.wher,20<c.1.2.length)∨(∃x∈p.params,Cm x)∨ ∃d∈p.defs,DF d
instance (d:jA):Decidable (DF d):=Classical.propDecidable _
instance (x:kO):Decidable (Cm x):=Classical.propDecidable _
instance (p:be):Decidable (rD p):=Classical.propDecidable _
theorem Tq {p:be} (h: ¬rD p):eR p:=by
 refine⟨λx hx=> ?_,λd hd=> ?_⟩
 ·have hn: ¬Cm x:= λhh=>h (.inr (.inr (.inl ⟨x,hx,hh⟩)))
  exact⟨Nat.le_of_not_lt λhh=>hn (.inl hh),λl hl=>Nat.le_of_not_lt λhh=>hn (.inr ⟨l,hl,hh⟩)⟩
 ·have hn: ¬DF d:= λhh=>h (.inr (.inr (.inr ⟨d,hd,hh⟩)))
  exact⟨Nat.le_of_not_lt λhh=>hn (.inl hh),Nat.le_of_not_lt λhh=>hn (.inr (.inl hh)),
   λa ha=>Nat.le_of_not_lt λhh=>hn (.inr (.inr (.inr ⟨a,List.mem_append_left _ ha,hh⟩))),λa ha=>Nat.le_of_not_lt λhh=>hn (.inr (.inr (.inr ⟨a,List.mem_append_right _ ha,hh⟩)))⟩
set_option maxRecDepth 20000
open Go.Abs Go.RowKit
set_option maxHeartbeats 2000000 in
theorem B8 (e:Ex): ∀m:Int,af Tryz.prog pQ [gc e,I m] (I (mS e m)):=by
 refine Ex.ind (p:= λe=> ∀m:Int,af Tryz.prog pQ [gc e,I m] (I (mS e m))) (λe ih m=> ?_) e
 refine af.of FA (by simp) λhb=>aa ?_
 obtain⟨Q,T⟩:=dt hb
 have hR:sZ e.args m (BE m e.idx (w0 e))=mS e m:=(QH e m).symm
 generalize mS e m=R at*
 have HR:=Lib.hid hR
 clear hR
 simp only[wG]
 repeat' first|simp(disch:=omega)only[go_sem, *]|apply ab<;>intro h<;>try omega
 refine ai (λs:Nat×Int=>⟨[(6,I s.1),(5,I s.2),(2,.c (.ptr 0 0)),(1,I m)], [(0,tL e)],1,0⟩) (λs=>s.1≤e.idx.length∧Hid (BE m (e.idx.drop s.1) s.2=BE m e.idx (w0 e))) (λs=>e.idx.length-s.1) ⟨(0,w0 e), [],⟨by omega,rfl⟩,by simp[w0]⟩ ?_
 rintro⟨k,n⟩ ⟨hk,b⟩
 refine aa ?_
 simp only at hk b
 by_cases E:k<e.idx.length∧n≤m
 ·obtain⟨f,hn⟩:=E
  have hs:=(Re f hn).symm.trans b.out
  have HS:=Lib.hid hs
  clear b hs
  repeat' first|simp(disch:=omega)only[go_sem, *,ac f,dN,wrap_i64,hn]|apply ab<;>intro h<;>try omega
  refine T9 45 λM=> ?_
  have O:e.idx[k].2.2.length≤9223372036854775807:=by simpa[aD,eW,ft]using M
  clear M
  generalize hB:IntKind.wrap .i64 (IntKind.wrap .i64 (n+e.idx[k].1.2.length)+e.idx[k].2.2.length)=n1 at*
  obtain⟨N2,F⟩: ∃N2,QD m e.idx[k].2.2 n1=N2:=⟨_,rfl⟩
  rw[F]at HS
  have H2:=Lib.hid F
  clear F hB hn
  refine ai (λs:Nat×Int=>⟨[(7,I s.1),(6,I k),(5,I s.2),(2,.c (.ptr 0 0)),(1,I m)], [(0,tL e)],1,0⟩) (λs=>s.1≤e.idx[k].2.2.length∧Hid (QD m (e.idx[k].2.2.drop s.1) s.2=N2)) (λs=>e.idx[k].2.2.length-s.1) ⟨(0,n1), [],⟨by omega,H2⟩,by simp⟩ ?_
  clear H2
  rintro⟨j,n2⟩ ⟨hj,q⟩
  refine aa ?_
  simp only at hj q
  by_cases y:j<e.idx[k].2.2.length∧n2≤m
  ·obtain⟨o,w⟩:=y
   have t:=(TI o w).symm.trans q.out
   have HS2:=Lib.hid t
   clear q t
   repeat' first|simp(disch:=omega)only[go_sem, *,ac f,ac o,dN,bP,wrap_i64,w]|apply ab<;>intro h<;>try omega
   exact⟨(j+1,IntKind.wrap .i64 (n2+e.idx[k].2.2[j].2.length)), [],⟨by omega,HS2⟩,by show _-_<_-_;omega,by simp⟩
  ·have t:=(P9 y).symm.trans q.out
   subst t
   clear q
   by_cases o:j<e.idx[k].2.2.length
   ·have w: ¬n2≤m:= λh=>y ⟨o,h⟩
    clear y
    repeat' first|simp(disch:=omega)only[go_sem, *,ac f,dN,wrap_i64,w]|apply ab<;>intro h<;>try omega
    exact⟨(k+1,n2), [],⟨by omega,HS⟩,by show _-_<_-_;omega,by simp⟩
   ·clear y
    repeat' first|simp(disch:=omega)only[go_sem, *,ac f,dN,wrap_i64]|apply ab<;>intro h<;>try omega
    exact⟨(k+1,n2), [],⟨by omega,HS⟩,by show _-_<_-_;omega,by simp⟩
 ·have hs:=(Nw E).symm.trans b.out
  clear b
  rw[←hs]at HR
  have fin: ∀(P:Prop),P→P:= λ_ h=>h
  clear hs
  have G:(k<e.idx.length∧ ¬n≤m)∨ ¬k<e.idx.length:=by
   by_cases h:k<e.idx.length
   ·exact .inl ⟨h,λhh=>E ⟨h,hh⟩⟩
   ·exact .inr h
  clear E fin
  rcases G with⟨f,hn⟩|f
  all_goals
   repeat' first|simp(disch:=omega)only[go_sem, *,wrap_i64]|apply ab<;>intro h<;>try omega
   repeat clear hn
   refine ai (λs:Nat×Int=>⟨[(8,I s.1),(5,I s.2),(2,.c (.ptr 0 0)),(1,I m)], [(0,tL e)],1,0⟩) (λs=>s.1≤e.args.length∧Hid (sZ (e.args.drop s.1) m s.2=R)) (λs=>e.args.length-s.1) ⟨(0,n), [],⟨by omega,HR⟩,by simp⟩ ?_
   clear HR
   repeat clear f
   rintro⟨j,n2⟩ ⟨hj,q⟩
   refine aa ?_
   simp only at hj q
   by_cases o:j<e.args.length
   ·by_cases w:n2≤m
    ·have t:=(Qf o w).symm.trans q.out
     have HS2:=Lib.hid t
     have cW:=ih _ (List.getElem_mem o) (IntKind.wrap .i64 (m-n2))
     clear q t ih
     repeat' first|simp(disch:=omega)only[go_sem, *,ac o,Ex.row_eq,wrap_i64,w]|apply ab<;>intro h<;>try omega|refine av cW rfl rfl ?_
     exact⟨(j+1,IntKind.wrap .i64 (n2+mS e.args[j] (IntKind.wrap .i64 (m-n2)))), [],⟨by omega,HS2⟩,by show _-_<_-_;omega,by simp⟩
    ·have t:=(Cs (l:=e.args) (k:=j) λh=>w h.2).symm.trans q.out
     rw[←t]
     clear q t ih
     repeat' first|simp(disch:=omega)only[go_sem, *,w]|apply ab<;>intro h<;>try omega
   ·have t:=(Cs (m:=m) (n:=n2) (l:=e.args) (k:=j) λh=>o h.1).symm.trans q.out
    rw[←t]
    clear q t ih
    repeat' first|simp(disch:=omega)only[go_sem, *]|apply ab<;>intro h<;>try omega
instance Ie (l:List fc):Decidable (∃x∈l,20<x.2.length):=Classical.propDecidable _
theorem CH (l:List fc):af Tryz.prog w7 [my l] (Go.Abs.B (@decide (∃x∈l,20<x.2.length) (Ie l))):=by
 refine af.of Fq (by simp) λhb=>aa ?_
 have hl:l.length≤9223372036854775807:=by
  have:=hb.1
  simpa[eW,ft]using this
 simp only[y4]
 repeat' first|simp(disch:=omega)only[go_sem, *]|apply ab<;>intro h<;>try omega
 refine ai (λk:Nat=>⟨[(3,I k),(0,my l)], [],0,0⟩) (λk=>k≤l.length∧bI (λi=> ∀h:i<l.length,¬20<l[i].2.length) k) (λk=>l.length-k) ⟨0, [],⟨by omega,.zero⟩,by simp⟩ ?_
 rintro k ⟨hk,b⟩
 refine aa ?_
 by_cases f:k<l.length
 ·by_cases h:20<l[k].2.length
  ·rw[@decide_eq_true _ (Ie l) ⟨l[k],List.getElem_mem f,h⟩]
   have h':(l[k].2.length:Int)>20:=by omega
   clear b
   repeat' first|simp(disch:=omega)only[go_sem, *,ac f,bP,wrap_i64,h']|apply ab<;>intro h<;>try omega
  ·have HA:=Lib.hid (b.succ λ_=>h)
   have h': ¬(l[k].2.length:Int)>20:=by omega
   clear b h
   repeat' first|simp(disch:=omega)only[go_sem, *,ac f,bP,wrap_i64,h']|apply ab<;>intro h<;>try omega
   exact⟨k+1, [],⟨by omega,HA.out⟩,by omega,by simp⟩
 ·rw[@decide_eq_false _ (Ie l) (by
   rintro⟨x,hx,h⟩
   obtain⟨i,hi,rfl⟩:=List.mem_iff_getElem.1 hx
   exact b i (by omega) hi h)]
  clear b
  repeat' first|simp(disch:=omega)only[go_sem, *]|apply ab<;>intro h<;>try omega
set_option maxHeartbeats 4000000 in
theorem El (p:be):af Tryz.prog ye [eX p,I 400] (Go.Abs.B (decide (rD p))):=by
 refine af.of EX (by simp) λhb=>aa ?_
 simp only[yZ]
 by_cases h5:12<p.sizes.length∨12<p.wher.length∨12<p.params.length∨12<p.defs.length∨12<p.outs.length
 ·rw[decide_eq_true (show rD p from .inl h5)]
  repeat' first|simp(disch:=omega)only[go_sem]|((with_reducible refine ab ?_ ?_)<;>intro h<;>try first|omega|simp(disch:=omega)only[go_sem, *])
 ·have hd:(∀i (h:i<p.wher.length),¬20<p.wher[i].1.2.length)→(∀i (h:i<p.params.length),¬Cm p.params[i])→(∀i (h:i<p.defs.length),¬DF p.defs[i])→decide (rD p)=false:= λg1 g2 g3=>decide_eq_false (by
   rintro(h|⟨x,hx,h⟩|⟨x,hx,h⟩|⟨x,hx,h⟩)
   ·exact h5 h
   ·obtain⟨i,hi,rfl⟩:=List.mem_iff_getElem.1 hx
    exact g1 i hi h
   ·obtain⟨i,hi,rfl⟩:=List.mem_iff_getElem.1 hx
    exact g2 i hi h
   ·obtain⟨i,hi,rfl⟩:=List.mem_iff_getElem.1 hx
    exact g3 i hi h)
  have HF:=Lib.hid hd
  clear hd
  obtain⟨V,X,Y,Z,hA⟩:p.sizes.length≤12∧p.wher.length≤12∧p.params.length≤12∧p.defs.length≤12∧p.outs.length≤12:=by omega
  clear h5
  repeat' first|simp(disch:=omega)only[go_sem]|((with_reducible refine ab ?_ ?_)<;>intro h<;>try first|omega|simp(disch:=omega)only[go_sem, *])
  refine ai (λk:Nat=>⟨[(5,I k),(2,.c (.ptr 0 0)),(1,I 400)], [(0,dL p)],1,0⟩) (λk=>k≤p.wher.length∧bI (λi=> ∀h:i<p.wher.length,¬20<p.wher[i].1.2.length) k) (λk=>p.wher.length-k) ⟨0, [],⟨by omega,.zero⟩,by simp⟩ ?_
  rintro k ⟨hk,b⟩
  refine aa ?_
  by_cases f:k<p.wher.length
  ·by_cases h:20<p.wher[k].1.2.length
   ·rw[decide_eq_true (show rD p from .inr (.inl ⟨_,List.getElem_mem f,h⟩))]
    have h':(p.wher[k].1.2.length:Int)>20:=by omega
    clear b
    repeat' first|simp(disch:=omega)only[go_sem,ac f,cP,wrap_i64,h']|((with_reducible refine ab ?_ ?_)<;>intro h<;>try first|omega|simp(disch:=omega)only[go_sem, *,ac f,cP,wrap_i64,h'])
   ·have HA:=Lib.hid (b.succ λ_=>h)
    have h': ¬(p.wher[k].1.2.length:Int)>20:=by omega
    clear b h
    repeat' first|simp(disch:=omega)only[go_sem,ac f,cP,wrap_i64,h']|((with_reducible refine ab ?_ ?_)<;>intro h<;>try first|omega|simp(disch:=omega)only[go_sem, *,ac f,cP,wrap_i64,h'])
    exact⟨k+1, [],⟨by omega,HA.out⟩,by omega,by simp⟩
  have H1:Hid (∀i (h:i<p.wher.length),¬20<p.wher[i].1.2.length):= λi hi=>b i (by omega) hi
  clear b
  repeat' first|simp(disch:=omega)only[go_sem]|((with_reducible refine ab ?_ ?_)<;>intro h<;>try first|omega|simp(disch:=omega)only[go_sem, *])
  repeat clear f
  repeat clear hk
  refine ai (λk:Nat=>⟨[(6,I k),(2,.c (.ptr 0 0)),(1,I 400)], [(0,dL p)],1,0⟩) (λk=>k≤p.params.length∧bI (λi=> ∀h:i<p.params.length,¬Cm p.params[i]) k) (λk=>p.params.length-k) ⟨0, [],⟨by omega,.zero⟩,by simp⟩ ?_
  rintro k ⟨hk,b⟩
  refine aa ?_
  by_cases f:k<p.params.length
  ·have cW:=CH p.params[k].2.2
   by_cases h:Cm p.params[k]
   ·rw[decide_eq_true (show rD p from .inr (.inr (.inl ⟨_,List.getElem_mem f,h⟩)))]
    by_cases hw: ∃l∈p.params[k].2.2,20<l.2.length
    ·rw[decide_eq_true hw]at cW
     clear b h hw
     repeat' first|simp(disch:=omega)only[go_sem,ac f,d7,wrap_i64]|((with_reducible refine ab ?_ ?_)<;>intro h<;>try first|omega|simp(disch:=omega)only[go_sem, *,ac f,d7,wrap_i64])|refine av cW rfl rfl ?_
    ·have h':12<p.params[k].2.2.length:=h.resolve_right hw
     clear b h hw cW
     repeat' first|simp(disch:=omega)only[go_sem,ac f,d7,wrap_i64]|((with_reducible refine ab ?_ ?_)<;>intro h<;>try first|omega|simp(disch:=omega)only[go_sem, *,ac f,d7,wrap_i64])
   ·have HA:=Lib.hid (b.succ λ_=>h)
    have hw: ¬ ∃l∈p.params[k].2.2,20<l.2.length:= λhh=>h (.inr hh)
    have h': ¬12<p.params[k].2.2.length:= λhh=>h (.inl hh)
    rw[decide_eq_false hw]at cW
    clear b h hw
    repeat' first|simp(disch:=omega)only[go_sem,ac f,d7,wrap_i64]|((with_reducible refine ab ?_ ?_)<;>intro h<;>try first|omega|simp(disch:=omega)only[go_sem, *,ac f,d7,wrap_i64])|refine av cW rfl rfl ?_
    exact⟨k+1, [],⟨by omega,HA.out⟩,by omega,by simp⟩
  have H2:Hid (∀i (h:i<p.params.length),¬Cm p.params[i]):= λi hi=>b i (by omega) hi
  clear b
  repeat' first|simp(disch:=omega)only[go_sem]|((with_reducible refine ab ?_ ?_)<;>intro h<;>try first|omega|simp(disch:=omega)only[go_sem, *])
  repeat clear f
  repeat clear hk
  refine ai (λk:Nat=>⟨[(7,I k),(2,.c (.ptr 0 0)),(1,I 400)], [(0,dL p)],1,0⟩) (λk=>k≤p.defs.length∧bI (λi=> ∀h:i<p.defs.length,¬DF p.defs[i]) k) (λk=>p.defs.length-k) ⟨0, [],⟨by omega,.zero⟩,by simp⟩ ?_
  rintro k ⟨hk,b⟩
  refine aa ?_
  by_cases f:k<p.defs.length
  ·have cW:=B8 p.defs[k].body 400
   have A:DF p.defs[k]→rD p:= λh=> .inr (.inr (.inr ⟨_,List.getElem_mem f,h⟩))
   by_cases h:12<p.defs[k].dims.length∨12<p.defs[k].red.length∨400<mS p.defs[k].body 400
   ·rw[decide_eq_true (A (by
     rcases h with h|h|h
     ·exact .inl h
     ·exact .inr (.inl h)
     ·exact .inr (.inr (.inl h))))]
    clear b A
    generalize mS p.defs[k].body 400=W at*
    repeat' first|simp(disch:=omega)only[go_sem,ac f,br,wrap_i64]|((with_reducible refine ab ?_ ?_)<;>intro h<;>try first|omega|simp(disch:=omega)only[go_sem, *,ac f,br,wrap_i64])|refine av cW rfl rfl ?_
   ·have hD:(∀i (h:i<(p.defs[k].dims++p.defs[k].red).length),¬20<(p.defs[k].dims++p.defs[k].red)[i].2.2.length)→Hid (bI (λi=> ∀h:i<p.defs.length,¬DF p.defs[i]) (k+1)):= λg=>b.succ λ_ hh=>by
     rcases hh with hh|hh|hh|⟨a,ha,hh⟩
     ·exact h (.inl hh)
     ·exact h (.inr (.inl hh))
     ·exact h (.inr (.inr hh))
     ·obtain⟨i,hi,rfl⟩:=List.mem_iff_getElem.1 ha
      exact g i hi hh
    have z: ∀i (h:i<(p.defs[k].dims++p.defs[k].red).length),20<(p.defs[k].dims++p.defs[k].red)[i].2.2.length→rD p:= λi hi hh=>A (.inr (.inr (.inr ⟨_,List.getElem_mem hi,hh⟩)))
    obtain⟨h1,h2,h3⟩:p.defs[k].dims.length≤12∧p.defs[k].red.length≤12∧mS p.defs[k].body 400≤400:=by omega
    clear b A h
    generalize mS p.defs[k].body 400=W at*
    repeat' first|simp(disch:=omega)only[go_sem,ac f,br,wrap_i64]|((with_reducible refine ab ?_ ?_)<;>intro h<;>try first|omega|simp(disch:=omega)only[go_sem, *,ac f,br,wrap_i64])|refine av cW rfl rfl ?_
    clear cW h3
    refine ai (λj:Nat=>⟨[(9,I j),(8,.c (.ptr 1 0)),(7,I k),(2,.c (.ptr 0 0)),(1,I 400)], [(1,qJ p.defs[k]),(0,dL p)],2,0⟩) (λj=>j≤(p.defs[k].dims++p.defs[k].red).length∧bI (λi=> ∀h:i<(p.defs[k].dims++p.defs[k].red).length,¬20<(p.defs[k].dims++p.defs[k].red)[i].2.2.length) j) (λj=>(p.defs[k].dims++p.defs[k].red).length-j) ⟨0, [],⟨by omega,.zero⟩,by simp⟩ ?_
    rintro j ⟨hj,u⟩
    refine aa ?_
    have H:(p.defs[k].dims++p.defs[k].red).length=p.defs[k].dims.length+p.defs[k].red.length:=List.length_append
    by_cases o:j<(p.defs[k].dims++p.defs[k].red).length
    ·have N:(j:Int)<p.defs[k].dims.length+p.defs[k].red.length:=by omega
     by_cases v:p.defs[k].dims= []
     ·have C:(p.defs[k].dims++p.defs[k].red)[j]=p.defs[k].red[j]'(by simpa[v]using o):=by simp[v]
      have D:j<p.defs[k].red.length:=by simpa[v]using o
      by_cases h:20<(p.defs[k].dims++p.defs[k].red)[j].2.2.length
      ·rw[decide_eq_true (z j o h)]
       rw[C]at h
       have h':(p.defs[k].red[j].2.2.length:Int)>20:=by omega
       clear u z hD C h o H hj
       repeat' first|simp(disch:=omega)only[go_sem,v,ac D,ee,wrap_i64,h']|((with_reducible refine ab ?_ ?_)<;>intro h<;>try first|omega|simp(disch:=omega)only[go_sem, *,v,ac D,ee,wrap_i64,h'])|apply au|(with_reducible refine az (λh=> ?_) ?_)|refine fu aN ?_|refine gl aN (aG λx=>rfl) (by simp;omega) (by simp;omega) ?_
      ·have HA:=Lib.hid (u.succ λ_=>h)
       rw[C]at h
       have h': ¬(p.defs[k].red[j].2.2.length:Int)>20:=by omega
       have J:j+1≤(p.defs[k].dims++p.defs[k].red).length:=by omega
       have K:(p.defs[k].dims++p.defs[k].red).length-(j+1)<(p.defs[k].dims++p.defs[k].red).length-j:=by omega
       have L:=HA.out
       simp only[v,List.nil_append]at L J K
       have HA2:=Lib.hid L
       have HJ2:=Lib.hid J
       have HJ3:=Lib.hid K
       clear u z C h o H hj J K L HA
       repeat' first|simp(disch:=omega)only[go_sem,v,ac D,ee,wrap_i64,h']|((with_reducible refine ab ?_ ?_)<;>intro h<;>try first|omega|simp(disch:=omega)only[go_sem, *,v,ac D,ee,wrap_i64,h'])|apply au|(with_reducible refine az (λh=> ?_) ?_)|refine fu aN ?_|refine gl aN (aG λx=>rfl) (by simp;omega) (by simp;omega) ?_
       all_goals exact⟨j+1, [],⟨HJ2.out,HA2.out⟩,HJ3.out,by simp[v]⟩
     ·by_cases h:20<(p.defs[k].dims++p.defs[k].red)[j].2.2.length
      ·rw[decide_eq_true (z j o h)]
       have h':((p.defs[k].dims++p.defs[k].red)[j].2.2.length:Int)>20:=by omega
       clear u z hD h hj
       repeat' first|simp(disch:=omega)only[go_sem,←List.map_append,ac o,ee,wrap_i64,h']|((with_reducible refine ab ?_ ?_)<;>intro h<;>try first|omega|simp(disch:=omega)only[go_sem, *,←List.map_append,ac o,ee,wrap_i64,h'])|apply au|(with_reducible refine az (λh=> ?_) ?_)|refine cQ aN (aG λx=>rfl) (by simpa using v) (by simp;omega) (by simp;omega) ?_|refine aF rfl (by intro h;cases h) (aG λx=>rfl) (by simp;omega) (by simp;omega) ?_
      ·have HA:=Lib.hid (u.succ λ_=>h)
       have h': ¬((p.defs[k].dims++p.defs[k].red)[j].2.2.length:Int)>20:=by omega
       clear u z h
       repeat' first|simp(disch:=omega)only[go_sem,←List.map_append,ac o,ee,wrap_i64,h']|((with_reducible refine ab ?_ ?_)<;>intro h<;>try first|omega|simp(disch:=omega)only[go_sem, *,←List.map_append,ac o,ee,wrap_i64,h'])|apply au|(with_reducible refine az (λh=> ?_) ?_)|refine cQ aN (aG λx=>rfl) (by simpa using v) (by simp;omega) (by simp;omega) ?_|refine aF rfl (by intro h;cases h) (aG λx=>rfl) (by simp;omega) (by simp;omega) ?_
       all_goals exact⟨j+1, [],⟨by omega,HA.out⟩,by omega,by simp⟩
    ·have HA:=hD λi hi=>u i (by omega) hi
     have N: ¬(j:Int)<p.defs[k].dims.length+p.defs[k].red.length:=by omega
     clear u hD z o H hj
     repeat' first|simp(disch:=omega)only[go_sem,wrap_i64]|((with_reducible refine ab ?_ ?_)<;>intro h<;>try first|omega|simp(disch:=omega)only[go_sem, *,wrap_i64])
     exact⟨k+1, [],⟨by omega,HA.out⟩,by omega,by simp⟩
  ·rw[HF.out H1.out H2.out λi hi=>b i (by omega) hi]
   clear b
   repeat' first|simp(disch:=omega)only[go_sem]|((with_reducible refine ab ?_ ?_)<;>intro h<;>try first|omega|simp(disch:=omega)only[go_sem, *])
end
end Go.Proofs.YtjhkikmonejkjaaGreatDoor
