import Derived.Test.YtigdjhnndaokjaaGreatDoorV14d
import Derived.Test.YtigdjhnndaokjaaGreatDoorV17g
set_option linter.unusedVariables false
set_option linter.unusedSimpArgs false
set_option maxHeartbeats 4000000
open Go.Proofs.Tryz renaming prog→Pa0
namespace Go.Proofs.YtigdjhnndaokjaaGreatDoor
open Go.Abs Go.RowKit
noncomputable section
def wAt (m:Int):List iB→Int→Int
 | [],n=>n
 |x::r,n=>if n≤m then wAt m r (IntKind.wrap .i64 (n+x.2.length))else n
def IU (m:Int):List Ix→Int→Int
 | [],n=>n
 |x::r,n=>if n≤m then IU m r (wAt m x.2.2 (IntKind.wrap .i64 (IntKind.wrap .i64 (n+x.1.2.length)+x.2.2.length)))else n
def w0 (e:Ex):Int:=IntKind.wrap .i64 (IntKind.wrap .i64 (1+e.lin.2.length)+e.idx.length)
mutual
def rj:Ex→Int→Int
 | .mk op name val ty lin idx args,m=>zd args m (IU m idx (IntKind.wrap .i64 (IntKind.wrap .i64 (1+lin.2.length)+idx.length)))
def zd:List Ex→Int→Int→Int
 | [],m,n=>n
 |a::r,m,n=>if n≤m then zd r m (IntKind.wrap .i64 (n+rj a (IntKind.wrap .i64 (m-n))))else n
end
theorem Zx (e:Ex) (m:Int):rj e m=zd e.args m (IU m e.idx (w0 e)):=by
 obtain⟨op,name,val,ty,lin,idx,args⟩:=e
 rw[rj]
 rfl
variable {m n:Int}{l:List iB}{k:Nat}
theorem adb (h:k<l.length) (hn:n≤m):wAt m (l.drop k) n=wAt m (l.drop (k+1)) (IntKind.wrap .i64 (n+l[k].2.length)):=by
 rw[zC0 h,wAt,if_pos hn]
theorem ZE (h: ¬(k<l.length∧n≤m)):wAt m (l.drop k) n=n:=by
 by_cases hk:k<l.length
 ·rw[zC0 hk,wAt,if_neg λhn=>h ⟨hk,hn⟩]
 ·rw[zD6 zR5,wAt]
theorem abl {l:List Ix} (h:k<l.length) (hn:n≤m):IU m (l.drop k) n=IU m (l.drop (k+1)) (wAt m l[k].2.2 (IntKind.wrap .i64 (IntKind.wrap .i64 (n+l[k].1.2.length)+l[k].2.2.length))):=by
 rw[zC0 h,IU,if_pos hn]
theorem Wm {l:List Ix} (h: ¬(k<l.length∧n≤m)):IU m (l.drop k) n=n:=by
 by_cases hk:k<l.length
 ·rw[zC0 hk,IU,if_neg λhn=>h ⟨hk,hn⟩]
 ·rw[zD6 zR5,IU]
theorem X6 {l:List Ex} (h:k<l.length) (hn:n≤m):zd (l.drop k) m n=zd (l.drop (k+1)) m (IntKind.wrap .i64 (n+rj l[k] (IntKind.wrap .i64 (m-n)))):=by
 rw[zC0 h,zd,if_pos hn]
theorem L9 {l:List Ex} (h: ¬(k<l.length∧n≤m)):zd (l.drop k) m n=n:=by
 by_cases hk:k<l.length
 ·rw[zC0 hk,zd,if_neg λhn=>h ⟨hk,hn⟩]
 ·rw[zD6 zR5,zd]
def LV (d:lH):Prop:=12<d.dims.length∨12<d.red.length∨300<rj d.body 300∨ ∃a∈d.dims++d.red,20<a.2.2.length
def Lj (x:gV):Prop:=12<x.2.2.length∨ ∃l∈x.2.2,20<l.2.length
def ur (p:bu):Prop:=(12<p.sizes.length∨12<p.wher.length∨12<p.params.length∨12<p.defs.length∨12<p.outs.length)∨(∃c∈p.wher,20<c.1.2.length)∨(∃x∈p.params,Lj x)∨ ∃d∈p.defs,LV d
instance (d:lH):Decidable (LV d):=Classical.propDecidable _
instance (x:gV):Decidable (Lj x):=Classical.propDecidable _
instance (p:bu):Decidable (ur p):=Classical.propDecidable _
theorem UQ {p:bu} (h: ¬ur p):iD p:=by
 refine⟨λx hx=> ?_,λd hd=> ?_⟩
 ·have hn: ¬Lj x:= λhh=>h (.inr (.inr (.inl ⟨x,hx,hh⟩)))
  exact⟨zK1 λhh=>hn (.inl hh),λl hl=>zK1 λhh=>hn (.inr ⟨l,hl,hh⟩)⟩
 ·have hn: ¬LV d:= λhh=>h (.inr (.inr (.inr ⟨d,hd,hh⟩)))
  exact⟨zK1 λhh=>hn (.inl hh),zK1 λhh=>hn (.inr (.inl hh)),
   λa ha=>zK1 λhh=>hn (.inr (.inr (.inr ⟨a,zF5 _ ha,hh⟩))),λa ha=>zK1 λhh=>hn (.inr (.inr (.inr ⟨a,zE5 _ ha,hh⟩)))⟩
set_option maxRecDepth 1000000
open Go.Abs Go.RowKit
theorem MU (e:Ex): ∀m:Int,ac Pa0 oH [fp e,I m] (I (rj e m)):=by
 refine Ex.ind (p:= λe=> ∀m:Int,ac Pa0 oH [fp e,I m] (I (rj e m))) (λe ih m=> ?_) e
 refine ac.of NH zR6 λhb=>aa ?_
 obtain⟨Q,T⟩:=dq hb
 have hR:zd e.args m (IU m e.idx (w0 e))=rj e m:=(Zx e m).symm
 generalize rj e m=R at*
 have HR:=Lib.hid hR
 clear hR
 conv in Ec=>cbv
 repeat' first|simp(disch:=omega)only[go_sem, *]|apply ab<;>intro h<;>try omega
 refine al (λs:Nat×Int=>⟨[(6,I s.1),(5,I s.2),(2,.c (.ptr 0 0)),(1,I m)], [(0,zO e)],1,0⟩) (λs=>s.1≤e.idx.length∧Hid (IU m (e.idx.drop s.1) s.2=IU m e.idx (w0 e))) (λs=>e.idx.length-s.1) ⟨(0,w0 e), [],⟨by omega,rfl⟩,by simp[w0]⟩ ?_
 rintro⟨k,n⟩ ⟨hk,b⟩
 refine aa ?_
 simp only at hk b
 by_cases E:k<e.idx.length∧n≤m
 ·obtain⟨f,hn⟩:=E
  have hs:=(abl f hn).symm.trans b.out
  have HS:=Lib.hid hs
  clear b hs
  repeat' first|simp(disch:=omega)only[go_sem, *,ae f,gS,wrap_i64,hn]|apply ab<;>intro h<;>try omega
  refine adi 45 λM=> ?_
  have O:e.idx[k].2.2.length≤9223372036854775807:=by simpa[av,fB,f5]using M
  clear M
  generalize hB:IntKind.wrap .i64 (IntKind.wrap .i64 (n+e.idx[k].1.2.length)+e.idx[k].2.2.length)=n1 at*
  obtain⟨N2,F⟩: ∃N2,wAt m e.idx[k].2.2 n1=N2:=⟨_,rfl⟩
  rw[F]at HS
  have H2:=Lib.hid F
  clear F hB hn
  refine al (λs:Nat×Int=>⟨[(7,I s.1),(6,I k),(5,I s.2),(2,.c (.ptr 0 0)),(1,I m)], [(0,zO e)],1,0⟩) (λs=>s.1≤e.idx[k].2.2.length∧Hid (wAt m (e.idx[k].2.2.drop s.1) s.2=N2)) (λs=>e.idx[k].2.2.length-s.1) ⟨(0,n1), [],⟨by omega,H2⟩,by simp⟩ ?_
  clear H2
  rintro⟨j,n2⟩ ⟨hj,q⟩
  refine aa ?_
  simp only at hj q
  by_cases y:j<e.idx[k].2.2.length∧n2≤m
  ·obtain⟨o,w⟩:=y
   have t:=(adb o w).symm.trans q.out
   have HS2:=Lib.hid t
   clear q t
   repeat' first|simp(disch:=omega)only[go_sem, *,ae f,ae o,gS,bT,wrap_i64,w]|apply ab<;>intro h<;>try omega
   exact⟨(j+1,IntKind.wrap .i64 (n2+e.idx[k].2.2[j].2.length)), [],⟨by omega,HS2⟩,by show _-_<_-_;omega,by simp⟩
  ·have t:=(ZE y).symm.trans q.out
   subst t
   clear q
   by_cases o:j<e.idx[k].2.2.length
   ·have w: ¬n2≤m:= λh=>y ⟨o,h⟩
    clear y
    repeat' first|simp(disch:=omega)only[go_sem, *,ae f,gS,wrap_i64,w]|apply ab<;>intro h<;>try omega
    exact⟨(k+1,n2), [],⟨by omega,HS⟩,by show _-_<_-_;omega,by simp⟩
   ·clear y
    repeat' first|simp(disch:=omega)only[go_sem, *,ae f,gS,wrap_i64]|apply ab<;>intro h<;>try omega
    exact⟨(k+1,n2), [],⟨by omega,HS⟩,by show _-_<_-_;omega,by simp⟩
 ·have hs:=(Wm E).symm.trans b.out
  clear b
  rw[←hs]at HR
  have fin: ∀(P:Prop),P→P:= λ_ h=>h
  clear hs
  have G:(k<e.idx.length∧ ¬n≤m)∨ ¬k<e.idx.length:=by
   by_cases h:k<e.idx.length
   ·exact .inl ⟨h,λhh=>E ⟨h,hh⟩⟩
   ·exact .inr h
  clear E fin
  rcases G with⟨f,hn⟩|f
  all_goals
   repeat' first|simp(disch:=omega)only[go_sem, *,wrap_i64]|apply ab<;>intro h<;>try omega
   repeat clear hn
   refine al (λs:Nat×Int=>⟨[(8,I s.1),(5,I s.2),(2,.c (.ptr 0 0)),(1,I m)], [(0,zO e)],1,0⟩) (λs=>s.1≤e.args.length∧Hid (zd (e.args.drop s.1) m s.2=R)) (λs=>e.args.length-s.1) ⟨(0,n), [],⟨by omega,HR⟩,by simp⟩ ?_
   clear HR
   repeat clear f
   rintro⟨j,n2⟩ ⟨hj,q⟩
   refine aa ?_
   simp only at hj q
   by_cases o:j<e.args.length
   ·by_cases w:n2≤m
    ·have t:=(X6 o w).symm.trans q.out
     have HS2:=Lib.hid t
     have cW:=ih _ (zA6 o) (IntKind.wrap .i64 (m-n2))
     clear q t ih
     repeat' first|simp(disch:=omega)only[go_sem, *,ae o,Ex.row_eq,wrap_i64,w]|apply ab<;>intro h<;>try omega|refine ak cW ?_
     exact⟨(j+1,IntKind.wrap .i64 (n2+rj e.args[j] (IntKind.wrap .i64 (m-n2)))), [],⟨by omega,HS2⟩,by show _-_<_-_;omega,by simp⟩
    ·have t:=(L9 (l:=e.args) (k:=j) λh=>w h.2).symm.trans q.out
     rw[←t]
     clear q t ih
     repeat' first|simp(disch:=omega)only[go_sem, *,w]|apply ab<;>intro h<;>try omega
   ·have t:=(L9 (m:=m) (n:=n2) (l:=e.args) (k:=j) λh=>o h.1).symm.trans q.out
    rw[←t]
    clear q t ih
    exact zW0
set_option maxRecDepth 20000
set_option maxRecDepth 1000000
instance PL (l:List iB):Decidable (∃x∈l,20<x.2.length):=Classical.propDecidable _
theorem Lp (l:List iB):ac Pa0 uI [qH l] (Go.Abs.B (@decide (∃x∈l,20<x.2.length) (PL l))):=by
 refine ac.of Ok zR6 λhb=>aa ?_
 have hl:l.length≤9223372036854775807:=by
  have:=hb.1
  simpa[fB,f5]using this
 conv in DU=>cbv
 repeat' first|simp(disch:=omega)only[go_sem, *]|apply ab<;>intro h<;>try omega
 refine al (λk:Nat=>⟨[(3,I k),(0,qH l)], [],0,0⟩) (λk=>k≤l.length∧ct (λi=> ∀h:i<l.length,¬20<l[i].2.length) k) (λk=>l.length-k) ⟨0, [],⟨by omega,.zero⟩,by simp⟩ ?_
 rintro k ⟨hk,b⟩
 refine aa ?_
 by_cases f:k<l.length
 ·by_cases h:20<l[k].2.length
  ·rw[@zB1 _ (PL l) ⟨l[k],zA6 f,h⟩]
   have h':(l[k].2.length:Int)>20:=by omega
   clear b
   repeat' first|simp(disch:=omega)only[go_sem, *,ae f,bT,wrap_i64,h']|apply ab<;>intro h<;>try omega
  ·have HA:=Lib.hid (b.succ λ_=>h)
   have h': ¬(l[k].2.length:Int)>20:=by omega
   clear b h
   repeat' first|simp(disch:=omega)only[go_sem, *,ae f,bT,wrap_i64,h']|apply ab<;>intro h<;>try omega
   exact⟨k+1, [],⟨by omega,HA.out⟩,by omega,by simp⟩
 ·rw[@zA9 _ (PL l) (by
   rintro⟨x,hx,h⟩
   obtain⟨i,hi,rfl⟩:=zC2.1 hx
   exact b i zR5 hi h)]
  clear b
  exact zW0
theorem Mn (p:bu):ac Pa0 vo [fL p,I 300] (Go.Abs.B (decide (ur p))):=by
 refine ac.of Oe zR6 λhb=>aa ?_
 conv in DK=>cbv
 by_cases h5:12<p.sizes.length∨12<p.wher.length∨12<p.params.length∨12<p.defs.length∨12<p.outs.length
 ·rw[zB1 (show ur p from .inl h5)]
  exact zW1
 ·have hd:(∀i (h:i<p.wher.length),¬20<p.wher[i].1.2.length)→(∀i (h:i<p.params.length),¬Lj p.params[i])→(∀i (h:i<p.defs.length),¬LV p.defs[i])→decide (ur p)=false:= λg1 g2 g3=>zA9 (by
   rintro(h|⟨x,hx,h⟩|⟨x,hx,h⟩|⟨x,hx,h⟩)
   ·exact h5 h
   ·obtain⟨i,hi,rfl⟩:=zC2.1 hx
    exact g1 i hi h
   ·obtain⟨i,hi,rfl⟩:=zC2.1 hx
    exact g2 i hi h
   ·obtain⟨i,hi,rfl⟩:=zC2.1 hx
    exact g3 i hi h)
  have HF:=Lib.hid hd
  clear hd
  obtain⟨V,X,Y,Z,hA⟩:p.sizes.length≤12∧p.wher.length≤12∧p.params.length≤12∧p.defs.length≤12∧p.outs.length≤12:=by omega
  clear h5
  repeat' first|simp(disch:=omega)only[go_sem]|((with_reducible refine ab ?_ ?_)<;>intro h<;>try first|omega|simp(disch:=omega)only[go_sem, *])
  refine al (λk:Nat=>⟨[(5,I k),(2,.c (.ptr 0 0)),(1,I 300)], [(0,dK p)],1,0⟩) (λk=>k≤p.wher.length∧ct (λi=> ∀h:i<p.wher.length,¬20<p.wher[i].1.2.length) k) (λk=>p.wher.length-k) ⟨0, [],⟨by omega,.zero⟩,by simp⟩ ?_
  rintro k ⟨hk,b⟩
  refine aa ?_
  by_cases f:k<p.wher.length
  ·by_cases h:20<p.wher[k].1.2.length
   ·rw[zB1 (show ur p from .inr (.inl ⟨_,zA6 f,h⟩))]
    have h':(p.wher[k].1.2.length:Int)>20:=by omega
    clear b
    repeat' first|simp(disch:=omega)only[go_sem,ae f,cP,wrap_i64,h']|((with_reducible refine ab ?_ ?_)<;>intro h<;>try first|omega|simp(disch:=omega)only[go_sem, *,ae f,cP,wrap_i64,h'])
   ·have HA:=Lib.hid (b.succ λ_=>h)
    have h': ¬(p.wher[k].1.2.length:Int)>20:=by omega
    clear b h
    repeat' first|simp(disch:=omega)only[go_sem,ae f,cP,wrap_i64,h']|((with_reducible refine ab ?_ ?_)<;>intro h<;>try first|omega|simp(disch:=omega)only[go_sem, *,ae f,cP,wrap_i64,h'])
    exact⟨k+1, [],⟨by omega,HA.out⟩,by omega,by simp⟩
  have H1:Hid (∀i (h:i<p.wher.length),¬20<p.wher[i].1.2.length):= λi hi=>b i zR5 hi
  clear b
  repeat' first|simp(disch:=omega)only[go_sem]|((with_reducible refine ab ?_ ?_)<;>intro h<;>try first|omega|simp(disch:=omega)only[go_sem, *])
  repeat clear f
  repeat clear hk
  refine al (λk:Nat=>⟨[(6,I k),(2,.c (.ptr 0 0)),(1,I 300)], [(0,dK p)],1,0⟩) (λk=>k≤p.params.length∧ct (λi=> ∀h:i<p.params.length,¬Lj p.params[i]) k) (λk=>p.params.length-k) ⟨0, [],⟨by omega,.zero⟩,by simp⟩ ?_
  rintro k ⟨hk,b⟩
  refine aa ?_
  by_cases f:k<p.params.length
  ·have cW:=Lp p.params[k].2.2
   by_cases h:Lj p.params[k]
   ·rw[zB1 (show ur p from .inr (.inr (.inl ⟨_,zA6 f,h⟩)))]
    by_cases hw: ∃l∈p.params[k].2.2,20<l.2.length
    ·rw[zB1 hw]at cW
     clear b h hw
     repeat' first|simp(disch:=omega)only[go_sem,ae f,ef,wrap_i64]|((with_reducible refine ab ?_ ?_)<;>intro h<;>try first|omega|simp(disch:=omega)only[go_sem, *,ae f,ef,wrap_i64])|refine ak cW ?_
    ·have h':12<p.params[k].2.2.length:=h.resolve_right hw
     clear b h hw cW
     repeat' first|simp(disch:=omega)only[go_sem,ae f,ef,wrap_i64]|((with_reducible refine ab ?_ ?_)<;>intro h<;>try first|omega|simp(disch:=omega)only[go_sem, *,ae f,ef,wrap_i64])
   ·have HA:=Lib.hid (b.succ λ_=>h)
    have hw: ¬ ∃l∈p.params[k].2.2,20<l.2.length:= λhh=>h (.inr hh)
    have h': ¬12<p.params[k].2.2.length:= λhh=>h (.inl hh)
    rw[zA9 hw]at cW
    clear b h hw
    repeat' first|simp(disch:=omega)only[go_sem,ae f,ef,wrap_i64]|((with_reducible refine ab ?_ ?_)<;>intro h<;>try first|omega|simp(disch:=omega)only[go_sem, *,ae f,ef,wrap_i64])|refine ak cW ?_
    exact⟨k+1, [],⟨by omega,HA.out⟩,by omega,by simp⟩
  have H2:Hid (∀i (h:i<p.params.length),¬Lj p.params[i]):= λi hi=>b i zR5 hi
  clear b
  repeat' first|simp(disch:=omega)only[go_sem]|((with_reducible refine ab ?_ ?_)<;>intro h<;>try first|omega|simp(disch:=omega)only[go_sem, *])
  repeat clear f
  repeat clear hk
  refine al (λk:Nat=>⟨[(7,I k),(2,.c (.ptr 0 0)),(1,I 300)], [(0,dK p)],1,0⟩) (λk=>k≤p.defs.length∧ct (λi=> ∀h:i<p.defs.length,¬LV p.defs[i]) k) (λk=>p.defs.length-k) ⟨0, [],⟨by omega,.zero⟩,by simp⟩ ?_
  rintro k ⟨hk,b⟩
  refine aa ?_
  by_cases f:k<p.defs.length
  ·have cW:=MU p.defs[k].body 300
   have A:LV p.defs[k]→ur p:= λh=> .inr (.inr (.inr ⟨_,zA6 f,h⟩))
   by_cases h:12<p.defs[k].dims.length∨12<p.defs[k].red.length∨300<rj p.defs[k].body 300
   ·rw[zB1 (A (by
     rcases h with h|h|h
     ·exact .inl h
     ·exact .inr (.inl h)
     ·exact .inr (.inr (.inl h))))]
    clear b A
    generalize rj p.defs[k].body 300=W at*
    repeat' first|simp(disch:=omega)only[go_sem,ae f,bU,wrap_i64]|((with_reducible refine ab ?_ ?_)<;>intro h<;>try first|omega|simp(disch:=omega)only[go_sem, *,ae f,bU,wrap_i64])|refine ak cW ?_
   ·have hD:(∀i (h:i<(p.defs[k].dims++p.defs[k].red).length),¬20<(p.defs[k].dims++p.defs[k].red)[i].2.2.length)→Hid (ct (λi=> ∀h:i<p.defs.length,¬LV p.defs[i]) (k+1)):= λg=>b.succ λ_ hh=>by
     rcases hh with hh|hh|hh|⟨a,ha,hh⟩
     ·exact h (.inl hh)
     ·exact h (.inr (.inl hh))
     ·exact h (.inr (.inr hh))
     ·obtain⟨i,hi,rfl⟩:=zC2.1 ha
      exact g i hi hh
    have z: ∀i (h:i<(p.defs[k].dims++p.defs[k].red).length),20<(p.defs[k].dims++p.defs[k].red)[i].2.2.length→ur p:= λi hi hh=>A (.inr (.inr (.inr ⟨_,zA6 hi,hh⟩)))
    obtain⟨h1,h2,h3⟩:p.defs[k].dims.length≤12∧p.defs[k].red.length≤12∧rj p.defs[k].body 300≤300:=by omega
    clear b A h
    generalize rj p.defs[k].body 300=W at*
    repeat' first|simp(disch:=omega)only[go_sem,ae f,bU,wrap_i64]|((with_reducible refine ab ?_ ?_)<;>intro h<;>try first|omega|simp(disch:=omega)only[go_sem, *,ae f,bU,wrap_i64])|refine ak cW ?_
    clear cW h3
    refine al (λj:Nat=>⟨[(9,I j),(8,.c (.ptr 1 0)),(7,I k),(2,.c (.ptr 0 0)),(1,I 300)], [(1,Fu p.defs[k]),(0,dK p)],2,0⟩) (λj=>j≤(p.defs[k].dims++p.defs[k].red).length∧ct (λi=> ∀h:i<(p.defs[k].dims++p.defs[k].red).length,¬20<(p.defs[k].dims++p.defs[k].red)[i].2.2.length) j) (λj=>(p.defs[k].dims++p.defs[k].red).length-j) ⟨0, [],⟨by omega,.zero⟩,by simp⟩ ?_
    rintro j ⟨hj,u⟩
    refine aa ?_
    have H:(p.defs[k].dims++p.defs[k].red).length=p.defs[k].dims.length+p.defs[k].red.length:=zE8
    by_cases o:j<(p.defs[k].dims++p.defs[k].red).length
    ·have N:(j:Int)<p.defs[k].dims.length+p.defs[k].red.length:=by omega
     by_cases v:p.defs[k].dims= []
     ·have C:(p.defs[k].dims++p.defs[k].red)[j]=p.defs[k].red[j]'(by simpa[v]using o):=by simp[v]
      have D:j<p.defs[k].red.length:=by simpa[v]using o
      by_cases h:20<(p.defs[k].dims++p.defs[k].red)[j].2.2.length
      ·rw[zB1 (z j o h)]
       rw[C]at h
       have h':(p.defs[k].red[j].2.2.length:Int)>20:=by omega
       clear u z hD C h o H hj
       repeat' first|simp(disch:=omega)only[go_sem,v,ae D,gw,wrap_i64,h']|((with_reducible refine ab ?_ ?_)<;>intro h<;>try first|omega|simp(disch:=omega)only[go_sem, *,v,ae D,gw,wrap_i64,h'])|apply af|(with_reducible refine ag (λh=> ?_) ?_)|refine jn a6 ?_|refine no a6 (aD λx=>rfl) zR8 zR8 ?_
      ·have HA:=Lib.hid (u.succ λ_=>h)
       rw[C]at h
       have h': ¬(p.defs[k].red[j].2.2.length:Int)>20:=by omega
       have J:j+1≤(p.defs[k].dims++p.defs[k].red).length:=by omega
       have K:(p.defs[k].dims++p.defs[k].red).length-(j+1)<(p.defs[k].dims++p.defs[k].red).length-j:=by omega
       have L:=HA.out
       simp only[v,zD4]at L J K
       have HA2:=Lib.hid L
       have HJ2:=Lib.hid J
       have HJ3:=Lib.hid K
       clear u z C h o H hj J K L HA
       repeat' first|simp(disch:=omega)only[go_sem,v,ae D,gw,wrap_i64,h']|((with_reducible refine ab ?_ ?_)<;>intro h<;>try first|omega|simp(disch:=omega)only[go_sem, *,v,ae D,gw,wrap_i64,h'])|apply af|(with_reducible refine ag (λh=> ?_) ?_)|refine jn a6 ?_|refine no a6 (aD λx=>rfl) zR8 zR8 ?_
       all_goals exact⟨j+1, [],⟨HJ2.out,HA2.out⟩,HJ3.out,by simp[v]⟩
     ·by_cases h:20<(p.defs[k].dims++p.defs[k].red)[j].2.2.length
      ·rw[zB1 (z j o h)]
       have h':((p.defs[k].dims++p.defs[k].red)[j].2.2.length:Int)>20:=by omega
       clear u z hD h hj
       repeat' first|simp(disch:=omega)only[go_sem,←zC8,ae o,gw,wrap_i64,h']|((with_reducible refine ab ?_ ?_)<;>intro h<;>try first|omega|simp(disch:=omega)only[go_sem, *,←zC8,ae o,gw,wrap_i64,h'])|apply af|(with_reducible refine ag (λh=> ?_) ?_)|refine gO a6 (aD λx=>rfl) (by simpa using v) zR8 zR8 ?_|refine aP rfl zS0 (aD λx=>rfl) zR8 zR8 ?_
      ·have HA:=Lib.hid (u.succ λ_=>h)
       have h': ¬((p.defs[k].dims++p.defs[k].red)[j].2.2.length:Int)>20:=by omega
       clear u z h
       repeat' first|simp(disch:=omega)only[go_sem,←zC8,ae o,gw,wrap_i64,h']|((with_reducible refine ab ?_ ?_)<;>intro h<;>try first|omega|simp(disch:=omega)only[go_sem, *,←zC8,ae o,gw,wrap_i64,h'])|apply af|(with_reducible refine ag (λh=> ?_) ?_)|refine gO a6 (aD λx=>rfl) (by simpa using v) zR8 zR8 ?_|refine aP rfl zS0 (aD λx=>rfl) zR8 zR8 ?_
       all_goals exact⟨j+1, [],⟨by omega,HA.out⟩,by omega,by simp⟩
    ·have HA:=hD λi hi=>u i zR5 hi
     have N: ¬(j:Int)<p.defs[k].dims.length+p.defs[k].red.length:=by omega
     clear u hD z o H hj
     repeat' first|simp(disch:=omega)only[go_sem,wrap_i64]|((with_reducible refine ab ?_ ?_)<;>intro h<;>try first|omega|simp(disch:=omega)only[go_sem, *,wrap_i64])
     exact⟨k+1, [],⟨by omega,HA.out⟩,by omega,by simp⟩
  ·rw[HF.out H1.out H2.out λi hi=>b i zR5 hi]
   clear b
   exact zW1
theorem HQ (p:bu):ac Pa0 sC [fL p] (Go.Abs.B (decide (p.defs.length≤8∧ ¬ur p))):=by
 refine ac.of L8 zR6 λhb=>aa ?_
 have cL:=Mn p
 conv in BA=>cbv
 by_cases h1:p.defs.length≤8
 ·by_cases h2:ur p
  ·rw[zB1 h2]at cL
   rw[zA9 (λh=>h.2 h2)]
   clear h2
   repeat' first|simp(disch:=omega)only[go_sem, *]|apply ab<;>intro h<;>try omega|refine ak cL ?_
   all_goals rfl
  ·rw[zA9 h2]at cL
   rw[zB1 ⟨h1,h2⟩]
   clear h2
   repeat' first|simp(disch:=omega)only[go_sem, *]|apply ab<;>intro h<;>try omega|refine ak cL ?_
   all_goals rfl
 ·rw[zA9 (λh=>h1 h.1)]
  clear cL
  exact zW0
end
end Go.Proofs.YtigdjhnndaokjaaGreatDoor
