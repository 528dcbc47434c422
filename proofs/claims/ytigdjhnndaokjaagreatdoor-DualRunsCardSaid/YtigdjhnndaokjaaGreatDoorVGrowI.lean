import Derived.Test.YtigdjhnndaokjaaGreatDoorP25n
import Derived.Test.YtigdjhnndaokjaaGreatDoorV25u
import Derived.Test.YtigdjhnndaokjaaGreatDoorInZ
set_option linter.unusedVariables false
set_option linter.unusedSimpArgs false
set_option maxHeartbeats 4000000
namespace Go.Proofs.YtigdjhnndaokjaaGreatDoor
open Go.Abs Go.RowKit
noncomputable section
def fa (fold:Int) (a b:Nb):Nb×Int:=
 if a.1.1=1 then((a.1,(hZ fold [a.2,b.2]).1),(hZ fold [a.2,b.2]).2)else((a.1,((gp (OA fold) a.1 a.2.1 b.2.1).1,z1)),(gp (OA fold) a.1 a.2.1 b.2.1).2)
def dl (l:List iF) (p:List Int):List aG:=(l.zip p).map λx=>(x.1.1,x.2)
def TF (f:Nat→Nb×Int) (fold:Int):Nat→Nat→Nb→Nb×Int
 |0,k,acc=>(acc,0)
 |m+1,k,acc=>if(f k).2≠0 then(HU,(f k).2)else if k=0 then TF f fold m (k+1) (f k).1 else if(fa fold acc (f k).1).2≠0 then(HU,(fa fold acc (f k).1).2)else TF f fold m (k+1) (fa fold acc (f k).1).1
def elF (M A:List Nm) (env:List aG) (d:lH) (red:List Int) (k:Nat):Nb×Int:=jr M A (dl d.red (au red (k:Int))++env) d.body
def Uz (M A:List Nm) (env:List aG) (d:lH) (red:List Int):Nb×Int:=TF (elF M A env d red) d.fold (bl red).toNat 0 HU
def TD (d:lH) (dims:List Int) (k:Nat):Prop:=d.fold=5∧0<(au dims (k:Int))[dims.length-1]?.getD 0
instance (d:lH) (dims:List Int) (k:Nat):Decidable (TD d dims k):=inferInstanceAs (Decidable (_∧_))
abbrev Vn:Du:=((0,0),(0,0))
def Au (g:Nat→Nb×Int) (d:lH) (dims:List Int):Nat→Nat→List Du→List Du×Int
 |0,k,acc=>(acc,0)
 |m+1,k,acc=>if(g k).2≠0 then([],(g k).2)else if TD d dims k then(if(fa 1 (d.ty,acc[k-1]?.getD Vn) (g k).1).2≠0 then([],(fa 1 (d.ty,acc[k-1]?.getD Vn) (g k).1).2)else Au g d dims m (k+1) (acc++ [(fa 1 (d.ty,acc[k-1]?.getD Vn) (g k).1).1.2]))else Au g d dims m (k+1) (acc++ [(g k).1.2])
def yU (M A:List Nm) (env:List aG) (d:lH) (dims red:List Int) (k:Nat):Nb×Int:=Uz M A (dl d.dims (au dims (k:Int))++env) d red
def Al (M A:List Nm) (env:List aG) (d:lH) (dims red:List Int):List Du×Int:=Au (yU M A env d dims red) d dims (bl dims).toNat 0 []
def PR (env:List aG) (d:lH):List Int×Int:=w9 env (d.red.map (·.2))
def Rk (p:bu) (env:List aG) (M A:List Nm) (d:lH):(List Int×List Du)×Int:=
 if(jV p env d.name).2≠0 then(([], []),(jV p env d.name).2)else if(PR env d).2≠0 then(([], []),(PR env d).2)
 else if Ad ((jV p env d.name).1++(PR env d).1)≠0 then(([], []),2)
 else if(Al M A env d (jV p env d.name).1 (PR env d).1).2≠0 then(([], []),(Al M A env d (jV p env d.name).1 (PR env d).1).2)
 else(((jV p env d.name).1,(Al M A env d (jV p env d.name).1 (PR env d).1).1),0)
def Xu (d:lH) (x:List Int×List Du):Nm:=(d.name,d.ty,x.1,x.2.map (·.1))
def nmT (d:lH) (x:List Int×List Du):Nm:=(d.name,d.ty,x.1,x.2.map (·.2))
def gP (L:List Nm) (s:ByteArray) (t:Ty) (ds:List Int):Int:=match bm L s with
 |none=>9
 |some T=>if d9 T≠0 then 1 else if T.1≠t then 10 else if T.2.1≠ds then 15 else 0
def nk (p:bu) (env:List aG) (ins:List Nm):List gV→List Nm→List Nm×Int
 | [],M=>(M,0)
 |x::r,M=>if(jV p env x.1).2≠0 then([],(jV p env x.1).2)else if gP ins x.1 x.2.1 (jV p env x.1).1≠0 then([],gP ins x.1 x.2.1 (jV p env x.1).1)else nk p env ins r (M++ [(x.1,(bm ins x.1).getD MD)])
def ot (T:Tn):Tn:=(T.1,T.2.1,List.replicate (bl T.2.1).toNat z1)
def GT (along:List Nm):List Nm→List Nm→List Nm×Int
 | [],A=>(A,0)
 |x::r,A=>if x.2.1.1≠1 then GT along r A else match bm along x.1 with
  |none=>GT along r (A++ [(x.1,ot x.2)])
  |some U=>if gP along x.1 x.2.1 x.2.2.1≠0 then([],gP along x.1 x.2.1 x.2.2.1)else GT along r (A++ [(x.1,U)])
def Tz (p:bu) (env:List aG):List lH→List Nm→List Nm→(List Nm×List Nm)×Int
 | [],M,A=>((M,A),0)
 |d::r,M,A=>if(Rk p env M A d).2≠0 then(([], []),(Rk p env M A d).2)else Tz p env r (M++ [Xu d (Rk p env M A d).1]) (if d.ty.1=1 then A++ [nmT d (Rk p env M A d).1]else A)
def rO (M:List Nm) (outs:List ByteArray):List Nm:=outs.map λs=>(s,(bm M s).getD MD)
def lI (A:List Nm) (outs:List ByteArray):List Nm:=outs.filterMap λs=>(bm A s).map λT=>(s,T)
def rnS (p:bu) (env:List aG) (ins along:List Nm):(List Nm×List Nm)×Int:=
 if(FP p).2≠0 then(([], []),(FP p).2)else if DY p env≠0 then(([], []),DY p env)
 else if(nk p env ins p.params []).2≠0 then(([], []),(nk p env ins p.params []).2)
 else if(GT along (nk p env ins p.params []).1 []).2≠0 then(([], []),(GT along (nk p env ins p.params []).1 []).2)
 else if(Tz p env p.defs (nk p env ins p.params []).1 (GT along (nk p env ins p.params []).1 []).1).2≠0 then(([], []),(Tz p env p.defs (nk p env ins p.params []).1 (GT along (nk p env ins p.params []).1 []).1).2)
 else((rO (Tz p env p.defs (nk p env ins p.params []).1 (GT along (nk p env ins p.params []).1 []).1).1.1 p.outs,lI (Tz p env p.defs (nk p env ins p.params []).1 (GT along (nk p env ins p.params []).1 []).1).1.2 p.outs),0)
variable {f:Nat→Nb×Int}{fold e:Int}{N k:Nat}
theorem Yo {acc v:Nb} (h:k<N) (hv:f k=(v,e)):TF f fold (N-k) k acc=if e≠0 then(HU,e)else if k=0 then TF f fold (N-(k+1)) (k+1) v else if(fa fold acc v).2≠0 then(HU,(fa fold acc v).2)else TF f fold (N-(k+1)) (k+1) (fa fold acc v).1:=by
 rw[show N-k=(N-(k+1))+1 by omega,TF,hv]
theorem VA {acc:Nb} (h:N≤k):TF f fold (N-k) k acc=(acc,0):=by
 rw[show N-k=0 by omega,TF]
variable {g:Nat→Nb×Int}{d:lH}{dims:List Int}
theorem U0 {acc:List Du} {v:Nb} (h:k<N) (hv:g k=(v,e)):Au g d dims (N-k) k acc=if e≠0 then([],e)else if TD d dims k then(if(fa 1 (d.ty,acc[k-1]?.getD Vn) v).2≠0 then([],(fa 1 (d.ty,acc[k-1]?.getD Vn) v).2)else Au g d dims (N-(k+1)) (k+1) (acc++ [(fa 1 (d.ty,acc[k-1]?.getD Vn) v).1.2]))else Au g d dims (N-(k+1)) (k+1) (acc++ [v.2]):=by
 rw[show N-k=(N-(k+1))+1 by omega,Au,hv]
theorem Te {acc:List Du} (h:N≤k):Au g d dims (N-k) k acc=(acc,0):=by
 rw[show N-k=0 by omega,Au]
variable {p:bu}{env:List aG}{ins M:List Nm}{j:Nat}
theorem P5 {l:List gV} (h:j<l.length):nk p env ins (l.drop j) M=if(jV p env l[j].1).2≠0 then([],(jV p env l[j].1).2)else if gP ins l[j].1 l[j].2.1 (jV p env l[j].1).1≠0 then([],gP ins l[j].1 l[j].2.1 (jV p env l[j].1).1)else nk p env ins (l.drop (j+1)) (M++ [(l[j].1,(bm ins l[j].1).getD MD)]):=by
 rw[zC0 h,nk]
theorem MC {l:List gV} (h:l.length≤j):nk p env ins (l.drop j) M=(M,0):=by
 rw[zF8 h,nk]
def alH (along:List Nm) (x:Nm) (r A:List Nm):List Nm×Int:=match bm along x.1 with
  |none=>GT along r (A++ [(x.1,ot x.2)])
  |some U=>if gP along x.1 x.2.1 x.2.2.1≠0 then([],gP along x.1 x.2.1 x.2.2.1)else GT along r (A++ [(x.1,U)])
variable {along A:List Nm}
theorem UP {l:List Nm} (h:j<l.length):GT along (l.drop j) A=if l[j].2.1.1≠1 then GT along (l.drop (j+1)) A else alH along l[j] (l.drop (j+1)) A:=by
 rw[zC0 h,GT]
 rfl
variable {r:List Nm}
theorem KW {x:Nm} (h:bm along x.1=none):alH along x r A=GT along r (A++ [(x.1,ot x.2)]):=by
 unfold alH
 rw[h]
theorem K0 {x:Nm} {U:Tn} (h:bm along x.1=some U):alH along x r A=if gP along x.1 x.2.1 x.2.2.1≠0 then([],gP along x.1 x.2.1 x.2.2.1)else GT along r (A++ [(x.1,U)]):=by
 unfold alH
 rw[h]
theorem PX {l:List Nm} (h:l.length≤j):GT along (l.drop j) A=(A,0):=by
 rw[zF8 h,GT]
theorem XA {l:List lH} (h:j<l.length):Tz p env (l.drop j) M A=if(Rk p env M A l[j]).2≠0 then(([], []),(Rk p env M A l[j]).2)else Tz p env (l.drop (j+1)) (M++ [Xu l[j] (Rk p env M A l[j]).1]) (if l[j].ty.1=1 then A++ [nmT l[j] (Rk p env M A l[j]).1]else A):=by
 rw[zC0 h,Tz]
theorem VN {l:List lH} (h:l.length≤j):Tz p env (l.drop j) M A=((M,A),0):=by
 rw[zF8 h,Tz]
theorem SD: ∀l:List Int,Yu l=bl l
 | []=>rfl
 |n::r=>by rw[Yu,bl,SD r]
theorem R9: ∀l:List Int,iS l=bl l
 | []=>rfl
 |n::r=>by rw[iS,bl,R9 r]
variable {l:List iF}
theorem z6 {p:List Int} (h:p.length=l.length):(dl l p).length=l.length:=by simp[dl,h]
theorem TO {p:List Int} (h:j<l.length) (hp:j<p.length):(dl l p).take (j+1)=(dl l p).take j++ [(l[j].1,p[j])]:=by
 rw[zB5 (by simp[dl];omega)]
 simp[dl]
theorem OQ {p:List Int} (h:j<l.length) (hp:j<p.length):((dl l p).take j).map mP++ [[pS l[j].1,pI p[j]]]=((dl l p).take (j+1)).map mP:=by
 rw[TO h hp,zC8]
 rfl
theorem ZO {x:Tn} (h1:cj x.1) (h2:yk x.2.1=0) (h3:(x.2.2.length:Int)=bl x.2.1) (h4: ∀a∈x.2.2,aK x.1 a):d9 x=0:=by
 unfold d9
 rw[if_neg (zA5 h1),if_neg (zA5 h2),if_neg (zA5 h3),if_pos]
 intro i hi h
 exact h4 _ (zA6 h)
variable {t:Ty}
theorem EA {a b:Du} (ha:jZ t a) (hb:jZ t b) (h:(fa fold (t,a) (t,b)).2=0):(fa fold (t,a) (t,b)).1.1=t∧jZ t (fa fold (t,a) (t,b)).1.2:=by
 unfold fa at*
 simp only at h ⊢
 by_cases h1:t.1=1
 ·rw[if_pos h1]at h ⊢
  refine⟨rfl,Va ha.1 h1 ?_⟩
  rw[hZ]at h ⊢
  split at h
  ·cases h
  ·rename_i h2
   rw[if_neg h2]
   rw[dV]at h ⊢
   split at h
   ·contradiction
   ·rename_i h3
    rw[if_neg h3]
    rw[dV]
    exact Mq (zB9.1 h3)
 ·rw[if_neg h1]at h ⊢
  exact⟨rfl,Y5 ha.1 (V9 ha.1 ha.2.1 hb.2.1 h) h1⟩
def nbT (t:Ty) (v:Nb):Prop:=v.1=t∧jZ t v.2
theorem nbT.join {a b:Nb} (ha:nbT t a) (hb:nbT t b) (h:(fa fold a b).2=0):nbT t (fa fold a b).1:=by
 obtain⟨s,a⟩:=a
 obtain⟨s',b⟩:=b
 obtain⟨rfl,ha⟩:=ha
 obtain⟨rfl,hb⟩:=hb
 exact EA ha hb h
theorem UJ {f:Nat→Nb×Int} {fold:Int} {t:Ty} (hf: ∀k,(f k).2=0→nbT t (f k).1): ∀(m k:Nat) (acc:Nb),(0<k→nbT t acc)→0<k+m→(TF f fold m k acc).2=0→nbT t (TF f fold m k acc).1
 |0,k,acc,ha,hk,h=>ha hk
 |m+1,k,acc,ha,hk,h=>by
  rw[TF]at h ⊢
  split at h
  ·contradiction
  ·rename_i h1
   rw[if_neg h1]
   have hv:=hf k (zB9.1 h1)
   split at h
   ·rename_i h2
    rw[if_pos h2]
    exact UJ hf m (k+1) _ (λ_=>hv) zR5 h
   ·rename_i h2
    rw[if_neg h2]
    split at h
    ·contradiction
    ·rename_i h3
     rw[if_neg h3]
     exact UJ hf m (k+1) _ (λ_=>(ha zR5).join hv (zB9.1 h3)) zR5 h
theorem ab1 {g:Nat→Nb×Int} {d:lH} {dims:List Int} (hg: ∀k,(g k).2=0→nbT d.ty (g k).1) (hs: ∀k,TD d dims k→0<k): ∀(m k:Nat) (acc:List Du),acc.length=k→(∀a∈acc,jZ d.ty a)→(Au g d dims m k acc).2=0→(Au g d dims m k acc).1.length=k+m∧ ∀a∈(Au g d dims m k acc).1,jZ d.ty a
 |0,k,acc,hl,ha,h=>⟨hl,ha⟩
 |m+1,k,acc,hl,ha,h=>by
  rw[Au]at h ⊢
  split at h
  ·contradiction
  ·rename_i h1
   rw[if_neg h1]
   have hv:=hg k (zB9.1 h1)
   split at h
   ·rename_i h2
    rw[if_pos h2]
    have h0:=hs k h2
    have V:nbT d.ty (d.ty,acc[k-1]?.getD Vn):=⟨rfl,by rw[zA7 (show k-1<acc.length by omega),zA8];exact ha _ (zA6 _)⟩
    split at h
    ·contradiction
    ·rename_i h3
     rw[if_neg h3]
     have hj:=V.join hv (zB9.1 h3)
     obtain⟨e1,e2⟩:=ab1 hg hs m (k+1) _ (by simp[hl]) (λa hm=>(zE7.1 hm).elim (ha a) λhm=>by rw[zG1.1 hm];exact hj.2) h
     exact⟨by omega,e2⟩
   ·rename_i h2
    rw[if_neg h2]
    obtain⟨e1,e2⟩:=ab1 hg hs m (k+1) _ (by simp[hl]) (λa hm=>(zE7.1 hm).elim (ha a) λhm=>by rw[zG1.1 hm];exact hv.2) h
    exact⟨by omega,e2⟩
theorem Vz (h:TD d dims k):0<k:=by
 rcases Nat.eq_zero_or_pos k with rfl|h0
 ·obtain⟨_,h2⟩:=h
  exfalso
  by_cases hl:dims.length-1<dims.length
  ·rw[He hl]at h2
   simp[Kv]at h2
  ·rw[List.getElem?_eq_none (by rw[aX];omega)]at h2
   simp at h2
 ·exact h0
theorem Cg (h:(bA p).2=0) (hk:k<p.defs.length):(W6 (cd p k) (aR p.defs[k]) p.defs[k].body∧ ¬aM p.defs[k].body.op∧tyE (cd p k) (aR p.defs[k]) p.defs[k].body=p.defs[k].ty)∧hO p.defs[k].body=0∧cj p.defs[k].ty∧(p.defs[k].dims.length≤6∧p.defs[k].red.length≤6)∧(0≤p.defs[k].fold∧p.defs[k].fold≤5)∧((p.defs[k].fold=0∨p.defs[k].fold=5)↔p.defs[k].red.length=0)∧ ¬(p.defs[k].fold=5∧p.defs[k].dims.length=0):=by
 have h1:=(gZ h).2.2.2 k hk
 rw[DD hk]at h1
 unfold bq at h1
 generalize p.defs[k]=d at*
 split at h1
 ·contradiction
 ·split at h1
  ·cases h1
  ·rename_i ht
   split at h1
   ·cases h1
   ·rename_i hl
    split at h1
    ·contradiction
    ·split at h1
     ·contradiction
     ·rename_i q
      split at h1
      ·contradiction
      ·rename_i o
       split at h1
       ·cases h1
       ·rename_i z
        have o:(be (cd p k) (aR d) d.body).2=0:=zB9.1 o
        have z:(be (cd p k) (aR d) d.body).1=d.ty:=zB9.1 z
        obtain⟨t1,t2⟩:=Xh o
        have F: ¬aM d.body.op:= λhc=>by
         unfold be at o
         rw[if_neg (zA5 t1),if_pos hc]at o
         cases o
        have hG:jE d.body=0:=by
         unfold hO at t1
         split at t1
         ·cases t1
         ·split at t1
          ·cases t1
          ·exact t1
        unfold be at z
        rw[if_neg (zA5 t1),if_neg F,if_neg (zA5 t2)]at z
        have q:=zB9.1 q
        unfold iI at q
        split at q
        ·cases q
        ·rename_i hW
         split at q
         ·rename_i W
          exact⟨⟨⟨λa ha=>zW hG _ (zI9 ha),t2⟩,F,z⟩,t1,zB9.1 ht,by omega,by omega,W.1,W.2⟩
         ·cases q
variable {s:ByteArray}{fs:List iB}{ds:List Int}
theorem Vq {ty:Ty} (hf:cY p s=some (ty,fs)) (h:jV p env s=(ds,0)):w9 env fs=(ds,0)∧bl ds≤4096:=by
 unfold jV at h
 split at h
 ·rename_i h1
  exact absurd (zH4.1 h).2 h1
 ·unfold Sx at h
  rw[hf]at h
  simp only at h
  split at h
  ·rename_i h1
   exact absurd (zH4.1 h).2 h1
  ·rename_i h1
   split at h
   ·cases (zH4.1 h).2
   ·rename_i h2
    obtain rfl:(w9 env fs).1=ds:=(zH4.1 h).1
    rw[R9]at h2
    exact⟨zL0 rfl (zB9.1 h1),by omega⟩
theorem RH (h:w9 env fs=(ds,0)) (hp:bl ds≤4096) (hl:fs.length≤6):yk ds=0∧Ql ds∧ds.length=fs.length:=by
 obtain⟨h1,h2,_⟩:=Dn h
 exact⟨aeY ⟨by omega,λx hx=>(h2 x hx).1,hp⟩,h2,h1⟩
theorem afV {vs:List Du} (hv:(bA p).2=0) (hk:k<p.defs.length) (hM:wR (cd p k) M A) (h:Rk p env M A p.defs[k]=((ds,vs),0)):
  (jV p env p.defs[k].name=(ds,0)∧yk ds=0∧Ql ds∧ds.length=p.defs[k].dims.length)∧(vs.length:Int)=bl ds∧ ∀a∈vs,jZ p.defs[k].ty a:=by
 obtain⟨⟨hw,F,z⟩,_,hX,hl,q⟩:=Cg hv hk
 have hJ:=SK hv hk
 unfold Rk at h
 split at h
 ·rename_i h1
  exact absurd (zH4.1 h).2 h1
 ·rename_i h1
  split at h
  ·rename_i h2
   exact absurd (zH4.1 h).2 h2
  ·rename_i h2
   split at h
   ·cases (zH4.1 h).2
   ·rename_i h3
    split at h
    ·rename_i h4
     exact absurd (zH4.1 h).2 h4
    ·rename_i h4
     obtain⟨e1,e2⟩:=zH4.1 (zH4.1 h).1
     simp only at e1 e2
     have G:jV p env p.defs[k].name=(ds,0):=zL0 e1 (zB9.1 h1)
     obtain⟨g1,g2⟩:=Vq hJ G
     obtain⟨g3,g4,g5⟩:=RH g1 g2 zR8
     have hR:PR env p.defs[k]=((PR env p.defs[k]).1,0):=zL0 rfl (zB9.1 h2)
     obtain⟨r1,r2,_⟩:=Dn hR
     generalize (PR env p.defs[k]).1=red at*
     rw[G]at h4 e2
     simp only at h4 e2
     have hf: ∀env' i,(elF M A env' p.defs[k] red i).2=0→nbT p.defs[k].ty (elF M A env' p.defs[k] red i).1:= λenv' i h=>by
      have:=JI hM _ hw F h
      rw[z]at this
      exact this
     have hS:0<bl red:=el red λx hx=>(r2 x hx).1
     have hg: ∀i,(yU M A env p.defs[k] ds red i).2=0→nbT p.defs[k].ty (yU M A env p.defs[k] ds red i).1:= λi h=>UJ (hf _) _ 0 HU (λh=>absurd h zR5) zR5 h
     obtain⟨o1,o2⟩:=ab1 hg (λk h=>Vz h) (bl ds).toNat 0 [] rfl (λa ha=>by cases ha) (zB9.1 h4)
     have hY:0<bl ds:=el ds λx hx=>(g4 x hx).1
     have e2':(Au (yU M A env p.defs[k] ds red) p.defs[k] ds (bl ds).toNat 0 []).1=vs:=e2
     rw[e2']at o1 o2
     exact⟨⟨G,g3,g4,by simpa using g5⟩,by omega,o2⟩
variable {L:List Nm}
theorem aar {R:List Nm}:bm (L++R) s=(bm L s).or (bm R s):=by
 unfold bm
 rw[List.find?_append]
 cases L.find? λt=>decide (t.1=s)<;>simp
theorem jP:bm L s=none↔s∉L.map (·.1):=by
 unfold bm
 rw[Option.map_eq_none_iff,zK4]
 simp only[zE0,decide_eq_true_eq,not_exists,not_and]
variable {T:Tn}
theorem aaF {u:ByteArray}:bm [(u,T)] s=if u=s then some T else none:=by
 unfold bm
 by_cases h:u=s<;>simp[h]
theorem FE (h:bm L s=some T):(s,T)∈L:=by
 unfold bm at h
 obtain⟨⟨u,T'⟩,h1,rfl⟩:=zC1.1 h
 have h2:=List.find?_some h1
 have h3:=zK8 h1
 have:u=s:=by simpa using h2
 rwa [this]at h3
def mI (p:bu) (k:Nat) (M A:List Nm):Prop:=M.map (·.1)=aaQ p k∧(∀x∈A,x.1∈M.map (·.1))∧wR (cd p k) M A
theorem ac3 (hk:k<p.defs.length) {ds:List iB} (h:cY (cd p (k+1)) s=some (t,ds)):cY (cd p k) s=some (t,ds)∨(p.defs[k].name=s∧t=p.defs[k].ty∧ds=p.defs[k].dims.map (·.2)):=by
 unfold cY cd at*
 simp only at h ⊢
 cases hp:p.params.find? λx=>decide (x.1=s)with
 |some x=>
  rw[hp]at h
  exact .inl h
 |none=>
  rw[hp]at h
  simp only at h ⊢
  rw[zB5 hk,List.find?_append]at h
  cases hd:(p.defs.take k).find? λd=>decide (d.name=s)with
  |some d=>
   rw[hd]at h
   exact .inl h
  |none=>
   rw[hd]at h
   simp only[Option.none_or,List.find?_cons,List.find?_nil]at h
   by_cases hn:p.defs[k].name=s
   ·rw[zB1 hn]at h
    simp only[Option.some.injEq,Prod.mk.injEq]at h
    exact .inr ⟨hn,h.1.symm,h.2.symm⟩
   ·rw[zA9 hn]at h
    cases h
theorem mI.step {x:List Int×List Du} (hv:(bA p).2=0) (hk:k<p.defs.length) (hI:mI p k M A) (h:Rk p env M A p.defs[k]=(x,0)):mI p (k+1) (M++ [Xu p.defs[k] x]) (if p.defs[k].ty.1=1 then A++ [nmT p.defs[k] x]else A):=by
 obtain⟨h1,h2,h3⟩:=hI
 obtain⟨ds,vs⟩:=x
 obtain⟨⟨_,d1,d2,d3⟩,d4,d5⟩:=afV hv hk h3 h
 have o:=(Cg hv hk).2.2.1
 have H:p.defs[k].name∉M.map (·.1):= λhm=>(FD hv hk).2 (ZU (by rw[←h1];exact hm))
 have X:p.defs[k].name∉A.map (·.1):= λhm=>by
  obtain⟨y,hy,he⟩:=zE0.1 hm
  exact H (he▸h2 y hy)
 refine⟨by rw[zC8,h1,aek hk];rfl,λy hy=> ?_,λs t fs hf=> ?_⟩
 ·rw[zC8]
  split at hy
  ·rcases zE7.1 hy with hy|hy
   ·exact zF5 _ (h2 y hy)
   ·rw[zG1.1 hy]
    exact zE5 _ zC5
  ·exact zF5 _ (h2 y hy)
 ·rcases ac3 hk hf with hf|⟨rfl,rfl,rfl⟩
  ·obtain⟨T,t1,t2,t3,t4,t5,t6⟩:=h3 s t fs hf
   refine⟨T,by rw[aar,t1];rfl,t2,t3,t4,λht=> ?_,λht=> ?_⟩
   ·obtain⟨U,u1,u2⟩:=t5 ht
    refine⟨U, ?_,u2⟩
    split
    ·rw[aar,u1];rfl
    ·exact u1
   ·have hK:s≠p.defs[k].name:= λhe=>H (he▸zI9 (FE t1))
    split
    ·rw[aar,t6 ht,nmT,aaF,if_neg (λe=>hK e.symm)];rfl
    ·exact t6 ht
  ·refine⟨(p.defs[k].ty,ds,vs.map (·.1)),by rw[aar,jP.2 H,Xu,aaF,if_pos rfl];rfl,rfl,by simpa using d3,ZO o d1 (by simpa using d4) (λa ha=> ?_),λht=> ?_,λht=> ?_⟩
   ·obtain⟨y,hy,rfl⟩:=zE0.1 ha
    exact(d5 y hy).2.1
   ·rw[if_pos ht]
    refine⟨(p.defs[k].ty,ds,vs.map (·.2)),by rw[aar,jP.2 X,nmT,aaF,if_pos rfl];rfl,rfl,rfl,ZO o d1 (by simpa using d4) (λa ha=> ?_)⟩
    obtain⟨y,hy,rfl⟩:=zE0.1 ha
    exact(zB ht).2 ((d5 y hy).2.2.1 ht)
   ·rw[if_neg ht]
    exact jP.2 X
theorem Qo (h:gP L s t ds=0): ∃T,bm L s=some T∧d9 T=0∧T.1=t∧T.2.1=ds:=by
 unfold gP at h
 split at h
 ·cases h
 ·rename_i T hT
  split at h
  ·cases h
  ·split at h
   ·cases h
   ·split at h
    ·cases h
    ·exact⟨T,hT,zB9.1 ‹_›,zB9.1 ‹_›,zB9.1 ‹_›⟩
def NK (p:bu) (j:Nat) (M:List Nm):Prop:=M.map (·.1)=(p.params.take j).map (·.1)∧ ∀i (h:i<M.length) (h':i<p.params.length),M[i].2.1=p.params[i].2.1∧M[i].2.2.1.length=p.params[i].2.2.length∧d9 M[i].2=0
theorem NK.len (h:NK p j M) (hj:j≤p.params.length):M.length=j:=by
 have:=congrArg List.length h.1
 simp at this
 omega
theorem NK.step (hv:(bA p).2=0) (hj:j<p.params.length) (h:NK p j M) (h1:(jV p env p.params[j].1).2=0) (h2:gP ins p.params[j].1 p.params[j].2.1 (jV p env p.params[j].1).1=0):NK p (j+1) (M++ [(p.params[j].1,(bm ins p.params[j].1).getD MD)]):=by
 obtain⟨T,t1,t2,t3,t4⟩:=Qo h2
 have hl:=h.len zR5
 refine⟨by rw[zC8,h.1,zB5 hj,zC8];rfl,λi hi hL=> ?_⟩
 by_cases D:i<M.length
 ·rw[List.getElem_append_left D]
  exact h.2 i D hL
 ·have:i=j:=by simp at hi;omega
  subst this
  rw[List.getElem_append_right zR5]
  simp only[hl,zR0,List.getElem_cons_zero,t1,zA8]
  obtain⟨g1,_⟩:=Vq (ae2 hv hj) (zL0 rfl h1)
  exact⟨t3,by rw[t4,(Dn g1).1],t2⟩
theorem Xp (hv:(bA p).2=0):(p.params.map (·.1)).Nodup:=by
 rw[List.nodup_iff_pairwise_ne,List.pairwise_iff_getElem]
 intro i j hi hj D he
 simp only[zE3]at hi hj
 simp only[zJ2]at he
 refine(Wg hv hj).2 (zE5 _ (zE0.2 ⟨p.params[i],zN9.2 ⟨i,by omega,rfl⟩,he⟩))
theorem Tu (hn:(M.map (·.1)).Nodup) {i:Nat} (h:i<M.length):bm M M[i].1=some M[i].2:=by
 cases hf:bm M M[i].1 with
 |none=>exact absurd (zI9 (zA6 h)) (jP.1 hf)
 |some T=>
  obtain⟨j,hj,he⟩:=zC2.1 (FE hf)
  have:j=i:=by
   refine(zO8 (xs:=M.map (·.1)) (h₀:=by simpa using hj) (h₁:=by simpa using h) hn).1 ?_
   simp[he]
  subst this
  rw[he]
def alI (M:List Nm) (j:Nat) (A:List Nm):Prop:=(∀x∈A,∃i,∃h:i<M.length,i<j∧x.1=M[i].1∧M[i].2.1.1=1)∧ ∀i (h:i<M.length),i<j→M[i].2.1.1=1→ ∃U,bm A M[i].1=some U∧U.1=M[i].2.1∧U.2.1=M[i].2.2.1∧d9 U=0
theorem alI.skip (h:alI M j A) (hj:j<M.length) (ht:M[j].2.1.1≠1):alI M (j+1) A:=by
 refine⟨λx hx=> ?_,λi hi D h1=> ?_⟩
 ·obtain⟨i,h1,h2,h3⟩:=h.1 x hx
  exact⟨i,h1,by omega,h3⟩
 ·rcases Nat.lt_or_ge i j with J|Y
  ·exact h.2 i hi J h1
  ·have:i=j:=by omega
   subst this
   exact absurd h1 ht
theorem alI.step {U:Tn} (hn:(M.map (·.1)).Nodup) (h:alI M j A) (hj:j<M.length) (ht:M[j].2.1.1=1) (hU:U.1=M[j].2.1∧U.2.1=M[j].2.2.1∧d9 U=0):alI M (j+1) (A++ [(M[j].1,U)]):=by
 refine⟨λx hx=> ?_,λi hi D h1=> ?_⟩
 ·rcases zE7.1 hx with hx|hx
  ·obtain⟨i,h1,h2,h3⟩:=h.1 x hx
   exact⟨i,h1,by omega,h3⟩
  ·rw[zG1.1 hx]
   exact⟨j,hj,by omega,rfl,ht⟩
 ·rcases Nat.lt_or_ge i j with J|Y
  ·obtain⟨U',u1,u2⟩:=h.2 i hi J h1
   exact⟨U',by rw[aar,u1];rfl,u2⟩
  ·have:i=j:=by omega
   subst this
   refine⟨U, ?_,hU⟩
   have:bm A M[i].1=none:=jP.2 λhm=>by
    obtain⟨x,hx,he⟩:=zE0.1 hm
    obtain⟨i',K,hh,O,_⟩:=h.1 x hx
    have:i'=i:=by
     refine(zO8 (xs:=M.map (·.1)) (h₀:=by simpa using K) (h₁:=by simpa using hi) hn).1 ?_
     simp[←O,he]
    omega
   rw[aar,this,aaF,if_pos rfl]
   rfl
theorem LY (h:d9 T=0) (h1:T.1.1=1):d9 (ot T)=0:=by
 obtain⟨t1,t2,t3,t4⟩:=fY h
 refine ZO t1 t2 ?_ λa ha=> ?_
 ·have:0≤bl T.2.1:=by omega
  simp[ot]
  omega
 ·rw[List.eq_of_mem_replicate ha]
  exact(zB h1).2 Jh
theorem mI.first (hv:(bA p).2=0) (h:NK p p.params.length M) (hA:alI M M.length A):mI p 0 M A:=by
 have hl:=h.len (zB2 _)
 have hn:M.map (·.1)=p.params.map (·.1):=by rw[h.1,zB6 (zB2 _)]
 have Z:(M.map (·.1)).Nodup:=by rw[hn];exact Xp hv
 refine⟨by rw[hn];simp[aaQ],λx hx=> ?_,λs t ds hf=> ?_⟩
 ·obtain⟨i,hi,_,he,_⟩:=hA.1 x hx
  rw[he]
  exact zI9 (zA6 hi)
 ·unfold cY cd at hf
  simp only[zM6,List.find?_nil]at hf
  cases hp:p.params.find? λx=>decide (x.1=s)with
  |none=>rw[hp]at hf;cases hf
  |some x=>
   rw[hp]at hf
   simp only[Option.some.injEq]at hf
   obtain⟨i,hi,rfl⟩:=zC2.1 (zK8 hp)
   have hs:p.params[i].1=s:=by simpa using List.find?_some hp
   have C:i<M.length:=by omega
   obtain⟨m1,m2,m3⟩:=h.2 i C hi
   have P:M[i].1=s:=by
    have:(M.map (·.1))[i]'(by simpa using C)=(p.params.map (·.1))[i]' zS7:=by simp only[hn]
    simpa[hs]using this
   rw[hf]at m1 m2
   refine⟨M[i].2,by rw[←P];exact Tu Z C,m1,m2,m3,λht=> ?_,λht=> ?_⟩
   ·obtain⟨U,u1,u2,u3,u4⟩:=hA.2 i C C (by rw[m1];exact ht)
    rw[P]at u1
    exact⟨U,u1,by rw[u2,m1],u3,u4⟩
   ·refine jP.2 λhm=> ?_
    obtain⟨x,hx,he⟩:=zE0.1 hm
    obtain⟨i',K,_,O,hC⟩:=hA.1 x hx
    have:i'=i:=by
     refine(zO8 (xs:=M.map (·.1)) (h₀:=by simpa using K) (h₁:=by simpa using C) Z).1 ?_
     simp[←O,he,P]
    subst this
    rw[m1]at hC
    exact ht hC
def MX (acc:List Int) (x:List Int×Int):List Int×Int:=if x.2≠0 then([],x.2)else(acc++x.1,0)
variable {x:List Int×Int}
theorem Jc (h:x.2≠0→x.1= []):MX [] x=x:=by
 unfold MX
 split
 ·rename_i h0
  exact zL0 (h h0).symm rfl
 ·rename_i h0
  exact zL0 zR6 (zB9.1 h0).symm
variable {acc:List Int}
theorem Jf (h:e≠0):MX acc ([],e)=([],e):=if_pos h
theorem VD:MX acc ([],0)=(acc,0):=by simp[MX]
variable {v:Int}
theorem RS:MX acc (if x.2≠0 then([],x.2)else(v::x.1,0))=MX (acc++ [v]) x:=by
 unfold MX
 by_cases h:x.2=0<;>simp[h]
theorem Vy {l:List iB} (h:(OK env l ds).2≠0):(OK env l ds).1= []:=by
 cases l with
 |nil=>rfl
 |cons f r=>
  rw[OK]at h ⊢
  split
  ·rfl
  ·split
   ·rfl
   ·split
    ·rfl
    ·rename_i h1 h2 h3
     rw[if_neg h1,if_neg h2,if_neg h3]at h
     exact absurd rfl h
theorem Vp {l:List Ix} (h:(qS M env l ds).2≠0):(qS M env l ds).1= []:=by
 cases l with
 |nil=>rfl
 |cons f r=>
  rw[qS]at h ⊢
  split
  ·rfl
  ·split
   ·rfl
   ·split
    ·rfl
    ·rename_i h1 h2 h3
     rw[if_neg h1,if_neg h2,if_neg h3]at h
     exact absurd rfl h
theorem LI (ds:List Int) (k:Nat):(ds.drop k).headD 0=ds[k]?.getD 0:=by rw[Pj];simp
theorem OV (ds:List Int) (k:Nat):(ds.drop k).tail=ds.drop (k+1):=by simp
theorem ZX {l:List iB} (h:k<l.length) (hv:io l[k].1 l[k].2 env=(v,e)):MX acc (OK env (l.drop k) (ds.drop k))=if e≠0 then([],e)else if v<0∨ds[k]?.getD 0≤v then([],12)else MX (acc++ [v]) (OK env (l.drop (k+1)) (ds.drop (k+1))):=by
 rw[zC0 h,OK,hv,LI,OV]
 simp only
 split
 ·exact Jf ‹_›
 ·split
  ·exact Jf zR9
  ·exact RS
theorem VV {l:List iB} (h:l.length≤k):MX acc (OK env (l.drop k) (ds.drop k))=(acc,0):=by
 rw[zF8 h,OK]
 exact VD
theorem XK {l:List Ix} (h:k<l.length) (hv:Rl M env l[k] (ds[k]?.getD 0)=(v,e)):MX acc (qS M env (l.drop k) (ds.drop k))=if e≠0 then([],e)else if v<0∨ds[k]?.getD 0≤v then([],12)else MX (acc++ [v]) (qS M env (l.drop (k+1)) (ds.drop (k+1))):=by
 rw[zC0 h,qS,LI,OV,hv]
 simp only
 split
 ·exact Jf ‹_›
 ·split
  ·exact Jf zR9
  ·exact RS
theorem Vd {l:List Ix} (h:l.length≤k):MX acc (qS M env (l.drop k) (ds.drop k))=(acc,0):=by
 rw[zF8 h,qS]
 exact VD
def rk (ds acc:List Int):Int:=dR ds acc acc.length
theorem KO (ds acc r:List Int): ∀k,k≤acc.length→dR ds (acc++r) k=dR ds acc k
 |0,_=>rfl
 |k+1,h=>by
  rw[dR,dR,KO ds acc r k zR5,zD8 zR5]
theorem abL:rk ds (acc++ [v])=rk ds acc*ds[acc.length]?.getD 0+v:=by
 unfold rk
 rw[zE8,List.length_singleton,dR,KO ds acc [v] _ (zB2 _)]
 simp
def Vx (ds acc:List Int):Prop:=acc.length≤ds.length∧ ∀j,j<acc.length→0≤acc[j]?.getD 0∧acc[j]?.getD 0<ds[j]?.getD 0
theorem Vx.nil (ds:List Int):Vx ds []:=⟨zE6 _,λj hj=>absurd hj zR6⟩
theorem Vx.snoc (h:Vx ds acc) (hl:acc.length<ds.length) (hv: ¬(v<0∨ds[acc.length]?.getD 0≤v)):Vx ds (acc++ [v]):=by
 refine⟨by simp;omega,λj hj=> ?_⟩
 by_cases hD:j<acc.length
 ·rw[zD8 hD]
  exact h.2 j hD
 ·have:j=acc.length:=by simp at hj;omega
  subst this
  simp only[zD9 (zB2 _),zR0,zB0,zA8]
  omega
theorem Vx.bd (hg:yk ds=0) (h:Vx ds acc):0≤rk ds acc∧rk ds acc<4096:=by
 have hg:=b8 hg
 have h1:=FZ (ps:=acc) hg.pos acc.length h.1 h.2
 have h2:=hg.take_le acc.length
 unfold rk
 omega
theorem Vx.full (h:Vx ds acc) (hl:acc.length=ds.length):T3 ds acc∧rk ds acc=qD ds acc:=⟨⟨hl,λk hk=>h.2 k zR5⟩,by unfold rk qD;rw[hl]⟩
abbrev tnP (x:Tn):List PC:= [pI x.1.1,pI x.1.2.1,pI x.1.2.2.1,pI x.1.2.2.2.1,pI x.1.2.2.2.2,c6 x.2.1,dp ln x.2.2]
abbrev d7 (x:Nm):List PC:= [pS x.1,pI x.2.1.1,pI x.2.1.2.1,pI x.2.1.2.2.1,pI x.2.1.2.2.2.1,pI x.2.1.2.2.2.2,c6 x.2.2.1,dp ln x.2.2.2]
def Wq (M:List Nm):List (MK×List PC):=M.map λx=>(MK.str x.1.data.toList,tnP x.2)
def rX (M:List Nm):List (MK×List AC):=M.map λx=>(MK.str x.1.data.toList,(tnP x.2).map .pure)
theorem LE (M:List Nm):qI (Wq M)=rX M:=by simp[qI,Wq,rX,zL1,zH3]
theorem J2 {x:Nm}:bm (x::r) s=if x.1=s then some x.2 else bm r s:=by
 unfold bm
 rw[List.find?_cons]
 by_cases h:x.1=s<;>simp[h]
theorem vX (s:ByteArray): ∀M:List Nm,iv (rX M) (.str s.data.toList)=(bm M s).map λT=>(tnP T).map .pure
 | []=>rfl
 |x::r=>by
  have ih:=vX s r
  rw[J2]
  simp only[rX,zB8,iv]at ih ⊢
  by_cases h:x.1=s
  ·rw[if_pos (sm.2 h),if_pos h];rfl
  ·rw[if_neg (λe=>h (sm.1 e)),if_neg h]
   exact ih
theorem VK {mem:List (Nat×bP)}: ∀M:List Nm,lB mem (some 7) (rX M)=some (Wq M)
 | []=>rfl
 |x::r=>by
  have ih:=VK (mem:=mem) r
  simp only[rX,Wq,zB8,zC9,lB,pZ,xu,co]at ih ⊢
  rw[ih]
theorem dj (rl:List (Nat×Nat)): ∀M:List Nm,List.map (λx:MK×List AC=>(x.1,List.map (c7 rl) x.2)) (rX M)=rX M
 | []=>rfl
 |x::r=>by
  have ih:=dj rl r
  simp only[rX,zB8]at ih ⊢
  rw[ih]
  rfl
theorem eA (N:Nat): ∀M:List Nm,Xl N (rX M)
 | []=>trivial
 |x::r=>⟨⟨trivial,trivial,trivial,trivial,trivial,trivial,trivial,trivial⟩,eA N r⟩
abbrev Xi (M A:List Nm) (env:List aG):AC:= .cptr [.fmap .str (some 7) (Wq M),.fmap .str (some 7) (Wq A),dp mP env]
set_option maxRecDepth 1000000
theorem Wl (n:Nat) (hn:n≤1000000) (w:World):Calls Tryz.prog 109 #[.slice none 0 0,.int .i64 n] w λen w'=>
  ∃v cells,en= .returned v∧w'.ownsRow w.heap.size 3 1 v 0 cells∧cells= []∧Below w.heap.size w w':=by
 have ho:(n:Int)≤1000000:=by omega
 by_cases h0:n=0
 ·subst h0
  go_enter Tryz.func109,Tryz.ntmps109
  go_wp2
  go_ret
  exact⟨_, [],rfl,World.ownsRow_nil _ _ _ _,rfl,Below.refl _ _⟩
 ·have h1: ¬((n:Int)<0):=by omega
  have h2:(0:Int)<n:=by omega
  have hE:Tryz.t3.bytes=8:=by kernel_rfl
  have hV: ¬281474976710656<Builtin.nextslicecap n 0*Tryz.t3.bytes:=by
   have:=growslice_fits (need:=n) (old:=0) (bytes:=Tryz.t3.bytes) zR5 (by rw[hE];omega)
   omega
  have hN: ¬(281474976710656:Int)<(n:Int)*Tryz.t3.bytes:=by rw[hE];omega
  have h3: ¬n=0:=by omega
  have h9:(n:Int)≤9223372036854775807:=by omega
  have h5:0<n:=by omega
  go_enter Tryz.func109,Tryz.ntmps109
  go_wp2
  go_ret
  have Y:n≤(Question.appendCap n 0 3).cut (w.tape w.drawn (Question.appendCap n 0 3)):=grownCap_ge w n 0 _
  have hP:(Question.appendCap n 0 3).cut (w.tape w.drawn (Question.appendCap n 0 3))≤maxLen:=grownCap_le_maxLen w n 0 _ (by unfold maxLen;omega)
  generalize (Question.appendCap n 0 3).cut (w.tape w.drawn (Question.appendCap n 0 3))=cap at*
  refine⟨_,rfl, [],⟨by simp,.inr ⟨w.heap.size,cap,_,rfl,zB2 _,World.alloc_heap_new w _,by omega,hP, ?_,by simp⟩⟩,rfl, ?_⟩
  ·simp[QI]
   omega
  ·exact((Below.refl _ w).alloc (zB2 _) _).drew
theorem WM (n:Nat) (hn:n≤1000000) (mem:List (Nat×bP)) (nx:Nat):bJ Tryz.prog 109 [.c .nils,I n] mem nx (.c (.ref nx)) ((nx,.arr 3 1 [])::mem) (nx+1):=by
 refine⟨⟨_,Tryz.func109,rfl,by kernel_rfl⟩,λw0 U ι w vs hs hr=> ?_⟩
 have hB:=hs.below.size
 obtain⟨vs⟩:=vs
 cases hr with
 |cons h1 t=>cases t with
  |cons h2 t=>
   cases t
   have e1:=tX h1
   have e2:=(aU h2).1
   subst e1 e2
   refine(Wl n hn w).mono ?_
   rintro en w' ⟨v,cells,rfl,E,rfl,hF⟩
   obtain⟨ι',k1,k2,k3,k4⟩:=hs.newBox (pv:=v) (bx:= .arr 3 1 []) hF (λb hb=>by
    rcases E.2 with⟨e,_⟩|⟨g,cap,cur,e,hg,_⟩
    ·rw[e]at hb;cases hb
    ·rw[e]at hb
     simp[fE]at hb
     omega) (λι' e1 e2 hQ=>⟨[],by decide,by rw[e2];exact Dq E hB,by simp,cZ.nil⟩)
   refine⟨v,ι',rfl,k1, ?_⟩
   rw[←k2]
   refine .c (.ref (zF6 _) ?_)
   rw[k2]
   rcases E.2 with⟨e,_⟩|⟨g,cap,cur,e,_⟩
   ·exact⟨_,_,_,e⟩
   ·exact⟨_,_,_,e⟩
theorem Mc (a b:List Int) (ha:a.length≤1000) (hq:b.length≤1000):ac Tryz.prog fG [.c (.pure (.slice [[c6 a], [c6 b]]))] (aF (a++b)):=by
 refine ac.of rJ zR6 λhb=>aa ?_
 conv in ke=>cbv
 repeat' first|simp(disch:=omega)only[go_sem, *]|apply ab<;>intro h<;>try omega
 refine al (λk:Nat=>⟨[(11,I k),(10,I 2),(9,.c (.pure (.slice [[c6 a], [c6 b]]))),(3,I (if k=0 then 0 else if k=1 then a.length else a.length+b.length:Nat)),(0,.c (.pure (.slice [[c6 a], [c6 b]])))], [],0,0⟩) (λk=>k≤2) (λk=>2-k) ⟨0, [],by omega,by simp⟩ ?_
 intro k hk
 refine aa ?_
 have Q:k=0∨k=1∨k=2:=by omega
 rcases Q with rfl|rfl|rfl
 ·repeat' first|simp(disch:=omega)only[go_sem, *,wrap_i64]|apply ab<;>intro h<;>try omega
  exact⟨1, [],by omega,by omega,by simp⟩
 ·repeat' first|simp(disch:=omega)only[go_sem, *,wrap_i64]|apply ab<;>intro h<;>try omega
  exact⟨2, [],by omega,by omega,by simp⟩
 ·repeat' first|simp(disch:=omega)only[go_sem, *,wrap_i64]|apply ab<;>intro h<;>try omega|refine bN (WM (a.length+b.length) zR5 _ _) ?_
  refine al (λk:Nat=>⟨[(27,I k),(26,I 2),(25,.c (.pure (.slice [[c6 a], [c6 b]]))),(6,.c (.ref 0))], [(0,.arr 3 1 ((if k=0 then []else if k=1 then a else a++b).map λn=> [pI n]))],1,0⟩) (λk=>k≤2) (λk=>2-k) ⟨0, [],by omega,by simp⟩ ?_
  intro k hk
  refine aa ?_
  have Q:k=0∨k=1∨k=2:=by omega
  rcases Q with rfl|rfl|rfl
  ·repeat' first|simp(disch:=omega)only[go_sem, *,wrap_i64]|apply ab<;>intro h<;>try omega|refine aP rfl zS0 (aD λx=>rfl) zR8 zR8 ?_
   exact⟨1, [(0,1)],by omega,by omega,by simp⟩
  ·repeat' first|simp(disch:=omega)only[go_sem, *,wrap_i64]|apply ab<;>intro h<;>try omega|refine aP rfl zS0 (aD λx=>rfl) zR8 zR8 ?_
   exact⟨2, [(0,1)],by omega,by omega,by simp⟩
  ·exact zY1
end
end Go.Proofs.YtigdjhnndaokjaaGreatDoor
