import Derived.Test.YthbcbaembicdbaaGreatDoorV07u
set_option maxHeartbeats 4000000
set_option linter.unusedVariables false
set_option linter.unusedSimpArgs false
set_option maxRecDepth 1000000
namespace Go.Proofs.YthbcbaembicdbaaGreatDoor
open Go.Abs Go.RowKit
theorem Ak {T:List aR} {n:ByteArray} {fuel:Int} {r nx:Nat} {rows:List dh} {F:List (Nat×aU)} (hT: ∀z∈rows,cM T z) (ht:iH T≤400000000) (hTl:T.length≤1000000000) (hrl:rows.length≤256)
  (hf0:0≤fuel) (hf1:fuel≤2000000) (hr:0<r) (hrn:r<nx) (hF:Go.Abs.dO nx [0,r] F):
  aq Tryz.prog kn [.c (.ptr 0 0),S n] (jA r rows fuel F) nx (eo [I (vA n rows fuel).2.2]) (jA nx (vA n rows fuel).1 (vA n rows fuel).2.1 F) (nx+1):=by
 refine aq.ofZ rB (by simp) λ_=>aa ?_
 have h0n:0<nx:=by omega
 conv in kk=>cbv
 unfold vA
 obtain⟨R,hR⟩: ∃R,R=gL (mp n) (rows.drop 0) [] fuel:=⟨_,rfl⟩
 have hR0:gL (mp n) rows [] fuel=R:=hR.symm
 rw[hR0]
 have HR:=Lib.hid hR
 clear hR hR0
 repeat' first|simp(disch:=omega) only[go_sem, *,aG,aH]|((with_reducible apply ab)<;>intro h<;>try omega)
 refine dD 0 0 156 4 [.nils,.pure (pI fuel)] (by simp(disch:=omega) [al,aG]) rfl (by decide) ?_
 refine Pv r 156 4 (rows.map dv) (by simp(disch:=omega) [al,am,aG]) ?_
 have hfz:=hF.frz (n:=r) (rows:=rows.map dv) (.inl (by simp))
 refine TT (mem':=jA nx [] fuel F) (by simp(disch:=omega) [rv,Cm,jp,cm,aG,hfz]) ?_
 refine ap (λs:Nat×List dh=>⟨[(0,.c (.ptr 0 0)),(1,S n),(5,zM rows),(28,zM rows),(29,I rows.length),(30,I s.1)],jA nx s.2 fuel F,nx+1,nx⟩)
  (λs=>s.1≤rows.length∧(∀z∈s.2,cM T z)∧s.2.length≤256∧Hid (R=gL (mp n) (rows.drop s.1) s.2 fuel)) (λs=>rows.length-s.1) ⟨(0, []), [],⟨Nat.zero_le _,by simp,by simp,HR⟩, ?_⟩ ?_
 ·refine av (by simp(disch:=omega) [aG,E0,vJ,jp]) ?_ rfl (by simp;try omega) (by simp[e7];try omega)
  repeat' first|exact hF.wkA|refine au ?_ ?_ ?_ ?_ ?_|(simp(disch:=omega) [aG,E0,vJ,jp]<;>omega)|omega
 clear HR
 rintro⟨k,acc⟩ ⟨hk,hacc,hal,HR⟩
 simp only at hk hacc hal HR
 refine aa ?_
 by_cases hlt:k<rows.length
 ·have g1:=ai (f:=dv) hlt
  have hz:=hT _ (List.getElem_mem hlt)
  have h2:=HR.out
  rw[List.drop_eq_getElem_cons hlt,wb]at h2
  have hst:=Ln (n:=n) hz acc fuel hacc hal
  clear HR
  generalize rows[k]=z at*
  obtain⟨⟨⟨K',l'⟩,q'⟩,b'⟩:=z
  simp only[dv]at g1
  have pc:=db ((K',l'),q') n
  simp only at pc
  by_cases h0:cf l' n=0
  ·have hs:mp n (((K',l'),q'),b') acc fuel=((dN acc (((K',l'),q'),b')).1,fuel,(dN acc (((K',l'),q'),b')).2):=by rw[mp,if_pos h0]
   rw[hs]at h2 hst
   rw[h0]at pc
   have pa:=jM (d:=(((K',l'),q'),b')) (fuel:=fuel) (r:=nx) (nx:=nx+2) (rows:=acc) (F:=(nx+1,.var (CI (((K',l'),q'),b')))::F) hal (by omega) (by omega) (iz hF (by omega) (by omega) (by omega) rfl (.inr (Nat.le_refl _)) (by omega))
   clear hs h0
   generalize dN acc (((K',l'),q'),b')=A at*
   obtain⟨A,ae⟩:=A
   simp only at pa h2 hst
   by_cases hae:ae=0
   ·subst hae
    rw[if_neg (by simp)]at h2
    have HR:=Lib.hid h2
    have hA1:=hst.all
    have hA2:=hst.len
    clear h2 hst hacc
    simp only at hA1 hA2
    repeat' first|simp(disch:=omega) only[go_sem, *,g1,aG,aH,wrap_i64]|((with_reducible apply ab)<;>intro h<;>try omega)|(refine aY pc rfl rfl ?_)|(refine an (pa.perm (λnm=>by first|rfl|(simp only[al,am];done)|(simp only[al,am];(repeat' split)<;>first|rfl|omega))) ?_)
    refine⟨(k+1,A), [(nx,nx+2)],⟨hlt,hA1,hA2,HR⟩,by show _-_<_-_;omega, ?_⟩
    refine av (by simp(disch:=omega) [aG,h0n]) ?_ rfl (by simp;try omega) (by simp[e7];try omega)
    repeat' first|exact hF.wkA|refine au ?_ ?_ ?_ ?_ ?_|(simp(disch:=omega) [aG,h0n]<;>omega)|omega
   ·rw[if_pos hae]at h2
    subst h2
    rw[if_pos hae]
    clear hst hacc
    repeat' first|simp(disch:=omega) only[go_sem, *,g1,aG,aH,wrap_i64,hae]|((with_reducible apply ab)<;>intro h<;>try omega)|(refine aY pc rfl rfl ?_)|(refine an (pa.perm (λnm=>by first|rfl|(simp only[al,am];done)|(simp only[al,am];(repeat' split)<;>first|rfl|omega))) ?_)
    refine⟨[], [(nx,nx+2)], ?_⟩
    simp(disch:=omega) only[go_sem,aP,aG,aH]
    refine av (by simp(disch:=omega) [aG,h0n]) ?_ rfl (by simp;try omega) (by simp[e7];try omega)
    repeat' first|exact hF.wkA|refine au ?_ ?_ ?_ ?_ ?_|(simp(disch:=omega) [aG,h0n]<;>omega)|omega
  ·have hs:mp n (((K',l'),q'),b') acc fuel=(acc,fuel,0):=by rw[mp,if_neg h0]
   rw[hs]at h2
   rw[if_neg (by simp)]at h2
   have HR:=Lib.hid h2
   clear h2 hs hst
   generalize cf l' n=d at*
   repeat' first|simp(disch:=omega) only[go_sem, *,g1,aG,aH,wrap_i64,h0]|((with_reducible apply ab)<;>intro h<;>try omega)|(refine aY pc rfl rfl ?_)
   refine⟨(k+1,acc), [],⟨hlt,hacc,hal,HR⟩,by show _-_<_-_;omega, ?_⟩
   refine av (by simp(disch:=omega) [aG,h0n]) ?_ rfl (by simp;try omega) (by simp[e7];try omega)
   repeat' first|exact hF.wkA|refine au ?_ ?_ ?_ ?_ ?_|(simp(disch:=omega) [aG,h0n]<;>omega)|omega
 ·have h2:=HR.out
  rw[List.drop_eq_nil_of_le (by omega)]at h2
  simp only[gL]at h2
  subst h2
  rw[if_neg (by simp)]
  simp only
  clear HR
  obtain⟨R,hR⟩: ∃R,R=gL (λa=>gL (sv n a) rows) (rows.drop 0) acc fuel:=⟨_,rfl⟩
  have hR0:gL (λa=>gL (sv n a) rows) rows acc fuel=R:=hR.symm
  rw[hR0]
  have HR:=Lib.hid hR
  clear hR hR0
  repeat' first|simp(disch:=omega) only[go_sem, *,aG,aH]|((with_reducible apply ab)<;>intro h<;>try omega)
  clear hk hlt
  refine ap (λs:Nat×List dh×Int=>⟨[(0,.c (.ptr 0 0)),(1,S n),(5,zM rows),(46,zM rows),(47,I rows.length),(48,I s.1)],jA nx s.2.1 s.2.2 F,nx+1,nx⟩)
   (λs=>s.1≤rows.length∧(∀z∈s.2.1,cM T z)∧s.2.1.length≤256∧0≤s.2.2∧s.2.2≤fuel∧Hid (R=gL (λa=>gL (sv n a) rows) (rows.drop s.1) s.2.1 s.2.2)) (λs=>rows.length-s.1) ⟨(0,acc,fuel), [],⟨Nat.zero_le _,hacc,hal,hf0,Int.le_refl _,HR⟩, ?_⟩ ?_
  ·refine av (by simp(disch:=omega) [aG,h0n]) ?_ rfl (by simp;try omega) (by simp[e7];try omega)
   repeat' first|exact hF.wkA|refine au ?_ ?_ ?_ ?_ ?_|(simp(disch:=omega) [aG,h0n]<;>omega)|omega
  clear HR hacc hal
  rintro⟨k,acc,fu⟩ ⟨hk,hacc,hal,hfu0,hfu1,HR⟩
  simp only at hk hacc hal hfu0 hfu1 HR
  refine aa ?_
  by_cases hlt:k<rows.length
  ·have ga:=ai (f:=dv) hlt
   have hTa:=hT _ (List.getElem_mem hlt)
   have h2:=HR.out
   rw[List.drop_eq_getElem_cons hlt,wb]at h2
   have hsa:=hTa.short
   clear HR
   generalize rows[k]=a at*
   obtain⟨⟨⟨Ka,la⟩,qa⟩,ba⟩:=a
   simp only[dv]at ga
   have pca:=db ((Ka,la),qa) n
   have hca:ar (cf la n):=PJ hTa.r64.1.2 n
   simp only at pca hsa
   obtain⟨E,hE⟩: ∃E,E=gL (sv n (((Ka,la),qa),ba)) (rows.drop 0) acc fu:=⟨_,rfl⟩
   have hE0:gL (sv n (((Ka,la),qa),ba)) rows acc fu=E:=hE.symm
   rw[hE0]at h2
   have HE:=Lib.hid hE
   have HR:=Lib.hid h2
   clear hE hE0 h2
   repeat' first|simp(disch:=omega) only[go_sem, *,ga,aG,aH]|((with_reducible apply ab)<;>intro h<;>try omega)
   refine ap (λs:Nat×List dh×Int=>⟨[(0,.c (.ptr 0 0)),(1,S n),(5,zM rows),(10,.c (.ptr (nx+1) 0)),(46,zM rows),(47,I rows.length),(48,I k),(52,zM rows),(53,I rows.length),(54,I s.1)],(nx,.arr 156 4 (s.2.1.map dv))::(0,.var [.ref nx,.pure (pI s.2.2)])::(nx+1,.var (CI (((Ka,la),qa),ba)))::F,nx+2,nx⟩)
    (λs=>s.1≤rows.length∧(∀z∈s.2.1,cM T z)∧s.2.1.length≤256∧0≤s.2.2∧s.2.2≤fuel∧Hid (E=gL (sv n (((Ka,la),qa),ba)) (rows.drop s.1) s.2.1 s.2.2)) (λs=>rows.length-s.1) ⟨(0,acc,fu), [],⟨Nat.zero_le _,hacc,hal,hfu0,hfu1,HE⟩, ?_⟩ ?_
   ·refine av (by simp(disch:=omega) [aG,h0n]) ?_ rfl (by simp;try omega) (by simp[e7];try omega)
    repeat' first|exact hF.wkA|refine au ?_ ?_ ?_ ?_ ?_|(simp(disch:=omega) [aG,h0n]<;>omega)|omega
   clear HE hacc hal hfu0 hfu1
   rintro⟨j,acc,fu⟩ ⟨hj,hacc,hal,hfu0,hfu1,HE⟩
   simp only at hj hacc hal hfu0 hfu1 HE
   refine aa ?_
   by_cases hltj:j<rows.length
   ·have g1:=ai (f:=dv) hltj
    have hz:=hT _ (List.getElem_mem hltj)
    have h2:=HE.out
    rw[List.drop_eq_getElem_cons hltj,wb]at h2
    have hst:=LE (n:=n) hTa hz acc fu hacc hal
    have hzs:=hz.short
    clear HE
    generalize rows[j]=z at*
    obtain⟨⟨⟨K',l'⟩,q'⟩,b'⟩:=z
    simp only[dv]at g1
    have pc:=db ((K',l'),q') n
    have hc:ar (cf l' n):=PJ hz.r64.1.2 n
    simp only at pc hzs
    have hs0:sv n (((Ka,la),qa),ba) (((K',l'),q'),b') acc fu=if cf la n≤0∨0≤cf l' n then(acc,fu,0)else
     if(fK (cf la n) (cf l' n)).2.2=false then(acc,fu,3)else
     kS (((Ka,la),qa),ba) (((K',l'),q'),b') (fK (cf la n) (cf l' n)).1 (fK (cf la n) (cf l' n)).2.1 acc fu:=rfl
    rw[hs0]at h2 hst
    clear hs0
    have pk: ¬cf la n=0→_:= λh=>y1 hca hc h
    have hx64:ar (fK (cf la n) (cf l' n)).1:=Db _ _
    have hy64:ar (fK (cf la n) (cf l' n)).2.1:=Db _ _
    generalize fK (cf la n) (cf l' n)=X at*
    obtain⟨x,y,ok⟩:=X
    generalize cf la n=ca at*
    generalize cf l' n=cb at*
    simp only at h2 hst hx64 hy64 pk
    by_cases h0:ca≤0∨0≤cb
    ·rw[if_pos h0,if_neg (by simp)]at h2
     have HE:=Lib.hid h2
     clear h2 hst pk
     rcases h0 with h0|h0
     ·repeat' first|simp(disch:=omega) only[go_sem, *,g1,aG,aH,wrap_i64,h0]|((with_reducible apply ab)<;>intro h<;>try omega)|(refine aY pca rfl rfl ?_)|(refine aY pc rfl rfl ?_)
      all_goals
       refine⟨(j+1,acc,fu), [],⟨hltj,hacc,hal,hfu0,hfu1,HE⟩,by show _-_<_-_;omega, ?_⟩
       refine av (by simp(disch:=omega) [aG,h0n]) ?_ rfl (by simp;try omega) (by simp[e7];try omega)
       repeat' first|exact hF.wkA|refine au ?_ ?_ ?_ ?_ ?_|(simp(disch:=omega) [aG,h0n]<;>omega)|omega
     ·repeat' first|simp(disch:=omega) only[go_sem, *,g1,aG,aH,wrap_i64,h0]|((with_reducible apply ab)<;>intro h<;>try omega)|(refine aY pca rfl rfl ?_)|(refine aY pc rfl rfl ?_)
      all_goals
       refine⟨(j+1,acc,fu), [],⟨hltj,hacc,hal,hfu0,hfu1,HE⟩,by show _-_<_-_;omega, ?_⟩
       refine av (by simp(disch:=omega) [aG,h0n]) ?_ rfl (by simp;try omega) (by simp[e7];try omega)
       repeat' first|exact hF.wkA|refine au ?_ ?_ ?_ ?_ ?_|(simp(disch:=omega) [aG,h0n]<;>omega)|omega
    ·rw[if_neg h0]at h2 hst
     have n1: ¬ca≤0:= λh=>h0 (.inl h)
     have n2: ¬0≤cb:= λh=>h0 (.inr h)
     have pk:=pk (by omega)
     clear h0
     cases ok
     ·rw[if_pos rfl,if_pos (by simp)]at h2
      subst h2
      have h3:=HR.out
      rw[if_pos (by simp)]at h3
      subst h3
      clear hst hacc HR
      repeat' first|simp(disch:=omega) only[go_sem, *,g1,aG,aH,wrap_i64,n1,n2]|((with_reducible apply ab)<;>intro h<;>try omega)|(refine aY pca rfl rfl ?_)|(refine aY pc rfl rfl ?_)|(refine aY pk rfl rfl ?_)
      all_goals
       refine⟨[], [], ?_⟩
       simp(disch:=omega) only[go_sem,aP,aG,aH]
       refine av (by simp(disch:=omega) [aG,h0n]) ?_ rfl (by simp;try omega) (by simp[e7];try omega)
       repeat' first|exact hF.wkA|refine au ?_ ?_ ?_ ?_ ?_|(simp(disch:=omega) [aG,h0n]<;>omega)|omega
     ·have hft: ¬(true=false):=by simp
      rw[if_neg hft]at h2 hst
      clear hft
      have hll:ba.length=b'.length:=by rw[hz.len,hTa.len]
      have hlb:ba.length≤1000000000:=by rw[hTa.len];exact hTl
      have hm1:=nP (a:=(((Ka,la),qa),ba)) (b:=(((K',l'),q'),b')) (x:=x) (y:=y) (fuel:=fu) (r:=nx) (nx:=nx+3) (rows:=acc) (F:=(nx+2,.var (CI (((K',l'),q'),b')))::(nx+1,.var (CI (((Ka,la),qa),ba)))::F)
       hTa.r64 hz.r64 hx64 hy64 hll hlb (by simp only;omega) (by simp only;omega) hfu0 (by omega) (by omega) (by omega) (iz (N:=nx+2) (r:=nx) (iz hF (by omega) (by omega) (by omega) rfl (.inr (Nat.le_refl _)) (by omega)) (by omega) (by omega) (by omega) rfl (.inl rfl) (by omega))
      unfold kS at h2 hst
      clear hll hlb hx64 hy64
      generalize fX fu (((Ka,la),qa),ba) (((K',l'),q'),b') x y=M at*
      obtain⟨⟨⟨⟨Km,lm⟩,qm⟩,bm⟩,me⟩:=M
      simp only at h2 hst
      by_cases hme:me=0
      ·subst hme
       have hm0: ¬((0:Int)≠0):=by simp
       rw[if_neg hm0]at h2 hst
       simp only[SX,if_true]at hm1
       have pa:=jM (d:=(((Km,lm),qm),bm)) (fuel:=fu-1) (r:=nx) (nx:=nx+4) (rows:=acc) (F:=(nx+3,.var (CI (((Km,lm),qm),bm)))::(nx+2,.var (CI (((K',l'),q'),b')))::(nx+1,.var (CI (((Ka,la),qa),ba)))::F) hal (by omega) (by omega)
        (iz (N:=nx+3) (r:=nx) (iz (N:=nx+2) (r:=nx) (iz hF (by omega) (by omega) (by omega) rfl (.inr (Nat.le_refl _)) (by omega)) (by omega) (by omega) (by omega) rfl (.inl rfl) (by omega)) (by omega) (by omega) (by omega) rfl (.inl rfl) (by omega))
       generalize dN acc (((Km,lm),qm),bm)=A at*
       obtain⟨A,ae⟩:=A
       simp only at pa h2 hst
       by_cases hae:ae=0
       ·subst hae
        rw[if_neg (by simp)]at h2
        have HE:=Lib.hid h2
        have hA1:=hst.all
        have hA2:=hst.len
        have hA3:=hst.pos rfl hfu0
        clear h2 hst hacc
        simp only at hA1 hA2 hA3
        repeat' first|simp(disch:=omega) only[go_sem, *,g1,aG,aH,wrap_i64,n1,n2]|((with_reducible apply ab)<;>intro h<;>try omega)|(refine aY pca rfl rfl ?_)|(refine aY pc rfl rfl ?_)|(refine aY pk rfl rfl ?_)|(refine an (hm1.perm (λnm=>by first|rfl|(simp only[al,am];done)|(simp only[al,am];(repeat' split)<;>first|rfl|omega))) ?_)|(refine an (pa.perm (λnm=>by first|rfl|(simp only[al,am];done)|(simp only[al,am];(repeat' split)<;>first|rfl|omega))) ?_)
        all_goals
         refine⟨(j+1,A,fu-1), [(nx,nx+4)],⟨hltj,hA1,hA2,hA3,by simp only;omega,HE⟩,by show _-_<_-_;omega, ?_⟩
         refine av (by simp(disch:=omega) [aG,h0n]) ?_ rfl (by simp;try omega) (by simp[e7];try omega)
         repeat' first|exact hF.wkA|refine au ?_ ?_ ?_ ?_ ?_|(simp(disch:=omega) [aG,h0n]<;>omega)|omega
       ·rw[if_pos hae]at h2
        subst h2
        have h3:=HR.out
        rw[if_pos hae]at h3
        subst h3
        clear hst hacc HR
        repeat' first|simp(disch:=omega) only[go_sem, *,g1,aG,aH,wrap_i64,n1,n2,hae]|((with_reducible apply ab)<;>intro h<;>try omega)|(refine aY pca rfl rfl ?_)|(refine aY pc rfl rfl ?_)|(refine aY pk rfl rfl ?_)|(refine an (hm1.perm (λnm=>by first|rfl|(simp only[al,am];done)|(simp only[al,am];(repeat' split)<;>first|rfl|omega))) ?_)|(refine an (pa.perm (λnm=>by first|rfl|(simp only[al,am];done)|(simp only[al,am];(repeat' split)<;>first|rfl|omega))) ?_)
        all_goals
         refine⟨[], [(nx,nx+4)], ?_⟩
         simp(disch:=omega) only[go_sem,aP,aG,aH]
         refine av (by simp(disch:=omega) [aG,h0n]) ?_ rfl (by simp;try omega) (by simp[e7];try omega)
         repeat' first|exact hF.wkA|refine au ?_ ?_ ?_ ?_ ?_|(simp(disch:=omega) [aG,h0n]<;>omega)|omega
      ·rw[if_pos hme]at h2
       simp only at h2
       rw[if_pos hme]at h2
       subst h2
       have h3:=HR.out
       rw[if_pos hme]at h3
       subst h3
       clear hst hacc HR
       simp only[SX,if_neg hme]at hm1
       repeat' first|simp(disch:=omega) only[go_sem, *,g1,aG,aH,wrap_i64,n1,n2,hme]|((with_reducible apply ab)<;>intro h<;>try omega)|(refine aY pca rfl rfl ?_)|(refine aY pc rfl rfl ?_)|(refine aY pk rfl rfl ?_)|(refine an (hm1.perm (λnm=>by first|rfl|(simp only[al,am];done)|(simp only[al,am];(repeat' split)<;>first|rfl|omega))) ?_)
       all_goals
        refine⟨[], [], ?_⟩
        simp(disch:=omega) only[go_sem,aP,aG,aH]
        refine av (by simp(disch:=omega) [aG,h0n]) ?_ rfl (by simp;try omega) (by simp[e7];try omega)
        repeat' first|exact hF.wkA|refine au ?_ ?_ ?_ ?_ ?_|(simp(disch:=omega) [aG,h0n]<;>omega)|omega
   ·have h2:=HE.out
    rw[List.drop_eq_nil_of_le (by omega)]at h2
    simp only[gL]at h2
    subst h2
    have h3:=HR.out
    rw[if_neg (by simp)]at h3
    have HR:=Lib.hid h3
    clear HE h3
    repeat' first|simp(disch:=omega) only[go_sem, *,aG,aH,wrap_i64]|((with_reducible apply ab)<;>intro h<;>try omega)
    refine⟨(k+1,acc,fu), [],⟨hlt,hacc,hal,hfu0,hfu1,HR⟩,by show _-_<_-_;omega, ?_⟩
    refine av (by simp(disch:=omega) [aG,h0n]) ?_ rfl (by simp;try omega) (by simp[e7];try omega)
    repeat' first|exact hF.wkA|refine au ?_ ?_ ?_ ?_ ?_|(simp(disch:=omega) [aG,h0n]<;>omega)|omega
  ·have h2:=HR.out
   rw[List.drop_eq_nil_of_le (by omega)]at h2
   simp only[gL]at h2
   subst h2
   clear HR
   repeat' first|simp(disch:=omega) only[go_sem, *,aG,aH]|((with_reducible apply ab)<;>intro h<;>try omega)
   refine⟨[], [], ?_⟩
   simp(disch:=omega) only[go_sem,aP,aG,aH]
   refine av (by simp(disch:=omega) [aG,h0n]) ?_ rfl (by simp;try omega) (by simp[e7];try omega)
   repeat' first|exact hF.wkA|refine au ?_ ?_ ?_ ?_ ?_|(simp(disch:=omega) [aG,h0n]<;>omega)|omega
set_option maxRecDepth 20000
set_option maxRecDepth 1000000
theorem iK: ∀{l m:List aR},iH (l++m)=iH l+iH m
 | [],m=>by simp[iH]
 |c::l,m=>by
  rw[List.cons_append,iH,iH,iK]
  omega
theorem DB: ∀{l acc t:List aR},kD acc l=(t,0)→iH t≤iH acc+iH l
 |[],acc,t,h=>by
  rw[kD]at h
  cases h
  exact Nat.le_add_right _ _
 |c::l,acc,t,h=>by
  rw[kD]at h
  split at h
  ·rename_i h0
   exact absurd (congrArg Prod.snd h) h0
  ·have h1:=DB h
   have h2:=MQ c
   rw[iK]at h1
   simp only[iH]at h1 ⊢
   omega
theorem FA {l t:List aR} (h:bj l=(t,0)):iH t≤iH l:=by
 rw[bj]at h
 split at h
 ·cases h
 ·have:=DB h
  simpa[iH]using this
theorem O1 {l:List aR} {c:aR} (h:c∈l):c.1.2.length≤iH l:=by
 induction l with
 |nil=>cases h
 |cons d l ih=>
  rw[iH]
  rcases List.mem_cons.1 h with rfl|h
  ·omega
  ·have:=ih h
   omega
theorem M9 {l t:List aR} (h:bj l=(t,0)):l.length≤256:=by
 rw[bj]at h
 split at h
 ·cases h
 ·omega
theorem gX {l:List aR} {b:List Int} (h64: ∀c∈l,bk c) (hs:iH l≤400000000) (hb: ∀x∈b,ar x):af Tryz.prog iV [bR l,dc b] (I (fk l b)):=by
 refine af.of pA (by simp) λ_=>aa ?_
 conv in i5=>cbv
 have pt:=qt h64 (λc hc=>by have:=O1 hc;omega)
 unfold fk
 by_cases h0:(bj l).2=0
 ·have ht:bj l=((bj l).1,0):=Prod.ext rfl h0
  have pc:=jS (l:=(bj l).1) (b:=b) (λc hc=>(vW ht h64 c hc).2) hb (by have:=FA ht;omega)
  rw[if_neg (not_not_intro h0)]
  clear ht h64 hs
  generalize bj l=X at*
  obtain⟨t,e⟩:=X
  simp only at h0 pc ⊢
  subst h0
  have pb:=fw (aL t b).1
  generalize aL t b=C at*
  obtain⟨⟨⟨K,m⟩,q⟩,ce⟩:=C
  simp only at pb ⊢
  by_cases hce:ce=0
  ·subst hce
   rw[if_neg (by simp)]
   by_cases hbad:ig ((K,m),q)
   ·rw[if_pos hbad]
    rw[decide_eq_true hbad]at pb
    clear hbad
    repeat' first|simp(disch:=omega) only[go_sem, *]|((with_reducible apply ab)<;>intro h<;>try omega)|(refine el pt rfl rfl ?_)|(refine el pc rfl rfl ?_)|(refine aY pb rfl rfl ?_)
    all_goals rfl
   ·rw[if_neg hbad]
    rw[decide_eq_false hbad]at pb
    clear hbad
    repeat' first|simp(disch:=omega) only[go_sem, *]|((with_reducible apply ab)<;>intro h<;>try omega)|(refine el pt rfl rfl ?_)|(refine el pc rfl rfl ?_)|(refine aY pb rfl rfl ?_)
    all_goals rfl
  ·rw[if_pos hce]
   clear pb
   repeat' first|simp(disch:=omega) only[go_sem, *,hce]|((with_reducible apply ab)<;>intro h<;>try omega)|(refine el pt rfl rfl ?_)|(refine el pc rfl rfl ?_)
   all_goals rfl
 ·rw[if_pos h0]
  clear h64 hs
  generalize bj l=X at*
  obtain⟨t,e⟩:=X
  simp only at h0 ⊢
  repeat' first|simp(disch:=omega) only[go_sem, *,h0]|((with_reducible apply ab)<;>intro h<;>try omega)|(refine el pt rfl rfl ?_)
  all_goals rfl
theorem NA {n k:Nat} {t:List aR} {rows:List dh} (h:k<t.length):j6 n k (t.drop k) rows=if(dN rows (t[k],fJ n k)).2≠0 then([],(dN rows (t[k],fJ n k)).2)else j6 n (k+1) (t.drop (k+1)) (dN rows (t[k],fJ n k)).1:=by
 rw[List.drop_eq_getElem_cons h,j6]
theorem QF {n k:Nat}:((List.replicate n [pI 0]).set k [pI 1])=(fJ n k).map λx=> [pI x]:=by
 rw[fJ,List.map_set,List.map_replicate]
abbrev Zz (x:List Int×Bool×Int):AV:= .tup [dc x.1,Go.Abs.B x.2.1,I x.2.2]
theorem Ma {T:List aR} {rows:List dh} (h: ∀z∈rows,cM T z):(fg rows).length≤rows.length*iH T:=by
 induction rows with
 |nil=>simp[fg]
 |cons z rows ih=>
  have h1:=(h z List.mem_cons_self).short
  have h2:=ih λy hy=>h y (List.mem_cons_of_mem _ hy)
  simp only[fg,List.flatMap_cons,List.length_append,List.length_map,List.length_cons]at h2 ⊢
  rw[Nat.add_mul]
  omega
theorem wy {l:List aR} {fuel:Int} (h64: ∀c∈l,bk c) (hs:iH l≤1000000) (hf:ar fuel):af Tryz.prog o5 [bR l,I fuel] (Zz (gO l fuel)):=by
 refine af.of xF (by simp) λ_=>aa ?_
 conv in oU=>cbv
 have pt:=qt h64 (λc hc=>by have:=O1 hc;omega)
 unfold gO
 by_cases h0:(bj l).2=0
 ·rw[if_neg (not_not_intro h0)]
  by_cases hfu:fuel<0∨1048576<fuel
  ·rw[if_pos hfu]
   clear h64 hs
   generalize bj l=X at*
   obtain⟨t,e⟩:=X
   simp only at h0
   subst h0
   rcases hfu with hfu|hfu
   ·repeat' first|simp(disch:=omega) only[go_sem, *,hfu]|((with_reducible apply ab)<;>intro h<;>try omega)|(refine el pt rfl rfl ?_)
    all_goals rfl
   ·repeat' first|simp(disch:=omega) only[go_sem, *,hfu]|((with_reducible apply ab)<;>intro h<;>try omega)|(refine el pt rfl rfl ?_)
    all_goals rfl
  ·rw[if_neg hfu]
   have f1: ¬fuel<0:= λh=>hfu (.inl h)
   have f2: ¬fuel>1048576:= λh=>hfu (.inr h)
   clear hfu hf
   have ht:bj l=((bj l).1,0):=Prod.ext rfl h0
   have hT:=vW ht h64
   have htot:=FA ht
   have h256:=M9 ht
   have htl:=(jb ht).1
   have pk:= λ(b:List Int) (hb: ∀x∈b,ar x)=>gX (b:=b) h64 (by omega) hb
   generalize (bj l).1=t at*
   rw[ht]at pt
   clear ht h0 h64
   rw[←htl]at h256 ⊢
   have hll:(l.length:Int)=(t.length:Int):=by omega
   obtain⟨R,hR⟩: ∃R,R=j6 t.length 0 (t.drop 0) []:=⟨_,rfl⟩
   have hR0:j6 t.length 0 t []=R:=hR.symm
   rw[hR0]
   have HR:=Lib.hid hR
   clear hR hR0 htl
   repeat' first|simp(disch:=omega) only[go_sem, *,f1,f2,hll]|((with_reducible apply ab)<;>intro h<;>try omega)|(refine el pt rfl rfl ?_)
   clear pt
   refine dD 0 0 156 4 [.nils,.pure (pI fuel)] rfl rfl (by decide) ?_
   refine ap (λs:Nat×List dh=>⟨[(0,bR l),(9,.c (.ptr 0 0)),(37,bR t),(38,I t.length),(39,I s.1)],jA 1 s.2 fuel [],2,0⟩)
    (λs=>s.1≤t.length∧(∀z∈s.2,cM t z)∧s.2.length≤256∧Hid (R=j6 t.length s.1 (t.drop s.1) s.2)) (λs=>t.length-s.1) ⟨(0, []), [],⟨Nat.zero_le _,by simp,by simp,HR⟩,by simp⟩ ?_
   clear HR
   rintro⟨k,acc⟩ ⟨hk,hacc,hal,HR⟩
   simp only at hk hacc hal HR
   refine aa ?_
   by_cases hlt:k<t.length
   ·have g1:=ai (f:=cP) hlt
    have h2:=HR.out
    rw[NA hlt]at h2
    have hTk:=cM.unit hlt hT
    clear HR
    generalize t[k]=c at*
    obtain⟨⟨K,m⟩,q⟩:=c
    simp only[cP]at g1
    have hrep:(List.replicate t.length [pI 0])[k]? =some [pI 0]:=by rw[List.getElem?_replicate,if_pos hlt]
    have pa:=jM (d:=(((K,m),q),fJ t.length k)) (fuel:=fuel) (r:=1) (nx:=4) (rows:=acc) (F:= [(2,.var [.pure (pI K),.pure (aw m),.pure (pB q)])]) hal (by omega) (by omega) (by simp[Go.Abs.dO,ux,GY,jO])
    have pa':aq Tryz.prog jq [.c (.ptr 0 0),.agg [.pure (pI K),.pure (aw m),.pure (pB q),.pure (.slice ((List.replicate t.length [pI 0]).set k [pI 1]))]] (jA 1 acc fuel [(2,.var [.pure (pI K),.pure (aw m),.pure (pB q)])]) 4
     (eo [I (dN acc (((K,m),q),fJ t.length k)).2]) (jA 4 (dN acc (((K,m),q),fJ t.length k)).1 fuel [(2,.var [.pure (pI K),.pure (aw m),.pure (pB q)])]) 5:=by rw[QF];exact pa
    clear pa
    obtain⟨a1,a2,a3,a4⟩:=rp (d:=(((K,m),q),fJ t.length k)) hal
    generalize dN acc (((K,m),q),fJ t.length k)=A at*
    obtain⟨A,ae⟩:=A
    simp only at pa' h2 a1 a2 a3 a4
    by_cases hae:ae=0
    ·subst hae
     rw[if_neg (by simp)]at h2
     have HR:=Lib.hid h2
     have hA: ∀z∈A,cM t z:= λz hz=>(a3 z hz).elim (λe=>e▸hTk) (hacc z)
     clear h2 hacc a3 a4
     repeat' first|simp(disch:=omega) only[go_sem, *,g1,hll,hrep,wrap_i64,List.length_replicate]|((with_reducible apply ab)<;>intro h<;>try omega)|(refine Ic 3 2 1 ((List.replicate t.length [pI 0]).set k [pI 1]) (by simp(disch:=omega) only[al,am,aG,eq_self,↓reduceIte,Option.map_some]<;>rfl) (pa'.perm (by intro nm;first|(simp[St.frz,rv,Cm,jp,al,am];done)|(simp only[St.frz,rv,Cm,jp,al,am,List.map_cons,List.map_nil,↓reduceIte,Nat.reduceAdd,Nat.reduceEqDiff,reduceCtorEq];(repeat' split)<;>first|rfl|omega|simp_all))) ?_)
     refine⟨(k+1,A), [(1,4)],⟨hlt,hA,a1,HR⟩,by show _-_<_-_;omega,by simp⟩
    ·rw[if_pos hae]at h2
     subst h2
     rw[if_pos hae]
     clear hacc a3 a4
     repeat' first|simp(disch:=omega) only[go_sem, *,g1,hll,hrep,wrap_i64,List.length_replicate,hae]|((with_reducible apply ab)<;>intro h<;>try omega)|(refine Ic 3 2 1 ((List.replicate t.length [pI 0]).set k [pI 1]) (by simp(disch:=omega) only[al,am,aG,eq_self,↓reduceIte,Option.map_some]<;>rfl) (pa'.perm (by intro nm;first|(simp[St.frz,rv,Cm,jp,al,am];done)|(simp only[St.frz,rv,Cm,jp,al,am,List.map_cons,List.map_nil,↓reduceIte,Nat.reduceAdd,Nat.reduceEqDiff,reduceCtorEq];(repeat' split)<;>first|rfl|omega|simp_all))) ?_)
     all_goals rfl
   ·have h2:=HR.out
    rw[List.drop_eq_nil_of_le (by omega),j6]at h2
    subst h2
    rw[if_neg (by simp)]
    clear HR
    obtain⟨R,hR⟩: ∃R,R=d9 l (fuel.toNat*300+300) acc fuel:=⟨_,rfl⟩
    simp only
    rw[←hR]
    have HR:=Lib.hid hR
    clear hR
    repeat' first|simp(disch:=omega) only[go_sem, *,hll]|((with_reducible apply ab)<;>intro h<;>try omega)
    clear hk hlt
    refine ap (λs:List dh×Int×Nat=>⟨[(0,bR l),(9,.c (.ptr 0 0))],jA 1 s.1 s.2.1 [],2,0⟩)
     (λs=>(∀z∈s.1,cM t z)∧s.1.length≤256∧0≤s.2.1∧s.2.1≤fuel∧Z1 s.1 s.2.1<s.2.2∧Hid (R=d9 l s.2.2 s.1 s.2.1)) (λs=>Z1 s.1 s.2.1) ⟨(acc,fuel,fuel.toNat*300+300), [],⟨hacc,hal,by simp only;omega,by simp,by simp only[Z1];omega,HR⟩,by simp⟩ ?_
    clear HR hacc hal
    rintro⟨rows,fu,N⟩ ⟨hrows,hal,hfu0,hfu1,hN,HR⟩
    simp only at hrows hal hfu0 hfu1 hN HR
    refine aa ?_
    have hF:Go.Abs.dO 2 [0,1] []:=trivial
    have pcd:=rZ (fuel:=fu) (r:=1) (nx:=2) (F:= []) hal (λz hz=>by rw[(hrows z hz).len];omega) (by omega) (by omega) hF
    have pch:=C0 (fuel:=fu) (r:=1) (nx:=2) (F:= []) hal (by have:=Ma hrows;have:rows.length*iH t≤256*iH t:=Nat.mul_le_mul_right _ hal;omega) (by omega) (by omega) hF
    have h2:=HR.out
    obtain⟨N,rfl⟩: ∃M,N=M+1:=⟨N-1,by omega⟩
    rw[d9]at h2
    clear HR
    cases hb:hZ rows with
    |some b=>
     rw[hb]at pcd h2
     simp only[Gv]at pcd
     simp only at h2
     obtain⟨z,hz,_,hzb⟩:=ot hb
     have pk:=pk b (by rw[←hzb];exact(hrows z hz).r64.2)
     clear hb hz hzb
     generalize fk l b=ck at*
     by_cases hck:ck=0
     ·subst hck
      rw[if_neg (by simp)]at h2
      subst h2
      repeat' first|simp(disch:=omega) only[go_sem, *]|((with_reducible apply ab)<;>intro h<;>try omega)|(refine an pcd ?_)|(refine aY pk rfl rfl ?_)
      all_goals rfl
     ·rw[if_pos hck]at h2
      subst h2
      repeat' first|simp(disch:=omega) only[go_sem, *,hck]|((with_reducible apply ab)<;>intro h<;>try omega)|(refine an pcd ?_)|(refine aY pk rfl rfl ?_)
      all_goals rfl
    |none=>
     rw[hb]at pcd h2
     simp only[Gv]at pcd
     simp only at h2
     clear hb pk
     by_cases hc:(dw rows).2.2=true
     ·rw[if_neg (by simp[hc])]at h2
      obtain⟨s1,s2⟩:=zd (fuel:=fu) hrows hc
      have s3:= λhe=>RJ (fuel:=fu) hrows hal hfu0 hc he
      obtain⟨c1,c2,c3,c4⟩:=mI (rows:=rows) (N:=np rows) (vs:=np rows) (best:= -1) (name:= .empty) (λh=>(by omega)) (λv hv=>hv)
      have c2:0≤(dw rows).2.1→tZ (dw rows).1 0 rows=some (dw rows).2.1.toNat:= λh=>(c2 h).2.1
      clear c1 c3 c4 s2
      have hdef:qQ rows fu=if 0≤(dw rows).2.1 then xZ (dw rows).1 (dw rows).2.1.toNat rows fu else vA (dw rows).1 rows fu:=rfl
      generalize dw rows=C at*
      obtain⟨name,eq,ok⟩:=C
      simp only at hc c2 hdef
      subst hc
      simp only[chR]at pch
      by_cases heq:0≤eq
      ·rw[if_pos heq]at hdef
       obtain⟨m1,m2,m3,m4⟩:=A0 (c2 heq)
       simp only[Nat.sub_zero]at m1 m4
       have ps:=we (n:=name) (e:=eq.toNat) (fuel:=fu) (r:=1) (nx:=2) (F:= []) hrows (by omega) (by omega) hal m1 m4 hfu0 (by omega) (by omega) (by omega) hF
       rw[←hdef]at ps
       have he:((eq.toNat:Nat):Int)=eq:=Int.toNat_of_nonneg heq
       rw[he]at ps
       clear he m1 m2 m3 m4 c2 hdef
       generalize qQ rows fu=Z at*
       obtain⟨rows',fu',e⟩:=Z
       simp only at ps s3 h2
       by_cases he:e=0
       ·subst he
        rw[if_neg (by simp)]at h2
        have HR:=Lib.hid h2
        have t1:=s1.all
        have t2:=s1.len
        have t3:=s1.le
        have t4:=s1.pos rfl hfu0
        have t5:=s3 rfl
        clear h2 s1 s3
        simp only at t1 t2 t3 t4 t5
        repeat' first|simp(disch:=omega) only[go_sem, *,heq]|((with_reducible apply ab)<;>intro h<;>try omega)|(refine an pcd ?_)|(refine an pch ?_)|(refine an ps ?_)
        refine⟨(rows',fu',N), [(1,2)],⟨t1,t2,t4,by simp only;omega,by simp only;omega,HR⟩,t5,by simp⟩
       ·rw[if_pos he]at h2
        subst h2
        clear s1 s3
        repeat' first|simp(disch:=omega) only[go_sem, *,heq,he]|((with_reducible apply ab)<;>intro h<;>try omega)|(refine an pcd ?_)|(refine an pch ?_)|(refine an ps ?_)
        all_goals rfl
      ·rw[if_neg heq]at hdef
       have ps:=Ak (n:=name) (fuel:=fu) (r:=1) (nx:=2) (F:= []) hrows (by omega) (by omega) hal hfu0 (by omega) (by omega) (by omega) hF
       rw[←hdef]at ps
       clear c2 hdef
       generalize qQ rows fu=Z at*
       obtain⟨rows',fu',e⟩:=Z
       simp only at ps s3 h2
       by_cases he:e=0
       ·subst he
        rw[if_neg (by simp)]at h2
        have HR:=Lib.hid h2
        have t1:=s1.all
        have t2:=s1.len
        have t3:=s1.le
        have t4:=s1.pos rfl hfu0
        have t5:=s3 rfl
        clear h2 s1 s3
        simp only at t1 t2 t3 t4 t5
        repeat' first|simp(disch:=omega) only[go_sem, *,heq]|((with_reducible apply ab)<;>intro h<;>try omega)|(refine an pcd ?_)|(refine an pch ?_)|(refine an ps ?_)
        refine⟨(rows',fu',N), [(1,2)],⟨t1,t2,t4,by simp only;omega,by simp only;omega,HR⟩,t5,by simp⟩
       ·rw[if_pos he]at h2
        subst h2
        clear s1 s3
        repeat' first|simp(disch:=omega) only[go_sem, *,heq,he]|((with_reducible apply ab)<;>intro h<;>try omega)|(refine an pcd ?_)|(refine an pch ?_)|(refine an ps ?_)
        all_goals rfl
     ·rw[if_pos (by simpa using hc)]at h2
      subst h2
      have hc:(dw rows).2.2=false:=by simpa using hc
      generalize dw rows=C at*
      obtain⟨name,eq,ok⟩:=C
      simp only at hc
      subst hc
      simp only[chR]at pch
      repeat' first|simp(disch:=omega) only[go_sem, *]|((with_reducible apply ab)<;>intro h<;>try omega)|(refine an pcd ?_)|(refine an pch ?_)
      all_goals rfl
 ·rw[if_pos h0]
  clear h64 hs
  generalize bj l=X at*
  obtain⟨t,e⟩:=X
  simp only at h0
  repeat' first|simp(disch:=omega) only[go_sem, *,h0]|((with_reducible apply ab)<;>intro h<;>try omega)|(refine el pt rfl rfl ?_)
  all_goals rfl
end Go.Proofs.YthbcbaembicdbaaGreatDoor
