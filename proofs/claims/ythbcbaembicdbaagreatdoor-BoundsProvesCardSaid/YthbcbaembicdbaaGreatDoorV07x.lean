import Derived.Test.YthbcbaembicdbaaGreatDoorV07u
set_option linter.unusedVariables false
set_option linter.unusedSimpArgs false
set_option maxRecDepth 20000
set_option maxHeartbeats 4000000
set_option maxRecDepth 1000000
namespace Go.Proofs.YthbcbaembicdbaaGreatDoor
open Go.Abs Go.RowKit
set_option maxHeartbeats 4000000 in
theorem BO {T:List bt} {n:ByteArray} {fuel:Int} {r nx:Nat} {rows:List dq} {F:List (Nat×bc)} (hT: ∀z∈rows,c9 T z) (ht:jo T≤400000000) (hTl:T.length≤1000000000) (hrl:rows.length≤256)
  (hf0:0≤fuel) (hf1:fuel≤2000000) (hr:0<r) (hrn:r<nx) (hF:Go.Abs.dk nx [0,r] F):
  au Tryz.prog j8 [.c (.ptr 0 0),S n] (jV r rows fuel F) nx (eF [I (uR n rows fuel).2.2]) (jV nx (uR n rows fuel).1 (uR n rows fuel).2.1 F) (nx+1):=by
 refine au.ofZ rW (by simp) fun _=>aa ?_
 have h0n:0<nx:=by omega
 conv in kj=>cbv
 unfold uR
 obtain⟨R,hR⟩: ∃R,R=gE (mC n) (rows.drop 0) [] fuel:=⟨_,rfl⟩
 have hR0:gE (mC n) rows [] fuel=R:=hR.symm
 rw[hR0]
 have HR:=Lib.hid hR
 clear hR hR0
 repeat' first|simp(disch:=omega) only[go_sem, *,aD,aE]|((with_reducible apply ab)<;>intro h<;>try omega)
 refine cQ 0 0 156 4 [.nils,.pure (pI fuel)] (by simp(disch:=omega) [am,aD]) rfl (by decide) ?_
 refine EY r 156 4 (rows.map dF) (by simp(disch:=omega) [am,al,aD]) ?_
 have hfz:=hF.frz (n:=r) (rows:=rows.map dF) (.inl (by simp))
 refine Uq (mem':=jV nx [] fuel F) (by simp(disch:=omega) [nH,BG,iw,dJ,aD,hfz]) ?_
 refine an (fun s:Nat×List dq=>⟨[(0,.c (.ptr 0 0)),(1,S n),(5,zF rows),(28,zF rows),(29,I rows.length),(30,I s.1)],jV nx s.2 fuel F,nx+1,nx⟩)
  (fun s=>s.1≤rows.length∧(∀z∈s.2,c9 T z)∧s.2.length≤256∧Hid (R=gE (mC n) (rows.drop s.1) s.2 fuel)) (fun s=>rows.length-s.1) ⟨(0, []), [],⟨Nat.zero_le _,by simp,by simp,HR⟩, ?_⟩ ?_
 ·refine aq (by simp(disch:=omega) [aD,Ch,sH,iw]) ?_ rfl (by simp;try omega) (by simp[eg];try omega)
  repeat' first|exact hF.wkA|refine ar ?_ ?_ ?_ ?_ ?_|(simp(disch:=omega) [aD,Ch,sH,iw]<;>omega)|omega
 clear HR
 rintro⟨k,acc⟩ ⟨hk,hacc,hal,HR⟩
 simp only at hk hacc hal HR
 refine aa ?_
 by_cases hlt:k<rows.length
 ·have g1:=ah (f:=dF) hlt
  have hz:=hT _ (List.getElem_mem hlt)
  have h2:=HR.out
  rw[List.drop_eq_getElem_cons hlt,wB]at h2
  have hst:=Ph (n:=n) hz acc fuel hacc hal
  clear HR
  generalize rows[k]=z at*
  obtain⟨⟨⟨K',l'⟩,q'⟩,b'⟩:=z
  simp only[dF]at g1
  have pc:=dn ((K',l'),q') n
  simp only at pc
  by_cases h0:cf l' n=0
  ·have hs:mC n (((K',l'),q'),b') acc fuel=((d8 acc (((K',l'),q'),b')).1,fuel,(d8 acc (((K',l'),q'),b')).2):=by rw[mC,if_pos h0]
   rw[hs]at h2 hst
   rw[h0]at pc
   have pa:=jI (d:=(((K',l'),q'),b')) (fuel:=fuel) (r:=nx) (nx:=nx+2) (rows:=acc) (F:=(nx+1,.var (D6 (((K',l'),q'),b')))::F) hal (by omega) (by omega) (iG hF (by omega) (by omega) (by omega) rfl (.inr (Nat.le_refl _)) (by omega))
   clear hs h0
   generalize d8 acc (((K',l'),q'),b')=A at*
   obtain⟨A,ae⟩:=A
   simp only at pa h2 hst
   by_cases hae:ae=0
   ·subst hae
    rw[if_neg (by simp)]at h2
    have HR:=Lib.hid h2
    have hA1:=hst.all
    have hA2:=hst.len
    clear h2 hst hacc
    simp only at hA1 hA2
    repeat' first|simp(disch:=omega) only[go_sem, *,g1,aD,aE,wrap_i64]|((with_reducible apply ab)<;>intro h<;>try omega)|(refine aF pc rfl rfl ?_)|(refine ap (pa.perm (fun nm=>by first|rfl|(simp only[am,al];done)|(simp only[am,al];(repeat' split)<;>first|rfl|omega))) ?_)
    refine⟨(k+1,A), [(nx,nx+2)],⟨hlt,hA1,hA2,HR⟩,by show _-_<_-_;omega, ?_⟩
    refine aq (by simp(disch:=omega) [aD,h0n]) ?_ rfl (by simp;try omega) (by simp[eg];try omega)
    repeat' first|exact hF.wkA|refine ar ?_ ?_ ?_ ?_ ?_|(simp(disch:=omega) [aD,h0n]<;>omega)|omega
   ·rw[if_pos hae]at h2
    subst h2
    rw[if_pos hae]
    clear hst hacc
    repeat' first|simp(disch:=omega) only[go_sem, *,g1,aD,aE,wrap_i64,hae]|((with_reducible apply ab)<;>intro h<;>try omega)|(refine aF pc rfl rfl ?_)|(refine ap (pa.perm (fun nm=>by first|rfl|(simp only[am,al];done)|(simp only[am,al];(repeat' split)<;>first|rfl|omega))) ?_)
    refine⟨[], [(nx,nx+2)], ?_⟩
    simp(disch:=omega) only[go_sem,aR,aD,aE]
    refine aq (by simp(disch:=omega) [aD,h0n]) ?_ rfl (by simp;try omega) (by simp[eg];try omega)
    repeat' first|exact hF.wkA|refine ar ?_ ?_ ?_ ?_ ?_|(simp(disch:=omega) [aD,h0n]<;>omega)|omega
  ·have hs:mC n (((K',l'),q'),b') acc fuel=(acc,fuel,0):=by rw[mC,if_neg h0]
   rw[hs]at h2
   rw[if_neg (by simp)]at h2
   have HR:=Lib.hid h2
   clear h2 hs hst
   generalize cf l' n=d at*
   repeat' first|simp(disch:=omega) only[go_sem, *,g1,aD,aE,wrap_i64,h0]|((with_reducible apply ab)<;>intro h<;>try omega)|(refine aF pc rfl rfl ?_)
   refine⟨(k+1,acc), [],⟨hlt,hacc,hal,HR⟩,by show _-_<_-_;omega, ?_⟩
   refine aq (by simp(disch:=omega) [aD,h0n]) ?_ rfl (by simp;try omega) (by simp[eg];try omega)
   repeat' first|exact hF.wkA|refine ar ?_ ?_ ?_ ?_ ?_|(simp(disch:=omega) [aD,h0n]<;>omega)|omega
 ·have h2:=HR.out
  rw[List.drop_eq_nil_of_le (by omega)]at h2
  simp only[gE]at h2
  subst h2
  rw[if_neg (by simp)]
  simp only
  clear HR
  obtain⟨R,hR⟩: ∃R,R=gE (fun a=>gE (ti n a) rows) (rows.drop 0) acc fuel:=⟨_,rfl⟩
  have hR0:gE (fun a=>gE (ti n a) rows) rows acc fuel=R:=hR.symm
  rw[hR0]
  have HR:=Lib.hid hR
  clear hR hR0
  repeat' first|simp(disch:=omega) only[go_sem, *,aD,aE]|((with_reducible apply ab)<;>intro h<;>try omega)
  clear hk hlt
  refine an (fun s:Nat×List dq×Int=>⟨[(0,.c (.ptr 0 0)),(1,S n),(5,zF rows),(46,zF rows),(47,I rows.length),(48,I s.1)],jV nx s.2.1 s.2.2 F,nx+1,nx⟩)
   (fun s=>s.1≤rows.length∧(∀z∈s.2.1,c9 T z)∧s.2.1.length≤256∧0≤s.2.2∧s.2.2≤fuel∧Hid (R=gE (fun a=>gE (ti n a) rows) (rows.drop s.1) s.2.1 s.2.2)) (fun s=>rows.length-s.1) ⟨(0,acc,fuel), [],⟨Nat.zero_le _,hacc,hal,hf0,Int.le_refl _,HR⟩, ?_⟩ ?_
  ·refine aq (by simp(disch:=omega) [aD,h0n]) ?_ rfl (by simp;try omega) (by simp[eg];try omega)
   repeat' first|exact hF.wkA|refine ar ?_ ?_ ?_ ?_ ?_|(simp(disch:=omega) [aD,h0n]<;>omega)|omega
  clear HR hacc hal
  rintro⟨k,acc,fu⟩ ⟨hk,hacc,hal,hfu0,hfu1,HR⟩
  simp only at hk hacc hal hfu0 hfu1 HR
  refine aa ?_
  by_cases hlt:k<rows.length
  ·have ga:=ah (f:=dF) hlt
   have hTa:=hT _ (List.getElem_mem hlt)
   have h2:=HR.out
   rw[List.drop_eq_getElem_cons hlt,wB]at h2
   have hsa:=hTa.short
   clear HR
   generalize rows[k]=a at*
   obtain⟨⟨⟨Ka,la⟩,qa⟩,ba⟩:=a
   simp only[dF]at ga
   have pca:=dn ((Ka,la),qa) n
   have hca:ay (cf la n):=J2 hTa.r64.1.2 n
   simp only at pca hsa
   obtain⟨E,hE⟩: ∃E,E=gE (ti n (((Ka,la),qa),ba)) (rows.drop 0) acc fu:=⟨_,rfl⟩
   have hE0:gE (ti n (((Ka,la),qa),ba)) rows acc fu=E:=hE.symm
   rw[hE0]at h2
   have HE:=Lib.hid hE
   have HR:=Lib.hid h2
   clear hE hE0 h2
   repeat' first|simp(disch:=omega) only[go_sem, *,ga,aD,aE]|((with_reducible apply ab)<;>intro h<;>try omega)
   refine an (fun s:Nat×List dq×Int=>⟨[(0,.c (.ptr 0 0)),(1,S n),(5,zF rows),(10,.c (.ptr (nx+1) 0)),(46,zF rows),(47,I rows.length),(48,I k),(52,zF rows),(53,I rows.length),(54,I s.1)],(nx,.arr 156 4 (s.2.1.map dF))::(0,.var [.ref nx,.pure (pI s.2.2)])::(nx+1,.var (D6 (((Ka,la),qa),ba)))::F,nx+2,nx⟩)
    (fun s=>s.1≤rows.length∧(∀z∈s.2.1,c9 T z)∧s.2.1.length≤256∧0≤s.2.2∧s.2.2≤fuel∧Hid (E=gE (ti n (((Ka,la),qa),ba)) (rows.drop s.1) s.2.1 s.2.2)) (fun s=>rows.length-s.1) ⟨(0,acc,fu), [],⟨Nat.zero_le _,hacc,hal,hfu0,hfu1,HE⟩, ?_⟩ ?_
   ·refine aq (by simp(disch:=omega) [aD,h0n]) ?_ rfl (by simp;try omega) (by simp[eg];try omega)
    repeat' first|exact hF.wkA|refine ar ?_ ?_ ?_ ?_ ?_|(simp(disch:=omega) [aD,h0n]<;>omega)|omega
   clear HE hacc hal hfu0 hfu1
   rintro⟨j,acc,fu⟩ ⟨hj,hacc,hal,hfu0,hfu1,HE⟩
   simp only at hj hacc hal hfu0 hfu1 HE
   refine aa ?_
   by_cases hltj:j<rows.length
   ·have g1:=ah (f:=dF) hltj
    have hz:=hT _ (List.getElem_mem hltj)
    have h2:=HE.out
    rw[List.drop_eq_getElem_cons hltj,wB]at h2
    have hst:=NI (n:=n) hTa hz acc fu hacc hal
    have hzs:=hz.short
    clear HE
    generalize rows[j]=z at*
    obtain⟨⟨⟨K',l'⟩,q'⟩,b'⟩:=z
    simp only[dF]at g1
    have pc:=dn ((K',l'),q') n
    have hc:ay (cf l' n):=J2 hz.r64.1.2 n
    simp only at pc hzs
    have hs0:ti n (((Ka,la),qa),ba) (((K',l'),q'),b') acc fu=if cf la n≤0∨0≤cf l' n then(acc,fu,0)else
     if(gk (cf la n) (cf l' n)).2.2=false then(acc,fu,3)else
     lD (((Ka,la),qa),ba) (((K',l'),q'),b') (gk (cf la n) (cf l' n)).1 (gk (cf la n) (cf l' n)).2.1 acc fu:=rfl
    rw[hs0]at h2 hst
    clear hs0
    have pk: ¬cf la n=0→_:=fun h=>Ay hca hc h
    have hx64:ay (gk (cf la n) (cf l' n)).1:=EZ _ _
    have hy64:ay (gk (cf la n) (cf l' n)).2.1:=EZ _ _
    generalize gk (cf la n) (cf l' n)=X at*
    obtain⟨x,y,ok⟩:=X
    generalize cf la n=ca at*
    generalize cf l' n=cb at*
    simp only at h2 hst hx64 hy64 pk
    by_cases h0:ca≤0∨0≤cb
    ·rw[if_pos h0,if_neg (by simp)]at h2
     have HE:=Lib.hid h2
     clear h2 hst pk
     rcases h0 with h0|h0
     ·repeat' first|simp(disch:=omega) only[go_sem, *,g1,aD,aE,wrap_i64,h0]|((with_reducible apply ab)<;>intro h<;>try omega)|(refine aF pca rfl rfl ?_)|(refine aF pc rfl rfl ?_)
      all_goals
       refine⟨(j+1,acc,fu), [],⟨hltj,hacc,hal,hfu0,hfu1,HE⟩,by show _-_<_-_;omega, ?_⟩
       refine aq (by simp(disch:=omega) [aD,h0n]) ?_ rfl (by simp;try omega) (by simp[eg];try omega)
       repeat' first|exact hF.wkA|refine ar ?_ ?_ ?_ ?_ ?_|(simp(disch:=omega) [aD,h0n]<;>omega)|omega
     ·repeat' first|simp(disch:=omega) only[go_sem, *,g1,aD,aE,wrap_i64,h0]|((with_reducible apply ab)<;>intro h<;>try omega)|(refine aF pca rfl rfl ?_)|(refine aF pc rfl rfl ?_)
      all_goals
       refine⟨(j+1,acc,fu), [],⟨hltj,hacc,hal,hfu0,hfu1,HE⟩,by show _-_<_-_;omega, ?_⟩
       refine aq (by simp(disch:=omega) [aD,h0n]) ?_ rfl (by simp;try omega) (by simp[eg];try omega)
       repeat' first|exact hF.wkA|refine ar ?_ ?_ ?_ ?_ ?_|(simp(disch:=omega) [aD,h0n]<;>omega)|omega
    ·rw[if_neg h0]at h2 hst
     have n1: ¬ca≤0:=fun h=>h0 (.inl h)
     have n2: ¬0≤cb:=fun h=>h0 (.inr h)
     have pk:=pk (by omega)
     clear h0
     cases ok
     ·rw[if_pos rfl,if_pos (by simp)]at h2
      subst h2
      have h3:=HR.out
      rw[if_pos (by simp)]at h3
      subst h3
      clear hst hacc HR
      repeat' first|simp(disch:=omega) only[go_sem, *,g1,aD,aE,wrap_i64,n1,n2]|((with_reducible apply ab)<;>intro h<;>try omega)|(refine aF pca rfl rfl ?_)|(refine aF pc rfl rfl ?_)|(refine aF pk rfl rfl ?_)
      all_goals
       refine⟨[], [], ?_⟩
       simp(disch:=omega) only[go_sem,aR,aD,aE]
       refine aq (by simp(disch:=omega) [aD,h0n]) ?_ rfl (by simp;try omega) (by simp[eg];try omega)
       repeat' first|exact hF.wkA|refine ar ?_ ?_ ?_ ?_ ?_|(simp(disch:=omega) [aD,h0n]<;>omega)|omega
     ·have hft: ¬(true=false):=by simp
      rw[if_neg hft]at h2 hst
      clear hft
      have hll:ba.length=b'.length:=by rw[hz.len,hTa.len]
      have hlb:ba.length≤1000000000:=by rw[hTa.len];exact hTl
      have hm1:=nT (a:=(((Ka,la),qa),ba)) (b:=(((K',l'),q'),b')) (x:=x) (y:=y) (fuel:=fu) (r:=nx) (nx:=nx+3) (rows:=acc) (F:=(nx+2,.var (D6 (((K',l'),q'),b')))::(nx+1,.var (D6 (((Ka,la),qa),ba)))::F)
       hTa.r64 hz.r64 hx64 hy64 hll hlb (by simp only;omega) (by simp only;omega) hfu0 (by omega) (by omega) (by omega) (iG (N:=nx+2) (r:=nx) (iG hF (by omega) (by omega) (by omega) rfl (.inr (Nat.le_refl _)) (by omega)) (by omega) (by omega) (by omega) rfl (.inl rfl) (by omega))
      unfold lD at h2 hst
      clear hll hlb hx64 hy64
      generalize gq fu (((Ka,la),qa),ba) (((K',l'),q'),b') x y=M at*
      obtain⟨⟨⟨⟨Km,lm⟩,qm⟩,bm⟩,me⟩:=M
      simp only at h2 hst
      by_cases hme:me=0
      ·subst hme
       have hm0: ¬((0:Int)≠0):=by simp
       rw[if_neg hm0]at h2 hst
       simp only[Xv,if_true]at hm1
       have pa:=jI (d:=(((Km,lm),qm),bm)) (fuel:=fu-1) (r:=nx) (nx:=nx+4) (rows:=acc) (F:=(nx+3,.var (D6 (((Km,lm),qm),bm)))::(nx+2,.var (D6 (((K',l'),q'),b')))::(nx+1,.var (D6 (((Ka,la),qa),ba)))::F) hal (by omega) (by omega)
        (iG (N:=nx+3) (r:=nx) (iG (N:=nx+2) (r:=nx) (iG hF (by omega) (by omega) (by omega) rfl (.inr (Nat.le_refl _)) (by omega)) (by omega) (by omega) (by omega) rfl (.inl rfl) (by omega)) (by omega) (by omega) (by omega) rfl (.inl rfl) (by omega))
       generalize d8 acc (((Km,lm),qm),bm)=A at*
       obtain⟨A,ae⟩:=A
       simp only at pa h2 hst
       by_cases hae:ae=0
       ·subst hae
        rw[if_neg (by simp)]at h2
        have HE:=Lib.hid h2
        have hA1:=hst.all
        have hA2:=hst.len
        have hA3:=hst.pos rfl hfu0
        clear h2 hst hacc
        simp only at hA1 hA2 hA3
        repeat' first|simp(disch:=omega) only[go_sem, *,g1,aD,aE,wrap_i64,n1,n2]|((with_reducible apply ab)<;>intro h<;>try omega)|(refine aF pca rfl rfl ?_)|(refine aF pc rfl rfl ?_)|(refine aF pk rfl rfl ?_)|(refine ap (hm1.perm (fun nm=>by first|rfl|(simp only[am,al];done)|(simp only[am,al];(repeat' split)<;>first|rfl|omega))) ?_)|(refine ap (pa.perm (fun nm=>by first|rfl|(simp only[am,al];done)|(simp only[am,al];(repeat' split)<;>first|rfl|omega))) ?_)
        all_goals
         refine⟨(j+1,A,fu-1), [(nx,nx+4)],⟨hltj,hA1,hA2,hA3,by simp only;omega,HE⟩,by show _-_<_-_;omega, ?_⟩
         refine aq (by simp(disch:=omega) [aD,h0n]) ?_ rfl (by simp;try omega) (by simp[eg];try omega)
         repeat' first|exact hF.wkA|refine ar ?_ ?_ ?_ ?_ ?_|(simp(disch:=omega) [aD,h0n]<;>omega)|omega
       ·rw[if_pos hae]at h2
        subst h2
        have h3:=HR.out
        rw[if_pos hae]at h3
        subst h3
        clear hst hacc HR
        repeat' first|simp(disch:=omega) only[go_sem, *,g1,aD,aE,wrap_i64,n1,n2,hae]|((with_reducible apply ab)<;>intro h<;>try omega)|(refine aF pca rfl rfl ?_)|(refine aF pc rfl rfl ?_)|(refine aF pk rfl rfl ?_)|(refine ap (hm1.perm (fun nm=>by first|rfl|(simp only[am,al];done)|(simp only[am,al];(repeat' split)<;>first|rfl|omega))) ?_)|(refine ap (pa.perm (fun nm=>by first|rfl|(simp only[am,al];done)|(simp only[am,al];(repeat' split)<;>first|rfl|omega))) ?_)
        all_goals
         refine⟨[], [(nx,nx+4)], ?_⟩
         simp(disch:=omega) only[go_sem,aR,aD,aE]
         refine aq (by simp(disch:=omega) [aD,h0n]) ?_ rfl (by simp;try omega) (by simp[eg];try omega)
         repeat' first|exact hF.wkA|refine ar ?_ ?_ ?_ ?_ ?_|(simp(disch:=omega) [aD,h0n]<;>omega)|omega
      ·rw[if_pos hme]at h2
       simp only at h2
       rw[if_pos hme]at h2
       subst h2
       have h3:=HR.out
       rw[if_pos hme]at h3
       subst h3
       clear hst hacc HR
       simp only[Xv,if_neg hme]at hm1
       repeat' first|simp(disch:=omega) only[go_sem, *,g1,aD,aE,wrap_i64,n1,n2,hme]|((with_reducible apply ab)<;>intro h<;>try omega)|(refine aF pca rfl rfl ?_)|(refine aF pc rfl rfl ?_)|(refine aF pk rfl rfl ?_)|(refine ap (hm1.perm (fun nm=>by first|rfl|(simp only[am,al];done)|(simp only[am,al];(repeat' split)<;>first|rfl|omega))) ?_)
       all_goals
        refine⟨[], [], ?_⟩
        simp(disch:=omega) only[go_sem,aR,aD,aE]
        refine aq (by simp(disch:=omega) [aD,h0n]) ?_ rfl (by simp;try omega) (by simp[eg];try omega)
        repeat' first|exact hF.wkA|refine ar ?_ ?_ ?_ ?_ ?_|(simp(disch:=omega) [aD,h0n]<;>omega)|omega
   ·have h2:=HE.out
    rw[List.drop_eq_nil_of_le (by omega)]at h2
    simp only[gE]at h2
    subst h2
    have h3:=HR.out
    rw[if_neg (by simp)]at h3
    have HR:=Lib.hid h3
    clear HE h3
    repeat' first|simp(disch:=omega) only[go_sem, *,aD,aE,wrap_i64]|((with_reducible apply ab)<;>intro h<;>try omega)
    refine⟨(k+1,acc,fu), [],⟨hlt,hacc,hal,hfu0,hfu1,HR⟩,by show _-_<_-_;omega, ?_⟩
    refine aq (by simp(disch:=omega) [aD,h0n]) ?_ rfl (by simp;try omega) (by simp[eg];try omega)
    repeat' first|exact hF.wkA|refine ar ?_ ?_ ?_ ?_ ?_|(simp(disch:=omega) [aD,h0n]<;>omega)|omega
  ·have h2:=HR.out
   rw[List.drop_eq_nil_of_le (by omega)]at h2
   simp only[gE]at h2
   subst h2
   clear HR
   repeat' first|simp(disch:=omega) only[go_sem, *,aD,aE]|((with_reducible apply ab)<;>intro h<;>try omega)
   refine⟨[], [], ?_⟩
   simp(disch:=omega) only[go_sem,aR,aD,aE]
   refine aq (by simp(disch:=omega) [aD,h0n]) ?_ rfl (by simp;try omega) (by simp[eg];try omega)
   repeat' first|exact hF.wkA|refine ar ?_ ?_ ?_ ?_ ?_|(simp(disch:=omega) [aD,h0n]<;>omega)|omega
set_option maxRecDepth 20000
set_option maxRecDepth 1000000
theorem iV: ∀{l m:List bt},jo (l++m)=jo l+jo m
 | [],m=>by simp[jo]
 |c::l,m=>by
  rw[List.cons_append,jo,jo,iV]
  omega
theorem Ft: ∀{l acc t:List bt},kN acc l=(t,0)→jo t≤jo acc+jo l
 |[],acc,t,h=>by
  rw[kN]at h
  cases h
  exact Nat.le_add_right _ _
 |c::l,acc,t,h=>by
  rw[kN]at h
  split at h
  ·rename_i h0
   exact absurd (congrArg Prod.snd h) h0
  ·have h1:=Ft h
   have h2:=QI c
   rw[iV]at h1
   simp only[jo]at h1 ⊢
   omega
theorem F6 {l t:List bt} (h:bL l=(t,0)):jo t≤jo l:=by
 rw[bL]at h
 split at h
 ·cases h
 ·have:=Ft h
  simpa[jo]using this
theorem Sp {l:List bt} {c:bt} (h:c∈l):c.1.2.length≤jo l:=by
 induction l with
 |nil=>cases h
 |cons d l ih=>
  rw[jo]
  rcases List.mem_cons.1 h with rfl|h
  ·omega
  ·have:=ih h
   omega
theorem Rg {l t:List bt} (h:bL l=(t,0)):l.length≤256:=by
 rw[bL]at h
 split at h
 ·cases h
 ·omega
theorem oK {l:List bt} {b:List Int} (h64: ∀c∈l,bX c) (hs:jo l≤400000000) (hb: ∀x∈b,ay x):ac Tryz.prog jl [bT l,pG b] (I (kH l b)):=by
 refine ac.of pY (by simp) fun _=>aa ?_
 conv in jn=>cbv
 have pt:=qH h64 (fun c hc=>by have:=Sp hc;omega)
 unfold kH
 by_cases h0:(bL l).2=0
 ·have ht:bL l=((bL l).1,0):=Prod.ext rfl h0
  have pc:=jE (l:=(bL l).1) (b:=b) (fun c hc=>(B3 ht h64 c hc).2) hb (by have:=F6 ht;omega)
  rw[if_neg (not_not_intro h0)]
  clear ht h64 hs
  generalize bL l=X at*
  obtain⟨t,e⟩:=X
  simp only at h0 pc ⊢
  subst h0
  have pb:=fU (aX t b).1
  generalize aX t b=C at*
  obtain⟨⟨⟨K,m⟩,q⟩,ce⟩:=C
  simp only at pb ⊢
  by_cases hce:ce=0
  ·subst hce
   rw[if_neg (by simp)]
   by_cases hbad:iZ ((K,m),q)
   ·rw[if_pos hbad]
    rw[decide_eq_true hbad]at pb
    clear hbad
    repeat' first|simp(disch:=omega) only[go_sem, *]|((with_reducible apply ab)<;>intro h<;>try omega)|(refine cg pt rfl rfl ?_)|(refine cg pc rfl rfl ?_)|(refine aF pb rfl rfl ?_)
    all_goals rfl
   ·rw[if_neg hbad]
    rw[decide_eq_false hbad]at pb
    clear hbad
    repeat' first|simp(disch:=omega) only[go_sem, *]|((with_reducible apply ab)<;>intro h<;>try omega)|(refine cg pt rfl rfl ?_)|(refine cg pc rfl rfl ?_)|(refine aF pb rfl rfl ?_)
    all_goals rfl
  ·rw[if_pos hce]
   clear pb
   repeat' first|simp(disch:=omega) only[go_sem, *,hce]|((with_reducible apply ab)<;>intro h<;>try omega)|(refine cg pt rfl rfl ?_)|(refine cg pc rfl rfl ?_)
   all_goals rfl
 ·rw[if_pos h0]
  clear h64 hs
  generalize bL l=X at*
  obtain⟨t,e⟩:=X
  simp only at h0 ⊢
  repeat' first|simp(disch:=omega) only[go_sem, *,h0]|((with_reducible apply ab)<;>intro h<;>try omega)|(refine cg pt rfl rfl ?_)
  all_goals rfl
theorem Qa {n k:Nat} {t:List bt} {rows:List dq} (h:k<t.length):ku n k (t.drop k) rows=if(d8 rows (t[k],gj n k)).2≠0 then([],(d8 rows (t[k],gj n k)).2)else ku n (k+1) (t.drop (k+1)) (d8 rows (t[k],gj n k)).1:=by
 rw[List.drop_eq_getElem_cons h,ku]
theorem TK {n k:Nat}:((List.replicate n [pI 0]).set k [pI 1])=(gj n k).map fun x=> [pI x]:=by
 rw[gj,List.map_set,List.map_replicate]
abbrev Zb (x:List Int×Bool×Int):AV:= .tup [pG x.1,Go.Abs.B x.2.1,I x.2.2]
theorem Pg {T:List bt} {rows:List dq} (h: ∀z∈rows,c9 T z):(fG rows).length≤rows.length*jo T:=by
 induction rows with
 |nil=>simp[fG]
 |cons z rows ih=>
  have h1:=(h z List.mem_cons_self).short
  have h2:=ih fun y hy=>h y (List.mem_cons_of_mem _ hy)
  simp only[fG,List.flatMap_cons,List.length_append,List.length_map,List.length_cons]at h2 ⊢
  rw[Nat.add_mul]
  omega
set_option maxHeartbeats 4000000 in
theorem wP {l:List bt} {fuel:Int} (h64: ∀c∈l,bX c) (hs:jo l≤1000000) (hf:ay fuel):ac Tryz.prog pD [bT l,I fuel] (Zb (kK l fuel)):=by
 refine ac.of zv (by simp) fun _=>aa ?_
 conv in oY=>cbv
 have pt:=qH h64 (fun c hc=>by have:=Sp hc;omega)
 unfold kK
 by_cases h0:(bL l).2=0
 ·rw[if_neg (not_not_intro h0)]
  by_cases hfu:fuel<0∨1048576<fuel
  ·rw[if_pos hfu]
   clear h64 hs
   generalize bL l=X at*
   obtain⟨t,e⟩:=X
   simp only at h0
   subst h0
   rcases hfu with hfu|hfu
   ·repeat' first|simp(disch:=omega) only[go_sem, *,hfu]|((with_reducible apply ab)<;>intro h<;>try omega)|(refine cg pt rfl rfl ?_)
    all_goals rfl
   ·repeat' first|simp(disch:=omega) only[go_sem, *,hfu]|((with_reducible apply ab)<;>intro h<;>try omega)|(refine cg pt rfl rfl ?_)
    all_goals rfl
  ·rw[if_neg hfu]
   have f1: ¬fuel<0:=fun h=>hfu (.inl h)
   have f2: ¬fuel>1048576:=fun h=>hfu (.inr h)
   clear hfu hf
   have ht:bL l=((bL l).1,0):=Prod.ext rfl h0
   have hT:=B3 ht h64
   have htot:=F6 ht
   have h256:=Rg ht
   have htl:=(o9 ht).1
   have pk:=fun(b:List Int) (hb: ∀x∈b,ay x)=>oK (b:=b) h64 (by omega) hb
   generalize (bL l).1=t at*
   rw[ht]at pt
   clear ht h0 h64
   rw[←htl]at h256 ⊢
   have hll:(l.length:Int)=(t.length:Int):=by omega
   obtain⟨R,hR⟩: ∃R,R=ku t.length 0 (t.drop 0) []:=⟨_,rfl⟩
   have hR0:ku t.length 0 t []=R:=hR.symm
   rw[hR0]
   have HR:=Lib.hid hR
   clear hR hR0 htl
   repeat' first|simp(disch:=omega) only[go_sem, *,f1,f2,hll]|((with_reducible apply ab)<;>intro h<;>try omega)|(refine cg pt rfl rfl ?_)
   clear pt
   refine cQ 0 0 156 4 [.nils,.pure (pI fuel)] rfl rfl (by decide) ?_
   refine an (fun s:Nat×List dq=>⟨[(0,bT l),(9,.c (.ptr 0 0)),(37,bT t),(38,I t.length),(39,I s.1)],jV 1 s.2 fuel [],2,0⟩)
    (fun s=>s.1≤t.length∧(∀z∈s.2,c9 t z)∧s.2.length≤256∧Hid (R=ku t.length s.1 (t.drop s.1) s.2)) (fun s=>t.length-s.1) ⟨(0, []), [],⟨Nat.zero_le _,by simp,by simp,HR⟩,by simp⟩ ?_
   clear HR
   rintro⟨k,acc⟩ ⟨hk,hacc,hal,HR⟩
   simp only at hk hacc hal HR
   refine aa ?_
   by_cases hlt:k<t.length
   ·have g1:=ah (f:=cP) hlt
    have h2:=HR.out
    rw[Qa hlt]at h2
    have hTk:=c9.unit hlt hT
    clear HR
    generalize t[k]=c at*
    obtain⟨⟨K,m⟩,q⟩:=c
    simp only[cP]at g1
    have hrep:(List.replicate t.length [pI 0])[k]? =some [pI 0]:=by rw[List.getElem?_replicate,if_pos hlt]
    have pa:=jI (d:=(((K,m),q),gj t.length k)) (fuel:=fuel) (r:=1) (nx:=4) (rows:=acc) (F:= [(2,.var [.pure (pI K),.pure (aw m),.pure (pB q)])]) hal (by omega) (by omega) (by simp[Go.Abs.dk,tz,Kz,ju])
    have pa':au Tryz.prog jW [.c (.ptr 0 0),.agg [.pure (pI K),.pure (aw m),.pure (pB q),.pure (.slice ((List.replicate t.length [pI 0]).set k [pI 1]))]] (jV 1 acc fuel [(2,.var [.pure (pI K),.pure (aw m),.pure (pB q)])]) 4
     (eF [I (d8 acc (((K,m),q),gj t.length k)).2]) (jV 4 (d8 acc (((K,m),q),gj t.length k)).1 fuel [(2,.var [.pure (pI K),.pure (aw m),.pure (pB q)])]) 5:=by rw[TK];exact pa
    clear pa
    obtain⟨a1,a2,a3,a4⟩:=rV (d:=(((K,m),q),gj t.length k)) hal
    generalize d8 acc (((K,m),q),gj t.length k)=A at*
    obtain⟨A,ae⟩:=A
    simp only at pa' h2 a1 a2 a3 a4
    by_cases hae:ae=0
    ·subst hae
     rw[if_neg (by simp)]at h2
     have HR:=Lib.hid h2
     have hA: ∀z∈A,c9 t z:=fun z hz=>(a3 z hz).elim (fun e=>e▸hTk) (hacc z)
     clear h2 hacc a3 a4
     repeat' first|simp(disch:=omega) only[go_sem, *,g1,hll,hrep,wrap_i64,List.length_replicate]|((with_reducible apply ab)<;>intro h<;>try omega)|(refine JP 3 2 1 ((List.replicate t.length [pI 0]).set k [pI 1]) (by simp(disch:=omega) only[am,al,aD,eq_self,↓reduceIte,Option.map_some]<;>rfl) (pa'.perm (by intro nm;first|(simp[St.frz,nH,BG,iw,am,al];done)|(simp only[St.frz,nH,BG,iw,am,al,List.map_cons,List.map_nil,↓reduceIte,Nat.reduceAdd,Nat.reduceEqDiff,reduceCtorEq];(repeat' split)<;>first|rfl|omega|simp_all))) ?_)
     refine⟨(k+1,A), [(1,4)],⟨hlt,hA,a1,HR⟩,by show _-_<_-_;omega,by simp⟩
    ·rw[if_pos hae]at h2
     subst h2
     rw[if_pos hae]
     clear hacc a3 a4
     repeat' first|simp(disch:=omega) only[go_sem, *,g1,hll,hrep,wrap_i64,List.length_replicate,hae]|((with_reducible apply ab)<;>intro h<;>try omega)|(refine JP 3 2 1 ((List.replicate t.length [pI 0]).set k [pI 1]) (by simp(disch:=omega) only[am,al,aD,eq_self,↓reduceIte,Option.map_some]<;>rfl) (pa'.perm (by intro nm;first|(simp[St.frz,nH,BG,iw,am,al];done)|(simp only[St.frz,nH,BG,iw,am,al,List.map_cons,List.map_nil,↓reduceIte,Nat.reduceAdd,Nat.reduceEqDiff,reduceCtorEq];(repeat' split)<;>first|rfl|omega|simp_all))) ?_)
     all_goals rfl
   ·have h2:=HR.out
    rw[List.drop_eq_nil_of_le (by omega),ku]at h2
    subst h2
    rw[if_neg (by simp)]
    clear HR
    obtain⟨R,hR⟩: ∃R,R=fQ l (fuel.toNat*300+300) acc fuel:=⟨_,rfl⟩
    simp only
    rw[←hR]
    have HR:=Lib.hid hR
    clear hR
    repeat' first|simp(disch:=omega) only[go_sem, *,hll]|((with_reducible apply ab)<;>intro h<;>try omega)
    clear hk hlt
    refine an (fun s:List dq×Int×Nat=>⟨[(0,bT l),(9,.c (.ptr 0 0))],jV 1 s.1 s.2.1 [],2,0⟩)
     (fun s=>(∀z∈s.1,c9 t z)∧s.1.length≤256∧0≤s.2.1∧s.2.1≤fuel∧msr s.1 s.2.1<s.2.2∧Hid (R=fQ l s.2.2 s.1 s.2.1)) (fun s=>msr s.1 s.2.1) ⟨(acc,fuel,fuel.toNat*300+300), [],⟨hacc,hal,by simp only;omega,by simp,by simp only[msr];omega,HR⟩,by simp⟩ ?_
    clear HR hacc hal
    rintro⟨rows,fu,N⟩ ⟨hrows,hal,hfu0,hfu1,hN,HR⟩
    simp only at hrows hal hfu0 hfu1 hN HR
    refine aa ?_
    have hF:Go.Abs.dk 2 [0,1] []:=trivial
    have pcd:=sx (fuel:=fu) (r:=1) (nx:=2) (F:= []) hal (fun z hz=>by rw[(hrows z hz).len];omega) (by omega) (by omega) hF
    have pch:=EE (fuel:=fu) (r:=1) (nx:=2) (F:= []) hal (by have:=Pg hrows;have:rows.length*jo t≤256*jo t:=Nat.mul_le_mul_right _ hal;omega) (by omega) (by omega) hF
    have h2:=HR.out
    obtain⟨N,rfl⟩: ∃M,N=M+1:=⟨N-1,by omega⟩
    rw[fQ]at h2
    clear HR
    cases hb:iQ rows with
    |some b=>
     rw[hb]at pcd h2
     simp only[Jk]at pcd
     simp only at h2
     obtain⟨z,hz,_,hzb⟩:=tZ hb
     have pk:=pk b (by rw[←hzb];exact(hrows z hz).r64.2)
     clear hb hz hzb
     generalize kH l b=ck at*
     by_cases hck:ck=0
     ·subst hck
      rw[if_neg (by simp)]at h2
      subst h2
      repeat' first|simp(disch:=omega) only[go_sem, *]|((with_reducible apply ab)<;>intro h<;>try omega)|(refine ap pcd ?_)|(refine aF pk rfl rfl ?_)
      all_goals rfl
     ·rw[if_pos hck]at h2
      subst h2
      repeat' first|simp(disch:=omega) only[go_sem, *,hck]|((with_reducible apply ab)<;>intro h<;>try omega)|(refine ap pcd ?_)|(refine aF pk rfl rfl ?_)
      all_goals rfl
    |none=>
     rw[hb]at pcd h2
     simp only[Jk]at pcd
     simp only at h2
     clear hb pk
     by_cases hc:(dH rows).2.2=true
     ·rw[if_neg (by simp[hc])]at h2
      obtain⟨s1,s2⟩:=FO (fuel:=fu) hrows hc
      have s3:=fun he=>SB (fuel:=fu) hrows hal hfu0 hc he
      obtain⟨c1,c2,c3,c4⟩:=mX (rows:=rows) (N:=ow rows) (vs:=ow rows) (best:= -1) (name:= .empty) (fun h=>(by omega)) (fun v hv=>hv)
      have c2:0≤(dH rows).2.1→v7 (dH rows).1 0 rows=some (dH rows).2.1.toNat:=fun h=>(c2 h).2.1
      clear c1 c3 c4 s2
      have hdef:qL rows fu=if 0≤(dH rows).2.1 then yJ (dH rows).1 (dH rows).2.1.toNat rows fu else uR (dH rows).1 rows fu:=rfl
      generalize dH rows=C at*
      obtain⟨name,eq,ok⟩:=C
      simp only at hc c2 hdef
      subst hc
      simp only[chR]at pch
      by_cases heq:0≤eq
      ·rw[if_pos heq]at hdef
       obtain⟨m1,m2,m3,m4⟩:=Cb (c2 heq)
       simp only[Nat.sub_zero]at m1 m4
       have ps:=wZ (n:=name) (e:=eq.toNat) (fuel:=fu) (r:=1) (nx:=2) (F:= []) hrows (by omega) (by omega) hal m1 m4 hfu0 (by omega) (by omega) (by omega) hF
       rw[←hdef]at ps
       have he:((eq.toNat:Nat):Int)=eq:=Int.toNat_of_nonneg heq
       rw[he]at ps
       clear he m1 m2 m3 m4 c2 hdef
       generalize qL rows fu=Z at*
       obtain⟨rows',fu',e⟩:=Z
       simp only at ps s3 h2
       by_cases he:e=0
       ·subst he
        rw[if_neg (by simp)]at h2
        have HR:=Lib.hid h2
        have t1:=s1.all
        have t2:=s1.len
        have t3:=s1.le
        have t4:=s1.pos rfl hfu0
        have t5:=s3 rfl
        clear h2 s1 s3
        simp only at t1 t2 t3 t4 t5
        repeat' first|simp(disch:=omega) only[go_sem, *,heq]|((with_reducible apply ab)<;>intro h<;>try omega)|(refine ap pcd ?_)|(refine ap pch ?_)|(refine ap ps ?_)
        refine⟨(rows',fu',N), [(1,2)],⟨t1,t2,t4,by simp only;omega,by simp only;omega,HR⟩,t5,by simp⟩
       ·rw[if_pos he]at h2
        subst h2
        clear s1 s3
        repeat' first|simp(disch:=omega) only[go_sem, *,heq,he]|((with_reducible apply ab)<;>intro h<;>try omega)|(refine ap pcd ?_)|(refine ap pch ?_)|(refine ap ps ?_)
        all_goals rfl
      ·rw[if_neg heq]at hdef
       have ps:=BO (n:=name) (fuel:=fu) (r:=1) (nx:=2) (F:= []) hrows (by omega) (by omega) hal hfu0 (by omega) (by omega) (by omega) hF
       rw[←hdef]at ps
       clear c2 hdef
       generalize qL rows fu=Z at*
       obtain⟨rows',fu',e⟩:=Z
       simp only at ps s3 h2
       by_cases he:e=0
       ·subst he
        rw[if_neg (by simp)]at h2
        have HR:=Lib.hid h2
        have t1:=s1.all
        have t2:=s1.len
        have t3:=s1.le
        have t4:=s1.pos rfl hfu0
        have t5:=s3 rfl
        clear h2 s1 s3
        simp only at t1 t2 t3 t4 t5
        repeat' first|simp(disch:=omega) only[go_sem, *,heq]|((with_reducible apply ab)<;>intro h<;>try omega)|(refine ap pcd ?_)|(refine ap pch ?_)|(refine ap ps ?_)
        refine⟨(rows',fu',N), [(1,2)],⟨t1,t2,t4,by simp only;omega,by simp only;omega,HR⟩,t5,by simp⟩
       ·rw[if_pos he]at h2
        subst h2
        clear s1 s3
        repeat' first|simp(disch:=omega) only[go_sem, *,heq,he]|((with_reducible apply ab)<;>intro h<;>try omega)|(refine ap pcd ?_)|(refine ap pch ?_)|(refine ap ps ?_)
        all_goals rfl
     ·rw[if_pos (by simpa using hc)]at h2
      subst h2
      have hc:(dH rows).2.2=false:=by simpa using hc
      generalize dH rows=C at*
      obtain⟨name,eq,ok⟩:=C
      simp only at hc
      subst hc
      simp only[chR]at pch
      repeat' first|simp(disch:=omega) only[go_sem, *]|((with_reducible apply ab)<;>intro h<;>try omega)|(refine ap pcd ?_)|(refine ap pch ?_)
      all_goals rfl
 ·rw[if_pos h0]
  clear h64 hs
  generalize bL l=X at*
  obtain⟨t,e⟩:=X
  simp only at h0
  repeat' first|simp(disch:=omega) only[go_sem, *,h0]|((with_reducible apply ab)<;>intro h<;>try omega)|(refine cg pt rfl rfl ?_)
  all_goals rfl
end Go.Proofs.YthbcbaembicdbaaGreatDoor
