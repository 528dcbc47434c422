import Derived.Test.YtiapgekjmcjjgaaGreatDoorV07u
set_option maxHeartbeats 4000000
set_option linter.unusedVariables false
set_option linter.unusedSimpArgs false
set_option maxRecDepth 1000000
namespace Go.Proofs.YtiapgekjmcjjgaaGreatDoor
open Go.Abs Go.RowKit
theorem wN {T:List aU} {n:ByteArray} {fuel:Int} {r nx:Nat} {rows:List cH} {F:List (Nat×bk)} (hT: ∀z∈rows,c6 T z) (ht:gE T≤400000000) (hY:T.length≤1000000000) (ho:rows.length≤256)
  (ha:0≤fuel) (hp:fuel≤2000000) (hr:0<r) (hq:r<nx) (hF:Go.Abs.dq nx [0,r] F):
  aw Tryz.prog 79 [.c (.ptr 0 0),S n] (jl r rows fuel F) nx (fm [I (ko n rows fuel).2.2]) (jl nx (ko n rows fuel).1 (ko n rows fuel).2.1 F) (nx+1):=by
 refine aw.ofZ ou (by simp) λ_=>aa ?_
 have o:0<nx:=by omega
 conv in bh _ _=>cbv
 unfold ko
 obtain⟨R,hR⟩: ∃R,R=cd (gi n) (rows.drop 0) [] fuel:=⟨_,rfl⟩
 have V:cd (gi n) rows [] fuel=R:=hR.symm
 rw[V]
 have HR:=Lib.hid hR
 clear hR V
 repeat' first|simp(disch:=omega)only[go_sem, *,aF,aN]|apply ab<;>intro h<;>try omega
 refine ci 0 0 156 4 [.nils,.pure (pI fuel)] (by simp(disch:=omega) [al,aF]) rfl (by decide) ?_
 refine yT r 156 4 (rows.map dF) (by simp(disch:=omega) [al,aj,aF]) ?_
 have hd:=hF.frz (n:=r) (rows:=rows.map dF) (.inl (by simp))
 refine PE (mem':=jl nx [] fuel F) (by simp(disch:=omega) [kJ,ub,gS,dJ,aF,hd]) ?_
 refine ai (λs:Nat×List cH=>⟨[(0,.c (.ptr 0 0)),(1,S n),(5,vk rows),(28,vk rows),(29,I rows.length),(30,I s.1)],jl nx s.2 fuel F,nx+1,nx⟩)
  (λs=>s.1≤rows.length∧(∀z∈s.2,c6 T z)∧s.2.length≤256∧Hid (R=cd (gi n) (rows.drop s.1) s.2 fuel)) (λs=>rows.length-s.1) ⟨(0, []), [],⟨Nat.zero_le _,by simp,by simp,HR⟩, ?_⟩ ?_
 ·refine au (by simp(disch:=omega) [aF,vm,nG,gS]) ?_ rfl (by simp;try omega) (by simp[eg];try omega)
  repeat' first|exact hF.wkA|refine av ?_ ?_ ?_ ?_ ?_|(simp(disch:=omega) [aF,vm,nG,gS]<;>omega)|omega
 clear HR
 rintro⟨k,acc⟩ ⟨hk,g,i,HR⟩
 simp only at hk g i HR
 refine aa ?_
 by_cases w:k<rows.length
 ·have g1:=ah (f:=dF) w
  have hz:=hT _ (List.getElem_mem w)
  have h2:=HR.out
  rw[List.drop_eq_getElem_cons w,rK]at h2
  have u:=Hu (n:=n) hz acc fuel g i
  clear HR
  generalize rows[k]=z at*
  obtain⟨⟨⟨K',l'⟩,q'⟩,b'⟩:=z
  simp only[dF]at g1
  have pc:=dt ((K',l'),q') n
  simp only at pc
  by_cases h0:cf l' n=0
  ·have hs:gi n (((K',l'),q'),b') acc fuel=((cE acc (((K',l'),q'),b')).1,fuel,(cE acc (((K',l'),q'),b')).2):=by rw[gi,if_pos h0]
   rw[hs]at h2 u
   rw[h0]at pc
   have pa:=jm (d:=(((K',l'),q'),b')) (fuel:=fuel) (r:=nx) (nx:=nx+2) (rows:=acc) (F:=(nx+1,.var (yP (((K',l'),q'),b')))::F) i (by omega) (by omega) (hO hF (by omega) (by omega) (by omega) rfl (.inr (Nat.le_refl _)) (by omega))
   clear hs h0
   generalize cE acc (((K',l'),q'),b')=A at*
   obtain⟨A,ae⟩:=A
   simp only at pa h2 u
   by_cases H:ae=0
   ·subst H
    rw[if_neg (by simp)]at h2
    have HR:=Lib.hid h2
    have hC:=u.all
    have hD:=u.len
    clear h2 u g
    simp only at hC hD
    repeat' first|simp(disch:=omega)only[go_sem, *,g1,aF,aN,wrap_i64]|apply ab<;>intro h<;>try omega|refine aq pc rfl rfl ?_|refine ap (pa.perm (λnm=>by first|rfl|(simp only[al,aj];done)|(simp only[al,aj];(repeat' split)<;>first|rfl|omega))) ?_
    refine⟨(k+1,A), [(nx,nx+2)],⟨w,hC,hD,HR⟩,by show _-_<_-_;omega, ?_⟩
    refine au (by simp(disch:=omega) [aF,o]) ?_ rfl (by simp;try omega) (by simp[eg];try omega)
    repeat' first|exact hF.wkA|refine av ?_ ?_ ?_ ?_ ?_|(simp(disch:=omega) [aF,o]<;>omega)|omega
   ·rw[if_pos H]at h2
    subst h2
    rw[if_pos H]
    clear u g
    repeat' first|simp(disch:=omega)only[go_sem, *,g1,aF,aN,wrap_i64,H]|apply ab<;>intro h<;>try omega|refine aq pc rfl rfl ?_|refine ap (pa.perm (λnm=>by first|rfl|(simp only[al,aj];done)|(simp only[al,aj];(repeat' split)<;>first|rfl|omega))) ?_
    refine⟨[], [(nx,nx+2)], ?_⟩
    simp(disch:=omega)only[go_sem,aQ,aF,aN]
    refine au (by simp(disch:=omega) [aF,o]) ?_ rfl (by simp;try omega) (by simp[eg];try omega)
    repeat' first|exact hF.wkA|refine av ?_ ?_ ?_ ?_ ?_|(simp(disch:=omega) [aF,o]<;>omega)|omega
  ·have hs:gi n (((K',l'),q'),b') acc fuel=(acc,fuel,0):=by rw[gi,if_neg h0]
   rw[hs]at h2
   rw[if_neg (by simp)]at h2
   have HR:=Lib.hid h2
   clear h2 hs u
   generalize cf l' n=d at*
   repeat' first|simp(disch:=omega)only[go_sem, *,g1,aF,aN,wrap_i64,h0]|apply ab<;>intro h<;>try omega|refine aq pc rfl rfl ?_
   refine⟨(k+1,acc), [],⟨w,g,i,HR⟩,by show _-_<_-_;omega, ?_⟩
   refine au (by simp(disch:=omega) [aF,o]) ?_ rfl (by simp;try omega) (by simp[eg];try omega)
   repeat' first|exact hF.wkA|refine av ?_ ?_ ?_ ?_ ?_|(simp(disch:=omega) [aF,o]<;>omega)|omega
 ·have h2:=HR.out
  rw[List.drop_eq_nil_of_le (by omega)]at h2
  simp only[cd]at h2
  subst h2
  rw[if_neg (by simp)]
  simp only
  clear HR
  obtain⟨R,hR⟩: ∃R,R=cd (λa=>cd (dx n a) rows) (rows.drop 0) acc fuel:=⟨_,rfl⟩
  have V:cd (λa=>cd (dx n a) rows) rows acc fuel=R:=hR.symm
  rw[V]
  have HR:=Lib.hid hR
  clear hR V
  repeat' first|simp(disch:=omega)only[go_sem, *,aF,aN]|apply ab<;>intro h<;>try omega
  clear hk w
  refine ai (λs:Nat×List cH×Int=>⟨[(0,.c (.ptr 0 0)),(1,S n),(5,vk rows),(46,vk rows),(47,I rows.length),(48,I s.1)],jl nx s.2.1 s.2.2 F,nx+1,nx⟩)
   (λs=>s.1≤rows.length∧(∀z∈s.2.1,c6 T z)∧s.2.1.length≤256∧0≤s.2.2∧s.2.2≤fuel∧Hid (R=cd (λa=>cd (dx n a) rows) (rows.drop s.1) s.2.1 s.2.2)) (λs=>rows.length-s.1) ⟨(0,acc,fuel), [],⟨Nat.zero_le _,g,i,ha,Int.le_refl _,HR⟩, ?_⟩ ?_
  ·refine au (by simp(disch:=omega) [aF,o]) ?_ rfl (by simp;try omega) (by simp[eg];try omega)
   repeat' first|exact hF.wkA|refine av ?_ ?_ ?_ ?_ ?_|(simp(disch:=omega) [aF,o]<;>omega)|omega
  clear HR g i
  rintro⟨k,acc,fu⟩ ⟨hk,g,i,p,G,HR⟩
  simp only at hk g i p G HR
  refine aa ?_
  by_cases w:k<rows.length
  ·have ga:=ah (f:=dF) w
   have Y:=hT _ (List.getElem_mem w)
   have h2:=HR.out
   rw[List.drop_eq_getElem_cons w,rK]at h2
   have hg:=Y.short
   clear HR
   generalize rows[k]=a at*
   obtain⟨⟨⟨Ka,la⟩,qa⟩,ba⟩:=a
   simp only[dF]at ga
   have pca:=dt ((Ka,la),qa) n
   have hh:am (cf la n):=DS Y.r64.1.2 n
   simp only at pca hg
   obtain⟨E,hE⟩: ∃E,E=cd (dx n (((Ka,la),qa),ba)) (rows.drop 0) acc fu:=⟨_,rfl⟩
   have hM:cd (dx n (((Ka,la),qa),ba)) rows acc fu=E:=hE.symm
   rw[hM]at h2
   have HE:=Lib.hid hE
   have HR:=Lib.hid h2
   clear hE hM h2
   repeat' first|simp(disch:=omega)only[go_sem, *,ga,aF,aN]|apply ab<;>intro h<;>try omega
   refine ai (λs:Nat×List cH×Int=>⟨[(0,.c (.ptr 0 0)),(1,S n),(5,vk rows),(10,.c (.ptr (nx+1) 0)),(46,vk rows),(47,I rows.length),(48,I k),(52,vk rows),(53,I rows.length),(54,I s.1)],(nx,.arr 156 4 (s.2.1.map dF))::(0,.var [.ref nx,.pure (pI s.2.2)])::(nx+1,.var (yP (((Ka,la),qa),ba)))::F,nx+2,nx⟩)
    (λs=>s.1≤rows.length∧(∀z∈s.2.1,c6 T z)∧s.2.1.length≤256∧0≤s.2.2∧s.2.2≤fuel∧Hid (E=cd (dx n (((Ka,la),qa),ba)) (rows.drop s.1) s.2.1 s.2.2)) (λs=>rows.length-s.1) ⟨(0,acc,fu), [],⟨Nat.zero_le _,g,i,p,G,HE⟩, ?_⟩ ?_
   ·refine au (by simp(disch:=omega) [aF,o]) ?_ rfl (by simp;try omega) (by simp[eg];try omega)
    repeat' first|exact hF.wkA|refine av ?_ ?_ ?_ ?_ ?_|(simp(disch:=omega) [aF,o]<;>omega)|omega
   clear HE g i p G
   rintro⟨j,acc,fu⟩ ⟨hj,g,i,p,G,HE⟩
   simp only at hj g i p G HE
   refine aa ?_
   by_cases P:j<rows.length
   ·have g1:=ah (f:=dF) P
    have hz:=hT _ (List.getElem_mem P)
    have h2:=HE.out
    rw[List.drop_eq_getElem_cons P,rK]at h2
    have u:=Gw (n:=n) Y hz acc fu g i
    have hi:=hz.short
    clear HE
    generalize rows[j]=z at*
    obtain⟨⟨⟨K',l'⟩,q'⟩,b'⟩:=z
    simp only[dF]at g1
    have pc:=dt ((K',l'),q') n
    have hc:am (cf l' n):=DS hz.r64.1.2 n
    simp only at pc hi
    have hP:dx n (((Ka,la),qa),ba) (((K',l'),q'),b') acc fu=if cf la n≤0∨0≤cf l' n then(acc,fu,0)else
     if(e9 (cf la n) (cf l' n)).2.2=false then(acc,fu,3)else
     ji (((Ka,la),qa),ba) (((K',l'),q'),b') (e9 (cf la n) (cf l' n)).1 (e9 (cf la n) (cf l' n)).2.1 acc fu:=rfl
    rw[hP]at h2 u
    clear hP
    have pk: ¬cf la n=0→_:= λh=>uC hh hc h
    have hG:am (e9 (cf la n) (cf l' n)).1:=yV _ _
    have hH:am (e9 (cf la n) (cf l' n)).2.1:=yV _ _
    generalize e9 (cf la n) (cf l' n)=X at*
    obtain⟨x,y,ok⟩:=X
    generalize cf la n=ca at*
    generalize cf l' n=cb at*
    simp only at h2 u hG hH pk
    by_cases h0:ca≤0∨0≤cb
    ·rw[if_pos h0,if_neg (by simp)]at h2
     have HE:=Lib.hid h2
     clear h2 u pk
     rcases h0 with h0|h0
     ·repeat' first|simp(disch:=omega)only[go_sem, *,g1,aF,aN,wrap_i64,h0]|apply ab<;>intro h<;>try omega|refine aq pca rfl rfl ?_|refine aq pc rfl rfl ?_
      all_goals
       refine⟨(j+1,acc,fu), [],⟨P,g,i,p,G,HE⟩,by show _-_<_-_;omega, ?_⟩
       refine au (by simp(disch:=omega) [aF,o]) ?_ rfl (by simp;try omega) (by simp[eg];try omega)
       repeat' first|exact hF.wkA|refine av ?_ ?_ ?_ ?_ ?_|(simp(disch:=omega) [aF,o]<;>omega)|omega
     ·repeat' first|simp(disch:=omega)only[go_sem, *,g1,aF,aN,wrap_i64,h0]|apply ab<;>intro h<;>try omega|refine aq pca rfl rfl ?_|refine aq pc rfl rfl ?_
      all_goals
       refine⟨(j+1,acc,fu), [],⟨P,g,i,p,G,HE⟩,by show _-_<_-_;omega, ?_⟩
       refine au (by simp(disch:=omega) [aF,o]) ?_ rfl (by simp;try omega) (by simp[eg];try omega)
       repeat' first|exact hF.wkA|refine av ?_ ?_ ?_ ?_ ?_|(simp(disch:=omega) [aF,o]<;>omega)|omega
    ·rw[if_neg h0]at h2 u
     have n1: ¬ca≤0:= λh=>h0 (.inl h)
     have n2: ¬0≤cb:= λh=>h0 (.inr h)
     have pk:=pk (by omega)
     clear h0
     cases ok
     ·rw[if_pos rfl,if_pos (by simp)]at h2
      subst h2
      have h3:=HR.out
      rw[if_pos (by simp)]at h3
      subst h3
      clear u g HR
      repeat' first|simp(disch:=omega)only[go_sem, *,g1,aF,aN,wrap_i64,n1,n2]|apply ab<;>intro h<;>try omega|refine aq pca rfl rfl ?_|refine aq pc rfl rfl ?_|refine aq pk rfl rfl ?_
      all_goals
       refine⟨[], [], ?_⟩
       simp(disch:=omega)only[go_sem,aQ,aF,aN]
       refine au (by simp(disch:=omega) [aF,o]) ?_ rfl (by simp;try omega) (by simp[eg];try omega)
       repeat' first|exact hF.wkA|refine av ?_ ?_ ?_ ?_ ?_|(simp(disch:=omega) [aF,o]<;>omega)|omega
     ·have hQ: ¬(true=false):=by simp
      rw[if_neg hQ]at h2 u
      clear hQ
      have W:ba.length=b'.length:=by rw[hz.len,Y.len]
      have hS:ba.length≤1000000000:=by rw[Y.len];exact hY
      have hI:=lT (a:=(((Ka,la),qa),ba)) (b:=(((K',l'),q'),b')) (x:=x) (y:=y) (fuel:=fu) (r:=nx) (nx:=nx+3) (rows:=acc) (F:=(nx+2,.var (yP (((K',l'),q'),b')))::(nx+1,.var (yP (((Ka,la),qa),ba)))::F)
       Y.r64 hz.r64 hG hH W hS (by simp only;omega) (by simp only;omega) p (by omega) (by omega) (by omega) (hO (N:=nx+2) (r:=nx) (hO hF (by omega) (by omega) (by omega) rfl (.inr (Nat.le_refl _)) (by omega)) (by omega) (by omega) (by omega) rfl (.inl rfl) (by omega))
      unfold ji at h2 u
      clear W hS hG hH
      generalize ei fu (((Ka,la),qa),ba) (((K',l'),q'),b') x y=M at*
      obtain⟨⟨⟨⟨Km,lm⟩,qm⟩,bm⟩,me⟩:=M
      simp only at h2 u
      by_cases hB:me=0
      ·subst hB
       have hl: ¬((0:Int)≠0):=by simp
       rw[if_neg hl]at h2 u
       simp only[O0,if_true]at hI
       have pa:=jm (d:=(((Km,lm),qm),bm)) (fuel:=fu-1) (r:=nx) (nx:=nx+4) (rows:=acc) (F:=(nx+3,.var (yP (((Km,lm),qm),bm)))::(nx+2,.var (yP (((K',l'),q'),b')))::(nx+1,.var (yP (((Ka,la),qa),ba)))::F) i (by omega) (by omega)
        (hO (N:=nx+3) (r:=nx) (hO (N:=nx+2) (r:=nx) (hO hF (by omega) (by omega) (by omega) rfl (.inr (Nat.le_refl _)) (by omega)) (by omega) (by omega) (by omega) rfl (.inl rfl) (by omega)) (by omega) (by omega) (by omega) rfl (.inl rfl) (by omega))
       generalize cE acc (((Km,lm),qm),bm)=A at*
       obtain⟨A,ae⟩:=A
       simp only at pa h2 u
       by_cases H:ae=0
       ·subst H
        rw[if_neg (by simp)]at h2
        have HE:=Lib.hid h2
        have hC:=u.all
        have hD:=u.len
        have hU:=u.pos rfl p
        clear h2 u g
        simp only at hC hD hU
        repeat' first|simp(disch:=omega)only[go_sem, *,g1,aF,aN,wrap_i64,n1,n2]|apply ab<;>intro h<;>try omega|refine aq pca rfl rfl ?_|refine aq pc rfl rfl ?_|refine aq pk rfl rfl ?_|refine ap (hI.perm (λnm=>by first|rfl|(simp only[al,aj];done)|(simp only[al,aj];(repeat' split)<;>first|rfl|omega))) ?_|refine ap (pa.perm (λnm=>by first|rfl|(simp only[al,aj];done)|(simp only[al,aj];(repeat' split)<;>first|rfl|omega))) ?_
        all_goals
         refine⟨(j+1,A,fu-1), [(nx,nx+4)],⟨P,hC,hD,hU,by simp only;omega,HE⟩,by show _-_<_-_;omega, ?_⟩
         refine au (by simp(disch:=omega) [aF,o]) ?_ rfl (by simp;try omega) (by simp[eg];try omega)
         repeat' first|exact hF.wkA|refine av ?_ ?_ ?_ ?_ ?_|(simp(disch:=omega) [aF,o]<;>omega)|omega
       ·rw[if_pos H]at h2
        subst h2
        have h3:=HR.out
        rw[if_pos H]at h3
        subst h3
        clear u g HR
        repeat' first|simp(disch:=omega)only[go_sem, *,g1,aF,aN,wrap_i64,n1,n2,H]|apply ab<;>intro h<;>try omega|refine aq pca rfl rfl ?_|refine aq pc rfl rfl ?_|refine aq pk rfl rfl ?_|refine ap (hI.perm (λnm=>by first|rfl|(simp only[al,aj];done)|(simp only[al,aj];(repeat' split)<;>first|rfl|omega))) ?_|refine ap (pa.perm (λnm=>by first|rfl|(simp only[al,aj];done)|(simp only[al,aj];(repeat' split)<;>first|rfl|omega))) ?_
        all_goals
         refine⟨[], [(nx,nx+4)], ?_⟩
         simp(disch:=omega)only[go_sem,aQ,aF,aN]
         refine au (by simp(disch:=omega) [aF,o]) ?_ rfl (by simp;try omega) (by simp[eg];try omega)
         repeat' first|exact hF.wkA|refine av ?_ ?_ ?_ ?_ ?_|(simp(disch:=omega) [aF,o]<;>omega)|omega
      ·rw[if_pos hB]at h2
       simp only at h2
       rw[if_pos hB]at h2
       subst h2
       have h3:=HR.out
       rw[if_pos hB]at h3
       subst h3
       clear u g HR
       simp only[O0,if_neg hB]at hI
       repeat' first|simp(disch:=omega)only[go_sem, *,g1,aF,aN,wrap_i64,n1,n2,hB]|apply ab<;>intro h<;>try omega|refine aq pca rfl rfl ?_|refine aq pc rfl rfl ?_|refine aq pk rfl rfl ?_|refine ap (hI.perm (λnm=>by first|rfl|(simp only[al,aj];done)|(simp only[al,aj];(repeat' split)<;>first|rfl|omega))) ?_
       all_goals
        refine⟨[], [], ?_⟩
        simp(disch:=omega)only[go_sem,aQ,aF,aN]
        refine au (by simp(disch:=omega) [aF,o]) ?_ rfl (by simp;try omega) (by simp[eg];try omega)
        repeat' first|exact hF.wkA|refine av ?_ ?_ ?_ ?_ ?_|(simp(disch:=omega) [aF,o]<;>omega)|omega
   ·have h2:=HE.out
    rw[List.drop_eq_nil_of_le (by omega)]at h2
    simp only[cd]at h2
    subst h2
    have h3:=HR.out
    rw[if_neg (by simp)]at h3
    have HR:=Lib.hid h3
    clear HE h3
    repeat' first|simp(disch:=omega)only[go_sem, *,aF,aN,wrap_i64]|apply ab<;>intro h<;>try omega
    refine⟨(k+1,acc,fu), [],⟨w,g,i,p,G,HR⟩,by show _-_<_-_;omega, ?_⟩
    refine au (by simp(disch:=omega) [aF,o]) ?_ rfl (by simp;try omega) (by simp[eg];try omega)
    repeat' first|exact hF.wkA|refine av ?_ ?_ ?_ ?_ ?_|(simp(disch:=omega) [aF,o]<;>omega)|omega
  ·have h2:=HR.out
   rw[List.drop_eq_nil_of_le (by omega)]at h2
   simp only[cd]at h2
   subst h2
   clear HR
   repeat' first|simp(disch:=omega)only[go_sem, *,aF,aN]|apply ab<;>intro h<;>try omega
   refine⟨[], [], ?_⟩
   simp(disch:=omega)only[go_sem,aQ,aF,aN]
   refine au (by simp(disch:=omega) [aF,o]) ?_ rfl (by simp;try omega) (by simp[eg];try omega)
   repeat' first|exact hF.wkA|refine av ?_ ?_ ?_ ?_ ?_|(simp(disch:=omega) [aF,o]<;>omega)|omega
set_option maxRecDepth 20000
set_option maxRecDepth 1000000
theorem iu: ∀{l m:List aU},gE (l++m)=gE l+gE m
 | [],m=>by simp[gE]
 |c::l,m=>by
  rw[List.cons_append,gE,gE,iu]
  omega
theorem ze: ∀{l acc t:List aU},fD acc l=(t,0)→gE t≤gE acc+gE l
 |[],acc,t,h=>by
  rw[fD]at h
  cases h
  exact Nat.le_add_right _ _
 |c::l,acc,t,h=>by
  rw[fD]at h
  split at h
  ·rename_i h0
   exact absurd (congrArg Prod.snd h) h0
  ·have h1:=ze h
   have h2:=Jz c
   rw[iu]at h1
   simp only[gE]at h1 ⊢
   omega
theorem uq {l t:List aU} (h:be l=(t,0)):gE t≤gE l:=by
 rw[be]at h
 split at h
 ·cases h
 ·have:=ze h
  simpa[gE]using this
theorem Fj {l:List aU} {c:aU} (h:c∈l):c.1.2.length≤gE l:=by
 induction l with
 |nil=>cases h
 |cons d l ih=>
  rw[gE]
  rcases List.mem_cons.1 h with rfl|h
  ·omega
  ·have:=ih h
   omega
theorem Je {l t:List aU} (h:be l=(t,0)):l.length≤256:=by
 rw[be]at h
 split at h
 ·cases h
 ·omega
theorem gP {l:List aU} {b:List Int} (J: ∀c∈l,br c) (hs:gE l≤400000000) (hb: ∀x∈b,am x):ac Tryz.prog 42 [bB l,iE b] (I (d4 l b)):=by
 refine ac.of mR (by simp) λ_=>aa ?_
 conv in bh _ _=>cbv
 have pt:=nz J (λc hc=>by have:=Fj hc;omega)
 unfold d4
 by_cases h0:(be l).2=0
 ·have ht:be l=((be l).1,0):=Prod.ext rfl h0
  have pc:=iY (l:=(be l).1) (b:=b) (λc hc=>(lg ht J c hc).2) hb (by have:=uq ht;omega)
  rw[if_neg (not_not_intro h0)]
  clear ht J hs
  generalize be l=X at*
  obtain⟨t,e⟩:=X
  simp only at h0 pc ⊢
  subst h0
  have pb:=fH (aD t b).1
  generalize aD t b=C at*
  obtain⟨⟨⟨K,m⟩,q⟩,ce⟩:=C
  simp only at pb ⊢
  by_cases hK:ce=0
  ·subst hK
   rw[if_neg (by simp)]
   by_cases Q:dM ((K,m),q)
   ·rw[if_pos Q]
    rw[decide_eq_true Q]at pb
    clear Q
    repeat' first|simp(disch:=omega)only[go_sem, *]|apply ab<;>intro h<;>try omega|refine aW pt rfl rfl ?_|refine aW pc rfl rfl ?_|refine aq pb rfl rfl ?_
    all_goals rfl
   ·rw[if_neg Q]
    rw[decide_eq_false Q]at pb
    clear Q
    repeat' first|simp(disch:=omega)only[go_sem, *]|apply ab<;>intro h<;>try omega|refine aW pt rfl rfl ?_|refine aW pc rfl rfl ?_|refine aq pb rfl rfl ?_
    all_goals rfl
  ·rw[if_pos hK]
   clear pb
   repeat' first|simp(disch:=omega)only[go_sem, *,hK]|apply ab<;>intro h<;>try omega|refine aW pt rfl rfl ?_|refine aW pc rfl rfl ?_
   all_goals rfl
 ·rw[if_pos h0]
  clear J hs
  generalize be l=X at*
  obtain⟨t,e⟩:=X
  simp only at h0 ⊢
  repeat' first|simp(disch:=omega)only[go_sem, *,h0]|apply ab<;>intro h<;>try omega|refine aW pt rfl rfl ?_
  all_goals rfl
theorem Jq {n k:Nat} {t:List aU} {rows:List cH} (h:k<t.length):fG n k (t.drop k) rows=if(cE rows (t[k],eZ n k)).2≠0 then([],(cE rows (t[k],eZ n k)).2)else fG n (k+1) (t.drop (k+1)) (cE rows (t[k],eZ n k)).1:=by
 rw[List.drop_eq_getElem_cons h,fG]
theorem M4 {n k:Nat}:((List.replicate n [pI 0]).set k [pI 1])=(eZ n k).map λx=> [pI x]:=by
 rw[eZ,List.map_set,List.map_replicate]
abbrev SH (x:List Int×Bool×Int):AV:= .tup [iE x.1,Go.Abs.B x.2.1,I x.2.2]
theorem Hx {T:List aU} {rows:List cH} (h: ∀z∈rows,c6 T z):(eL rows).length≤rows.length*gE T:=by
 induction rows with
 |nil=>simp[eL]
 |cons z rows ih=>
  have h1:=(h z List.mem_cons_self).short
  have h2:=ih λy hy=>h y (List.mem_cons_of_mem _ hy)
  simp only[eL,List.flatMap_cons,List.length_append,List.length_map,List.length_cons]at h2 ⊢
  rw[Nat.add_mul]
  omega
theorem su {l:List aU} {fuel:Int} (J: ∀c∈l,br c) (hs:gE l≤1000000) (hf:am fuel):ac Tryz.prog 38 [bB l,I fuel] (SH (fQ l fuel)):=by
 refine ac.of tR (by simp) λ_=>aa ?_
 conv in bh _ _=>cbv
 have pt:=nz J (λc hc=>by have:=Fj hc;omega)
 unfold fQ
 by_cases h0:(be l).2=0
 ·rw[if_neg (not_not_intro h0)]
  by_cases O:fuel<0∨1048576<fuel
  ·rw[if_pos O]
   clear J hs
   generalize be l=X at*
   obtain⟨t,e⟩:=X
   simp only at h0
   subst h0
   rcases O with O|O
   ·repeat' first|simp(disch:=omega)only[go_sem, *,O]|apply ab<;>intro h<;>try omega|refine aW pt rfl rfl ?_
    all_goals rfl
   ·repeat' first|simp(disch:=omega)only[go_sem, *,O]|apply ab<;>intro h<;>try omega|refine aW pt rfl rfl ?_
    all_goals rfl
  ·rw[if_neg O]
   have f1: ¬fuel<0:= λh=>O (.inl h)
   have f2: ¬fuel>1048576:= λh=>O (.inr h)
   clear O hf
   have ht:be l=((be l).1,0):=Prod.ext rfl h0
   have hT:=lg ht J
   have hn:=uq ht
   have hV:=Je ht
   have hW:=(j7 ht).1
   have pk:= λ(b:List Int) (hb: ∀x∈b,am x)=>gP (b:=b) J (by omega) hb
   generalize (be l).1=t at*
   rw[ht]at pt
   clear ht h0 J
   rw[←hW]at hV ⊢
   have W:(l.length:Int)=(t.length:Int):=by omega
   obtain⟨R,hR⟩: ∃R,R=fG t.length 0 (t.drop 0) []:=⟨_,rfl⟩
   have V:fG t.length 0 t []=R:=hR.symm
   rw[V]
   have HR:=Lib.hid hR
   clear hR V hW
   repeat' first|simp(disch:=omega)only[go_sem, *,f1,f2,W]|apply ab<;>intro h<;>try omega|refine aW pt rfl rfl ?_
   clear pt
   refine ci 0 0 156 4 [.nils,.pure (pI fuel)] rfl rfl (by decide) ?_
   refine ai (λs:Nat×List cH=>⟨[(0,bB l),(9,.c (.ptr 0 0)),(37,bB t),(38,I t.length),(39,I s.1)],jl 1 s.2 fuel [],2,0⟩)
    (λs=>s.1≤t.length∧(∀z∈s.2,c6 t z)∧s.2.length≤256∧Hid (R=fG t.length s.1 (t.drop s.1) s.2)) (λs=>t.length-s.1) ⟨(0, []), [],⟨Nat.zero_le _,by simp,by simp,HR⟩,by simp⟩ ?_
   clear HR
   rintro⟨k,acc⟩ ⟨hk,g,i,HR⟩
   simp only at hk g i HR
   refine aa ?_
   by_cases w:k<t.length
   ·have g1:=ah (f:=cP) w
    have h2:=HR.out
    rw[Jq w]at h2
    have hm:=c6.unit w hT
    clear HR
    generalize t[k]=c at*
    obtain⟨⟨K,m⟩,q⟩:=c
    simp only[cP]at g1
    have hJ:(List.replicate t.length [pI 0])[k]? =some [pI 0]:=by rw[List.getElem?_replicate,if_pos w]
    have pa:=jm (d:=(((K,m),q),eZ t.length k)) (fuel:=fuel) (r:=1) (nx:=4) (rows:=acc) (F:= [(2,.var [.pure (pI K),.pure (ay m),.pure (pB q)])]) i (by omega) (by omega) (by simp[Go.Abs.dq,pu,CM,iI])
    have pa':aw Tryz.prog 75 [.c (.ptr 0 0),.agg [.pure (pI K),.pure (ay m),.pure (pB q),.pure (.slice ((List.replicate t.length [pI 0]).set k [pI 1]))]] (jl 1 acc fuel [(2,.var [.pure (pI K),.pure (ay m),.pure (pB q)])]) 4
     (fm [I (cE acc (((K,m),q),eZ t.length k)).2]) (jl 4 (cE acc (((K,m),q),eZ t.length k)).1 fuel [(2,.var [.pure (pI K),.pure (ay m),.pure (pB q)])]) 5:=by rw[M4];exact pa
    clear pa
    obtain⟨a1,a2,a3,a4⟩:=oq (d:=(((K,m),q),eZ t.length k)) i
    generalize cE acc (((K,m),q),eZ t.length k)=A at*
    obtain⟨A,ae⟩:=A
    simp only at pa' h2 a1 a2 a3 a4
    by_cases H:ae=0
    ·subst H
     rw[if_neg (by simp)]at h2
     have HR:=Lib.hid h2
     have hA: ∀z∈A,c6 t z:= λz hz=>(a3 z hz).elim (λe=>e▸hm) (g z)
     clear h2 g a3 a4
     repeat' first|simp(disch:=omega)only[go_sem, *,g1,W,hJ,wrap_i64,List.length_replicate]|apply ab<;>intro h<;>try omega|refine C9 3 2 1 ((List.replicate t.length [pI 0]).set k [pI 1]) (by simp(disch:=omega)only[al,aj,aF,eq_self,↓reduceIte,Option.map_some]<;>rfl) (pa'.perm (by intro nm;first|(simp[St.frz,kJ,ub,gS,al,aj];done)|(simp only[St.frz,kJ,ub,gS,al,aj,List.map_cons,List.map_nil,↓reduceIte,Nat.reduceAdd,Nat.reduceEqDiff,reduceCtorEq];(repeat' split)<;>first|rfl|omega|simp_all))) ?_
     refine⟨(k+1,A), [(1,4)],⟨w,hA,a1,HR⟩,by show _-_<_-_;omega,by simp⟩
    ·rw[if_pos H]at h2
     subst h2
     rw[if_pos H]
     clear g a3 a4
     repeat' first|simp(disch:=omega)only[go_sem, *,g1,W,hJ,wrap_i64,List.length_replicate,H]|apply ab<;>intro h<;>try omega|refine C9 3 2 1 ((List.replicate t.length [pI 0]).set k [pI 1]) (by simp(disch:=omega)only[al,aj,aF,eq_self,↓reduceIte,Option.map_some]<;>rfl) (pa'.perm (by intro nm;first|(simp[St.frz,kJ,ub,gS,al,aj];done)|(simp only[St.frz,kJ,ub,gS,al,aj,List.map_cons,List.map_nil,↓reduceIte,Nat.reduceAdd,Nat.reduceEqDiff,reduceCtorEq];(repeat' split)<;>first|rfl|omega|simp_all))) ?_
     all_goals rfl
   ·have h2:=HR.out
    rw[List.drop_eq_nil_of_le (by omega),fG]at h2
    subst h2
    rw[if_neg (by simp)]
    clear HR
    obtain⟨R,hR⟩: ∃R,R=dh l (fuel.toNat*300+300) acc fuel:=⟨_,rfl⟩
    simp only
    rw[←hR]
    have HR:=Lib.hid hR
    clear hR
    repeat' first|simp(disch:=omega)only[go_sem, *,W]|apply ab<;>intro h<;>try omega
    clear hk w
    refine ai (λs:List cH×Int×Nat=>⟨[(0,bB l),(9,.c (.ptr 0 0))],jl 1 s.1 s.2.1 [],2,0⟩)
     (λs=>(∀z∈s.1,c6 t z)∧s.1.length≤256∧0≤s.2.1∧s.2.1≤fuel∧Tz s.1 s.2.1<s.2.2∧Hid (R=dh l s.2.2 s.1 s.2.1)) (λs=>Tz s.1 s.2.1) ⟨(acc,fuel,fuel.toNat*300+300), [],⟨g,i,by simp only;omega,by simp,by simp only[Tz];omega,HR⟩,by simp⟩ ?_
    clear HR g i
    rintro⟨rows,fu,N⟩ ⟨D,i,p,G,hN,HR⟩
    simp only at D i p G hN HR
    refine aa ?_
    have hF:Go.Abs.dq 2 [0,1] []:=trivial
    have pcd:=nW (fuel:=fu) (r:=1) (nx:=2) (F:= []) i (λz hz=>by rw[(D z hz).len];omega) (by omega) (by omega) hF
    have pch:=yt (fuel:=fu) (r:=1) (nx:=2) (F:= []) i (by have:=Hx D;have:rows.length*gE t≤256*gE t:=Nat.mul_le_mul_right _ i;omega) (by omega) (by omega) hF
    have h2:=HR.out
    obtain⟨N,rfl⟩: ∃M,N=M+1:=⟨N-1,by omega⟩
    rw[dh]at h2
    clear HR
    cases hb:dz rows with
    |some b=>
     rw[hb]at pcd h2
     simp only[BW]at pcd
     simp only at h2
     obtain⟨z,hz,_,hX⟩:=mG hb
     have pk:=pk b (by rw[←hX];exact(D z hz).r64.2)
     clear hb hz hX
     generalize d4 l b=ck at*
     by_cases hL:ck=0
     ·subst hL
      rw[if_neg (by simp)]at h2
      subst h2
      repeat' first|simp(disch:=omega)only[go_sem, *]|apply ab<;>intro h<;>try omega|refine ap pcd ?_|refine aq pk rfl rfl ?_
      all_goals rfl
     ·rw[if_pos hL]at h2
      subst h2
      repeat' first|simp(disch:=omega)only[go_sem, *,hL]|apply ab<;>intro h<;>try omega|refine ap pcd ?_|refine aq pk rfl rfl ?_
      all_goals rfl
    |none=>
     rw[hb]at pcd h2
     simp only[BW]at pcd
     simp only at h2
     clear hb pk
     by_cases hc:(cj rows).2.2=true
     ·rw[if_neg (by simp[hc])]at h2
      obtain⟨s1,s2⟩:=uM (fuel:=fu) D hc
      have s3:= λhe=>Ms (fuel:=fu) D i p hc he
      obtain⟨c1,c2,c3,c4⟩:=kT (rows:=rows) (N:=f5 rows) (vs:=f5 rows) (best:= -1) (name:= .empty) (λh=>(by omega)) (λv hv=>hv)
      have c2:0≤(cj rows).2.1→mW (cj rows).1 0 rows=some (cj rows).2.1.toNat:= λh=>(c2 h).2.1
      clear c1 c3 c4 s2
      have L:gW rows fu=if 0≤(cj rows).2.1 then tr (cj rows).1 (cj rows).2.1.toNat rows fu else ko (cj rows).1 rows fu:=rfl
      generalize cj rows=C at*
      obtain⟨name,eq,ok⟩:=C
      simp only at hc c2 L
      subst hc
      simp only[V3]at pch
      by_cases heq:0≤eq
      ·rw[if_pos heq]at L
       obtain⟨m1,m2,m3,m4⟩:=xh (c2 heq)
       simp only[Nat.sub_zero]at m1 m4
       have ps:=sR (n:=name) (e:=eq.toNat) (fuel:=fu) (r:=1) (nx:=2) (F:= []) D (by omega) (by omega) i m1 m4 p (by omega) (by omega) (by omega) hF
       rw[←L]at ps
       have he:((eq.toNat:Nat):Int)=eq:=Int.toNat_of_nonneg heq
       rw[he]at ps
       clear he m1 m2 m3 m4 c2 L
       generalize gW rows fu=Z at*
       obtain⟨rows',fu',e⟩:=Z
       simp only at ps s3 h2
       by_cases he:e=0
       ·subst he
        rw[if_neg (by simp)]at h2
        have HR:=Lib.hid h2
        have t1:=s1.all
        have t2:=s1.len
        have t3:=s1.le
        have t4:=s1.pos rfl p
        have t5:=s3 rfl
        clear h2 s1 s3
        simp only at t1 t2 t3 t4 t5
        repeat' first|simp(disch:=omega)only[go_sem, *,heq]|apply ab<;>intro h<;>try omega|refine ap pcd ?_|refine ap pch ?_|refine ap ps ?_
        refine⟨(rows',fu',N), [(1,2)],⟨t1,t2,t4,by simp only;omega,by simp only;omega,HR⟩,t5,by simp⟩
       ·rw[if_pos he]at h2
        subst h2
        clear s1 s3
        repeat' first|simp(disch:=omega)only[go_sem, *,heq,he]|apply ab<;>intro h<;>try omega|refine ap pcd ?_|refine ap pch ?_|refine ap ps ?_
        all_goals rfl
      ·rw[if_neg heq]at L
       have ps:=wN (n:=name) (fuel:=fu) (r:=1) (nx:=2) (F:= []) D (by omega) (by omega) i p (by omega) (by omega) (by omega) hF
       rw[←L]at ps
       clear c2 L
       generalize gW rows fu=Z at*
       obtain⟨rows',fu',e⟩:=Z
       simp only at ps s3 h2
       by_cases he:e=0
       ·subst he
        rw[if_neg (by simp)]at h2
        have HR:=Lib.hid h2
        have t1:=s1.all
        have t2:=s1.len
        have t3:=s1.le
        have t4:=s1.pos rfl p
        have t5:=s3 rfl
        clear h2 s1 s3
        simp only at t1 t2 t3 t4 t5
        repeat' first|simp(disch:=omega)only[go_sem, *,heq]|apply ab<;>intro h<;>try omega|refine ap pcd ?_|refine ap pch ?_|refine ap ps ?_
        refine⟨(rows',fu',N), [(1,2)],⟨t1,t2,t4,by simp only;omega,by simp only;omega,HR⟩,t5,by simp⟩
       ·rw[if_pos he]at h2
        subst h2
        clear s1 s3
        repeat' first|simp(disch:=omega)only[go_sem, *,heq,he]|apply ab<;>intro h<;>try omega|refine ap pcd ?_|refine ap pch ?_|refine ap ps ?_
        all_goals rfl
     ·rw[if_pos (by simpa using hc)]at h2
      subst h2
      have hc:(cj rows).2.2=false:=by simpa using hc
      generalize cj rows=C at*
      obtain⟨name,eq,ok⟩:=C
      simp only at hc
      subst hc
      simp only[V3]at pch
      repeat' first|simp(disch:=omega)only[go_sem, *]|apply ab<;>intro h<;>try omega|refine ap pcd ?_|refine ap pch ?_
      all_goals rfl
 ·rw[if_pos h0]
  clear J hs
  generalize be l=X at*
  obtain⟨t,e⟩:=X
  simp only at h0
  repeat' first|simp(disch:=omega)only[go_sem, *,h0]|apply ab<;>intro h<;>try omega|refine aW pt rfl rfl ?_
  all_goals rfl
