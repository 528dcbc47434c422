import Derived.Test.YtiapgekjmcjjgaaGreatDoorPlain07g
import Derived.Test.YtiapgekjmcjjgaaGreatDoorVSort
set_option maxHeartbeats 4000000
set_option linter.unusedVariables false
set_option linter.unusedSimpArgs false
set_option maxRecDepth 1000000
open Go.Proofs.Tryz renaming prog→Ya
namespace Go.Proofs.YtiapgekjmcjjgaaGreatDoor
open Go.Abs Go.RowKit
def bJ (forms:List bW):List ByteArray:=forms.flatMap λf=>f.2.map (·.1)
def lP (f:bW):List PC:= [pI f.1,ay f.2]
theorem JD (l:List (List UInt8)):bS (lr l)=l:=by
 rw[lr,bS,List.map_map]
 exact(List.map_congr_left (λs _=>by simp)).trans (List.map_id l)
theorem CH {forms:List bW} {k:Nat} (h:k<forms.length):bJ (forms.drop k)=forms[k].2.map (·.1)++bJ (forms.drop (k+1)):=by
 rw[List.drop_eq_getElem_cons h]
 rfl
theorem Cw {forms:List bW} (hl:(bJ forms).length≤1000000000):ac Ya 167 [i6 lP forms] (lO (vj (xl (bJ forms)))):=by
 refine ac.of Fp (by simp) λhb=>aa ?_
 have HT:forms.length≤9223372036854775807:=by simpa[qq,gw,gT]using hb
 clear hb
 conv in bh _ _=>cbv
 obtain⟨R,hR⟩: ∃R,R= []++bJ (forms.drop 0):=⟨_,rfl⟩
 have V:bJ forms=R:=hR.symm
 rw[V]at hl ⊢
 have HR:=Lib.hid hR
 clear hR V
 repeat' first|simp(disch:=omega)only[go_sem, *]|apply ab<;>intro h<;>try omega
 refine dv 3 9 1 rfl (by decide) ?_
 refine ai (λs:Nat×List ByteArray=>⟨[(3,.c (.ref 0)),(8,i6 lP forms),(9,I forms.length),(10,I s.1)], [(0,.arr 9 1 (cZ s.2))],1,0⟩) (λs=>s.1≤forms.length∧Hid (R=s.2++bJ (forms.drop s.1))) (λs=>forms.length-s.1) ⟨(0, []), [],⟨Nat.zero_le _,HR⟩,by simp⟩ ?_
 clear HR
 rintro⟨j,acc⟩ ⟨hj,HR⟩
 simp only at hj HR
 refine aa ?_
 by_cases C:j<forms.length
 ·have g1:=ah (f:=lP) C
  have h2:=HR.out
  rw[CH C]at h2
  clear HR
  generalize forms[j]=f at*
  obtain⟨K,l⟩:=f
  simp only[lP]at g1
  simp only at h2
  have HR:=Lib.hid h2
  clear h2
  repeat' first|simp(disch:=omega)only[go_sem, *,g1]|apply ab<;>intro h<;>try omega
  refine Kb 15 λhK=> ?_
  have hX:l.length≤9223372036854775807:=by simpa[aJ,gw,gT]using hK
  clear hK
  refine ai (λs:Nat×List ByteArray=>⟨[(3,.c (.ref 0)),(8,i6 lP forms),(9,I forms.length),(10,I j),(15,.c (.pure (ay l))),(16,I l.length),(17,I s.1)], [(0,.arr 9 1 (cZ s.2))],1,0⟩)
   (λs=>s.1≤l.length∧Hid (R=s.2++((l.drop s.1).map (·.1)++bJ (forms.drop (j+1))))) (λs=>l.length-s.1) ⟨(0,acc), [],⟨Nat.zero_le _,HR⟩,by simp⟩ ?_
  clear HR
  rintro⟨k,acc⟩ ⟨hk,HR⟩
  simp only at hk HR
  refine aa ?_
  by_cases ho:k<l.length
  ·have g2:=ah (f:=mP) ho
   have h2:=HR.out
   rw[List.drop_eq_getElem_cons ho]at h2
   clear HR
   generalize l[k]=m at*
   obtain⟨n,x⟩:=m
   simp only[mP]at g2
   have J:acc.length≤1000000000:=by rw[h2]at hl;simp at hl;omega
   have HR:Hid (R=(acc++ [n])++((l.drop (k+1)).map (·.1)++bJ (forms.drop (j+1)))):=Lib.hid (by rw[h2];simp)
   clear h2
   repeat' first|simp(disch:=omega)only[go_sem, *,g2,wrap_i64]|apply ab<;>intro h<;>try omega|refine aA rfl (by intro h;cases h) (an rfl) (by simp;omega) (by simp;omega) ?_
   exact⟨(k+1,acc++ [n]), [(0,2)],⟨ho,HR⟩,by show _-_<_-_;omega,by simp⟩
  ·have h2:=HR.out
   rw[List.drop_eq_nil_of_le (by omega)]at h2
   have HR:=Lib.hid h2
   clear h2
   repeat' first|simp(disch:=omega)only[go_sem, *,wrap_i64]|apply ab<;>intro h<;>try omega
   exact⟨(j+1,acc), [],⟨C,HR⟩,by show _-_<_-_;omega,by simp⟩
 ·have h2:=HR.out
  rw[List.drop_eq_nil_of_le (by omega)]at h2
  have h3:R=acc:=by rw[h2];simp[bJ]
  clear h2 HR
  subst h3
  repeat' first|simp(disch:=omega)only[go_sem, *]|apply ab<;>intro h<;>try omega|refine ap (SA rfl (by omega)) ?_|refine ap (MI rfl) ?_
set_option maxRecDepth 20000
set_option maxRecDepth 1000000
def ft (rows:List cH):List bW:=rows.map λr=>r.1.1
theorem Df:ft []= []:=rfl
theorem Jc (rows:List cH):vj (xl (bJ (ft rows)))=f5 rows:=by
 have e:bJ (ft rows)=eL rows:=by simp[bJ,ft,eL,List.flatMap_map]
 rw[e,vj,xl,JD]
 rfl
theorem A4 {fuel:Int} {r nx:Nat} {rows:List cH} {F:List (Nat×bk)} (hH:rows.length≤256) (hn:(eL rows).length≤1000000000) (hr:0<r) (u:r<nx) (hF:Go.Abs.dq nx [0,r] F):
  aw Ya 127 [.c (.ptr 0 0)] (jl r rows fuel F) nx (fm [lO (f5 rows)]) (jl r rows fuel F) nx:=by
 refine aw.ofZ qV (by simp) λ_=>aa ?_
 have e:bJ (ft rows)=eL rows:=by simp[bJ,ft,eL,List.flatMap_map]
 have pn:=Cw (forms:=ft rows) (by rw[e];exact hn)
 rw[Jc]at pn
 clear e hn
 conv in bh _ _=>cbv
 repeat' first|simp(disch:=omega)only[go_sem, *,aF,aN]|apply ab<;>intro h<;>try omega
 refine dv 3 51 2 rfl (by decide) ?_
 refine ai (λk:Nat=>⟨[(3,.c (.ref nx)),(9,.c (.ref r)),(10,I rows.length),(11,I k)],(nx,.arr 51 2 ((ft (rows.take k)).map lP))::jl r rows fuel F,nx+1,nx⟩) (λk=>k≤rows.length) (λk=>rows.length-k) ⟨0, [],Nat.zero_le _, ?_⟩ ?_
 ·have t:r<nx+1:=by omega
  refine au (by simp(disch:=omega) [aF,t,Df]) ?_ rfl (by simp;try omega) (by simp[eg];try omega)
  repeat' first|exact hF.wkA|refine av ?_ ?_ ?_ ?_ ?_|(simp(disch:=omega) [aF,t,Df]<;>omega)|omega
 intro k hk
 refine aa ?_
 have HG:=hF.del (n:=nx) (.inr (by omega))
 have t:r<nx+1:=by omega
 by_cases C:k<rows.length
 ·have g1:=ah (f:=dF) C
  have et:(ft (rows.take (k+1))).map lP=(ft (rows.take k)).map lP++ [lP rows[k].1.1]:=by
   rw[List.take_succ_eq_append_getElem C,ft,List.map_append,List.map_append]
   rfl
  have hh:((ft (rows.take k)).map lP).length≤256:=by simp[ft];omega
  generalize (ft (rows.take k)).map lP=D at*
  generalize rows[k]=z at*
  obtain⟨⟨⟨K',l'⟩,q'⟩,b'⟩:=z
  simp only[dF]at g1
  simp only[lP]at et
  repeat' first|simp(disch:=omega)only[go_sem, *,g1,aF,aN,HG,wrap_i64]|apply ab<;>intro h<;>try omega|refine aA (by simp(disch:=omega)only[al,aj,aF,eq_self,↓reduceIte,Option.map_some]<;>rfl) (by intro h;cases h) (an rfl) (by simp;omega) (by simp;omega) ?_
  refine⟨k+1, [(nx,nx+2)],C,by omega, ?_⟩
  refine au (by simp(disch:=omega) [aF,et,t]) ?_ rfl (by simp;try omega) (by simp[eg];try omega)
  repeat' first|exact hF.wkA|refine av ?_ ?_ ?_ ?_ ?_|(simp(disch:=omega) [aF,et,t]<;>omega)|omega
 ·obtain rfl:k=rows.length:=by omega
  rw[List.take_of_length_le (Nat.le_refl _)]
  have hu:=hF.frz (n:=nx) (rows:=(ft rows).map lP) (.inr (by omega))
  repeat' first|simp(disch:=omega)only[go_sem, *,aF,aN]|apply ab<;>intro h<;>try omega|refine Gn nx 51 2 ((ft rows).map lP) pn (by simp(disch:=omega)only[al,aj,aF,eq_self,↓reduceIte,Option.map_some]<;>rfl) (by simp[nG,gS,bN,dQ,ti,ee,dX]) (.inr (by simp[nG,gS,gA,tX,ja])) ?_
  refine⟨[], [], ?_⟩
  simp(disch:=omega)only[go_sem,aQ,aF,aN,hu]
  refine au (by simp(disch:=omega) [aF]) ?_ rfl (by simp;try omega) (by simp[eg];try omega)
  repeat' first|exact hF.wkA|refine av ?_ ?_ ?_ ?_ ?_|(simp(disch:=omega) [aF]<;>omega)|omega
theorem Ii {rows:List cH} {k:Nat} (h:k<rows.length):dz (rows.drop k)=if dM rows[k].1 then some rows[k].2 else dz (rows.drop (k+1)):=by
 rw[List.drop_eq_getElem_cons h,dz]
theorem ar {α:Type} {f:α→List PC} {sz:Nat} {xs:List α} (h: ∀x,(f x).length=sz):aK sz (xs.map f):=by
 intro r hr
 obtain⟨x,_,rfl⟩:=List.mem_map.1 hr
 exact h x
theorem mD {xs:List Int} (hl:xs.length≤1000000000):ac Ya 43 [iE xs] (iE xs):=by
 refine ac.of kL (by simp) λ_=>aa ?_
 conv in bh _ _=>cbv
 have h8:aK 1 (xs.map λn=> [pI n]):=ar λ_=>rfl
 cases xs with
 |nil=>
  repeat' first|simp(disch:=omega)only[go_sem, *]|apply ab<;>intro h<;>try omega|apply af|(with_reducible refine ag (λh=> ?_) ?_)|refine cN (by intro r hr;cases hr) h8 (by simp) (by simp) ?_
  all_goals rfl
 |cons x r=>
  have HW:r.length≤999999999:=by simpa using hl
  repeat' first|simp(disch:=omega)only[go_sem, *]|apply ab<;>intro h<;>try omega|apply af|(with_reducible refine ag (λh=> ?_) ?_)|refine cN (by intro r hr;cases hr) h8 (by simp;omega) (by simp;omega) ?_
  all_goals rfl
def BW:Option (List Int)→List AV
 |none=> [.c .nils,Go.Abs.B false]
 |some b=> [iE b,Go.Abs.B true]
theorem nW {fuel:Int} {r nx:Nat} {rows:List cH} {F:List (Nat×bk)} (hH:rows.length≤256) (hh: ∀z∈rows,z.2.length≤1000000000) (hr:0<r) (u:r<nx) (hF:Go.Abs.dq nx [0,r] F):
  aw Ya 76 [.c (.ptr 0 0)] (jl r rows fuel F) nx (fm (BW (dz rows))) (jl r rows fuel F) nx:=by
 refine aw.ofZ kk (by simp) λ_=>aa ?_
 conv in bh _ _=>cbv
 obtain⟨R,hR⟩: ∃R,R=dz (rows.drop 0):=⟨_,rfl⟩
 have V:dz rows=R:=hR.symm
 rw[V]
 have HR:=Lib.hid hR
 clear hR V
 repeat' first|simp(disch:=omega)only[go_sem, *,aF,aN]|apply ab<;>intro h<;>try omega
 refine ai (λk:Nat=>⟨[(9,.c (.ref r)),(10,I rows.length),(11,I k)],jl r rows fuel F,nx,nx⟩) (λk=>k≤rows.length∧Hid (R=dz (rows.drop k))) (λk=>rows.length-k) ⟨0, [],⟨Nat.zero_le _,HR⟩, ?_⟩ ?_
 ·refine au (by simp(disch:=omega) [aF,u]) ?_ rfl (by simp;try omega) (by simp[eg];try omega)
  repeat' first|exact hF.wkA|refine av ?_ ?_ ?_ ?_ ?_|(simp(disch:=omega) [aF,u]<;>omega)|omega
 clear HR
 rintro k ⟨hk,HR⟩
 refine aa ?_
 have t:r<nx+1:=by omega
 by_cases C:k<rows.length
 ·have g1:=ah (f:=dF) C
  have h2:=HR.out
  rw[Ii C]at h2
  have HI:=hh _ (List.getElem_mem C)
  clear HR
  generalize rows[k]=z at*
  obtain⟨⟨⟨K',l'⟩,q'⟩,b'⟩:=z
  have pc:=fH ((K',l'),q')
  have pl:=mD HI
  simp only[dF]at g1
  simp only at h2
  by_cases hb:dM ((K',l'),q')
  ·rw[if_pos hb]at h2
   subst h2
   rw[decide_eq_true hb]at pc
   clear hb
   simp only[BW]
   repeat' first|simp(disch:=omega)only[go_sem, *,g1,aF,aN]|apply ab<;>intro h<;>try omega|refine aq pc rfl rfl ?_|refine aW pl rfl rfl ?_
   refine⟨[], [], ?_⟩
   simp(disch:=omega)only[go_sem,aQ,aF,aN,BW]
   refine au (by simp(disch:=omega) [aF,t,u]) ?_ rfl (by simp;try omega) (by simp[eg];try omega)
   repeat' first|exact hF.wkA|refine av ?_ ?_ ?_ ?_ ?_|(simp(disch:=omega) [aF,t,u]<;>omega)|omega
  ·rw[if_neg hb]at h2
   rw[decide_eq_false hb]at pc
   have HR:=Lib.hid h2
   clear h2 hb pl
   repeat' first|simp(disch:=omega)only[go_sem, *,g1,aF,aN,wrap_i64]|apply ab<;>intro h<;>try omega|refine aq pc rfl rfl ?_
   refine⟨k+1, [],⟨C,HR⟩,by omega, ?_⟩
   refine au (by simp(disch:=omega) [aF,t,u]) ?_ rfl (by simp;try omega) (by simp[eg];try omega)
   repeat' first|exact hF.wkA|refine av ?_ ?_ ?_ ?_ ?_|(simp(disch:=omega) [aF,t,u]<;>omega)|omega
 ·have h2:=HR.out
  rw[List.drop_eq_nil_of_le (by omega),dz]at h2
  subst h2
  clear HR
  simp only[BW]
  repeat' first|simp(disch:=omega)only[go_sem, *,aF,aN]|apply ab<;>intro h<;>try omega
  refine⟨[], [], ?_⟩
  simp(disch:=omega)only[go_sem,aQ,aF,aN,BW]
  refine au (by simp(disch:=omega) [aF,t,u]) ?_ rfl (by simp;try omega) (by simp[eg];try omega)
  repeat' first|exact hF.wkA|refine av ?_ ?_ ?_ ?_ ?_|(simp(disch:=omega) [aF,t,u]<;>omega)|omega
theorem LX {n:ByteArray} {rows:List cH} {k:Nat} (h:k<rows.length):mW n k (rows.drop k)=if cf rows[k].1.1.2 n≠0∧rows[k].1.2=true then some k else mW n (k+1) (rows.drop (k+1)):=by
 rw[List.drop_eq_getElem_cons h,mW]
theorem MP {n:ByteArray} {rows:List cH} {k:Nat} (h:k<rows.length):qu n (rows.take (k+1))=qu n (rows.take k)+if 0<cf rows[k].1.1.2 n then 1 else 0:=by
 rw[List.take_succ_eq_append_getElem h,qu,List.filter_append,List.length_append,←qu]
 congr 1
 by_cases h0:0<cf rows[k].1.1.2 n<;>simp[h0]
theorem Oo {n:ByteArray} {rows:List cH} {k:Nat} (h:k<rows.length):Hd n (rows.take (k+1))=Hd n (rows.take k)+if cf rows[k].1.1.2 n<0 then 1 else 0:=by
 rw[List.take_succ_eq_append_getElem h,Hd,List.filter_append,List.length_append,←Hd]
 congr 1
 by_cases h0:cf rows[k].1.1.2 n<0<;>simp[h0]
theorem It (n:ByteArray) (rows:List cH):qu n rows≤rows.length:=List.length_filter_le _ _
theorem LA (n:ByteArray) (rows:List cH):Hd n rows≤rows.length:=List.length_filter_le _ _
abbrev V3 (x:ByteArray×Int×Bool):List AV:= [S x.1,I x.2.1,Go.Abs.B x.2.2]
theorem yt {fuel:Int} {r nx:Nat} {rows:List cH} {F:List (Nat×bk)} (hH:rows.length≤256) (hn:(eL rows).length≤1000000000) (hr:0<r) (u:r<nx) (hF:Go.Abs.dq nx [0,r] F):
  aw Ya 77 [.c (.ptr 0 0)] (jl r rows fuel F) nx (fm (V3 (cj rows))) (jl r rows fuel F) nx:=by
 refine aw.ofZ pX (by simp) λ_=>aa ?_
 have pn:=A4 (fuel:=fuel) hH hn hr u hF
 conv in bh _ _=>cbv
 unfold cj
 generalize f5 rows=ns at*
 have t:r<nx+1:=by omega
 have o:0<nx:=by omega
 have H:(⟨⟨[]⟩⟩:ByteArray)=ByteArray.empty:=rfl
 obtain⟨R,hR⟩: ∃R,R=cK rows (ns.drop 0) (-1) .empty:=⟨_,rfl⟩
 have V:cK rows ns (-1) .empty=R:=hR.symm
 rw[V]
 have HR:=Lib.hid hR
 clear hR V hn
 repeat' first|simp(disch:=omega)only[go_sem, *,aF,aN]|apply ab<;>intro h<;>try omega|refine ap pn ?_
 refine Kb 16 λhK=> ?_
 have HY:ns.length≤9223372036854775807:=by simpa[aJ,gw,gT]using hK
 clear hK pn
 refine ai (λs:Nat×Int×ByteArray=>⟨[(0,.c (.ptr 0 0)),(5,I s.2.1),(6,S s.2.2),(7,I (-1)),(16,lO ns),(17,I ns.length),(18,I s.1)],jl r rows fuel F,nx,nx⟩)
  (λs=>s.1≤ns.length∧ -1≤s.2.1∧s.2.1≤65536∧Hid (R=cK rows (ns.drop s.1) s.2.1 s.2.2)) (λs=>ns.length-s.1) ⟨(0,-1,.empty), [],⟨Nat.zero_le _,by simp,by simp,HR⟩, ?_⟩ ?_
 ·refine au (by simp(disch:=omega) [aF,t,u,o,H]) ?_ rfl (by simp;try omega) (by simp[eg];try omega)
  repeat' first|exact hF.wkA|refine av ?_ ?_ ?_ ?_ ?_|(simp(disch:=omega) [aF,t,u,o,H]<;>omega)|omega
 clear HR
 rintro⟨j,best,name⟩ ⟨hj,h9,HA,HR⟩
 simp only at hj h9 HA HR
 refine aa ?_
 by_cases C:j<ns.length
 ·have g1:=ah (f:= λs=> [pS s]) C
  have h2:=HR.out
  rw[List.drop_eq_getElem_cons C,cK]at h2
  clear HR
  generalize ns[j]=v at*
  obtain⟨E,hE⟩: ∃E,E=mW v 0 (rows.drop 0):=⟨_,rfl⟩
  have HB:mW v 0 rows=E:=hE.symm
  rw[HB]at h2
  have HE:=Lib.hid hE
  have HR:=Lib.hid h2
  clear hE HB h2
  repeat' first|simp(disch:=omega)only[go_sem, *,g1,aF,aN]|apply ab<;>intro h<;>try omega
  refine ai (λi:Nat=>⟨[(0,.c (.ptr 0 0)),(5,I best),(6,S name),(7,I (-1)),(9,S v),(10,I (qu v (rows.take i))),(11,I (Hd v (rows.take i))),(16,lO ns),(17,I ns.length),(18,I j),(25,.c (.ref r)),(26,I rows.length),(27,I i)],jl r rows fuel F,nx,nx⟩)
   (λi=>i≤rows.length∧Hid (E=mW v i (rows.drop i))) (λi=>rows.length-i) ⟨0, [],⟨Nat.zero_le _,HE⟩, ?_⟩ ?_
  ·refine au (by simp(disch:=omega) [aF,t,u,o,qu,Hd]) ?_ rfl (by simp;try omega) (by simp[eg];try omega)
   repeat' first|exact hF.wkA|refine av ?_ ?_ ?_ ?_ ?_|(simp(disch:=omega) [aF,t,u,o,qu,Hd]<;>omega)|omega
  clear HE
  rintro i ⟨hi,HE⟩
  refine aa ?_
  by_cases hB:i<rows.length
  ·have g2:=ah (f:=dF) hB
   have W:=MP (n:=v) hB
   have Y:=Oo (n:=v) hB
   have l1:=It v (rows.take i)
   have l2:=LA v (rows.take i)
   have h2:=HE.out
   rw[LX hB]at h2
   rw[List.length_take]at l1 l2
   clear HE
   generalize qu v (rows.take i)=L at*
   generalize Hd v (rows.take i)=U' at*
   generalize rows[i]=z at*
   obtain⟨⟨⟨K',l'⟩,q'⟩,b'⟩:=z
   have pc:=dt ((K',l'),q') v
   simp only[dF]at g2
   simp only at h2 pc W Y
   generalize cf l' v=c at*
   by_cases h0:c=0
   ·subst h0
    rw[if_neg (by simp)]at h2
    rw[if_neg (by simp),Nat.add_zero]at W Y
    have HE:=Lib.hid h2
    clear h2
    repeat' first|simp(disch:=omega)only[go_sem, *,g2,aF,aN,wrap_i64]|apply ab<;>intro h<;>try omega|refine aq pc rfl rfl ?_
    refine⟨i+1, [],⟨hB,HE⟩,by omega, ?_⟩
    refine au (by simp(disch:=omega) [aF,W,Y,t,u,o]) ?_ rfl (by simp;try omega) (by simp[eg];try omega)
    repeat' first|exact hF.wkA|refine av ?_ ?_ ?_ ?_ ?_|(simp(disch:=omega) [aF,W,Y,t,u,o]<;>omega)|omega
   ·cases q'
    ·rw[if_neg (by simp)]at h2
     have HE:=Lib.hid h2
     clear h2
     by_cases hp:0<c
     ·have hn: ¬c<0:=by omega
      rw[if_pos hp]at W
      rw[if_neg hn,Nat.add_zero]at Y
      repeat' first|simp(disch:=omega)only[go_sem, *,g2,aF,aN,wrap_i64,h0,hp,hn]|apply ab<;>intro h<;>try omega|refine aq pc rfl rfl ?_
      refine⟨i+1, [],⟨hB,HE⟩,by omega, ?_⟩
      refine au (by simp(disch:=omega) [aF,W,Y,t,u,o]) ?_ rfl (by simp;try omega) (by simp[eg];try omega)
      repeat' first|exact hF.wkA|refine av ?_ ?_ ?_ ?_ ?_|(simp(disch:=omega) [aF,W,Y,t,u,o]<;>omega)|omega
     ·have hn:c<0:=by omega
      rw[if_neg hp,Nat.add_zero]at W
      rw[if_pos hn]at Y
      repeat' first|simp(disch:=omega)only[go_sem, *,g2,aF,aN,wrap_i64,h0,hp,hn]|apply ab<;>intro h<;>try omega|refine aq pc rfl rfl ?_
      refine⟨i+1, [],⟨hB,HE⟩,by omega, ?_⟩
      refine au (by simp(disch:=omega) [aF,W,Y,t,u,o]) ?_ rfl (by simp;try omega) (by simp[eg];try omega)
      repeat' first|exact hF.wkA|refine av ?_ ?_ ?_ ?_ ?_|(simp(disch:=omega) [aF,W,Y,t,u,o]<;>omega)|omega
    ·rw[if_pos ⟨h0,rfl⟩]at h2
     subst h2
     have h3:=HR.out
     simp only at h3
     subst h3
     clear HR W Y
     repeat' first|simp(disch:=omega)only[go_sem, *,g2,aF,aN,wrap_i64,h0]|apply ab<;>intro h<;>try omega|refine aq pc rfl rfl ?_
     refine⟨[], [], ?_⟩
     simp(disch:=omega)only[go_sem,aQ,aF,aN]
     refine au (by simp(disch:=omega) [aF,t,u,o,H]) ?_ rfl (by simp;try omega) (by simp[eg];try omega)
     repeat' first|exact hF.wkA|refine av ?_ ?_ ?_ ?_ ?_|(simp(disch:=omega) [aF,t,u,o,H]<;>omega)|omega
  ·obtain rfl:i=rows.length:=by omega
   have h2:=HE.out
   rw[List.drop_eq_nil_of_le (by omega),mW]at h2
   subst h2
   have h3:=HR.out
   simp only at h3
   rw[List.take_of_length_le (Nat.le_refl _)]
   have l1:=It v rows
   have l2:=LA v rows
   clear HR HE
   generalize qu v rows=L at*
   generalize Hd v rows=U' at*
   have hm:L*U'≤65536:=Nat.le_trans (Nat.mul_le_mul (Nat.le_trans l1 hH) (Nat.le_trans l2 hH)) (by decide)
   have hY:(L:Int)*(U':Int)=((L*U':Nat):Int):=by simp
   rw[←hY]at h3
   have hv:0≤(L:Int)*(U':Int):=by rw[hY];omega
   have hA:(L:Int)*(U':Int)≤65536:=by rw[hY];omega
   obtain⟨M,hM⟩: ∃M,M=(L:Int)*(U':Int):=⟨_,rfl⟩
   rw[←hM]at h3 hv hA
   have hw:IntKind.wrap .i64 ((L:Int)*(U':Int))=M:=by rw[←hM];exact wrap_i64 ⟨by omega,by omega⟩
   clear hm hY l1 l2 hM
   by_cases hb:best<0∨M<best
   ·rw[if_pos hb]at h3
    have HR:=Lib.hid h3
    clear h3
    rcases hb with hb|hb
    ·repeat' first|simp(disch:=omega)only[go_sem, *,aF,aN,hw,hb,wrap_i64]|apply ab<;>intro h<;>try omega
     refine⟨(j+1,M,v), [],⟨C,by simp only;omega,hA,HR⟩,by show _-_<_-_;omega, ?_⟩
     refine au (by simp(disch:=omega) [aF,t,u,o,H]) ?_ rfl (by simp;try omega) (by simp[eg];try omega)
     repeat' first|exact hF.wkA|refine av ?_ ?_ ?_ ?_ ?_|(simp(disch:=omega) [aF,t,u,o,H]<;>omega)|omega
    ·repeat' first|simp(disch:=omega)only[go_sem, *,aF,aN,hw,hb,wrap_i64]|apply ab<;>intro h<;>try omega
     refine⟨(j+1,M,v), [],⟨C,by simp only;omega,hA,HR⟩,by show _-_<_-_;omega, ?_⟩
     refine au (by simp(disch:=omega) [aF,t,u,o,H]) ?_ rfl (by simp;try omega) (by simp[eg];try omega)
     repeat' first|exact hF.wkA|refine av ?_ ?_ ?_ ?_ ?_|(simp(disch:=omega) [aF,t,u,o,H]<;>omega)|omega
   ·rw[if_neg hb]at h3
    have HR:=Lib.hid h3
    clear h3
    have n1: ¬best<0:=by omega
    have n2: ¬M<best:=by omega
    clear hb
    repeat' first|simp(disch:=omega)only[go_sem, *,aF,aN,hw,n1,n2,wrap_i64]|apply ab<;>intro h<;>try omega
    refine⟨(j+1,best,name), [],⟨C,h9,HA,HR⟩,by show _-_<_-_;omega, ?_⟩
    refine au (by simp(disch:=omega) [aF,t,u,o,H]) ?_ rfl (by simp;try omega) (by simp[eg];try omega)
    repeat' first|exact hF.wkA|refine av ?_ ?_ ?_ ?_ ?_|(simp(disch:=omega) [aF,t,u,o,H]<;>omega)|omega
 ·have h2:=HR.out
  rw[List.drop_eq_nil_of_le (by omega),cK]at h2
  subst h2
  clear HR
  repeat' first|simp(disch:=omega)only[go_sem, *,aF,aN]|apply ab<;>intro h<;>try omega
  refine⟨[], [], ?_⟩
  simp(disch:=omega)only[go_sem,aQ,aF,aN]
  refine au (by simp(disch:=omega) [aF,t,u,o,H]) ?_ rfl (by simp;try omega) (by simp[eg];try omega)
  repeat' first|exact hF.wkA|refine av ?_ ?_ ?_ ?_ ?_|(simp(disch:=omega) [aF,t,u,o,H]<;>omega)|omega
set_option maxRecDepth 20000
set_option maxRecDepth 1000000
theorem GH {α:Type} [DecidableEq α]: ∀{l m:List α},l.Nodup→(∀x∈l,x∈m)→l.length≤m.length
 | [],m,_,_=>Nat.zero_le _
 |x::l,m,h,hs=>by
  obtain⟨h1,h2⟩:=List.nodup_cons.1 h
  have hx:=hs x List.mem_cons_self
  have h3:=GH (l:=l) (m:=m.erase x) h2 λy hy=>(List.mem_erase_of_ne (λe=>by subst e;exact h1 hy)).2 (hs y (List.mem_cons_of_mem _ hy))
  have h4:=List.length_erase_of_mem hx
  have h5:=List.length_pos_of_mem hx
  simp only[List.length_cons]
  omega
theorem K4 {n:ByteArray}: ∀{l:List (aU×Int)},iV n l≠0→ ∃p∈l,cf p.1.1.2 n≠0
 | [],h=>absurd rfl h
 |p::r,h=>by
  by_cases h0:cf p.1.1.2 n=0
  ·rw[iV,h0,Int.zero_mul,Int.zero_add]at h
   obtain⟨q,hq,h1⟩:=K4 h
   exact⟨q,List.mem_cons_of_mem _ hq,h1⟩
  ·exact⟨p,List.mem_cons_self,h0⟩
theorem Hv: ∀{l:List aU},(l.flatMap λc=>c.1.2.map (·.1)).length=gE l
 | []=>rfl
 |c::l=>by rw[List.flatMap_cons,List.length_append,Hv,List.length_map,gE]
theorem c6.short {T:List aU} {r:cH} (h:c6 T r):r.1.1.2.length≤gE T:=by
 obtain⟨h1,h2⟩:=bD.1 h.lin
 have hn:(r.1.1.2.map (·.1)).Nodup:=by
  refine List.pairwise_map.2 (h1.imp λ{a b} HC e=> ?_)
  rw[e]at HC
  exact eh _ HC
 have:=GH hn (m:=T.flatMap λc=>c.1.2.map (·.1)) λx hx=>by
  obtain⟨m,hm,rfl⟩:=List.mem_map.1 hx
  have hc:iV m.1 (T.zip r.2)≠0:=by
   rw[←h.c,uj h1 hm]
   exact(h2 m hm).2
  obtain⟨p,hp,h0⟩:=K4 hc
  obtain⟨z,hz,h3,_⟩:=Sj h0
  exact List.mem_flatMap.2 ⟨p.1,(List.of_mem_zip hp).1,List.mem_map.2 ⟨z,hz,h3⟩⟩
 rw[Hv,List.length_map]at this
 exact this
theorem hO {N N' a r r':Nat} {b:bk} {F:List (Nat×bk)} (h:Go.Abs.dq N [0,r] F) (h0:0<a) (ha:N≤a) (HK:a<N') (hb:pu b=true) (hr:r'=r∨N≤r') (HZ:a≠r'):Go.Abs.dq N' [0,r'] ((a,b)::F):=by
 refine⟨HK,hb,dB.2 λm hm=> ?_,h.mono (by omega) λn hn h'=>dB.2 λm hm=> ?_⟩
 ·simp only[List.mem_cons,List.not_mem_nil,or_false]at hm
  omega
 ·have h1:=dB.1 h' 0 (by simp)
  have h2:=dB.1 h' r (by simp)
  simp only[List.mem_cons,List.not_mem_nil,or_false]at hm
  omega
theorem yT (nm e sz:Nat) (rows:List (List PC)) {P:Program} {nt:Nat} {c:bi} {σ:St} {Q:bP→St→Prop} (hf:al σ.mem nm=some (.arr e sz rows)) (h:AW P nt c ⟨vm nm rows σ.fr,kJ nm rows σ.mem,σ.nx,σ.base⟩ Q):AW P nt c σ Q:=
 qZ [nm] (by rw[aQ,hf];exact h)
theorem PE {mem':List (Nat×bk)} {P:Program} {nt:Nat} {c:bi} {σ:St} {Q:bP→St→Prop} (hm:σ.mem=mem') (h:AW P nt c ⟨σ.fr,mem',σ.nx,σ.base⟩ Q):AW P nt c σ Q:=by
 subst hm
 exact h
theorem lj {N n:Nat}: ∀{F:List (Nat×bk)} {s:List Nat},Go.Abs.dq N s F→N≤n→al F n=none
 | [],s,_,_=>rfl
 |(nm,b)::r,s,h,hn=>by
  rw[al,if_neg (by have:=h.1;omega)]
  exact lj h.2.2.2 hn
abbrev yP (d:cH):List AC:= [.pure (pI d.1.1.1),.pure (ay d.1.1.2),.pure (pB d.1.2),.pure (qN d.2)]
abbrev UR:List AC:= [.pure (pI 0),.nils,.pure (pB false),.nils]
abbrev vk (rows:List cH):AV:= .c (.pure (.slice (rows.map dF)))
theorem xW {c d:Int} (hc:am c) (hd:am d) (h0:d≠0):ac Ya 129 [I c,I d] (.tup [I (fO c d).1,I (fO c d).2.1,Go.Abs.B (fO c d).2.2]):=by
 refine ac.of Bd (by simp) λ_=>aa ?_
 conv in bh _ _=>cbv
 simp only[fO]
 have p1:=eI hc
 have p2:=eI hd
 have p3:=oO c.natAbs d.natAbs
 have hz:Nat.gcd c.natAbs d.natAbs≠0:= λh=>h0 (Int.natAbs_eq_zero.1 (Nat.eq_zero_of_gcd_eq_zero_right h))
 have hP:c.natAbs≤9223372036854775808:=by unfold am at hc;omega
 have hQ:d.natAbs≤9223372036854775808:=by unfold am at hd;omega
 generalize Nat.gcd c.natAbs d.natAbs=g at*
 generalize c.natAbs=P at*
 generalize d.natAbs=Q at*
 have l1:Q/g≤Q:=Nat.div_le_self _ _
 have l2:P/g≤P:=Nat.div_le_self _ _
 have p4:=ie (n:=P/g) false
 have p5:=ie (n:=Q/g) (decide (0<c)==decide (0<d))
 have w1:IntKind.wrap .u64 ((Q/g:Nat):Int)=(Q/g:Nat):=y0 (by omega)
 have w2:IntKind.wrap .u64 ((P/g:Nat):Int)=(P/g:Nat):=y0 (by omega)
 have HL: ¬(g:Int)=0:=by omega
 generalize jB (P/g) false=s1 at*
 generalize H0:jB (Q/g) (decide (0<c)==decide (0<d))=s2 at*
 obtain⟨s1,o1⟩:=s1
 obtain⟨s2,o2⟩:=s2
 cases o1
 all_goals
  repeat' first|simp(disch:=omega)only[go_sem, *,HL,ne_eq,I1,w1,w2]|apply ab<;>intro h<;>try omega|refine aq p1 rfl rfl ?_|refine aq p2 rfl rfl ?_|refine aq p3 rfl rfl ?_|refine aq p4 rfl rfl ?_|refine aq p5 rfl rfl ?_
  rfl
theorem uC {p q:Int} (hp:am p) (hq:am q) (h0:p≠0):ac Ya 131 [I p,I q] (.tup [I (e9 p q).1,I (e9 p q).2.1,Go.Abs.B (e9 p q).2.2]):=xi hp hq h0
theorem yV (n:Nat) (s:Bool):am (jB n s).1:=by
 unfold jB am
 split
 ·simp
 ·simp only
  split<;>omega
theorem M5 {rows:List cH} {k:Nat} (h:k<rows.length):ut k (rows.drop k)=(k,rows[k])::ut (k+1) (rows.drop (k+1)):=by
 rw[List.drop_eq_getElem_cons h,ut]
theorem rK {α:Type} {step:α→List cH→Int→MG} {x:α} {l:List α} {acc:List cH} {fuel:Int}:cd step (x::l) acc fuel=if(step x acc fuel).2.2≠0 then step x acc fuel else cd step l (step x acc fuel).1 (step x acc fuel).2.1:=rfl
theorem sR {T:List aU} {n:ByteArray} {e:Nat} {fuel:Int} {r nx:Nat} {rows:List cH} {F:List (Nat×bk)} (hT: ∀z∈rows,c6 T z) (ht:gE T≤400000000) (HM:T.length≤1000000000) (hH:rows.length≤256) (he:e<rows.length)
  (hq:rows[e].1.2=true) (HN:0≤fuel) (H1:fuel≤2000000) (hr:0<r) (u:r<nx) (hF:Go.Abs.dq nx [0,r] F):
  aw Ya 78 [.c (.ptr 0 0),S n,I e] (jl r rows fuel F) nx (fm [I (tr n e rows fuel).2.2]) (jl nx (tr n e rows fuel).1 (tr n e rows fuel).2.1 F) (nx+1):=by
 refine aw.ofZ mq (by simp) λ_=>aa ?_
 have ge:=ah (f:=dF) he
 have hI:=hT _ (List.getElem_mem he)
 have hg:rows.getD e Kv=rows[e]:=by simp[List.getD_eq_getElem?_getD,he]
 conv in bh _ _=>cbv
 unfold tr
 rw[hg]
 clear hg
 generalize rows[e]=w at*
 obtain⟨⟨⟨Kw,lw⟩,qw⟩,bw⟩:=w
 simp only at hq
 subst hq
 simp only[dF]at ge
 have pw:=dt ((Kw,lw),true) n
 have HP:am (cf lw n):=DS hI.r64.1.2 n
 simp only at pw
 obtain⟨R,hR⟩: ∃R,R=cd (o9 n (((Kw,lw),true),bw) e) (ut 0 (rows.drop 0)) [] fuel:=⟨_,rfl⟩
 have V:cd (o9 n (((Kw,lw),true),bw) e) (ut 0 rows) [] fuel=R:=hR.symm
 rw[V]
 have HR:=Lib.hid hR
 clear hR V
 repeat' first|simp(disch:=omega)only[go_sem, *,ge,aF,aN]|apply ab<;>intro h<;>try omega|refine aq pw rfl rfl ?_
 refine ci 0 0 156 4 [.nils,.pure (pI fuel)] (by simp(disch:=omega) [al,aF]) rfl (by decide) ?_
 refine yT r 156 4 (rows.map dF) (by simp(disch:=omega) [al,aj,aF]) ?_
 have hu:=hF.frz (n:=r) (rows:=rows.map dF) (.inl (by simp))
 refine PE (mem':=jl nx [] fuel F) (by simp(disch:=omega) [kJ,ub,gS,dJ,aF,hu]) ?_
 refine ai (λs:Nat×List cH×Int=>⟨[(0,.c (.ptr 0 0)),(1,S n),(2,I e),(7,vk rows),(8,I (cf lw n)),(32,vk rows),(33,I rows.length),(34,I s.1)],jl nx s.2.1 s.2.2 F,nx+1,nx⟩)
  (λs=>s.1≤rows.length∧(∀z∈s.2.1,c6 T z)∧s.2.1.length≤256∧0≤s.2.2∧s.2.2≤fuel∧Hid (R=cd (o9 n (((Kw,lw),true),bw) e) (ut s.1 (rows.drop s.1)) s.2.1 s.2.2)) (λs=>rows.length-s.1) ⟨(0, [],fuel), [],⟨Nat.zero_le _,by simp,by simp,HN,Int.le_refl _,HR⟩, ?_⟩ ?_
 ·refine au (by simp(disch:=omega) [aF,vm,nG,gS]) ?_ rfl (by simp;try omega) (by simp[eg];try omega)
  repeat' first|exact hF.wkA|refine av ?_ ?_ ?_ ?_ ?_|(simp(disch:=omega) [aF,vm,nG,gS]<;>omega)|omega
 clear HR pw
 rintro⟨k,acc,fu⟩ ⟨hk,J,hL,Z,hN,HR⟩
 simp only at hk J hL Z hN HR
 refine aa ?_
 have o:0<nx:=by omega
 by_cases C:k<rows.length
 ·have g1:=ah (f:=dF) C
  have hz:=hT _ (List.getElem_mem C)
  have h2:=HR.out
  rw[M5 C,rK]at h2
  have G:=GT (n:=n) (e:=e) hI rfl (r:=(k,rows[k])) hz acc fu J hL
  have HQ:=hz.short
  have HS:=hI.short
  clear HR
  generalize rows[k]=z at*
  obtain⟨⟨⟨K',l'⟩,q'⟩,b'⟩:=z
  simp only[dF]at g1
  have pc:=dt ((K',l'),q') n
  simp only at pc HQ HS
  by_cases hJ:k=e
  ·have hs:o9 n (((Kw,lw),true),bw) e (k,(((K',l'),q'),b')) acc fu=(acc,fu,0):=if_pos hJ
   rw[hs]at h2
   rw[if_neg (by simp)]at h2
   have HR:=Lib.hid h2
   have O:((k:Int)=(e:Int))=True:=eq_true (by omega)
   clear h2 hs G hJ ge
   repeat' first|simp(disch:=omega)only[go_sem, *,g1,O,aF,aN,wrap_i64]|apply ab<;>intro h<;>try omega|refine aq pc rfl rfl ?_
   refine⟨(k+1,acc,fu), [],⟨C,J,hL,Z,hN,HR⟩,by show _-_<_-_;omega, ?_⟩
   refine au (by simp(disch:=omega) [aF,o]) ?_ rfl (by simp;try omega) (by simp[eg];try omega)
   repeat' first|exact hF.wkA|refine av ?_ ?_ ?_ ?_ ?_|(simp(disch:=omega) [aF,o]<;>omega)|omega
  ·have O: ¬(k:Int)=(e:Int):=by omega
   by_cases h0:cf l' n=0
   ·have hs:o9 n (((Kw,lw),true),bw) e (k,(((K',l'),q'),b')) acc fu=((cE acc (((K',l'),q'),b')).1,fu,(cE acc (((K',l'),q'),b')).2):=by rw[o9,if_neg hJ,if_pos h0]
    rw[hs]at h2 G
    rw[h0]at pc
    have pa:=jm (d:=(((K',l'),q'),b')) (fuel:=fu) (r:=nx) (nx:=nx+2) (rows:=acc) (F:=(nx+1,.var (yP (((K',l'),q'),b')))::F) hL (by omega) (by omega) (hO hF (by omega) (by omega) (by omega) rfl (.inr (Nat.le_refl _)) (by omega))
    clear hs hJ h0 ge
    generalize cE acc (((K',l'),q'),b')=A at*
    obtain⟨A,ae⟩:=A
    simp only at pa h2 G
    by_cases hC:ae=0
    ·subst hC
     rw[if_neg (by simp)]at h2
     have HR:=Lib.hid h2
     have hS:=G.all
     have hU:=G.len
     clear h2 G J
     simp only at hS hU
     repeat' first|simp(disch:=omega)only[go_sem, *,g1,O,aF,aN,wrap_i64]|apply ab<;>intro h<;>try omega|refine aq pc rfl rfl ?_|refine ap (pa.perm (λnm=>by first|rfl|(simp only[al,aj];done)|(simp only[al,aj];(repeat' split)<;>first|rfl|omega))) ?_
     refine⟨(k+1,A,fu), [(nx,nx+2)],⟨C,hS,hU,Z,hN,HR⟩,by show _-_<_-_;omega, ?_⟩
     refine au (by simp(disch:=omega) [aF,o]) ?_ rfl (by simp;try omega) (by simp[eg];try omega)
     repeat' first|exact hF.wkA|refine av ?_ ?_ ?_ ?_ ?_|(simp(disch:=omega) [aF,o]<;>omega)|omega
    ·rw[if_pos hC]at h2
     subst h2
     clear G J
     repeat' first|simp(disch:=omega)only[go_sem, *,g1,O,aF,aN,wrap_i64,hC]|apply ab<;>intro h<;>try omega|refine aq pc rfl rfl ?_|refine ap (pa.perm (λnm=>by first|rfl|(simp only[al,aj];done)|(simp only[al,aj];(repeat' split)<;>first|rfl|omega))) ?_
     refine⟨[], [(nx,nx+2)], ?_⟩
     simp(disch:=omega)only[go_sem,aQ,aF,aN]
     refine au (by simp(disch:=omega) [aF,o]) ?_ rfl (by simp;try omega) (by simp[eg];try omega)
     repeat' first|exact hF.wkA|refine av ?_ ?_ ?_ ?_ ?_|(simp(disch:=omega) [aF,o]<;>omega)|omega
   ·have pk:=xW HP (DS hz.r64.1.2 n) h0
    simp only at pk
    have hs:o9 n (((Kw,lw),true),bw) e (k,(((K',l'),q'),b')) acc fu=if(fO (cf lw n) (cf l' n)).2.2=false then(acc,fu,3)else
     ji (((K',l'),q'),b') (((Kw,lw),true),bw) (fO (cf lw n) (cf l' n)).1 (fO (cf lw n) (cf l' n)).2.1 acc fu:=by rw[o9,if_neg hJ,if_neg h0]
    rw[hs]at h2 G
    have hD:am (fO (cf lw n) (cf l' n)).1:=yV _ _
    have hG:am (fO (cf lw n) (cf l' n)).2.1:=yV _ _
    clear hs hJ
    generalize fO (cf lw n) (cf l' n)=X at*
    obtain⟨x,y,ok⟩:=X
    simp only at h2 G hD hG pk
    cases ok
    ·rw[if_pos rfl,if_pos (by simp)]at h2
     subst h2
     clear G J ge
     generalize cf l' n=d at*
     repeat' first|simp(disch:=omega)only[go_sem, *,g1,O,aF,aN,wrap_i64,h0]|apply ab<;>intro h<;>try omega|refine aq pc rfl rfl ?_|refine aq pk rfl rfl ?_
     refine⟨[], [], ?_⟩
     simp(disch:=omega)only[go_sem,aQ,aF,aN]
     refine au (by simp(disch:=omega) [aF,o]) ?_ rfl (by simp;try omega) (by simp[eg];try omega)
     repeat' first|exact hF.wkA|refine av ?_ ?_ ?_ ?_ ?_|(simp(disch:=omega) [aF,o]<;>omega)|omega
    ·have HD: ¬(true=false):=by simp
     rw[if_neg HD]at h2 G
     clear HD
     have h6:al F (nx+1+1)=none:=lj hF (by omega)
     have hX:b'.length=bw.length:=by rw[hz.len,hI.len]
     have h7:b'.length≤1000000000:=by rw[hz.len];exact HM
     have hA:=lT (a:=(((K',l'),q'),b')) (b:=(((Kw,lw),true),bw)) (x:=x) (y:=y) (fuel:=fu) (r:=nx) (nx:=nx+2) (rows:=acc) (F:=(nx+1,.var (yP (((K',l'),q'),b')))::F)
      hz.r64 hI.r64 hD hG hX h7 (by simp only;omega) (by simp only;omega) Z (by omega) (by omega) (by omega) (hO hF (by omega) (by omega) (by omega) rfl (.inr (Nat.le_refl _)) (by omega))
     have hV:=lT (a:=(((K',l'),q'),b')) (b:=(((Kw,lw),true),bw)) (x:=x) (y:=y) (fuel:=fu) (r:=nx) (nx:=nx+3) (rows:=acc) (F:=(nx+2,.var UR)::(nx+1,.var (yP (((K',l'),q'),b')))::F)
      hz.r64 hI.r64 hD hG hX h7 (by simp only;omega) (by simp only;omega) Z (by omega) (by omega) (by omega) (hO (N:=nx+2) (r:=nx) (hO hF (by omega) (by omega) (by omega) rfl (.inr (Nat.le_refl _)) (by omega)) (by omega) (by omega) (by omega) rfl (.inl rfl) (by omega))
     unfold ji at h2 G
     clear hX h7 hD hG
     generalize ei fu (((K',l'),q'),b') (((Kw,lw),true),bw) x y=M at*
     generalize cf l' n=d at*
     obtain⟨⟨⟨⟨Km,lm⟩,qm⟩,bm⟩,me⟩:=M
     simp only at h2 G
     by_cases hW:me=0
     ·subst hW
      have hv: ¬((0:Int)≠0):=by simp
      rw[if_neg hv]at h2 G
      simp only[O0,if_true]at hA hV
      have pa:=jm (d:=(((Km,lm),qm),bm)) (fuel:=fu-1) (r:=nx) (nx:=nx+3) (rows:=acc) (F:=(nx+2,.var (yP (((Km,lm),qm),bm)))::(nx+1,.var (yP (((Km,lm),qm),bm)))::F) hL (by omega) (by omega)
       (hO (N:=nx+2) (r:=nx) (hO hF (by omega) (by omega) (by omega) rfl (.inr (Nat.le_refl _)) (by omega)) (by omega) (by omega) (by omega) rfl (.inl rfl) (by omega))
      generalize cE acc (((Km,lm),qm),bm)=A at*
      obtain⟨A,ae⟩:=A
      simp only at pa h2 G
      by_cases hC:ae=0
      ·subst hC
       rw[if_neg (by simp)]at h2
       have HR:=Lib.hid h2
       have hS:=G.all
       have hU:=G.len
       have HF:=G.pos rfl Z
       clear h2 G J
       simp only at hS hU HF
       repeat' first|simp(disch:=omega)only[go_sem, *,g1,ge,O,aF,aN,h6,wrap_i64,h0]|apply ab<;>intro h<;>try omega|apply af|(with_reducible refine ag (λh=> ?_) ?_)|refine aq pc rfl rfl ?_|refine aq pk rfl rfl ?_|refine ap (hA.perm (λnm=>by first|rfl|(simp only[al,aj];done)|(simp only[al,aj];(repeat' split)<;>first|rfl|omega))) ?_|refine ap (hV.perm (λnm=>by first|rfl|(simp only[al,aj];done)|(simp only[al,aj];(repeat' split)<;>first|rfl|omega))) ?_|refine ap (pa.perm (λnm=>by first|rfl|(simp only[al,aj];done)|(simp only[al,aj];(repeat' split)<;>first|rfl|omega))) ?_
       all_goals
        refine⟨(k+1,A,fu-1), [(nx,nx+3)],⟨C,hS,hU,HF,by simp only;omega,HR⟩,by show _-_<_-_;omega, ?_⟩
        refine au (by simp(disch:=omega) [aF,o]) ?_ rfl (by simp;try omega) (by simp[eg];try omega)
        repeat' first|exact hF.wkA|refine av ?_ ?_ ?_ ?_ ?_|(simp(disch:=omega) [aF,o]<;>omega)|omega
      ·rw[if_pos hC]at h2
       subst h2
       clear G J
       repeat' first|simp(disch:=omega)only[go_sem, *,g1,ge,O,aF,aN,h6,wrap_i64,h0,hC]|apply ab<;>intro h<;>try omega|apply af|(with_reducible refine ag (λh=> ?_) ?_)|refine aq pc rfl rfl ?_|refine aq pk rfl rfl ?_|refine ap (hA.perm (λnm=>by first|rfl|(simp only[al,aj];done)|(simp only[al,aj];(repeat' split)<;>first|rfl|omega))) ?_|refine ap (hV.perm (λnm=>by first|rfl|(simp only[al,aj];done)|(simp only[al,aj];(repeat' split)<;>first|rfl|omega))) ?_|refine ap (pa.perm (λnm=>by first|rfl|(simp only[al,aj];done)|(simp only[al,aj];(repeat' split)<;>first|rfl|omega))) ?_
       all_goals
        refine⟨[], [(nx,nx+3)], ?_⟩
        simp(disch:=omega)only[go_sem,aQ,aF,aN]
        refine au (by simp(disch:=omega) [aF,o]) ?_ rfl (by simp;try omega) (by simp[eg];try omega)
        repeat' first|exact hF.wkA|refine av ?_ ?_ ?_ ?_ ?_|(simp(disch:=omega) [aF,o]<;>omega)|omega
     ·rw[if_pos hW]at h2
      simp only at h2
      rw[if_pos hW]at h2
      subst h2
      clear G J
      simp only[O0,if_neg hW]at hA hV
      repeat' first|simp(disch:=omega)only[go_sem, *,g1,ge,O,aF,aN,h6,wrap_i64,h0,hW]|apply ab<;>intro h<;>try omega|apply af|(with_reducible refine ag (λh=> ?_) ?_)|refine aq pc rfl rfl ?_|refine aq pk rfl rfl ?_|refine ap (hA.perm (λnm=>by first|rfl|(simp only[al,aj];done)|(simp only[al,aj];(repeat' split)<;>first|rfl|omega))) ?_|refine ap (hV.perm (λnm=>by first|rfl|(simp only[al,aj];done)|(simp only[al,aj];(repeat' split)<;>first|rfl|omega))) ?_
      all_goals
       refine⟨[], [], ?_⟩
       simp(disch:=omega)only[go_sem,aQ,aF,aN]
       refine au (by simp(disch:=omega) [aF,o]) ?_ rfl (by simp;try omega) (by simp[eg];try omega)
       repeat' first|exact hF.wkA|refine av ?_ ?_ ?_ ?_ ?_|(simp(disch:=omega) [aF,o]<;>omega)|omega
 ·have h2:=HR.out
  rw[List.drop_eq_nil_of_le (by omega)]at h2
  simp only[ut,cd]at h2
  subst h2
  clear HR
  repeat' first|simp(disch:=omega)only[go_sem, *,aF,aN]|apply ab<;>intro h<;>try omega
  refine⟨[], [], ?_⟩
  simp(disch:=omega)only[go_sem,aQ,aF,aN]
  refine au (by simp(disch:=omega) [aF,o]) ?_ rfl (by simp;try omega) (by simp[eg];try omega)
  repeat' first|exact hF.wkA|refine av ?_ ?_ ?_ ?_ ?_|(simp(disch:=omega) [aF,o]<;>omega)|omega
