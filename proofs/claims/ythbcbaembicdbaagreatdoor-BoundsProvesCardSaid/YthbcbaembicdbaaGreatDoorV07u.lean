import Derived.Test.YthbcbaembicdbaaGreatDoorPlain07g
import Derived.Test.YthbcbaembicdbaaGreatDoorVSort
set_option linter.unusedVariables false
set_option linter.unusedSimpArgs false
set_option maxRecDepth 20000
set_option maxHeartbeats 4000000
set_option maxRecDepth 1000000
namespace Go.Proofs.YthbcbaembicdbaaGreatDoor
open Go.Abs Go.RowKit
def bz (forms:List bY):List ByteArray:=forms.flatMap fun f=>f.2.map (·.1)
def lP (f:bY):List PC:= [pI f.1,aw f.2]
theorem Io (l:List (List UInt8)):bC (kO l)=l:=by
 rw[kO,bC,List.map_map]
 exact(List.map_congr_left (fun s _=>by simp)).trans (List.map_id l)
theorem IT {forms:List bY} {k:Nat} (h:k<forms.length):bz (forms.drop k)=forms[k].2.map (·.1)++bz (forms.drop (k+1)):=by
 rw[List.drop_eq_getElem_cons h]
 rfl
theorem xt {forms:List bY} (hl:(bz forms).length≤1000000000):ac Tryz.prog py [j5 lP forms] (mO (ux (yp (bz forms)))):=by
 refine ac.of LR (by simp) fun hb=>aa ?_
 have hfl:forms.length≤9223372036854775807:=by simpa[tp,i5,jS]using hb
 clear hb
 conv in Dh=>cbv
 obtain⟨R,hR⟩: ∃R,R= []++bz (forms.drop 0):=⟨_,rfl⟩
 have hR0:bz forms=R:=hR.symm
 rw[hR0]at hl ⊢
 have HR:=Lib.hid hR
 clear hR hR0
 repeat' first|simp(disch:=omega) only[go_sem, *]|((with_reducible apply ab)<;>intro h<;>try omega)
 refine dR 3 9 1 rfl (by decide) ?_
 refine an (fun s:Nat×List ByteArray=>⟨[(3,.c (.ref 0)),(8,j5 lP forms),(9,I forms.length),(10,I s.1)], [(0,.arr 9 1 (cN s.2))],1,0⟩) (fun s=>s.1≤forms.length∧Hid (R=s.2++bz (forms.drop s.1))) (fun s=>forms.length-s.1) ⟨(0, []), [],⟨Nat.zero_le _,HR⟩,by simp⟩ ?_
 clear HR
 rintro⟨j,acc⟩ ⟨hj,HR⟩
 simp only at hj HR
 refine aa ?_
 by_cases hlt:j<forms.length
 ·have g1:=ah (f:=lP) hlt
  have h2:=HR.out
  rw[IT hlt]at h2
  clear HR
  generalize forms[j]=f at*
  obtain⟨K,l⟩:=f
  simp only[lP]at g1
  simp only at h2
  have HR:=Lib.hid h2
  clear h2
  repeat' first|simp(disch:=omega) only[go_sem, *,g1]|((with_reducible apply ab)<;>intro h<;>try omega)
  refine PX 15 fun hbl=> ?_
  have hll:l.length≤9223372036854775807:=by simpa[aM,i5,jS]using hbl
  clear hbl
  refine an (fun s:Nat×List ByteArray=>⟨[(3,.c (.ref 0)),(8,j5 lP forms),(9,I forms.length),(10,I j),(15,.c (.pure (aw l))),(16,I l.length),(17,I s.1)], [(0,.arr 9 1 (cN s.2))],1,0⟩)
   (fun s=>s.1≤l.length∧Hid (R=s.2++((l.drop s.1).map (·.1)++bz (forms.drop (j+1))))) (fun s=>l.length-s.1) ⟨(0,acc), [],⟨Nat.zero_le _,HR⟩,by simp⟩ ?_
  clear HR
  rintro⟨k,acc⟩ ⟨hk,HR⟩
  simp only at hk HR
  refine aa ?_
  by_cases hlk:k<l.length
  ·have g2:=ah (f:=mP) hlk
   have h2:=HR.out
   rw[List.drop_eq_getElem_cons hlk]at h2
   clear HR
   generalize l[k]=m at*
   obtain⟨n,x⟩:=m
   simp only[mP]at g2
   have hacc:acc.length≤1000000000:=by rw[h2]at hl;simp at hl;omega
   have HR:Hid (R=(acc++ [n])++((l.drop (k+1)).map (·.1)++bz (forms.drop (j+1)))):=Lib.hid (by rw[h2];simp)
   clear h2
   repeat' first|simp(disch:=omega) only[go_sem, *,g2,wrap_i64]|((with_reducible apply ab)<;>intro h<;>try omega)|(refine aJ rfl (by intro h;cases h) (aB rfl) (by simp;omega) (by simp;omega) ?_)
   exact⟨(k+1,acc++ [n]), [(0,2)],⟨hlk,HR⟩,by show _-_<_-_;omega,by simp⟩
  ·have h2:=HR.out
   rw[List.drop_eq_nil_of_le (by omega)]at h2
   have HR:=Lib.hid h2
   clear h2
   repeat' first|simp(disch:=omega) only[go_sem, *,wrap_i64]|((with_reducible apply ab)<;>intro h<;>try omega)
   exact⟨(j+1,acc), [],⟨hlt,HR⟩,by show _-_<_-_;omega,by simp⟩
 ·have h2:=HR.out
  rw[List.drop_eq_nil_of_le (by omega)]at h2
  have h3:R=acc:=by rw[h2];simp[bz]
  clear h2 HR
  subst h3
  repeat' first|simp(disch:=omega) only[go_sem, *]|((with_reducible apply ab)<;>intro h<;>try omega)|(refine ap (aa3 rfl (by omega)) ?_)|(refine ap (Tb rfl) ?_)
set_option maxRecDepth 20000
set_option maxRecDepth 1000000
def fC (rows:List dq):List bY:=rows.map fun r=>r.1.1
theorem JW:fC []= []:=rfl
theorem PN (rows:List dq):ux (yp (bz (fC rows)))=ow rows:=by
 have e:bz (fC rows)=fG rows:=by simp[bz,fC,fG,List.flatMap_map]
 rw[e,ux,yp,Io]
 rfl
theorem FG {fuel:Int} {r nx:Nat} {rows:List dq} {F:List (Nat×bc)} (hrl:rows.length≤256) (hn:(fG rows).length≤1000000000) (hr:0<r) (hrn:r<nx) (hF:Go.Abs.dk nx [0,r] F):
  au Tryz.prog mA [.c (.ptr 0 0)] (jV r rows fuel F) nx (eF [mO (ow rows)]) (jV r rows fuel F) nx:=by
 refine au.ofZ ur (by simp) fun _=>aa ?_
 have e:bz (fC rows)=fG rows:=by simp[bz,fC,fG,List.flatMap_map]
 have pn:=xt (forms:=fC rows) (by rw[e];exact hn)
 rw[PN]at pn
 clear e hn
 conv in mE=>cbv
 repeat' first|simp(disch:=omega) only[go_sem, *,aD,aE]|((with_reducible apply ab)<;>intro h<;>try omega)
 refine dR 3 44 2 rfl (by decide) ?_
 refine an (fun k:Nat=>⟨[(3,.c (.ref nx)),(9,.c (.ref r)),(10,I rows.length),(11,I k)],(nx,.arr 44 2 ((fC (rows.take k)).map lP))::jV r rows fuel F,nx+1,nx⟩) (fun k=>k≤rows.length) (fun k=>rows.length-k) ⟨0, [],Nat.zero_le _, ?_⟩ ?_
 ·have hr2:r<nx+1:=by omega
  refine aq (by simp(disch:=omega) [aD,hr2,JW]) ?_ rfl (by simp;try omega) (by simp[eg];try omega)
  repeat' first|exact hF.wkA|refine ar ?_ ?_ ?_ ?_ ?_|(simp(disch:=omega) [aD,hr2,JW]<;>omega)|omega
 intro k hk
 refine aa ?_
 have hdl:=hF.del (n:=nx) (.inr (by omega))
 have hr2:r<nx+1:=by omega
 by_cases hlt:k<rows.length
 ·have g1:=ah (f:=dF) hlt
  have et:(fC (rows.take (k+1))).map lP=(fC (rows.take k)).map lP++ [lP rows[k].1.1]:=by
   rw[List.take_succ_eq_append_getElem hlt,fC,List.map_append,List.map_append]
   rfl
  have hlen:((fC (rows.take k)).map lP).length≤256:=by simp[fC];omega
  generalize (fC (rows.take k)).map lP=D at*
  generalize rows[k]=z at*
  obtain⟨⟨⟨K',l'⟩,q'⟩,b'⟩:=z
  simp only[dF]at g1
  simp only[lP]at et
  repeat' first|simp(disch:=omega) only[go_sem, *,g1,aD,aE,hdl,wrap_i64]|((with_reducible apply ab)<;>intro h<;>try omega)|(refine aJ (by simp(disch:=omega) only[am,al,aD,eq_self,↓reduceIte,Option.map_some]<;>rfl) (by intro h;cases h) (aB rfl) (by simp;omega) (by simp;omega) ?_)
  refine⟨k+1, [(nx,nx+2)],hlt,by omega, ?_⟩
  refine aq (by simp(disch:=omega) [aD,et,hr2]) ?_ rfl (by simp;try omega) (by simp[eg];try omega)
  repeat' first|exact hF.wkA|refine ar ?_ ?_ ?_ ?_ ?_|(simp(disch:=omega) [aD,et,hr2]<;>omega)|omega
 ·obtain rfl:k=rows.length:=by omega
  rw[List.take_of_length_le (Nat.le_refl _)]
  have hfz:=hF.frz (n:=nx) (rows:=(fC rows).map lP) (.inr (by omega))
  repeat' first|simp(disch:=omega) only[go_sem, *,aD,aE]|((with_reducible apply ab)<;>intro h<;>try omega)|(refine Nv nx 44 2 ((fC rows).map lP) pn (by simp(disch:=omega) only[am,al,aD,eq_self,↓reduceIte,Option.map_some]<;>rfl) (by simp[sH,iw,bG,dQ,xo,ej,d6]) (.inr (by simp[sH,iw,fS,zw,jA])) ?_)
  refine⟨[], [], ?_⟩
  simp(disch:=omega) only[go_sem,aR,aD,aE,hfz]
  refine aq (by simp(disch:=omega) [aD]) ?_ rfl (by simp;try omega) (by simp[eg];try omega)
  repeat' first|exact hF.wkA|refine ar ?_ ?_ ?_ ?_ ?_|(simp(disch:=omega) [aD]<;>omega)|omega
theorem Om {rows:List dq} {k:Nat} (h:k<rows.length):iQ (rows.drop k)=if iZ rows[k].1 then some rows[k].2 else iQ (rows.drop (k+1)):=by
 rw[List.drop_eq_getElem_cons h,iQ]
theorem av {α:Type} {f:α→List PC} {sz:Nat} {xs:List α} (h: ∀x,(f x).length=sz):bl sz (xs.map f):=by
 intro r hr
 obtain⟨x,_,rfl⟩:=List.mem_map.1 hr
 exact h x
theorem A7 {xs:List Int} (hl:xs.length≤1000000000):ac Tryz.prog gX [pG xs] (pG xs):=by
 refine ac.of mZ (by simp) fun _=>aa ?_
 conv in gQ=>cbv
 have hok:bl 1 (xs.map fun n=> [pI n]):=av fun _=>rfl
 cases xs with
 |nil=>
  repeat' first|simp(disch:=omega) only[go_sem, *]|((with_reducible apply ab)<;>intro h<;>try omega)|(with_reducible apply ag)|(with_reducible refine aj (fun h=> ?_) ?_)|(refine fZ (by intro r hr;cases hr) hok (by simp) (by simp) ?_)
  all_goals rfl
 |cons x r=>
  have hl':r.length≤999999999:=by simpa using hl
  repeat' first|simp(disch:=omega) only[go_sem, *]|((with_reducible apply ab)<;>intro h<;>try omega)|(with_reducible apply ag)|(with_reducible refine aj (fun h=> ?_) ?_)|(refine fZ (by intro r hr;cases hr) hok (by simp;omega) (by simp;omega) ?_)
  all_goals rfl
def Jk:Option (List Int)→List AV
 |none=> [.c .nils,Go.Abs.B false]
 |some b=> [pG b,Go.Abs.B true]
theorem sx {fuel:Int} {r nx:Nat} {rows:List dq} {F:List (Nat×bc)} (hrl:rows.length≤256) (hlen: ∀z∈rows,z.2.length≤1000000000) (hr:0<r) (hrn:r<nx) (hF:Go.Abs.dk nx [0,r] F):
  au Tryz.prog gz [.c (.ptr 0 0)] (jV r rows fuel F) nx (eF (Jk (iQ rows))) (jV r rows fuel F) nx:=by
 refine au.ofZ mn (by simp) fun _=>aa ?_
 conv in gw=>cbv
 obtain⟨R,hR⟩: ∃R,R=iQ (rows.drop 0):=⟨_,rfl⟩
 have hR0:iQ rows=R:=hR.symm
 rw[hR0]
 have HR:=Lib.hid hR
 clear hR hR0
 repeat' first|simp(disch:=omega) only[go_sem, *,aD,aE]|((with_reducible apply ab)<;>intro h<;>try omega)
 refine an (fun k:Nat=>⟨[(9,.c (.ref r)),(10,I rows.length),(11,I k)],jV r rows fuel F,nx,nx⟩) (fun k=>k≤rows.length∧Hid (R=iQ (rows.drop k))) (fun k=>rows.length-k) ⟨0, [],⟨Nat.zero_le _,HR⟩, ?_⟩ ?_
 ·refine aq (by simp(disch:=omega) [aD,hrn]) ?_ rfl (by simp;try omega) (by simp[eg];try omega)
  repeat' first|exact hF.wkA|refine ar ?_ ?_ ?_ ?_ ?_|(simp(disch:=omega) [aD,hrn]<;>omega)|omega
 clear HR
 rintro k ⟨hk,HR⟩
 refine aa ?_
 have hr2:r<nx+1:=by omega
 by_cases hlt:k<rows.length
 ·have g1:=ah (f:=dF) hlt
  have h2:=HR.out
  rw[Om hlt]at h2
  have hzl:=hlen _ (List.getElem_mem hlt)
  clear HR
  generalize rows[k]=z at*
  obtain⟨⟨⟨K',l'⟩,q'⟩,b'⟩:=z
  have pc:=fU ((K',l'),q')
  have pl:=A7 hzl
  simp only[dF]at g1
  simp only at h2
  by_cases hb:iZ ((K',l'),q')
  ·rw[if_pos hb]at h2
   subst h2
   rw[decide_eq_true hb]at pc
   clear hb
   simp only[Jk]
   repeat' first|simp(disch:=omega) only[go_sem, *,g1,aD,aE]|((with_reducible apply ab)<;>intro h<;>try omega)|(refine aF pc rfl rfl ?_)|(refine cg pl rfl rfl ?_)
   refine⟨[], [], ?_⟩
   simp(disch:=omega) only[go_sem,aR,aD,aE,Jk]
   refine aq (by simp(disch:=omega) [aD,hr2,hrn]) ?_ rfl (by simp;try omega) (by simp[eg];try omega)
   repeat' first|exact hF.wkA|refine ar ?_ ?_ ?_ ?_ ?_|(simp(disch:=omega) [aD,hr2,hrn]<;>omega)|omega
  ·rw[if_neg hb]at h2
   rw[decide_eq_false hb]at pc
   have HR:=Lib.hid h2
   clear h2 hb pl
   repeat' first|simp(disch:=omega) only[go_sem, *,g1,aD,aE,wrap_i64]|((with_reducible apply ab)<;>intro h<;>try omega)|(refine aF pc rfl rfl ?_)
   refine⟨k+1, [],⟨hlt,HR⟩,by omega, ?_⟩
   refine aq (by simp(disch:=omega) [aD,hr2,hrn]) ?_ rfl (by simp;try omega) (by simp[eg];try omega)
   repeat' first|exact hF.wkA|refine ar ?_ ?_ ?_ ?_ ?_|(simp(disch:=omega) [aD,hr2,hrn]<;>omega)|omega
 ·have h2:=HR.out
  rw[List.drop_eq_nil_of_le (by omega),iQ]at h2
  subst h2
  clear HR
  simp only[Jk]
  repeat' first|simp(disch:=omega) only[go_sem, *,aD,aE]|((with_reducible apply ab)<;>intro h<;>try omega)
  refine⟨[], [], ?_⟩
  simp(disch:=omega) only[go_sem,aR,aD,aE,Jk]
  refine aq (by simp(disch:=omega) [aD,hr2,hrn]) ?_ rfl (by simp;try omega) (by simp[eg];try omega)
  repeat' first|exact hF.wkA|refine ar ?_ ?_ ?_ ?_ ?_|(simp(disch:=omega) [aD,hr2,hrn]<;>omega)|omega
theorem Tv {n:ByteArray} {rows:List dq} {k:Nat} (h:k<rows.length):v7 n k (rows.drop k)=if cf rows[k].1.1.2 n≠0∧rows[k].1.2=true then some k else v7 n (k+1) (rows.drop (k+1)):=by
 rw[List.drop_eq_getElem_cons h,v7]
theorem T9 {n:ByteArray} {rows:List dq} {k:Nat} (h:k<rows.length):BV n (rows.take (k+1))=BV n (rows.take k)+if 0<cf rows[k].1.1.2 n then 1 else 0:=by
 rw[List.take_succ_eq_append_getElem h,BV,List.filter_append,List.length_append,←BV]
 congr 1
 by_cases h0:0<cf rows[k].1.1.2 n<;>simp[h0]
theorem Wc {n:ByteArray} {rows:List dq} {k:Nat} (h:k<rows.length):Ua n (rows.take (k+1))=Ua n (rows.take k)+if cf rows[k].1.1.2 n<0 then 1 else 0:=by
 rw[List.take_succ_eq_append_getElem h,Ua,List.filter_append,List.length_append,←Ua]
 congr 1
 by_cases h0:cf rows[k].1.1.2 n<0<;>simp[h0]
theorem MW (n:ByteArray) (rows:List dq):BV n rows≤rows.length:=List.length_filter_le _ _
theorem Ro (n:ByteArray) (rows:List dq):Ua n rows≤rows.length:=List.length_filter_le _ _
abbrev chR (x:ByteArray×Int×Bool):List AV:= [S x.1,I x.2.1,Go.Abs.B x.2.2]
set_option maxHeartbeats 2000000 in
theorem EE {fuel:Int} {r nx:Nat} {rows:List dq} {F:List (Nat×bc)} (hrl:rows.length≤256) (hn:(fG rows).length≤1000000000) (hr:0<r) (hrn:r<nx) (hF:Go.Abs.dk nx [0,r] F):
  au Tryz.prog lp [.c (.ptr 0 0)] (jV r rows fuel F) nx (eF (chR (dH rows))) (jV r rows fuel F) nx:=by
 refine au.ofZ tX (by simp) fun _=>aa ?_
 have pn:=FG (fuel:=fuel) hrl hn hr hrn hF
 conv in lv=>cbv
 unfold dH
 generalize ow rows=ns at*
 have hr2:r<nx+1:=by omega
 have h0n:0<nx:=by omega
 have hemp:(⟨⟨[]⟩⟩:ByteArray)=ByteArray.empty:=rfl
 obtain⟨R,hR⟩: ∃R,R=dy rows (ns.drop 0) (-1) .empty:=⟨_,rfl⟩
 have hR0:dy rows ns (-1) .empty=R:=hR.symm
 rw[hR0]
 have HR:=Lib.hid hR
 clear hR hR0 hn
 repeat' first|simp(disch:=omega) only[go_sem, *,aD,aE]|((with_reducible apply ab)<;>intro h<;>try omega)|(refine ap pn ?_)
 refine PX 16 fun hbl=> ?_
 have hnl:ns.length≤9223372036854775807:=by simpa[aM,i5,jS]using hbl
 clear hbl pn
 refine an (fun s:Nat×Int×ByteArray=>⟨[(0,.c (.ptr 0 0)),(5,I s.2.1),(6,S s.2.2),(7,I (-1)),(16,mO ns),(17,I ns.length),(18,I s.1)],jV r rows fuel F,nx,nx⟩)
  (fun s=>s.1≤ns.length∧ -1≤s.2.1∧s.2.1≤65536∧Hid (R=dy rows (ns.drop s.1) s.2.1 s.2.2)) (fun s=>ns.length-s.1) ⟨(0,-1,.empty), [],⟨Nat.zero_le _,by simp,by simp,HR⟩, ?_⟩ ?_
 ·refine aq (by simp(disch:=omega) [aD,hr2,hrn,h0n,hemp]) ?_ rfl (by simp;try omega) (by simp[eg];try omega)
  repeat' first|exact hF.wkA|refine ar ?_ ?_ ?_ ?_ ?_|(simp(disch:=omega) [aD,hr2,hrn,h0n,hemp]<;>omega)|omega
 clear HR
 rintro⟨j,best,name⟩ ⟨hj,hb1,hb2,HR⟩
 simp only at hj hb1 hb2 HR
 refine aa ?_
 by_cases hlt:j<ns.length
 ·have g1:=ah (f:=fun s=> [pS s]) hlt
  have h2:=HR.out
  rw[List.drop_eq_getElem_cons hlt,dy]at h2
  clear HR
  generalize ns[j]=v at*
  obtain⟨E,hE⟩: ∃E,E=v7 v 0 (rows.drop 0):=⟨_,rfl⟩
  have hE0:v7 v 0 rows=E:=hE.symm
  rw[hE0]at h2
  have HE:=Lib.hid hE
  have HR:=Lib.hid h2
  clear hE hE0 h2
  repeat' first|simp(disch:=omega) only[go_sem, *,g1,aD,aE]|((with_reducible apply ab)<;>intro h<;>try omega)
  refine an (fun i:Nat=>⟨[(0,.c (.ptr 0 0)),(5,I best),(6,S name),(7,I (-1)),(9,S v),(10,I (BV v (rows.take i))),(11,I (Ua v (rows.take i))),(16,mO ns),(17,I ns.length),(18,I j),(25,.c (.ref r)),(26,I rows.length),(27,I i)],jV r rows fuel F,nx,nx⟩)
   (fun i=>i≤rows.length∧Hid (E=v7 v i (rows.drop i))) (fun i=>rows.length-i) ⟨0, [],⟨Nat.zero_le _,HE⟩, ?_⟩ ?_
  ·refine aq (by simp(disch:=omega) [aD,hr2,hrn,h0n,BV,Ua]) ?_ rfl (by simp;try omega) (by simp[eg];try omega)
   repeat' first|exact hF.wkA|refine ar ?_ ?_ ?_ ?_ ?_|(simp(disch:=omega) [aD,hr2,hrn,h0n,BV,Ua]<;>omega)|omega
  clear HE
  rintro i ⟨hi,HE⟩
  refine aa ?_
  by_cases hli:i<rows.length
  ·have g2:=ah (f:=dF) hli
   have hlo:=T9 (n:=v) hli
   have hup:=Wc (n:=v) hli
   have l1:=MW v (rows.take i)
   have l2:=Ro v (rows.take i)
   have h2:=HE.out
   rw[Tv hli]at h2
   rw[List.length_take]at l1 l2
   clear HE
   generalize BV v (rows.take i)=L at*
   generalize Ua v (rows.take i)=U' at*
   generalize rows[i]=z at*
   obtain⟨⟨⟨K',l'⟩,q'⟩,b'⟩:=z
   have pc:=dn ((K',l'),q') v
   simp only[dF]at g2
   simp only at h2 pc hlo hup
   generalize cf l' v=c at*
   by_cases h0:c=0
   ·subst h0
    rw[if_neg (by simp)]at h2
    rw[if_neg (by simp),Nat.add_zero]at hlo hup
    have HE:=Lib.hid h2
    clear h2
    repeat' first|simp(disch:=omega) only[go_sem, *,g2,aD,aE,wrap_i64]|((with_reducible apply ab)<;>intro h<;>try omega)|(refine aF pc rfl rfl ?_)
    refine⟨i+1, [],⟨hli,HE⟩,by omega, ?_⟩
    refine aq (by simp(disch:=omega) [aD,hlo,hup,hr2,hrn,h0n]) ?_ rfl (by simp;try omega) (by simp[eg];try omega)
    repeat' first|exact hF.wkA|refine ar ?_ ?_ ?_ ?_ ?_|(simp(disch:=omega) [aD,hlo,hup,hr2,hrn,h0n]<;>omega)|omega
   ·cases q'
    ·rw[if_neg (by simp)]at h2
     have HE:=Lib.hid h2
     clear h2
     by_cases hp:0<c
     ·have hn: ¬c<0:=by omega
      rw[if_pos hp]at hlo
      rw[if_neg hn,Nat.add_zero]at hup
      repeat' first|simp(disch:=omega) only[go_sem, *,g2,aD,aE,wrap_i64,h0,hp,hn]|((with_reducible apply ab)<;>intro h<;>try omega)|(refine aF pc rfl rfl ?_)
      refine⟨i+1, [],⟨hli,HE⟩,by omega, ?_⟩
      refine aq (by simp(disch:=omega) [aD,hlo,hup,hr2,hrn,h0n]) ?_ rfl (by simp;try omega) (by simp[eg];try omega)
      repeat' first|exact hF.wkA|refine ar ?_ ?_ ?_ ?_ ?_|(simp(disch:=omega) [aD,hlo,hup,hr2,hrn,h0n]<;>omega)|omega
     ·have hn:c<0:=by omega
      rw[if_neg hp,Nat.add_zero]at hlo
      rw[if_pos hn]at hup
      repeat' first|simp(disch:=omega) only[go_sem, *,g2,aD,aE,wrap_i64,h0,hp,hn]|((with_reducible apply ab)<;>intro h<;>try omega)|(refine aF pc rfl rfl ?_)
      refine⟨i+1, [],⟨hli,HE⟩,by omega, ?_⟩
      refine aq (by simp(disch:=omega) [aD,hlo,hup,hr2,hrn,h0n]) ?_ rfl (by simp;try omega) (by simp[eg];try omega)
      repeat' first|exact hF.wkA|refine ar ?_ ?_ ?_ ?_ ?_|(simp(disch:=omega) [aD,hlo,hup,hr2,hrn,h0n]<;>omega)|omega
    ·rw[if_pos ⟨h0,rfl⟩]at h2
     subst h2
     have h3:=HR.out
     simp only at h3
     subst h3
     clear HR hlo hup
     repeat' first|simp(disch:=omega) only[go_sem, *,g2,aD,aE,wrap_i64,h0]|((with_reducible apply ab)<;>intro h<;>try omega)|(refine aF pc rfl rfl ?_)
     refine⟨[], [], ?_⟩
     simp(disch:=omega) only[go_sem,aR,aD,aE]
     refine aq (by simp(disch:=omega) [aD,hr2,hrn,h0n,hemp]) ?_ rfl (by simp;try omega) (by simp[eg];try omega)
     repeat' first|exact hF.wkA|refine ar ?_ ?_ ?_ ?_ ?_|(simp(disch:=omega) [aD,hr2,hrn,h0n,hemp]<;>omega)|omega
  ·obtain rfl:i=rows.length:=by omega
   have h2:=HE.out
   rw[List.drop_eq_nil_of_le (by omega),v7]at h2
   subst h2
   have h3:=HR.out
   simp only at h3
   rw[List.take_of_length_le (Nat.le_refl _)]
   have l1:=MW v rows
   have l2:=Ro v rows
   clear HR HE
   generalize BV v rows=L at*
   generalize Ua v rows=U' at*
   have hm:L*U'≤65536:=Nat.le_trans (Nat.mul_le_mul (Nat.le_trans l1 hrl) (Nat.le_trans l2 hrl)) (by decide)
   have hmi:(L:Int)*(U':Int)=((L*U':Nat):Int):=by simp
   rw[←hmi]at h3
   have hm0:0≤(L:Int)*(U':Int):=by rw[hmi];omega
   have hm1:(L:Int)*(U':Int)≤65536:=by rw[hmi];omega
   obtain⟨M,hM⟩: ∃M,M=(L:Int)*(U':Int):=⟨_,rfl⟩
   rw[←hM]at h3 hm0 hm1
   have hw:IntKind.wrap .i64 ((L:Int)*(U':Int))=M:=by rw[←hM];exact wrap_i64 ⟨by omega,by omega⟩
   clear hm hmi l1 l2 hM
   by_cases hb:best<0∨M<best
   ·rw[if_pos hb]at h3
    have HR:=Lib.hid h3
    clear h3
    rcases hb with hb|hb
    ·repeat' first|simp(disch:=omega) only[go_sem, *,aD,aE,hw,hb,wrap_i64]|((with_reducible apply ab)<;>intro h<;>try omega)
     refine⟨(j+1,M,v), [],⟨hlt,by simp only;omega,hm1,HR⟩,by show _-_<_-_;omega, ?_⟩
     refine aq (by simp(disch:=omega) [aD,hr2,hrn,h0n,hemp]) ?_ rfl (by simp;try omega) (by simp[eg];try omega)
     repeat' first|exact hF.wkA|refine ar ?_ ?_ ?_ ?_ ?_|(simp(disch:=omega) [aD,hr2,hrn,h0n,hemp]<;>omega)|omega
    ·repeat' first|simp(disch:=omega) only[go_sem, *,aD,aE,hw,hb,wrap_i64]|((with_reducible apply ab)<;>intro h<;>try omega)
     refine⟨(j+1,M,v), [],⟨hlt,by simp only;omega,hm1,HR⟩,by show _-_<_-_;omega, ?_⟩
     refine aq (by simp(disch:=omega) [aD,hr2,hrn,h0n,hemp]) ?_ rfl (by simp;try omega) (by simp[eg];try omega)
     repeat' first|exact hF.wkA|refine ar ?_ ?_ ?_ ?_ ?_|(simp(disch:=omega) [aD,hr2,hrn,h0n,hemp]<;>omega)|omega
   ·rw[if_neg hb]at h3
    have HR:=Lib.hid h3
    clear h3
    have n1: ¬best<0:=by omega
    have n2: ¬M<best:=by omega
    clear hb
    repeat' first|simp(disch:=omega) only[go_sem, *,aD,aE,hw,n1,n2,wrap_i64]|((with_reducible apply ab)<;>intro h<;>try omega)
    refine⟨(j+1,best,name), [],⟨hlt,hb1,hb2,HR⟩,by show _-_<_-_;omega, ?_⟩
    refine aq (by simp(disch:=omega) [aD,hr2,hrn,h0n,hemp]) ?_ rfl (by simp;try omega) (by simp[eg];try omega)
    repeat' first|exact hF.wkA|refine ar ?_ ?_ ?_ ?_ ?_|(simp(disch:=omega) [aD,hr2,hrn,h0n,hemp]<;>omega)|omega
 ·have h2:=HR.out
  rw[List.drop_eq_nil_of_le (by omega),dy]at h2
  subst h2
  clear HR
  repeat' first|simp(disch:=omega) only[go_sem, *,aD,aE]|((with_reducible apply ab)<;>intro h<;>try omega)
  refine⟨[], [], ?_⟩
  simp(disch:=omega) only[go_sem,aR,aD,aE]
  refine aq (by simp(disch:=omega) [aD,hr2,hrn,h0n,hemp]) ?_ rfl (by simp;try omega) (by simp[eg];try omega)
  repeat' first|exact hF.wkA|refine ar ?_ ?_ ?_ ?_ ?_|(simp(disch:=omega) [aD,hr2,hrn,h0n,hemp]<;>omega)|omega
set_option maxRecDepth 20000
set_option maxRecDepth 1000000
theorem Nq {α:Type} [DecidableEq α]: ∀{l m:List α},l.Nodup→(∀x∈l,x∈m)→l.length≤m.length
 | [],m,_,_=>Nat.zero_le _
 |x::l,m,h,hs=>by
  obtain⟨h1,h2⟩:=List.nodup_cons.1 h
  have hx:=hs x List.mem_cons_self
  have h3:=Nq (l:=l) (m:=m.erase x) h2 fun y hy=>(List.mem_erase_of_ne (fun e=>by subst e;exact h1 hy)).2 (hs y (List.mem_cons_of_mem _ hy))
  have h4:=List.length_erase_of_mem hx
  have h5:=List.length_pos_of_mem hx
  simp only[List.length_cons]
  omega
theorem RK {n:ByteArray}: ∀{l:List (bt×Int)},jC n l≠0→ ∃p∈l,cf p.1.1.2 n≠0
 | [],h=>absurd rfl h
 |p::r,h=>by
  by_cases h0:cf p.1.1.2 n=0
  ·rw[jC,h0,Int.zero_mul,Int.zero_add]at h
   obtain⟨q,hq,h1⟩:=RK h
   exact⟨q,List.mem_cons_of_mem _ hq,h1⟩
  ·exact⟨p,List.mem_cons_self,h0⟩
theorem OT: ∀{l:List bt},(l.flatMap fun c=>c.1.2.map (·.1)).length=jo l
 | []=>rfl
 |c::l=>by rw[List.flatMap_cons,List.length_append,OT,List.length_map,jo]
theorem c9.short {T:List bt} {r:dq} (h:c9 T r):r.1.1.2.length≤jo T:=by
 obtain⟨h1,h2⟩:=cj.1 h.lin
 have hn:(r.1.1.2.map (·.1)).Nodup:=by
  refine List.pairwise_map.2 (h1.imp fun{a b} hab e=> ?_)
  rw[e]at hab
  exact ic _ hab
 have:=Nq hn (m:=T.flatMap fun c=>c.1.2.map (·.1)) fun x hx=>by
  obtain⟨m,hm,rfl⟩:=List.mem_map.1 hx
  have hc:jC m.1 (T.zip r.2)≠0:=by
   rw[←h.c,y9 h1 hm]
   exact(h2 m hm).2
  obtain⟨p,hp,h0⟩:=RK hc
  obtain⟨z,hz,h3,_⟩:=Z0 h0
  exact List.mem_flatMap.2 ⟨p.1,(List.of_mem_zip hp).1,List.mem_map.2 ⟨z,hz,h3⟩⟩
 rw[OT,List.length_map]at this
 exact this
theorem iG {N N' a r r':Nat} {b:bc} {F:List (Nat×bc)} (h:Go.Abs.dk N [0,r] F) (h0:0<a) (ha:N≤a) (ha':a<N') (hb:tz b=true) (hr:r'=r∨N≤r') (hne:a≠r'):Go.Abs.dk N' [0,r'] ((a,b)::F):=by
 refine⟨ha',hb,dz.2 fun m hm=> ?_,h.mono (by omega) fun n hn h'=>dz.2 fun m hm=> ?_⟩
 ·simp only[List.mem_cons,List.not_mem_nil,or_false]at hm
  omega
 ·have h1:=dz.1 h' 0 (by simp)
  have h2:=dz.1 h' r (by simp)
  simp only[List.mem_cons,List.not_mem_nil,or_false]at hm
  omega
theorem EY (nm e sz:Nat) (rows:List (List PC)) {P:Program} {nt:Nat} {c:ak} {σ:St} {Q:bk→St→Prop} (hf:am σ.mem nm=some (.arr e sz rows)) (h:AW P nt c ⟨Ch nm rows σ.fr,nH nm rows σ.mem,σ.nx,σ.base⟩ Q):AW P nt c σ Q:=
 sB [nm] (by rw[aR,hf];exact h)
theorem Uq {mem':List (Nat×bc)} {P:Program} {nt:Nat} {c:ak} {σ:St} {Q:bk→St→Prop} (hm:σ.mem=mem') (h:AW P nt c ⟨σ.fr,mem',σ.nx,σ.base⟩ Q):AW P nt c σ Q:=by
 subst hm
 exact h
theorem ni {N n:Nat}: ∀{F:List (Nat×bc)} {s:List Nat},Go.Abs.dk N s F→N≤n→am F n=none
 | [],s,_,_=>rfl
 |(nm,b)::r,s,h,hn=>by
  rw[am,if_neg (by have:=h.1;omega)]
  exact ni h.2.2.2 hn
abbrev D6 (d:dq):List AC:= [.pure (pI d.1.1.1),.pure (aw d.1.1.2),.pure (pB d.1.2),.pure (yy d.2)]
abbrev abu:List AC:= [.pure (pI 0),.nils,.pure (pB false),.nils]
abbrev zF (rows:List dq):AV:= .c (.pure (.slice (rows.map dF)))
theorem EG {c d:Int} (hc:ay c) (hd:ay d) (h0:d≠0):ac Tryz.prog yz [I c,I d] (.tup [I (fR c d).1,I (fR c d).2.1,Go.Abs.B (fR c d).2.2]):=by
 refine ac.of G4 (by simp) fun _=>aa ?_
 conv in yB=>cbv
 simp only[fR]
 have p1:=eB hc
 have p2:=eB hd
 have p3:=sD c.natAbs d.natAbs
 have hz:Nat.gcd c.natAbs d.natAbs≠0:=fun h=>h0 (Int.natAbs_eq_zero.1 (Nat.eq_zero_of_gcd_eq_zero_right h))
 have hP:c.natAbs≤9223372036854775808:=by unfold ay at hc;omega
 have hQ:d.natAbs≤9223372036854775808:=by unfold ay at hd;omega
 generalize Nat.gcd c.natAbs d.natAbs=g at*
 generalize c.natAbs=P at*
 generalize d.natAbs=Q at*
 have l1:Q/g≤Q:=Nat.div_le_self _ _
 have l2:P/g≤P:=Nat.div_le_self _ _
 have p4:=iJ (n:=P/g) false
 have p5:=iJ (n:=Q/g) (decide (0<c)==decide (0<d))
 have w1:IntKind.wrap .u64 ((Q/g:Nat):Int)=(Q/g:Nat):=E7 (by omega)
 have w2:IntKind.wrap .u64 ((P/g:Nat):Int)=(P/g:Nat):=E7 (by omega)
 have hg': ¬(g:Int)=0:=by omega
 generalize oN (P/g) false=s1 at*
 generalize hs2:oN (Q/g) (decide (0<c)==decide (0<d))=s2 at*
 obtain⟨s1,o1⟩:=s1
 obtain⟨s2,o2⟩:=s2
 cases o1
 all_goals
  repeat' first|simp(disch:=omega) only[go_sem, *,hg',ne_eq,Bk,w1,w2]|((with_reducible apply ab)<;>intro h<;>try omega)|(refine aF p1 rfl rfl ?_)|(refine aF p2 rfl rfl ?_)|(refine aF p3 rfl rfl ?_)|(refine aF p4 rfl rfl ?_)|(refine aF p5 rfl rfl ?_)
  rfl
theorem Ay {p q:Int} (hp:ay p) (hq:ay q) (h0:p≠0):ac Tryz.prog oi [I p,I q] (.tup [I (gk p q).1,I (gk p q).2.1,Go.Abs.B (gk p q).2.2]):=BW hp hq h0
theorem EZ (n:Nat) (s:Bool):ay (oN n s).1:=by
 unfold oN ay
 split
 ·simp
 ·simp only
  split<;>omega
theorem SM {rows:List dq} {k:Nat} (h:k<rows.length):yN k (rows.drop k)=(k,rows[k])::yN (k+1) (rows.drop (k+1)):=by
 rw[List.drop_eq_getElem_cons h,yN]
theorem wB {α:Type} {step:α→List dq→Int→Uk} {x:α} {l:List α} {acc:List dq} {fuel:Int}:gE step (x::l) acc fuel=if(step x acc fuel).2.2≠0 then step x acc fuel else gE step l (step x acc fuel).1 (step x acc fuel).2.1:=rfl
set_option maxHeartbeats 4000000 in
theorem wZ {T:List bt} {n:ByteArray} {e:Nat} {fuel:Int} {r nx:Nat} {rows:List dq} {F:List (Nat×bc)} (hT: ∀z∈rows,c9 T z) (ht:jo T≤400000000) (hTl:T.length≤1000000000) (hrl:rows.length≤256) (he:e<rows.length)
  (hq:rows[e].1.2=true) (hf0:0≤fuel) (hf1:fuel≤2000000) (hr:0<r) (hrn:r<nx) (hF:Go.Abs.dk nx [0,r] F):
  au Tryz.prog iA [.c (.ptr 0 0),S n,I e] (jV r rows fuel F) nx (eF [I (yJ n e rows fuel).2.2]) (jV nx (yJ n e rows fuel).1 (yJ n e rows fuel).2.1 F) (nx+1):=by
 refine au.ofZ oP (by simp) fun _=>aa ?_
 have ge:=ah (f:=dF) he
 have hTe:=hT _ (List.getElem_mem he)
 have hg:rows.getD e QT=rows[e]:=by simp[List.getD_eq_getElem?_getD,he]
 conv in iB=>cbv
 unfold yJ
 rw[hg]
 clear hg
 generalize rows[e]=w at*
 obtain⟨⟨⟨Kw,lw⟩,qw⟩,bw⟩:=w
 simp only at hq
 subst hq
 simp only[dF]at ge
 have pw:=dn ((Kw,lw),true) n
 have hcw:ay (cf lw n):=J2 hTe.r64.1.2 n
 simp only at pw
 obtain⟨R,hR⟩: ∃R,R=gE (s8 n (((Kw,lw),true),bw) e) (yN 0 (rows.drop 0)) [] fuel:=⟨_,rfl⟩
 have hR0:gE (s8 n (((Kw,lw),true),bw) e) (yN 0 rows) [] fuel=R:=hR.symm
 rw[hR0]
 have HR:=Lib.hid hR
 clear hR hR0
 repeat' first|simp(disch:=omega) only[go_sem, *,ge,aD,aE]|((with_reducible apply ab)<;>intro h<;>try omega)|(refine aF pw rfl rfl ?_)
 refine cQ 0 0 156 4 [.nils,.pure (pI fuel)] (by simp(disch:=omega) [am,aD]) rfl (by decide) ?_
 refine EY r 156 4 (rows.map dF) (by simp(disch:=omega) [am,al,aD]) ?_
 have hfz:=hF.frz (n:=r) (rows:=rows.map dF) (.inl (by simp))
 refine Uq (mem':=jV nx [] fuel F) (by simp(disch:=omega) [nH,BG,iw,dJ,aD,hfz]) ?_
 refine an (fun s:Nat×List dq×Int=>⟨[(0,.c (.ptr 0 0)),(1,S n),(2,I e),(7,zF rows),(8,I (cf lw n)),(32,zF rows),(33,I rows.length),(34,I s.1)],jV nx s.2.1 s.2.2 F,nx+1,nx⟩)
  (fun s=>s.1≤rows.length∧(∀z∈s.2.1,c9 T z)∧s.2.1.length≤256∧0≤s.2.2∧s.2.2≤fuel∧Hid (R=gE (s8 n (((Kw,lw),true),bw) e) (yN s.1 (rows.drop s.1)) s.2.1 s.2.2)) (fun s=>rows.length-s.1) ⟨(0, [],fuel), [],⟨Nat.zero_le _,by simp,by simp,hf0,Int.le_refl _,HR⟩, ?_⟩ ?_
 ·refine aq (by simp(disch:=omega) [aD,Ch,sH,iw]) ?_ rfl (by simp;try omega) (by simp[eg];try omega)
  repeat' first|exact hF.wkA|refine ar ?_ ?_ ?_ ?_ ?_|(simp(disch:=omega) [aD,Ch,sH,iw]<;>omega)|omega
 clear HR pw
 rintro⟨k,acc,fu⟩ ⟨hk,hacc,hal,hfu0,hfu1,HR⟩
 simp only at hk hacc hal hfu0 hfu1 HR
 refine aa ?_
 have h0n:0<nx:=by omega
 by_cases hlt:k<rows.length
 ·have g1:=ah (f:=dF) hlt
  have hz:=hT _ (List.getElem_mem hlt)
  have h2:=HR.out
  rw[SM hlt,wB]at h2
  have hst:=Oz (n:=n) (e:=e) hTe rfl (r:=(k,rows[k])) hz acc fu hacc hal
  have hzs:=hz.short
  have hws:=hTe.short
  clear HR
  generalize rows[k]=z at*
  obtain⟨⟨⟨K',l'⟩,q'⟩,b'⟩:=z
  simp only[dF]at g1
  have pc:=dn ((K',l'),q') n
  simp only at pc hzs hws
  by_cases hke:k=e
  ·have hs:s8 n (((Kw,lw),true),bw) e (k,(((K',l'),q'),b')) acc fu=(acc,fu,0):=if_pos hke
   rw[hs]at h2
   rw[if_neg (by simp)]at h2
   have HR:=Lib.hid h2
   have hkei:((k:Int)=(e:Int))=True:=eq_true (by omega)
   clear h2 hs hst hke ge
   repeat' first|simp(disch:=omega) only[go_sem, *,g1,hkei,aD,aE,wrap_i64]|((with_reducible apply ab)<;>intro h<;>try omega)|(refine aF pc rfl rfl ?_)
   refine⟨(k+1,acc,fu), [],⟨hlt,hacc,hal,hfu0,hfu1,HR⟩,by show _-_<_-_;omega, ?_⟩
   refine aq (by simp(disch:=omega) [aD,h0n]) ?_ rfl (by simp;try omega) (by simp[eg];try omega)
   repeat' first|exact hF.wkA|refine ar ?_ ?_ ?_ ?_ ?_|(simp(disch:=omega) [aD,h0n]<;>omega)|omega
  ·have hkei: ¬(k:Int)=(e:Int):=by omega
   by_cases h0:cf l' n=0
   ·have hs:s8 n (((Kw,lw),true),bw) e (k,(((K',l'),q'),b')) acc fu=((d8 acc (((K',l'),q'),b')).1,fu,(d8 acc (((K',l'),q'),b')).2):=by rw[s8,if_neg hke,if_pos h0]
    rw[hs]at h2 hst
    rw[h0]at pc
    have pa:=jI (d:=(((K',l'),q'),b')) (fuel:=fu) (r:=nx) (nx:=nx+2) (rows:=acc) (F:=(nx+1,.var (D6 (((K',l'),q'),b')))::F) hal (by omega) (by omega) (iG hF (by omega) (by omega) (by omega) rfl (.inr (Nat.le_refl _)) (by omega))
    clear hs hke h0 ge
    generalize d8 acc (((K',l'),q'),b')=A at*
    obtain⟨A,ae⟩:=A
    simp only at pa h2 hst
    by_cases hae:ae=0
    ·subst hae
     rw[if_neg (by simp)]at h2
     have HR:=Lib.hid h2
     have hA1:=hst.all
     have hA2:=hst.len
     clear h2 hst hacc
     simp only at hA1 hA2
     repeat' first|simp(disch:=omega) only[go_sem, *,g1,hkei,aD,aE,wrap_i64]|((with_reducible apply ab)<;>intro h<;>try omega)|(refine aF pc rfl rfl ?_)|(refine ap (pa.perm (fun nm=>by first|rfl|(simp only[am,al];done)|(simp only[am,al];(repeat' split)<;>first|rfl|omega))) ?_)
     refine⟨(k+1,A,fu), [(nx,nx+2)],⟨hlt,hA1,hA2,hfu0,hfu1,HR⟩,by show _-_<_-_;omega, ?_⟩
     refine aq (by simp(disch:=omega) [aD,h0n]) ?_ rfl (by simp;try omega) (by simp[eg];try omega)
     repeat' first|exact hF.wkA|refine ar ?_ ?_ ?_ ?_ ?_|(simp(disch:=omega) [aD,h0n]<;>omega)|omega
    ·rw[if_pos hae]at h2
     subst h2
     clear hst hacc
     repeat' first|simp(disch:=omega) only[go_sem, *,g1,hkei,aD,aE,wrap_i64,hae]|((with_reducible apply ab)<;>intro h<;>try omega)|(refine aF pc rfl rfl ?_)|(refine ap (pa.perm (fun nm=>by first|rfl|(simp only[am,al];done)|(simp only[am,al];(repeat' split)<;>first|rfl|omega))) ?_)
     refine⟨[], [(nx,nx+2)], ?_⟩
     simp(disch:=omega) only[go_sem,aR,aD,aE]
     refine aq (by simp(disch:=omega) [aD,h0n]) ?_ rfl (by simp;try omega) (by simp[eg];try omega)
     repeat' first|exact hF.wkA|refine ar ?_ ?_ ?_ ?_ ?_|(simp(disch:=omega) [aD,h0n]<;>omega)|omega
   ·have pk:=EG hcw (J2 hz.r64.1.2 n) h0
    simp only at pk
    have hs:s8 n (((Kw,lw),true),bw) e (k,(((K',l'),q'),b')) acc fu=if(fR (cf lw n) (cf l' n)).2.2=false then(acc,fu,3)else
     lD (((K',l'),q'),b') (((Kw,lw),true),bw) (fR (cf lw n) (cf l' n)).1 (fR (cf lw n) (cf l' n)).2.1 acc fu:=by rw[s8,if_neg hke,if_neg h0]
    rw[hs]at h2 hst
    have hx64:ay (fR (cf lw n) (cf l' n)).1:=EZ _ _
    have hy64:ay (fR (cf lw n) (cf l' n)).2.1:=EZ _ _
    clear hs hke
    generalize fR (cf lw n) (cf l' n)=X at*
    obtain⟨x,y,ok⟩:=X
    simp only at h2 hst hx64 hy64 pk
    cases ok
    ·rw[if_pos rfl,if_pos (by simp)]at h2
     subst h2
     clear hst hacc ge
     generalize cf l' n=d at*
     repeat' first|simp(disch:=omega) only[go_sem, *,g1,hkei,aD,aE,wrap_i64,h0]|((with_reducible apply ab)<;>intro h<;>try omega)|(refine aF pc rfl rfl ?_)|(refine aF pk rfl rfl ?_)
     refine⟨[], [], ?_⟩
     simp(disch:=omega) only[go_sem,aR,aD,aE]
     refine aq (by simp(disch:=omega) [aD,h0n]) ?_ rfl (by simp;try omega) (by simp[eg];try omega)
     repeat' first|exact hF.wkA|refine ar ?_ ?_ ?_ ?_ ?_|(simp(disch:=omega) [aD,h0n]<;>omega)|omega
    ·have hft: ¬(true=false):=by simp
     rw[if_neg hft]at h2 hst
     clear hft
     have hfn:am F (nx+1+1)=none:=ni hF (by omega)
     have hll:b'.length=bw.length:=by rw[hz.len,hTe.len]
     have hlb:b'.length≤1000000000:=by rw[hz.len];exact hTl
     have hm1:=nT (a:=(((K',l'),q'),b')) (b:=(((Kw,lw),true),bw)) (x:=x) (y:=y) (fuel:=fu) (r:=nx) (nx:=nx+2) (rows:=acc) (F:=(nx+1,.var (D6 (((K',l'),q'),b')))::F)
      hz.r64 hTe.r64 hx64 hy64 hll hlb (by simp only;omega) (by simp only;omega) hfu0 (by omega) (by omega) (by omega) (iG hF (by omega) (by omega) (by omega) rfl (.inr (Nat.le_refl _)) (by omega))
     have hm2:=nT (a:=(((K',l'),q'),b')) (b:=(((Kw,lw),true),bw)) (x:=x) (y:=y) (fuel:=fu) (r:=nx) (nx:=nx+3) (rows:=acc) (F:=(nx+2,.var abu)::(nx+1,.var (D6 (((K',l'),q'),b')))::F)
      hz.r64 hTe.r64 hx64 hy64 hll hlb (by simp only;omega) (by simp only;omega) hfu0 (by omega) (by omega) (by omega) (iG (N:=nx+2) (r:=nx) (iG hF (by omega) (by omega) (by omega) rfl (.inr (Nat.le_refl _)) (by omega)) (by omega) (by omega) (by omega) rfl (.inl rfl) (by omega))
     unfold lD at h2 hst
     clear hll hlb hx64 hy64
     generalize gq fu (((K',l'),q'),b') (((Kw,lw),true),bw) x y=M at*
     generalize cf l' n=d at*
     obtain⟨⟨⟨⟨Km,lm⟩,qm⟩,bm⟩,me⟩:=M
     simp only at h2 hst
     by_cases hme:me=0
     ·subst hme
      have hm0: ¬((0:Int)≠0):=by simp
      rw[if_neg hm0]at h2 hst
      simp only[Xv,if_true]at hm1 hm2
      have pa:=jI (d:=(((Km,lm),qm),bm)) (fuel:=fu-1) (r:=nx) (nx:=nx+3) (rows:=acc) (F:=(nx+2,.var (D6 (((Km,lm),qm),bm)))::(nx+1,.var (D6 (((Km,lm),qm),bm)))::F) hal (by omega) (by omega)
       (iG (N:=nx+2) (r:=nx) (iG hF (by omega) (by omega) (by omega) rfl (.inr (Nat.le_refl _)) (by omega)) (by omega) (by omega) (by omega) rfl (.inl rfl) (by omega))
      generalize d8 acc (((Km,lm),qm),bm)=A at*
      obtain⟨A,ae⟩:=A
      simp only at pa h2 hst
      by_cases hae:ae=0
      ·subst hae
       rw[if_neg (by simp)]at h2
       have HR:=Lib.hid h2
       have hA1:=hst.all
       have hA2:=hst.len
       have hA3:=hst.pos rfl hfu0
       clear h2 hst hacc
       simp only at hA1 hA2 hA3
       repeat' first|simp(disch:=omega) only[go_sem, *,g1,ge,hkei,aD,aE,hfn,wrap_i64,h0]|((with_reducible apply ab)<;>intro h<;>try omega)|(with_reducible apply ag)|(with_reducible refine aj (fun h=> ?_) ?_)|(refine aF pc rfl rfl ?_)|(refine aF pk rfl rfl ?_)|(refine ap (hm1.perm (fun nm=>by first|rfl|(simp only[am,al];done)|(simp only[am,al];(repeat' split)<;>first|rfl|omega))) ?_)|(refine ap (hm2.perm (fun nm=>by first|rfl|(simp only[am,al];done)|(simp only[am,al];(repeat' split)<;>first|rfl|omega))) ?_)|(refine ap (pa.perm (fun nm=>by first|rfl|(simp only[am,al];done)|(simp only[am,al];(repeat' split)<;>first|rfl|omega))) ?_)
       all_goals
        refine⟨(k+1,A,fu-1), [(nx,nx+3)],⟨hlt,hA1,hA2,hA3,by simp only;omega,HR⟩,by show _-_<_-_;omega, ?_⟩
        refine aq (by simp(disch:=omega) [aD,h0n]) ?_ rfl (by simp;try omega) (by simp[eg];try omega)
        repeat' first|exact hF.wkA|refine ar ?_ ?_ ?_ ?_ ?_|(simp(disch:=omega) [aD,h0n]<;>omega)|omega
      ·rw[if_pos hae]at h2
       subst h2
       clear hst hacc
       repeat' first|simp(disch:=omega) only[go_sem, *,g1,ge,hkei,aD,aE,hfn,wrap_i64,h0,hae]|((with_reducible apply ab)<;>intro h<;>try omega)|(with_reducible apply ag)|(with_reducible refine aj (fun h=> ?_) ?_)|(refine aF pc rfl rfl ?_)|(refine aF pk rfl rfl ?_)|(refine ap (hm1.perm (fun nm=>by first|rfl|(simp only[am,al];done)|(simp only[am,al];(repeat' split)<;>first|rfl|omega))) ?_)|(refine ap (hm2.perm (fun nm=>by first|rfl|(simp only[am,al];done)|(simp only[am,al];(repeat' split)<;>first|rfl|omega))) ?_)|(refine ap (pa.perm (fun nm=>by first|rfl|(simp only[am,al];done)|(simp only[am,al];(repeat' split)<;>first|rfl|omega))) ?_)
       all_goals
        refine⟨[], [(nx,nx+3)], ?_⟩
        simp(disch:=omega) only[go_sem,aR,aD,aE]
        refine aq (by simp(disch:=omega) [aD,h0n]) ?_ rfl (by simp;try omega) (by simp[eg];try omega)
        repeat' first|exact hF.wkA|refine ar ?_ ?_ ?_ ?_ ?_|(simp(disch:=omega) [aD,h0n]<;>omega)|omega
     ·rw[if_pos hme]at h2
      simp only at h2
      rw[if_pos hme]at h2
      subst h2
      clear hst hacc
      simp only[Xv,if_neg hme]at hm1 hm2
      repeat' first|simp(disch:=omega) only[go_sem, *,g1,ge,hkei,aD,aE,hfn,wrap_i64,h0,hme]|((with_reducible apply ab)<;>intro h<;>try omega)|(with_reducible apply ag)|(with_reducible refine aj (fun h=> ?_) ?_)|(refine aF pc rfl rfl ?_)|(refine aF pk rfl rfl ?_)|(refine ap (hm1.perm (fun nm=>by first|rfl|(simp only[am,al];done)|(simp only[am,al];(repeat' split)<;>first|rfl|omega))) ?_)|(refine ap (hm2.perm (fun nm=>by first|rfl|(simp only[am,al];done)|(simp only[am,al];(repeat' split)<;>first|rfl|omega))) ?_)
      all_goals
       refine⟨[], [], ?_⟩
       simp(disch:=omega) only[go_sem,aR,aD,aE]
       refine aq (by simp(disch:=omega) [aD,h0n]) ?_ rfl (by simp;try omega) (by simp[eg];try omega)
       repeat' first|exact hF.wkA|refine ar ?_ ?_ ?_ ?_ ?_|(simp(disch:=omega) [aD,h0n]<;>omega)|omega
 ·have h2:=HR.out
  rw[List.drop_eq_nil_of_le (by omega)]at h2
  simp only[yN,gE]at h2
  subst h2
  clear HR
  repeat' first|simp(disch:=omega) only[go_sem, *,aD,aE]|((with_reducible apply ab)<;>intro h<;>try omega)
  refine⟨[], [], ?_⟩
  simp(disch:=omega) only[go_sem,aR,aD,aE]
  refine aq (by simp(disch:=omega) [aD,h0n]) ?_ rfl (by simp;try omega) (by simp[eg];try omega)
  repeat' first|exact hF.wkA|refine ar ?_ ?_ ?_ ?_ ?_|(simp(disch:=omega) [aD,h0n]<;>omega)|omega
end Go.Proofs.YthbcbaembicdbaaGreatDoor
