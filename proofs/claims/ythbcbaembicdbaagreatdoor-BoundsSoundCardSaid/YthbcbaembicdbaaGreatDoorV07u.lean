import Derived.Test.YthbcbaembicdbaaGreatDoorPlain07g
import Derived.Test.YthbcbaembicdbaaGreatDoorVSort
set_option maxHeartbeats 4000000
set_option linter.unusedVariables false
set_option linter.unusedSimpArgs false
set_option maxRecDepth 1000000
namespace Go.Proofs.YthbcbaembicdbaaGreatDoor
open Go.Abs Go.RowKit
def dH (forms:List bU):List ByteArray:=forms.flatMap λf=>f.2.map (·.1)
def lP (f:bU):List PC:= [pI f.1,aw f.2]
theorem DT (l:List (List UInt8)):bo (kC l)=l:=by
 rw[kC,bo,List.map_map]
 exact(List.map_congr_left (λs _=>by simp)).trans (List.map_id l)
theorem Gz {forms:List bU} {k:Nat} (h:k<forms.length):dH (forms.drop k)=forms[k].2.map (·.1)++dH (forms.drop (k+1)):=by
 rw[List.drop_eq_getElem_cons h]
 rfl
theorem xA {forms:List bU} (hl:(dH forms).length≤1000000000):af Tryz.prog oG [gG lP forms] (om (tA (wQ (dH forms)))):=by
 refine af.of IN (by simp) λhb=>aa ?_
 have hfl:forms.length≤9223372036854775807:=by simpa[ol,iI,jt]using hb
 clear hb
 conv in BN=>cbv
 obtain⟨R,hR⟩: ∃R,R= []++dH (forms.drop 0):=⟨_,rfl⟩
 have hR0:dH forms=R:=hR.symm
 rw[hR0]at hl ⊢
 have HR:=Lib.hid hR
 clear hR hR0
 repeat' first|simp(disch:=omega) only[go_sem, *]|((with_reducible apply ab)<;>intro h<;>try omega)
 refine fj 3 9 1 rfl (by decide) ?_
 refine ap (λs:Nat×List ByteArray=>⟨[(3,.c (.ref 0)),(8,gG lP forms),(9,I forms.length),(10,I s.1)], [(0,.arr 9 1 (cr s.2))],1,0⟩) (λs=>s.1≤forms.length∧Hid (R=s.2++dH (forms.drop s.1))) (λs=>forms.length-s.1) ⟨(0, []), [],⟨Nat.zero_le _,HR⟩,by simp⟩ ?_
 clear HR
 rintro⟨j,acc⟩ ⟨hj,HR⟩
 simp only at hj HR
 refine aa ?_
 by_cases hlt:j<forms.length
 ·have g1:=ai (f:=lP) hlt
  have h2:=HR.out
  rw[Gz hlt]at h2
  clear HR
  generalize forms[j]=f at*
  obtain⟨K,l⟩:=f
  simp only[lP]at g1
  simp only at h2
  have HR:=Lib.hid h2
  clear h2
  repeat' first|simp(disch:=omega) only[go_sem, *,g1]|((with_reducible apply ab)<;>intro h<;>try omega)
  refine MY 15 λhbl=> ?_
  have hll:l.length≤9223372036854775807:=by simpa[aA,iI,jt]using hbl
  clear hbl
  refine ap (λs:Nat×List ByteArray=>⟨[(3,.c (.ref 0)),(8,gG lP forms),(9,I forms.length),(10,I j),(15,.c (.pure (aw l))),(16,I l.length),(17,I s.1)], [(0,.arr 9 1 (cr s.2))],1,0⟩)
   (λs=>s.1≤l.length∧Hid (R=s.2++((l.drop s.1).map (·.1)++dH (forms.drop (j+1))))) (λs=>l.length-s.1) ⟨(0,acc), [],⟨Nat.zero_le _,HR⟩,by simp⟩ ?_
  clear HR
  rintro⟨k,acc⟩ ⟨hk,HR⟩
  simp only at hk HR
  refine aa ?_
  by_cases hlk:k<l.length
  ·have g2:=ai (f:=mP) hlk
   have h2:=HR.out
   rw[List.drop_eq_getElem_cons hlk]at h2
   clear HR
   generalize l[k]=m at*
   obtain⟨n,x⟩:=m
   simp only[mP]at g2
   have hacc:acc.length≤1000000000:=by rw[h2]at hl;simp at hl;omega
   have HR:Hid (R=(acc++ [n])++((l.drop (k+1)).map (·.1)++dH (forms.drop (j+1)))):=Lib.hid (by rw[h2];simp)
   clear h2
   repeat' first|simp(disch:=omega) only[go_sem, *,g2,wrap_i64]|((with_reducible apply ab)<;>intro h<;>try omega)|(refine bf rfl (by intro h;cases h) (aO rfl) (by simp;omega) (by simp;omega) ?_)
   exact⟨(k+1,acc++ [n]), [(0,2)],⟨hlk,HR⟩,by show _-_<_-_;omega,by simp⟩
  ·have h2:=HR.out
   rw[List.drop_eq_nil_of_le (by omega)]at h2
   have HR:=Lib.hid h2
   clear h2
   repeat' first|simp(disch:=omega) only[go_sem, *,wrap_i64]|((with_reducible apply ab)<;>intro h<;>try omega)
   exact⟨(j+1,acc), [],⟨hlt,HR⟩,by show _-_<_-_;omega,by simp⟩
 ·have h2:=HR.out
  rw[List.drop_eq_nil_of_le (by omega)]at h2
  have h3:R=acc:=by rw[h2];simp[dH]
  clear h2 HR
  subst h3
  repeat' first|simp(disch:=omega) only[go_sem, *]|((with_reducible apply ab)<;>intro h<;>try omega)|(refine an (Ze rfl (by omega)) ?_)|(refine an (QI rfl) ?_)
set_option maxRecDepth 20000
set_option maxRecDepth 1000000
def e9 (rows:List dh):List bU:=rows.map λr=>r.1.1
theorem Hz:e9 []= []:=rfl
theorem MZ (rows:List dh):tA (wQ (dH (e9 rows)))=np rows:=by
 have e:dH (e9 rows)=fg rows:=by simp[dH,e9,fg,List.flatMap_map]
 rw[e,tA,wQ,DT]
 rfl
theorem Fe {fuel:Int} {r nx:Nat} {rows:List dh} {F:List (Nat×aU)} (hrl:rows.length≤256) (hn:(fg rows).length≤1000000000) (hr:0<r) (hrn:r<nx) (hF:Go.Abs.dO nx [0,r] F):
  aq Tryz.prog mB [.c (.ptr 0 0)] (jA r rows fuel F) nx (eo [om (np rows)]) (jA r rows fuel F) nx:=by
 refine aq.ofZ ua (by simp) λ_=>aa ?_
 have e:dH (e9 rows)=fg rows:=by simp[dH,e9,fg,List.flatMap_map]
 have pn:=xA (forms:=e9 rows) (by rw[e];exact hn)
 rw[MZ]at pn
 clear e hn
 conv in mn=>cbv
 repeat' first|simp(disch:=omega) only[go_sem, *,aG,aH]|((with_reducible apply ab)<;>intro h<;>try omega)
 refine fj 3 44 2 rfl (by decide) ?_
 refine ap (λk:Nat=>⟨[(3,.c (.ref nx)),(9,.c (.ref r)),(10,I rows.length),(11,I k)],(nx,.arr 44 2 ((e9 (rows.take k)).map lP))::jA r rows fuel F,nx+1,nx⟩) (λk=>k≤rows.length) (λk=>rows.length-k) ⟨0, [],Nat.zero_le _, ?_⟩ ?_
 ·have hr2:r<nx+1:=by omega
  refine av (by simp(disch:=omega) [aG,hr2,Hz]) ?_ rfl (by simp;try omega) (by simp[e7];try omega)
  repeat' first|exact hF.wkA|refine au ?_ ?_ ?_ ?_ ?_|(simp(disch:=omega) [aG,hr2,Hz]<;>omega)|omega
 intro k hk
 refine aa ?_
 have hdl:=hF.del (n:=nx) (.inr (by omega))
 have hr2:r<nx+1:=by omega
 by_cases hlt:k<rows.length
 ·have g1:=ai (f:=dv) hlt
  have et:(e9 (rows.take (k+1))).map lP=(e9 (rows.take k)).map lP++ [lP rows[k].1.1]:=by
   rw[List.take_succ_eq_append_getElem hlt,e9,List.map_append,List.map_append]
   rfl
  have hlen:((e9 (rows.take k)).map lP).length≤256:=by simp[e9];omega
  generalize (e9 (rows.take k)).map lP=D at*
  generalize rows[k]=z at*
  obtain⟨⟨⟨K',l'⟩,q'⟩,b'⟩:=z
  simp only[dv]at g1
  simp only[lP]at et
  repeat' first|simp(disch:=omega) only[go_sem, *,g1,aG,aH,hdl,wrap_i64]|((with_reducible apply ab)<;>intro h<;>try omega)|(refine bf (by simp(disch:=omega) only[al,am,aG,eq_self,↓reduceIte,Option.map_some]<;>rfl) (by intro h;cases h) (aO rfl) (by simp;omega) (by simp;omega) ?_)
  refine⟨k+1, [(nx,nx+2)],hlt,by omega, ?_⟩
  refine av (by simp(disch:=omega) [aG,et,hr2]) ?_ rfl (by simp;try omega) (by simp[e7];try omega)
  repeat' first|exact hF.wkA|refine au ?_ ?_ ?_ ?_ ?_|(simp(disch:=omega) [aG,et,hr2]<;>omega)|omega
 ·obtain rfl:k=rows.length:=by omega
  rw[List.take_of_length_le (Nat.le_refl _)]
  have hfz:=hF.frz (n:=nx) (rows:=(e9 rows).map lP) (.inr (by omega))
  repeat' first|simp(disch:=omega) only[go_sem, *,aG,aH]|((with_reducible apply ab)<;>intro h<;>try omega)|(refine K7 nx 44 2 ((e9 rows).map lP) pn (by simp(disch:=omega) only[al,am,aG,eq_self,↓reduceIte,Option.map_some]<;>rfl) (by simp[vJ,jp,aV,ct,wS,cU,cG]) (.inr (by simp[vJ,jp,fh,yx,jQ])) ?_)
  refine⟨[], [], ?_⟩
  simp(disch:=omega) only[go_sem,aP,aG,aH,hfz]
  refine av (by simp(disch:=omega) [aG]) ?_ rfl (by simp;try omega) (by simp[e7];try omega)
  repeat' first|exact hF.wkA|refine au ?_ ?_ ?_ ?_ ?_|(simp(disch:=omega) [aG]<;>omega)|omega
theorem Mf {rows:List dh} {k:Nat} (h:k<rows.length):hZ (rows.drop k)=if ig rows[k].1 then some rows[k].2 else hZ (rows.drop (k+1)):=by
 rw[List.drop_eq_getElem_cons h,hZ]
theorem aQ {α:Type} {f:α→List PC} {sz:Nat} {xs:List α} (h: ∀x,(f x).length=sz):bC sz (xs.map f):=by
 intro r hr
 obtain⟨x,_,rfl⟩:=List.mem_map.1 hr
 exact h x
theorem oA {xs:List Int} (hl:xs.length≤1000000000):af Tryz.prog gJ [dc xs] (dc xs):=by
 refine af.of mL (by simp) λ_=>aa ?_
 simp only[gE]
 have hok:bC 1 (xs.map λn=> [pI n]):=aQ λ_=>rfl
 cases xs with
 |nil=>
  repeat' first|simp(disch:=omega) only[go_sem, *]|((with_reducible apply ab)<;>intro h<;>try omega)|(with_reducible apply ah)|(with_reducible refine aj (λh=> ?_) ?_)|(refine nJ (by intro r hr;cases hr) hok (by simp) (by simp) ?_)
  all_goals rfl
 |cons x r=>
  have hl':r.length≤999999999:=by simpa using hl
  repeat' first|simp(disch:=omega) only[go_sem, *]|((with_reducible apply ab)<;>intro h<;>try omega)|(with_reducible apply ah)|(with_reducible refine aj (λh=> ?_) ?_)|(refine nJ (by intro r hr;cases hr) hok (by simp;omega) (by simp;omega) ?_)
  all_goals rfl
def Gv:Option (List Int)→List AV
 |none=> [.c .nils,Go.Abs.B false]
 |some b=> [dc b,Go.Abs.B true]
theorem rZ {fuel:Int} {r nx:Nat} {rows:List dh} {F:List (Nat×aU)} (hrl:rows.length≤256) (hlen: ∀z∈rows,z.2.length≤1000000000) (hr:0<r) (hrn:r<nx) (hF:Go.Abs.dO nx [0,r] F):
  aq Tryz.prog gc [.c (.ptr 0 0)] (jA r rows fuel F) nx (eo (Gv (hZ rows))) (jA r rows fuel F) nx:=by
 refine aq.ofZ lY (by simp) λ_=>aa ?_
 conv in fZ=>cbv
 obtain⟨R,hR⟩: ∃R,R=hZ (rows.drop 0):=⟨_,rfl⟩
 have hR0:hZ rows=R:=hR.symm
 rw[hR0]
 have HR:=Lib.hid hR
 clear hR hR0
 repeat' first|simp(disch:=omega) only[go_sem, *,aG,aH]|((with_reducible apply ab)<;>intro h<;>try omega)
 refine ap (λk:Nat=>⟨[(9,.c (.ref r)),(10,I rows.length),(11,I k)],jA r rows fuel F,nx,nx⟩) (λk=>k≤rows.length∧Hid (R=hZ (rows.drop k))) (λk=>rows.length-k) ⟨0, [],⟨Nat.zero_le _,HR⟩, ?_⟩ ?_
 ·refine av (by simp(disch:=omega) [aG,hrn]) ?_ rfl (by simp;try omega) (by simp[e7];try omega)
  repeat' first|exact hF.wkA|refine au ?_ ?_ ?_ ?_ ?_|(simp(disch:=omega) [aG,hrn]<;>omega)|omega
 clear HR
 rintro k ⟨hk,HR⟩
 refine aa ?_
 have hr2:r<nx+1:=by omega
 by_cases hlt:k<rows.length
 ·have g1:=ai (f:=dv) hlt
  have h2:=HR.out
  rw[Mf hlt]at h2
  have hzl:=hlen _ (List.getElem_mem hlt)
  clear HR
  generalize rows[k]=z at*
  obtain⟨⟨⟨K',l'⟩,q'⟩,b'⟩:=z
  have pc:=fw ((K',l'),q')
  have pl:=oA hzl
  simp only[dv]at g1
  simp only at h2
  by_cases hb:ig ((K',l'),q')
  ·rw[if_pos hb]at h2
   subst h2
   rw[decide_eq_true hb]at pc
   clear hb
   simp only[Gv]
   repeat' first|simp(disch:=omega) only[go_sem, *,g1,aG,aH]|((with_reducible apply ab)<;>intro h<;>try omega)|(refine aY pc rfl rfl ?_)|(refine el pl rfl rfl ?_)
   refine⟨[], [], ?_⟩
   simp(disch:=omega) only[go_sem,aP,aG,aH,Gv]
   refine av (by simp(disch:=omega) [aG,hr2,hrn]) ?_ rfl (by simp;try omega) (by simp[e7];try omega)
   repeat' first|exact hF.wkA|refine au ?_ ?_ ?_ ?_ ?_|(simp(disch:=omega) [aG,hr2,hrn]<;>omega)|omega
  ·rw[if_neg hb]at h2
   rw[decide_eq_false hb]at pc
   have HR:=Lib.hid h2
   clear h2 hb pl
   repeat' first|simp(disch:=omega) only[go_sem, *,g1,aG,aH,wrap_i64]|((with_reducible apply ab)<;>intro h<;>try omega)|(refine aY pc rfl rfl ?_)
   refine⟨k+1, [],⟨hlt,HR⟩,by omega, ?_⟩
   refine av (by simp(disch:=omega) [aG,hr2,hrn]) ?_ rfl (by simp;try omega) (by simp[e7];try omega)
   repeat' first|exact hF.wkA|refine au ?_ ?_ ?_ ?_ ?_|(simp(disch:=omega) [aG,hr2,hrn]<;>omega)|omega
 ·have h2:=HR.out
  rw[List.drop_eq_nil_of_le (by omega),hZ]at h2
  subst h2
  clear HR
  simp only[Gv]
  repeat' first|simp(disch:=omega) only[go_sem, *,aG,aH]|((with_reducible apply ab)<;>intro h<;>try omega)
  refine⟨[], [], ?_⟩
  simp(disch:=omega) only[go_sem,aP,aG,aH,Gv]
  refine av (by simp(disch:=omega) [aG,hr2,hrn]) ?_ rfl (by simp;try omega) (by simp[e7];try omega)
  repeat' first|exact hF.wkA|refine au ?_ ?_ ?_ ?_ ?_|(simp(disch:=omega) [aG,hr2,hrn]<;>omega)|omega
theorem Re {n:ByteArray} {rows:List dh} {k:Nat} (h:k<rows.length):tZ n k (rows.drop k)=if cf rows[k].1.1.2 n≠0∧rows[k].1.2=true then some k else tZ n (k+1) (rows.drop (k+1)):=by
 rw[List.drop_eq_getElem_cons h,tZ]
theorem RO {n:ByteArray} {rows:List dh} {k:Nat} (h:k<rows.length):Bf n (rows.take (k+1))=Bf n (rows.take k)+if 0<cf rows[k].1.1.2 n then 1 else 0:=by
 rw[List.take_succ_eq_append_getElem h,Bf,List.filter_append,List.length_append,←Bf]
 congr 1
 by_cases h0:0<cf rows[k].1.1.2 n<;>simp[h0]
theorem T1 {n:ByteArray} {rows:List dh} {k:Nat} (h:k<rows.length):Rd n (rows.take (k+1))=Rd n (rows.take k)+if cf rows[k].1.1.2 n<0 then 1 else 0:=by
 rw[List.take_succ_eq_append_getElem h,Rd,List.filter_append,List.length_append,←Rd]
 congr 1
 by_cases h0:cf rows[k].1.1.2 n<0<;>simp[h0]
theorem L9 (n:ByteArray) (rows:List dh):Bf n rows≤rows.length:=List.length_filter_le _ _
theorem Pd (n:ByteArray) (rows:List dh):Rd n rows≤rows.length:=List.length_filter_le _ _
abbrev chR (x:ByteArray×Int×Bool):List AV:= [S x.1,I x.2.1,Go.Abs.B x.2.2]
theorem C0 {fuel:Int} {r nx:Nat} {rows:List dh} {F:List (Nat×aU)} (hrl:rows.length≤256) (hn:(fg rows).length≤1000000000) (hr:0<r) (hrn:r<nx) (hF:Go.Abs.dO nx [0,r] F):
  aq Tryz.prog k9 [.c (.ptr 0 0)] (jA r rows fuel F) nx (eo (chR (dw rows))) (jA r rows fuel F) nx:=by
 refine aq.ofZ sT (by simp) λ_=>aa ?_
 have pn:=Fe (fuel:=fuel) hrl hn hr hrn hF
 conv in lO=>cbv
 unfold dw
 generalize np rows=ns at*
 have hr2:r<nx+1:=by omega
 have h0n:0<nx:=by omega
 have hemp:(⟨⟨[]⟩⟩:ByteArray)=ByteArray.empty:=rfl
 obtain⟨R,hR⟩: ∃R,R=dj rows (ns.drop 0) (-1) .empty:=⟨_,rfl⟩
 have hR0:dj rows ns (-1) .empty=R:=hR.symm
 rw[hR0]
 have HR:=Lib.hid hR
 clear hR hR0 hn
 repeat' first|simp(disch:=omega) only[go_sem, *,aG,aH]|((with_reducible apply ab)<;>intro h<;>try omega)|(refine an pn ?_)
 refine MY 16 λhbl=> ?_
 have hnl:ns.length≤9223372036854775807:=by simpa[aA,iI,jt]using hbl
 clear hbl pn
 refine ap (λs:Nat×Int×ByteArray=>⟨[(0,.c (.ptr 0 0)),(5,I s.2.1),(6,S s.2.2),(7,I (-1)),(16,om ns),(17,I ns.length),(18,I s.1)],jA r rows fuel F,nx,nx⟩)
  (λs=>s.1≤ns.length∧ -1≤s.2.1∧s.2.1≤65536∧Hid (R=dj rows (ns.drop s.1) s.2.1 s.2.2)) (λs=>ns.length-s.1) ⟨(0,-1,.empty), [],⟨Nat.zero_le _,by simp,by simp,HR⟩, ?_⟩ ?_
 ·refine av (by simp(disch:=omega) [aG,hr2,hrn,h0n,hemp]) ?_ rfl (by simp;try omega) (by simp[e7];try omega)
  repeat' first|exact hF.wkA|refine au ?_ ?_ ?_ ?_ ?_|(simp(disch:=omega) [aG,hr2,hrn,h0n,hemp]<;>omega)|omega
 clear HR
 rintro⟨j,best,name⟩ ⟨hj,hb1,hb2,HR⟩
 simp only at hj hb1 hb2 HR
 refine aa ?_
 by_cases hlt:j<ns.length
 ·have g1:=ai (f:= λs=> [pS s]) hlt
  have h2:=HR.out
  rw[List.drop_eq_getElem_cons hlt,dj]at h2
  clear HR
  generalize ns[j]=v at*
  obtain⟨E,hE⟩: ∃E,E=tZ v 0 (rows.drop 0):=⟨_,rfl⟩
  have hE0:tZ v 0 rows=E:=hE.symm
  rw[hE0]at h2
  have HE:=Lib.hid hE
  have HR:=Lib.hid h2
  clear hE hE0 h2
  repeat' first|simp(disch:=omega) only[go_sem, *,g1,aG,aH]|((with_reducible apply ab)<;>intro h<;>try omega)
  refine ap (λi:Nat=>⟨[(0,.c (.ptr 0 0)),(5,I best),(6,S name),(7,I (-1)),(9,S v),(10,I (Bf v (rows.take i))),(11,I (Rd v (rows.take i))),(16,om ns),(17,I ns.length),(18,I j),(25,.c (.ref r)),(26,I rows.length),(27,I i)],jA r rows fuel F,nx,nx⟩)
   (λi=>i≤rows.length∧Hid (E=tZ v i (rows.drop i))) (λi=>rows.length-i) ⟨0, [],⟨Nat.zero_le _,HE⟩, ?_⟩ ?_
  ·refine av (by simp(disch:=omega) [aG,hr2,hrn,h0n,Bf,Rd]) ?_ rfl (by simp;try omega) (by simp[e7];try omega)
   repeat' first|exact hF.wkA|refine au ?_ ?_ ?_ ?_ ?_|(simp(disch:=omega) [aG,hr2,hrn,h0n,Bf,Rd]<;>omega)|omega
  clear HE
  rintro i ⟨hi,HE⟩
  refine aa ?_
  by_cases hli:i<rows.length
  ·have g2:=ai (f:=dv) hli
   have hlo:=RO (n:=v) hli
   have hup:=T1 (n:=v) hli
   have l1:=L9 v (rows.take i)
   have l2:=Pd v (rows.take i)
   have h2:=HE.out
   rw[Re hli]at h2
   rw[List.length_take]at l1 l2
   clear HE
   generalize Bf v (rows.take i)=L at*
   generalize Rd v (rows.take i)=U' at*
   generalize rows[i]=z at*
   obtain⟨⟨⟨K',l'⟩,q'⟩,b'⟩:=z
   have pc:=db ((K',l'),q') v
   simp only[dv]at g2
   simp only at h2 pc hlo hup
   generalize cf l' v=c at*
   by_cases h0:c=0
   ·subst h0
    rw[if_neg (by simp)]at h2
    rw[if_neg (by simp),Nat.add_zero]at hlo hup
    have HE:=Lib.hid h2
    clear h2
    repeat' first|simp(disch:=omega) only[go_sem, *,g2,aG,aH,wrap_i64]|((with_reducible apply ab)<;>intro h<;>try omega)|(refine aY pc rfl rfl ?_)
    refine⟨i+1, [],⟨hli,HE⟩,by omega, ?_⟩
    refine av (by simp(disch:=omega) [aG,hlo,hup,hr2,hrn,h0n]) ?_ rfl (by simp;try omega) (by simp[e7];try omega)
    repeat' first|exact hF.wkA|refine au ?_ ?_ ?_ ?_ ?_|(simp(disch:=omega) [aG,hlo,hup,hr2,hrn,h0n]<;>omega)|omega
   ·cases q'
    ·rw[if_neg (by simp)]at h2
     have HE:=Lib.hid h2
     clear h2
     by_cases hp:0<c
     ·have hn: ¬c<0:=by omega
      rw[if_pos hp]at hlo
      rw[if_neg hn,Nat.add_zero]at hup
      repeat' first|simp(disch:=omega) only[go_sem, *,g2,aG,aH,wrap_i64,h0,hp,hn]|((with_reducible apply ab)<;>intro h<;>try omega)|(refine aY pc rfl rfl ?_)
      refine⟨i+1, [],⟨hli,HE⟩,by omega, ?_⟩
      refine av (by simp(disch:=omega) [aG,hlo,hup,hr2,hrn,h0n]) ?_ rfl (by simp;try omega) (by simp[e7];try omega)
      repeat' first|exact hF.wkA|refine au ?_ ?_ ?_ ?_ ?_|(simp(disch:=omega) [aG,hlo,hup,hr2,hrn,h0n]<;>omega)|omega
     ·have hn:c<0:=by omega
      rw[if_neg hp,Nat.add_zero]at hlo
      rw[if_pos hn]at hup
      repeat' first|simp(disch:=omega) only[go_sem, *,g2,aG,aH,wrap_i64,h0,hp,hn]|((with_reducible apply ab)<;>intro h<;>try omega)|(refine aY pc rfl rfl ?_)
      refine⟨i+1, [],⟨hli,HE⟩,by omega, ?_⟩
      refine av (by simp(disch:=omega) [aG,hlo,hup,hr2,hrn,h0n]) ?_ rfl (by simp;try omega) (by simp[e7];try omega)
      repeat' first|exact hF.wkA|refine au ?_ ?_ ?_ ?_ ?_|(simp(disch:=omega) [aG,hlo,hup,hr2,hrn,h0n]<;>omega)|omega
    ·rw[if_pos ⟨h0,rfl⟩]at h2
     subst h2
     have h3:=HR.out
     simp only at h3
     subst h3
     clear HR hlo hup
     repeat' first|simp(disch:=omega) only[go_sem, *,g2,aG,aH,wrap_i64,h0]|((with_reducible apply ab)<;>intro h<;>try omega)|(refine aY pc rfl rfl ?_)
     refine⟨[], [], ?_⟩
     simp(disch:=omega) only[go_sem,aP,aG,aH]
     refine av (by simp(disch:=omega) [aG,hr2,hrn,h0n,hemp]) ?_ rfl (by simp;try omega) (by simp[e7];try omega)
     repeat' first|exact hF.wkA|refine au ?_ ?_ ?_ ?_ ?_|(simp(disch:=omega) [aG,hr2,hrn,h0n,hemp]<;>omega)|omega
  ·obtain rfl:i=rows.length:=by omega
   have h2:=HE.out
   rw[List.drop_eq_nil_of_le (by omega),tZ]at h2
   subst h2
   have h3:=HR.out
   simp only at h3
   rw[List.take_of_length_le (Nat.le_refl _)]
   have l1:=L9 v rows
   have l2:=Pd v rows
   clear HR HE
   generalize Bf v rows=L at*
   generalize Rd v rows=U' at*
   have hm:L*U'≤65536:=Nat.le_trans (Nat.mul_le_mul (Nat.le_trans l1 hrl) (Nat.le_trans l2 hrl)) (by decide)
   have hmi:(L:Int)*(U':Int)=((L*U':Nat):Int):=by simp
   rw[←hmi]at h3
   have hm0:0≤(L:Int)*(U':Int):=by rw[hmi];omega
   have hm1:(L:Int)*(U':Int)≤65536:=by rw[hmi];omega
   obtain⟨M,hM⟩: ∃M,M=(L:Int)*(U':Int):=⟨_,rfl⟩
   rw[←hM]at h3 hm0 hm1
   have hw:IntKind.wrap .i64 ((L:Int)*(U':Int))=M:=by rw[←hM];exact wrap_i64 ⟨by omega,by omega⟩
   clear hm hmi l1 l2 hM
   by_cases hb:best<0∨M<best
   ·rw[if_pos hb]at h3
    have HR:=Lib.hid h3
    clear h3
    rcases hb with hb|hb
    ·repeat' first|simp(disch:=omega) only[go_sem, *,aG,aH,hw,hb,wrap_i64]|((with_reducible apply ab)<;>intro h<;>try omega)
     refine⟨(j+1,M,v), [],⟨hlt,by simp only;omega,hm1,HR⟩,by show _-_<_-_;omega, ?_⟩
     refine av (by simp(disch:=omega) [aG,hr2,hrn,h0n,hemp]) ?_ rfl (by simp;try omega) (by simp[e7];try omega)
     repeat' first|exact hF.wkA|refine au ?_ ?_ ?_ ?_ ?_|(simp(disch:=omega) [aG,hr2,hrn,h0n,hemp]<;>omega)|omega
    ·repeat' first|simp(disch:=omega) only[go_sem, *,aG,aH,hw,hb,wrap_i64]|((with_reducible apply ab)<;>intro h<;>try omega)
     refine⟨(j+1,M,v), [],⟨hlt,by simp only;omega,hm1,HR⟩,by show _-_<_-_;omega, ?_⟩
     refine av (by simp(disch:=omega) [aG,hr2,hrn,h0n,hemp]) ?_ rfl (by simp;try omega) (by simp[e7];try omega)
     repeat' first|exact hF.wkA|refine au ?_ ?_ ?_ ?_ ?_|(simp(disch:=omega) [aG,hr2,hrn,h0n,hemp]<;>omega)|omega
   ·rw[if_neg hb]at h3
    have HR:=Lib.hid h3
    clear h3
    have n1: ¬best<0:=by omega
    have n2: ¬M<best:=by omega
    clear hb
    repeat' first|simp(disch:=omega) only[go_sem, *,aG,aH,hw,n1,n2,wrap_i64]|((with_reducible apply ab)<;>intro h<;>try omega)
    refine⟨(j+1,best,name), [],⟨hlt,hb1,hb2,HR⟩,by show _-_<_-_;omega, ?_⟩
    refine av (by simp(disch:=omega) [aG,hr2,hrn,h0n,hemp]) ?_ rfl (by simp;try omega) (by simp[e7];try omega)
    repeat' first|exact hF.wkA|refine au ?_ ?_ ?_ ?_ ?_|(simp(disch:=omega) [aG,hr2,hrn,h0n,hemp]<;>omega)|omega
 ·have h2:=HR.out
  rw[List.drop_eq_nil_of_le (by omega),dj]at h2
  subst h2
  clear HR
  repeat' first|simp(disch:=omega) only[go_sem, *,aG,aH]|((with_reducible apply ab)<;>intro h<;>try omega)
  refine⟨[], [], ?_⟩
  simp(disch:=omega) only[go_sem,aP,aG,aH]
  refine av (by simp(disch:=omega) [aG,hr2,hrn,h0n,hemp]) ?_ rfl (by simp;try omega) (by simp[e7];try omega)
  repeat' first|exact hF.wkA|refine au ?_ ?_ ?_ ?_ ?_|(simp(disch:=omega) [aG,hr2,hrn,h0n,hemp]<;>omega)|omega
set_option maxRecDepth 20000
set_option maxRecDepth 1000000
theorem KN {α:Type} [DecidableEq α]: ∀{l m:List α},l.Nodup→(∀x∈l,x∈m)→l.length≤m.length
 | [],m,_,_=>Nat.zero_le _
 |x::l,m,h,hs=>by
  obtain⟨h1,h2⟩:=List.nodup_cons.1 h
  have hx:=hs x List.mem_cons_self
  have h3:=KN (l:=l) (m:=m.erase x) h2 λy hy=>(List.mem_erase_of_ne (λe=>by subst e;exact h1 hy)).2 (hs y (List.mem_cons_of_mem _ hy))
  have h4:=List.length_erase_of_mem hx
  have h5:=List.length_pos_of_mem hx
  simp only[List.length_cons]
  omega
theorem PX {n:ByteArray}: ∀{l:List (aR×Int)},jv n l≠0→ ∃p∈l,cf p.1.1.2 n≠0
 | [],h=>absurd rfl h
 |p::r,h=>by
  by_cases h0:cf p.1.1.2 n=0
  ·rw[jv,h0,Int.zero_mul,Int.zero_add]at h
   obtain⟨q,hq,h1⟩:=PX h
   exact⟨q,List.mem_cons_of_mem _ hq,h1⟩
  ·exact⟨p,List.mem_cons_self,h0⟩
theorem Lt: ∀{l:List aR},(l.flatMap λc=>c.1.2.map (·.1)).length=iH l
 | []=>rfl
 |c::l=>by rw[List.flatMap_cons,List.length_append,Lt,List.length_map,iH]
theorem cM.short {T:List aR} {r:dh} (h:cM T r):r.1.1.2.length≤iH T:=by
 obtain⟨h1,h2⟩:=cp.1 h.lin
 have hn:(r.1.1.2.map (·.1)).Nodup:=by
  refine List.pairwise_map.2 (h1.imp λ{a b} hab e=> ?_)
  rw[e]at hab
  exact yW _ hab
 have:=KN hn (m:=T.flatMap λc=>c.1.2.map (·.1)) λx hx=>by
  obtain⟨m,hm,rfl⟩:=List.mem_map.1 hx
  have hc:jv m.1 (T.zip r.2)≠0:=by
   rw[←h.c,yc h1 hm]
   exact(h2 m hm).2
  obtain⟨p,hp,h0⟩:=PX hc
  obtain⟨z,hz,h3,_⟩:=Yz h0
  exact List.mem_flatMap.2 ⟨p.1,(List.of_mem_zip hp).1,List.mem_map.2 ⟨z,hz,h3⟩⟩
 rw[Lt,List.length_map]at this
 exact this
theorem iz {N N' a r r':Nat} {b:aU} {F:List (Nat×aU)} (h:Go.Abs.dO N [0,r] F) (h0:0<a) (ha:N≤a) (ha':a<N') (hb:ux b=true) (hr:r'=r∨N≤r') (hne:a≠r'):Go.Abs.dO N' [0,r'] ((a,b)::F):=by
 refine⟨ha',hb,dU.2 λm hm=> ?_,h.mono (by omega) λn hn h'=>dU.2 λm hm=> ?_⟩
 ·simp only[List.mem_cons,List.not_mem_nil,or_false]at hm
  omega
 ·have h1:=dU.1 h' 0 (by simp)
  have h2:=dU.1 h' r (by simp)
  simp only[List.mem_cons,List.not_mem_nil,or_false]at hm
  omega
theorem Pv (nm e sz:Nat) (rows:List (List PC)) {P:Program} {nt:Nat} {c:ak} {σ:St} {Q:bc→St→Prop} (hf:al σ.mem nm=some (.arr e sz rows)) (h:AW P nt c ⟨E0 nm rows σ.fr,rv nm rows σ.mem,σ.nx,σ.base⟩ Q):AW P nt c σ Q:=
 rV [nm] (by rw[aP,hf];exact h)
theorem TT {mem':List (Nat×aU)} {P:Program} {nt:Nat} {c:ak} {σ:St} {Q:bc→St→Prop} (hm:σ.mem=mem') (h:AW P nt c ⟨σ.fr,mem',σ.nx,σ.base⟩ Q):AW P nt c σ Q:=by
 subst hm
 exact h
theorem Bi {N n:Nat}: ∀{F:List (Nat×aU)} {s:List Nat},Go.Abs.dO N s F→N≤n→al F n=none
 | [],s,_,_=>rfl
 |(nm,b)::r,s,h,hn=>by
  rw[al,if_neg (by have:=h.1;omega)]
  exact Bi h.2.2.2 hn
abbrev CI (d:dh):List AC:= [.pure (pI d.1.1.1),.pure (aw d.1.1.2),.pure (pB d.1.2),.pure (mz d.2)]
abbrev aa9:List AC:= [.pure (pI 0),.nils,.pure (pB false),.nils]
abbrev zM (rows:List dh):AV:= .c (.pure (.slice (rows.map dv)))
theorem C6 {c d:Int} (hc:ar c) (hd:ar d) (h0:d≠0):af Tryz.prog xu [I c,I d] (.tup [I (fy c d).1,I (fy c d).2.1,Go.Abs.B (fy c d).2.2]):=by
 refine af.of FN (by simp) λ_=>aa ?_
 conv in wG=>cbv
 simp only[fy]
 have p1:=d6 hc
 have p2:=d6 hd
 have p3:=rN c.natAbs d.natAbs
 have hz:Nat.gcd c.natAbs d.natAbs≠0:= λh=>h0 (Int.natAbs_eq_zero.1 (Nat.eq_zero_of_gcd_eq_zero_right h))
 have hP:c.natAbs≤9223372036854775808:=by unfold ar at hc;omega
 have hQ:d.natAbs≤9223372036854775808:=by unfold ar at hd;omega
 generalize Nat.gcd c.natAbs d.natAbs=g at*
 generalize c.natAbs=P at*
 generalize d.natAbs=Q at*
 have l1:Q/g≤Q:=Nat.div_le_self _ _
 have l2:P/g≤P:=Nat.div_le_self _ _
 have p4:=iC (n:=P/g) false
 have p5:=iC (n:=Q/g) (decide (0<c)==decide (0<d))
 have w1:IntKind.wrap .u64 ((Q/g:Nat):Int)=(Q/g:Nat):=Df (by omega)
 have w2:IntKind.wrap .u64 ((P/g:Nat):Int)=(P/g:Nat):=Df (by omega)
 have hg': ¬(g:Int)=0:=by omega
 generalize nX (P/g) false=s1 at*
 generalize hs2:nX (Q/g) (decide (0<c)==decide (0<d))=s2 at*
 obtain⟨s1,o1⟩:=s1
 obtain⟨s2,o2⟩:=s2
 cases o1
 all_goals
  repeat' first|simp(disch:=omega) only[go_sem, *,hg',ne_eq,yH,w1,w2]|((with_reducible apply ab)<;>intro h<;>try omega)|(refine aY p1 rfl rfl ?_)|(refine aY p2 rfl rfl ?_)|(refine aY p3 rfl rfl ?_)|(refine aY p4 rfl rfl ?_)|(refine aY p5 rfl rfl ?_)
  rfl
theorem y1 {p q:Int} (hp:ar p) (hq:ar q) (h0:p≠0):af Tryz.prog m8 [I p,I q] (.tup [I (fK p q).1,I (fK p q).2.1,Go.Abs.B (fK p q).2.2]):=Ax hp hq h0
theorem Db (n:Nat) (s:Bool):ar (nX n s).1:=by
 unfold nX ar
 split
 ·simp
 ·simp only
  split<;>omega
theorem Q5 {rows:List dh} {k:Nat} (h:k<rows.length):xQ k (rows.drop k)=(k,rows[k])::xQ (k+1) (rows.drop (k+1)):=by
 rw[List.drop_eq_getElem_cons h,xQ]
theorem wb {α:Type} {step:α→List dh→Int→R6} {x:α} {l:List α} {acc:List dh} {fuel:Int}:gL step (x::l) acc fuel=if(step x acc fuel).2.2≠0 then step x acc fuel else gL step l (step x acc fuel).1 (step x acc fuel).2.1:=rfl
theorem we {T:List aR} {n:ByteArray} {e:Nat} {fuel:Int} {r nx:Nat} {rows:List dh} {F:List (Nat×aU)} (hT: ∀z∈rows,cM T z) (ht:iH T≤400000000) (hTl:T.length≤1000000000) (hrl:rows.length≤256) (he:e<rows.length)
  (hq:rows[e].1.2=true) (hf0:0≤fuel) (hf1:fuel≤2000000) (hr:0<r) (hrn:r<nx) (hF:Go.Abs.dO nx [0,r] F):
  aq Tryz.prog io [.c (.ptr 0 0),S n,I e] (jA r rows fuel F) nx (eo [I (xZ n e rows fuel).2.2]) (jA nx (xZ n e rows fuel).1 (xZ n e rows fuel).2.1 F) (nx+1):=by
 refine aq.ofZ og (by simp) λ_=>aa ?_
 have ge:=ai (f:=dv) he
 have hTe:=hT _ (List.getElem_mem he)
 have hg:rows.getD e Ok=rows[e]:=by simp[List.getD_eq_getElem?_getD,he]
 conv in ip=>cbv
 unfold xZ
 rw[hg]
 clear hg
 generalize rows[e]=w at*
 obtain⟨⟨⟨Kw,lw⟩,qw⟩,bw⟩:=w
 simp only at hq
 subst hq
 simp only[dv]at ge
 have pw:=db ((Kw,lw),true) n
 have hcw:ar (cf lw n):=PJ hTe.r64.1.2 n
 simp only at pw
 obtain⟨R,hR⟩: ∃R,R=gL (sj n (((Kw,lw),true),bw) e) (xQ 0 (rows.drop 0)) [] fuel:=⟨_,rfl⟩
 have hR0:gL (sj n (((Kw,lw),true),bw) e) (xQ 0 rows) [] fuel=R:=hR.symm
 rw[hR0]
 have HR:=Lib.hid hR
 clear hR hR0
 repeat' first|simp(disch:=omega) only[go_sem, *,ge,aG,aH]|((with_reducible apply ab)<;>intro h<;>try omega)|(refine aY pw rfl rfl ?_)
 refine dD 0 0 156 4 [.nils,.pure (pI fuel)] (by simp(disch:=omega) [al,aG]) rfl (by decide) ?_
 refine Pv r 156 4 (rows.map dv) (by simp(disch:=omega) [al,am,aG]) ?_
 have hfz:=hF.frz (n:=r) (rows:=rows.map dv) (.inl (by simp))
 refine TT (mem':=jA nx [] fuel F) (by simp(disch:=omega) [rv,Cm,jp,cm,aG,hfz]) ?_
 refine ap (λs:Nat×List dh×Int=>⟨[(0,.c (.ptr 0 0)),(1,S n),(2,I e),(7,zM rows),(8,I (cf lw n)),(32,zM rows),(33,I rows.length),(34,I s.1)],jA nx s.2.1 s.2.2 F,nx+1,nx⟩)
  (λs=>s.1≤rows.length∧(∀z∈s.2.1,cM T z)∧s.2.1.length≤256∧0≤s.2.2∧s.2.2≤fuel∧Hid (R=gL (sj n (((Kw,lw),true),bw) e) (xQ s.1 (rows.drop s.1)) s.2.1 s.2.2)) (λs=>rows.length-s.1) ⟨(0, [],fuel), [],⟨Nat.zero_le _,by simp,by simp,hf0,Int.le_refl _,HR⟩, ?_⟩ ?_
 ·refine av (by simp(disch:=omega) [aG,E0,vJ,jp]) ?_ rfl (by simp;try omega) (by simp[e7];try omega)
  repeat' first|exact hF.wkA|refine au ?_ ?_ ?_ ?_ ?_|(simp(disch:=omega) [aG,E0,vJ,jp]<;>omega)|omega
 clear HR pw
 rintro⟨k,acc,fu⟩ ⟨hk,hacc,hal,hfu0,hfu1,HR⟩
 simp only at hk hacc hal hfu0 hfu1 HR
 refine aa ?_
 have h0n:0<nx:=by omega
 by_cases hlt:k<rows.length
 ·have g1:=ai (f:=dv) hlt
  have hz:=hT _ (List.getElem_mem hlt)
  have h2:=HR.out
  rw[Q5 hlt,wb]at h2
  have hst:=Ku (n:=n) (e:=e) hTe rfl (r:=(k,rows[k])) hz acc fu hacc hal
  have hzs:=hz.short
  have hws:=hTe.short
  clear HR
  generalize rows[k]=z at*
  obtain⟨⟨⟨K',l'⟩,q'⟩,b'⟩:=z
  simp only[dv]at g1
  have pc:=db ((K',l'),q') n
  simp only at pc hzs hws
  by_cases hke:k=e
  ·have hs:sj n (((Kw,lw),true),bw) e (k,(((K',l'),q'),b')) acc fu=(acc,fu,0):=if_pos hke
   rw[hs]at h2
   rw[if_neg (by simp)]at h2
   have HR:=Lib.hid h2
   have hkei:((k:Int)=(e:Int))=True:=eq_true (by omega)
   clear h2 hs hst hke ge
   repeat' first|simp(disch:=omega) only[go_sem, *,g1,hkei,aG,aH,wrap_i64]|((with_reducible apply ab)<;>intro h<;>try omega)|(refine aY pc rfl rfl ?_)
   refine⟨(k+1,acc,fu), [],⟨hlt,hacc,hal,hfu0,hfu1,HR⟩,by show _-_<_-_;omega, ?_⟩
   refine av (by simp(disch:=omega) [aG,h0n]) ?_ rfl (by simp;try omega) (by simp[e7];try omega)
   repeat' first|exact hF.wkA|refine au ?_ ?_ ?_ ?_ ?_|(simp(disch:=omega) [aG,h0n]<;>omega)|omega
  ·have hkei: ¬(k:Int)=(e:Int):=by omega
   by_cases h0:cf l' n=0
   ·have hs:sj n (((Kw,lw),true),bw) e (k,(((K',l'),q'),b')) acc fu=((dN acc (((K',l'),q'),b')).1,fu,(dN acc (((K',l'),q'),b')).2):=by rw[sj,if_neg hke,if_pos h0]
    rw[hs]at h2 hst
    rw[h0]at pc
    have pa:=jM (d:=(((K',l'),q'),b')) (fuel:=fu) (r:=nx) (nx:=nx+2) (rows:=acc) (F:=(nx+1,.var (CI (((K',l'),q'),b')))::F) hal (by omega) (by omega) (iz hF (by omega) (by omega) (by omega) rfl (.inr (Nat.le_refl _)) (by omega))
    clear hs hke h0 ge
    generalize dN acc (((K',l'),q'),b')=A at*
    obtain⟨A,ae⟩:=A
    simp only at pa h2 hst
    by_cases hae:ae=0
    ·subst hae
     rw[if_neg (by simp)]at h2
     have HR:=Lib.hid h2
     have hA1:=hst.all
     have hA2:=hst.len
     clear h2 hst hacc
     simp only at hA1 hA2
     repeat' first|simp(disch:=omega) only[go_sem, *,g1,hkei,aG,aH,wrap_i64]|((with_reducible apply ab)<;>intro h<;>try omega)|(refine aY pc rfl rfl ?_)|(refine an (pa.perm (λnm=>by first|rfl|(simp only[al,am];done)|(simp only[al,am];(repeat' split)<;>first|rfl|omega))) ?_)
     refine⟨(k+1,A,fu), [(nx,nx+2)],⟨hlt,hA1,hA2,hfu0,hfu1,HR⟩,by show _-_<_-_;omega, ?_⟩
     refine av (by simp(disch:=omega) [aG,h0n]) ?_ rfl (by simp;try omega) (by simp[e7];try omega)
     repeat' first|exact hF.wkA|refine au ?_ ?_ ?_ ?_ ?_|(simp(disch:=omega) [aG,h0n]<;>omega)|omega
    ·rw[if_pos hae]at h2
     subst h2
     clear hst hacc
     repeat' first|simp(disch:=omega) only[go_sem, *,g1,hkei,aG,aH,wrap_i64,hae]|((with_reducible apply ab)<;>intro h<;>try omega)|(refine aY pc rfl rfl ?_)|(refine an (pa.perm (λnm=>by first|rfl|(simp only[al,am];done)|(simp only[al,am];(repeat' split)<;>first|rfl|omega))) ?_)
     refine⟨[], [(nx,nx+2)], ?_⟩
     simp(disch:=omega) only[go_sem,aP,aG,aH]
     refine av (by simp(disch:=omega) [aG,h0n]) ?_ rfl (by simp;try omega) (by simp[e7];try omega)
     repeat' first|exact hF.wkA|refine au ?_ ?_ ?_ ?_ ?_|(simp(disch:=omega) [aG,h0n]<;>omega)|omega
   ·have pk:=C6 hcw (PJ hz.r64.1.2 n) h0
    simp only at pk
    have hs:sj n (((Kw,lw),true),bw) e (k,(((K',l'),q'),b')) acc fu=if(fy (cf lw n) (cf l' n)).2.2=false then(acc,fu,3)else
     kS (((K',l'),q'),b') (((Kw,lw),true),bw) (fy (cf lw n) (cf l' n)).1 (fy (cf lw n) (cf l' n)).2.1 acc fu:=by rw[sj,if_neg hke,if_neg h0]
    rw[hs]at h2 hst
    have hx64:ar (fy (cf lw n) (cf l' n)).1:=Db _ _
    have hy64:ar (fy (cf lw n) (cf l' n)).2.1:=Db _ _
    clear hs hke
    generalize fy (cf lw n) (cf l' n)=X at*
    obtain⟨x,y,ok⟩:=X
    simp only at h2 hst hx64 hy64 pk
    cases ok
    ·rw[if_pos rfl,if_pos (by simp)]at h2
     subst h2
     clear hst hacc ge
     generalize cf l' n=d at*
     repeat' first|simp(disch:=omega) only[go_sem, *,g1,hkei,aG,aH,wrap_i64,h0]|((with_reducible apply ab)<;>intro h<;>try omega)|(refine aY pc rfl rfl ?_)|(refine aY pk rfl rfl ?_)
     refine⟨[], [], ?_⟩
     simp(disch:=omega) only[go_sem,aP,aG,aH]
     refine av (by simp(disch:=omega) [aG,h0n]) ?_ rfl (by simp;try omega) (by simp[e7];try omega)
     repeat' first|exact hF.wkA|refine au ?_ ?_ ?_ ?_ ?_|(simp(disch:=omega) [aG,h0n]<;>omega)|omega
    ·have hft: ¬(true=false):=by simp
     rw[if_neg hft]at h2 hst
     clear hft
     have hfn:al F (nx+1+1)=none:=Bi hF (by omega)
     have hll:b'.length=bw.length:=by rw[hz.len,hTe.len]
     have hlb:b'.length≤1000000000:=by rw[hz.len];exact hTl
     have hm1:=nP (a:=(((K',l'),q'),b')) (b:=(((Kw,lw),true),bw)) (x:=x) (y:=y) (fuel:=fu) (r:=nx) (nx:=nx+2) (rows:=acc) (F:=(nx+1,.var (CI (((K',l'),q'),b')))::F)
      hz.r64 hTe.r64 hx64 hy64 hll hlb (by simp only;omega) (by simp only;omega) hfu0 (by omega) (by omega) (by omega) (iz hF (by omega) (by omega) (by omega) rfl (.inr (Nat.le_refl _)) (by omega))
     have hm2:=nP (a:=(((K',l'),q'),b')) (b:=(((Kw,lw),true),bw)) (x:=x) (y:=y) (fuel:=fu) (r:=nx) (nx:=nx+3) (rows:=acc) (F:=(nx+2,.var aa9)::(nx+1,.var (CI (((K',l'),q'),b')))::F)
      hz.r64 hTe.r64 hx64 hy64 hll hlb (by simp only;omega) (by simp only;omega) hfu0 (by omega) (by omega) (by omega) (iz (N:=nx+2) (r:=nx) (iz hF (by omega) (by omega) (by omega) rfl (.inr (Nat.le_refl _)) (by omega)) (by omega) (by omega) (by omega) rfl (.inl rfl) (by omega))
     unfold kS at h2 hst
     clear hll hlb hx64 hy64
     generalize fX fu (((K',l'),q'),b') (((Kw,lw),true),bw) x y=M at*
     generalize cf l' n=d at*
     obtain⟨⟨⟨⟨Km,lm⟩,qm⟩,bm⟩,me⟩:=M
     simp only at h2 hst
     by_cases hme:me=0
     ·subst hme
      have hm0: ¬((0:Int)≠0):=by simp
      rw[if_neg hm0]at h2 hst
      simp only[SX,if_true]at hm1 hm2
      have pa:=jM (d:=(((Km,lm),qm),bm)) (fuel:=fu-1) (r:=nx) (nx:=nx+3) (rows:=acc) (F:=(nx+2,.var (CI (((Km,lm),qm),bm)))::(nx+1,.var (CI (((Km,lm),qm),bm)))::F) hal (by omega) (by omega)
       (iz (N:=nx+2) (r:=nx) (iz hF (by omega) (by omega) (by omega) rfl (.inr (Nat.le_refl _)) (by omega)) (by omega) (by omega) (by omega) rfl (.inl rfl) (by omega))
      generalize dN acc (((Km,lm),qm),bm)=A at*
      obtain⟨A,ae⟩:=A
      simp only at pa h2 hst
      by_cases hae:ae=0
      ·subst hae
       rw[if_neg (by simp)]at h2
       have HR:=Lib.hid h2
       have hA1:=hst.all
       have hA2:=hst.len
       have hA3:=hst.pos rfl hfu0
       clear h2 hst hacc
       simp only at hA1 hA2 hA3
       repeat' first|simp(disch:=omega) only[go_sem, *,g1,ge,hkei,aG,aH,hfn,wrap_i64,h0]|((with_reducible apply ab)<;>intro h<;>try omega)|(with_reducible apply ah)|(with_reducible refine aj (λh=> ?_) ?_)|(refine aY pc rfl rfl ?_)|(refine aY pk rfl rfl ?_)|(refine an (hm1.perm (λnm=>by first|rfl|(simp only[al,am];done)|(simp only[al,am];(repeat' split)<;>first|rfl|omega))) ?_)|(refine an (hm2.perm (λnm=>by first|rfl|(simp only[al,am];done)|(simp only[al,am];(repeat' split)<;>first|rfl|omega))) ?_)|(refine an (pa.perm (λnm=>by first|rfl|(simp only[al,am];done)|(simp only[al,am];(repeat' split)<;>first|rfl|omega))) ?_)
       all_goals
        refine⟨(k+1,A,fu-1), [(nx,nx+3)],⟨hlt,hA1,hA2,hA3,by simp only;omega,HR⟩,by show _-_<_-_;omega, ?_⟩
        refine av (by simp(disch:=omega) [aG,h0n]) ?_ rfl (by simp;try omega) (by simp[e7];try omega)
        repeat' first|exact hF.wkA|refine au ?_ ?_ ?_ ?_ ?_|(simp(disch:=omega) [aG,h0n]<;>omega)|omega
      ·rw[if_pos hae]at h2
       subst h2
       clear hst hacc
       repeat' first|simp(disch:=omega) only[go_sem, *,g1,ge,hkei,aG,aH,hfn,wrap_i64,h0,hae]|((with_reducible apply ab)<;>intro h<;>try omega)|(with_reducible apply ah)|(with_reducible refine aj (λh=> ?_) ?_)|(refine aY pc rfl rfl ?_)|(refine aY pk rfl rfl ?_)|(refine an (hm1.perm (λnm=>by first|rfl|(simp only[al,am];done)|(simp only[al,am];(repeat' split)<;>first|rfl|omega))) ?_)|(refine an (hm2.perm (λnm=>by first|rfl|(simp only[al,am];done)|(simp only[al,am];(repeat' split)<;>first|rfl|omega))) ?_)|(refine an (pa.perm (λnm=>by first|rfl|(simp only[al,am];done)|(simp only[al,am];(repeat' split)<;>first|rfl|omega))) ?_)
       all_goals
        refine⟨[], [(nx,nx+3)], ?_⟩
        simp(disch:=omega) only[go_sem,aP,aG,aH]
        refine av (by simp(disch:=omega) [aG,h0n]) ?_ rfl (by simp;try omega) (by simp[e7];try omega)
        repeat' first|exact hF.wkA|refine au ?_ ?_ ?_ ?_ ?_|(simp(disch:=omega) [aG,h0n]<;>omega)|omega
     ·rw[if_pos hme]at h2
      simp only at h2
      rw[if_pos hme]at h2
      subst h2
      clear hst hacc
      simp only[SX,if_neg hme]at hm1 hm2
      repeat' first|simp(disch:=omega) only[go_sem, *,g1,ge,hkei,aG,aH,hfn,wrap_i64,h0,hme]|((with_reducible apply ab)<;>intro h<;>try omega)|(with_reducible apply ah)|(with_reducible refine aj (λh=> ?_) ?_)|(refine aY pc rfl rfl ?_)|(refine aY pk rfl rfl ?_)|(refine an (hm1.perm (λnm=>by first|rfl|(simp only[al,am];done)|(simp only[al,am];(repeat' split)<;>first|rfl|omega))) ?_)|(refine an (hm2.perm (λnm=>by first|rfl|(simp only[al,am];done)|(simp only[al,am];(repeat' split)<;>first|rfl|omega))) ?_)
      all_goals
       refine⟨[], [], ?_⟩
       simp(disch:=omega) only[go_sem,aP,aG,aH]
       refine av (by simp(disch:=omega) [aG,h0n]) ?_ rfl (by simp;try omega) (by simp[e7];try omega)
       repeat' first|exact hF.wkA|refine au ?_ ?_ ?_ ?_ ?_|(simp(disch:=omega) [aG,h0n]<;>omega)|omega
 ·have h2:=HR.out
  rw[List.drop_eq_nil_of_le (by omega)]at h2
  simp only[xQ,gL]at h2
  subst h2
  clear HR
  repeat' first|simp(disch:=omega) only[go_sem, *,aG,aH]|((with_reducible apply ab)<;>intro h<;>try omega)
  refine⟨[], [], ?_⟩
  simp(disch:=omega) only[go_sem,aP,aG,aH]
  refine av (by simp(disch:=omega) [aG,h0n]) ?_ rfl (by simp;try omega) (by simp[e7];try omega)
  repeat' first|exact hF.wkA|refine au ?_ ?_ ?_ ?_ ?_|(simp(disch:=omega) [aG,h0n]<;>omega)|omega
end Go.Proofs.YthbcbaembicdbaaGreatDoor
