import Derived.Test.YtjhkikmonejkjaaGreatDoorV55i
import Derived.Test.YtjhkikmonejkjaaGreatDoorP19
set_option linter.unusedVariables false
set_option linter.unusedSimpArgs false
set_option maxRecDepth 20000
open Go.Proofs.Tryz renaming prog→Ya
namespace Go.Proofs.YtjhkikmonejkjaaGreatDoor
open Go.Abs Go.RowKit
theorem Lh {α:Type} {l m:List α} (hl:l.length=m.length) (h: ∀i (h1:i<l.length) (h2:i<m.length),l[i]=m[i]):l=m:=List.ext_getElem hl h
set_option maxHeartbeats 1000000 in
theorem mA (l m:List Tr):af Ya nY [bZ s7 l,bZ s7 m] (Go.Abs.B (decide (l=m))):=by
 refine af.of xi (by simp) λhb=>aa ?_
 have D:=iQ hb
 simp only[nH]
 clear hb
 by_cases hl:l.length=m.length
 ·have q:(l.length:Int)=m.length:=by omega
  repeat' first|simp(disch:=omega)only[go_sem,q]|((with_reducible refine ab ?_ ?_)<;>intro h<;>try first|omega|simp(disch:=omega)only[go_sem, *,q])
  refine ai (λk:Nat=>⟨[(0,bZ s7 l),(1,bZ s7 m),(5,I k)], [],0,0⟩) (λk=>k≤l.length∧bI (λj=> ∀(h1:j<l.length) (h2:j<m.length),l[j]=m[j]) k) (λk=>l.length-k) ⟨0, [],⟨Nat.zero_le _,.zero⟩,by simp⟩ ?_
  have HL:=Lib.hid hl
  clear q hl
  rintro k ⟨hk,g⟩
  refine aa ?_
  by_cases o:k<l.length
  ·have E:k<m.length:=by have:=HL.out;omega
   have g1:=ac (f:=s7) o
   have g2:=ac (f:=s7) E
   by_cases he:l[k]=m[k]
   ·have HA:=Lib.hid (g.succ λ_ _=>he)
    rw[←he]at g2
    generalize l[k]=t at*
    simp only[s7]at g1 g2
    clear g he
    repeat' first|simp(disch:=omega)only[go_sem,g1,g2,wrap_i64]|((with_reducible refine ab ?_ ?_)<;>intro h<;>try first|omega|simp(disch:=omega)only[go_sem, *,g1,g2,wrap_i64])
    all_goals exact⟨k+1, [],⟨o,HA.out⟩,by omega,by simp⟩
   ·have v: ¬l=m:= λe=>he (by subst e;rfl)
    rw[decide_eq_false v]
    clear g v
    generalize l[k]=t at*
    generalize m[k]=u at*
    obtain⟨a,b,c,d,e⟩:=t
    obtain⟨a',b',c',d',e'⟩:=u
    simp only[Prod.mk.injEq]at he
    simp only[s7]at g1 g2
    repeat' first|simp(disch:=omega)only[go_sem,g1,g2,wrap_i64,aj]|((with_reducible refine ab ?_ ?_)<;>intro h<;>try first|omega|simp(disch:=omega)only[go_sem, *,g1,g2,wrap_i64,aj])
    all_goals rfl
  ·have e:l=m:=Lh HL.out λi h1 h2=>g i (by omega) h1 h2
   rw[decide_eq_true e]
   clear g e
   repeat' first|simp(disch:=omega)only[go_sem]|((with_reducible refine ab ?_ ?_)<;>intro h<;>try first|omega|simp(disch:=omega)only[go_sem, *])
   all_goals rfl
 ·have v: ¬l=m:= λe=>hl (by rw[e])
  rw[decide_eq_false v]
  have q: ¬(l.length:Int)=m.length:=by omega
  clear v
  repeat' first|simp(disch:=omega)only[go_sem,q]|((with_reducible refine ab ?_ ?_)<;>intro h<;>try first|omega|simp(disch:=omega)only[go_sem, *,q])
  all_goals rfl
set_option maxHeartbeats 1000000 in
theorem vj (l m:List Int):af Ya Ac [bw l,bw m] (Go.Abs.B (decide (l=m))):=by
 refine af.of H9 (by simp) λhb=>aa ?_
 have D:=iQ (f:= λn:Int=> [pI n]) hb
 simp only[AJ]
 clear hb
 by_cases hl:l.length=m.length
 ·have q:(l.length:Int)=m.length:=by omega
  repeat' first|simp(disch:=omega)only[go_sem,q]|((with_reducible refine ab ?_ ?_)<;>intro h<;>try first|omega|simp(disch:=omega)only[go_sem, *,q])
  refine ai (λk:Nat=>⟨[(0,bw l),(1,bw m),(5,I k)], [],0,0⟩) (λk=>k≤l.length∧bI (λj=> ∀(h1:j<l.length) (h2:j<m.length),l[j]=m[j]) k) (λk=>l.length-k) ⟨0, [],⟨Nat.zero_le _,.zero⟩,by simp⟩ ?_
  have HL:=Lib.hid hl
  clear q hl
  rintro k ⟨hk,g⟩
  refine aa ?_
  by_cases o:k<l.length
  ·have E:k<m.length:=by have:=HL.out;omega
   have g1:=ac (f:= λn:Int=> [pI n]) o
   have g2:=ac (f:= λn:Int=> [pI n]) E
   by_cases he:l[k]=m[k]
   ·have HA:=Lib.hid (g.succ λ_ _=>he)
    rw[←he]at g2
    generalize l[k]=t at*
    clear g he
    repeat' first|simp(disch:=omega)only[go_sem,g1,g2,wrap_i64]|((with_reducible refine ab ?_ ?_)<;>intro h<;>try first|omega|simp(disch:=omega)only[go_sem, *,g1,g2,wrap_i64])
    all_goals exact⟨k+1, [],⟨o,HA.out⟩,by omega,by simp⟩
   ·have v: ¬l=m:= λe=>he (by subst e;rfl)
    rw[decide_eq_false v]
    clear g v
    generalize l[k]=t at*
    generalize m[k]=u at*
    repeat' first|simp(disch:=omega)only[go_sem,g1,g2,wrap_i64,he]|((with_reducible refine ab ?_ ?_)<;>intro h<;>try first|omega|simp(disch:=omega)only[go_sem, *,g1,g2,wrap_i64,he])
    all_goals rfl
  ·have e:l=m:=Lh HL.out λi h1 h2=>g i (by omega) h1 h2
   rw[decide_eq_true e]
   clear g e
   repeat' first|simp(disch:=omega)only[go_sem]|((with_reducible refine ab ?_ ?_)<;>intro h<;>try first|omega|simp(disch:=omega)only[go_sem, *])
   all_goals rfl
 ·have v: ¬l=m:= λe=>hl (by rw[e])
  rw[decide_eq_false v]
  have q: ¬(l.length:Int)=m.length:=by omega
  clear v
  repeat' first|simp(disch:=omega)only[go_sem,q]|((with_reducible refine ab ?_ ?_)<;>intro h<;>try first|omega|simp(disch:=omega)only[go_sem, *,q])
  all_goals rfl
set_option maxHeartbeats 1000000 in
theorem f8 (l m:List (List Int)):af Ya ng [bZ ep l,bZ ep m] (Go.Abs.B (decide (l=m))):=by
 refine af.of vN (by simp) λhb=>aa ?_
 have D:=iQ hb
 simp only[na]
 clear hb
 by_cases hl:l.length=m.length
 ·have q:(l.length:Int)=m.length:=by omega
  repeat' first|simp(disch:=omega)only[go_sem,q]|((with_reducible refine ab ?_ ?_)<;>intro h<;>try first|omega|simp(disch:=omega)only[go_sem, *,q])
  refine ai (λk:Nat=>⟨[(0,bZ ep l),(1,bZ ep m),(5,I k)], [],0,0⟩) (λk=>k≤l.length∧bI (λj=> ∀(h1:j<l.length) (h2:j<m.length),l[j]=m[j]) k) (λk=>l.length-k) ⟨0, [],⟨Nat.zero_le _,.zero⟩,by simp⟩ ?_
  have HL:=Lib.hid hl
  clear q hl
  rintro k ⟨hk,g⟩
  refine aa ?_
  by_cases o:k<l.length
  ·have E:k<m.length:=by have:=HL.out;omega
   have g1:=ac (f:=ep) o
   have g2:=ac (f:=ep) E
   by_cases he:l[k]=m[k]
   ·have HA:=Lib.hid (g.succ λ_ _=>he)
    rw[←he]at g2
    have cB:=vj l[k] l[k]
    rw[decide_eq_true rfl]at cB
    generalize l[k]=t at*
    simp only[ep]at g1 g2
    clear g he
    repeat' first|simp(disch:=omega)only[go_sem,g1,g2,wrap_i64]|((with_reducible refine ab ?_ ?_)<;>intro h<;>try first|omega|simp(disch:=omega)only[go_sem, *,g1,g2,wrap_i64])|refine ae cB rfl (.inl rfl) ?_
    all_goals exact⟨k+1, [],⟨o,HA.out⟩,by omega,by simp⟩
   ·have v: ¬l=m:= λe=>he (by subst e;rfl)
    rw[decide_eq_false v]
    clear g v
    have cB:=vj l[k] m[k]
    rw[decide_eq_false he]at cB
    simp only[ep]at g1 g2
    repeat' first|simp(disch:=omega)only[go_sem,g1,g2,wrap_i64]|((with_reducible refine ab ?_ ?_)<;>intro h<;>try first|omega|simp(disch:=omega)only[go_sem, *,g1,g2,wrap_i64])|refine ae cB rfl (.inl rfl) ?_
    all_goals rfl
  ·have e:l=m:=Lh HL.out λi h1 h2=>g i (by omega) h1 h2
   rw[decide_eq_true e]
   clear g e
   repeat' first|simp(disch:=omega)only[go_sem]|((with_reducible refine ab ?_ ?_)<;>intro h<;>try first|omega|simp(disch:=omega)only[go_sem, *])
   all_goals rfl
 ·have v: ¬l=m:= λe=>hl (by rw[e])
  rw[decide_eq_false v]
  have q: ¬(l.length:Int)=m.length:=by omega
  clear v
  repeat' first|simp(disch:=omega)only[go_sem,q]|((with_reducible refine ab ?_ ?_)<;>intro h<;>try first|omega|simp(disch:=omega)only[go_sem, *,q])
  all_goals rfl
theorem qS (env:List aH):af Ya kx [bZ mP env,I 20] (Go.Abs.B (decide (NL env))):=by
 refine af.of sE (by simp) λhb=>aa ?_
 have D:=iQ hb
 simp only[kG]
 clear hb
 repeat' first|simp(disch:=omega)only[go_sem]|((with_reducible refine ab ?_ ?_)<;>intro h<;>try first|omega|simp(disch:=omega)only[go_sem, *])
 refine ai (λk:Nat=>⟨[(0,bZ mP env),(1,I 20),(5,I k)], [],0,0⟩) (λk=>k≤env.length∧bI (λj=> ∀h:j<env.length,env[j].1.size≤100) k) (λk=>env.length-k) ⟨0, [],⟨Nat.zero_le _,.zero⟩,by simp⟩ ?_
 rintro k ⟨hk,g⟩
 refine aa ?_
 by_cases o:k<env.length
 ·have g1:=ac (f:=mP) o
  by_cases h1:env[k].1.size≤100
  ·have HA:=Lib.hid (g.succ λ_=>h1)
   have w: ¬(100:Int)<env[k].1.size:=by omega
   clear g h1
   repeat' first|simp(disch:=omega)only[go_sem,g1,mP,wrap_i64,w]|((with_reducible refine ab ?_ ?_)<;>intro h<;>try first|omega|simp(disch:=omega)only[go_sem, *,g1,mP,wrap_i64,w])
   all_goals exact⟨k+1, [],⟨o,HA.out⟩,by omega,by simp⟩
  ·have hn: ¬NL env:= λh=>h1 (h.1 _ (List.getElem_mem o))
   rw[decide_eq_false hn]
   have w:(100:Int)<env[k].1.size:=by omega
   clear g hn h1
   repeat' first|simp(disch:=omega)only[go_sem,g1,mP,w]|((with_reducible refine ab ?_ ?_)<;>intro h<;>try first|omega|simp(disch:=omega)only[go_sem, *,g1,mP,w])
   all_goals rfl
 ·have he:(∀m∈env,m.1.size≤100):= λm hm=>by
   obtain⟨i,hi,rfl⟩:=List.mem_iff_getElem.1 hm
   exact g i (by omega) hi
  have e:decide (NL env)=decide ((env.length:Int)≤20):=by
   rw[decide_eq_decide]
   exact⟨λh=>by have:=h.2;omega,λh=>⟨he,by omega⟩⟩
  rw[e]
  clear g he e
  repeat' first|simp(disch:=omega)only[go_sem]|((with_reducible refine ab ?_ ?_)<;>intro h<;>try first|omega|simp(disch:=omega)only[go_sem, *])
  all_goals rfl
theorem zJ:af Ya rM [.c (.pure (.slice []))] (Go.Abs.B true):=by
 refine af.of BK (by simp) λhb=>aa ?_
 simp only[ri]
 repeat' first|simp(disch:=omega)only[go_sem]|((with_reducible refine ab ?_ ?_)<;>intro h<;>try first|omega|simp(disch:=omega)only[go_sem, *])
 refine ai (λk:Nat=>⟨[(0,.c (.pure (.slice []))),(3,I 0)], [],0,0⟩) (λk=>k=0) (λk=>0) ⟨0, [],rfl,by simp⟩ ?_
 rintro k rfl
 refine aa ?_
 repeat' first|simp(disch:=omega)only[go_sem]|((with_reducible refine ab ?_ ?_)<;>intro h<;>try first|omega|simp(disch:=omega)only[go_sem, *])
 all_goals rfl
theorem QZ {env:List aH} {s:ByteArray} {j:Nat} (h:j<env.length) (hn:env[j].1=s) (hv: -1000<env[j].2) (g: ∀i (hi:i<j),¬((env[i]'(by omega)).1=s∧ -1000<(env[i]'(by omega)).2)):M8 env s=some env[j].2:=by
 unfold M8
 rw[(List.find?_eq_some_iff_getElem.2 ⟨by simp[hn,hv],j,h,rfl,λi hi=>by simp only[Bool.not_eq_true',decide_eq_false_iff_not];exact g i hi⟩:env.find? (λb=>decide (b.1=s∧ -1000<b.2))=some env[j])]
 rfl
theorem M3 {env:List aH} {s:ByteArray} (g: ∀i (h:i<env.length),¬(env[i].1=s∧ -1000<env[i].2)):M8 env s=none:=by
 unfold M8
 rw[List.find?_eq_none.2 λb hb=> ?_]
 ·rfl
 ·obtain⟨i,hi,rfl⟩:=List.mem_iff_getElem.1 hb
  simpa using g i hi
set_option maxHeartbeats 4000000 in
theorem zP (l:fc) (env:List aH):af Ya s9 [f9 l.1 l.2,bZ mP env] (I (Sy env l)):=by
 refine af.of BN (by simp) λhb=>aa ?_
 have L:env.length≤9223372036854775807:=iQ hb.2
 have D:=m7 hb.1
 simp only[sX]
 clear hb
 obtain⟨c0,ms⟩:=l
 unfold Sy
 simp only at D ⊢
 by_cases h1:3000<c0
 ·rw[if_pos (.inl h1)]
  repeat' first|simp(disch:=omega)only[go_sem,h1]|((with_reducible refine ab ?_ ?_)<;>intro h<;>try first|omega|simp(disch:=omega)only[go_sem, *,h1])
  all_goals rfl
 ·by_cases h2:c0< -3000
  ·rw[if_pos (.inr h2)]
   repeat' first|simp(disch:=omega)only[go_sem,h1,h2]|((with_reducible refine ab ?_ ?_)<;>intro h<;>try first|omega|simp(disch:=omega)only[go_sem, *,h1,h2])
   all_goals rfl
  ·rw[if_neg (λh=>h.elim h1 h2)]
   obtain⟨R,hR⟩: ∃R,R=LG env c0 (ms.drop 0):=⟨_,rfl⟩
   rw[show LG env c0 ms=R from hR.symm]
   have HR:=Lib.hid hR.symm
   clear hR
   repeat' first|simp(disch:=omega)only[go_sem,h1,h2]|((with_reducible refine ab ?_ ?_)<;>intro h<;>try first|omega|simp(disch:=omega)only[go_sem, *,h1,h2])
   refine ai (λz:Nat×Int=>⟨[(1,bZ mP env),(2,.c (.ptr 0 0)),(5,I z.2),(6,I z.1)], [(0,.var [.pure (pI c0),.pure (bp ms)])],1,0⟩) (λz=>z.1≤ms.length∧Hid (LG env z.2 (ms.drop z.1)=R)) (λz=>ms.length-z.1) ⟨(0,c0), [],⟨Nat.zero_le _,HR⟩,by simp⟩ ?_
   clear HR h1 h2
   rintro⟨k,n⟩ ⟨hk,hr⟩
   simp only at hk hr
   refine aa ?_
   have hd:=hr.out
   clear hr
   by_cases o:k<ms.length
   ·have g1:=ac (f:=mP) o
    rw[TZ o]at hd
    by_cases h3:100<ms[k].2
    ·rw[if_pos (.inl h3)]at hd
     subst hd
     repeat' first|simp(disch:=omega)only[go_sem,g1,mP,h3]|((with_reducible refine ab ?_ ?_)<;>intro h<;>try first|omega|simp(disch:=omega)only[go_sem, *,g1,mP,h3])
     all_goals rfl
    ·by_cases h4:ms[k].2< -100
     ·rw[if_pos (.inr h4)]at hd
      subst hd
      repeat' first|simp(disch:=omega)only[go_sem,g1,mP,h3,h4]|((with_reducible refine ab ?_ ?_)<;>intro h<;>try first|omega|simp(disch:=omega)only[go_sem, *,g1,mP,h3,h4])
      all_goals rfl
     ·rw[if_neg (λh=>h.elim h3 h4)]at hd
      have HD:=Lib.hid hd
      clear hd
      repeat' first|simp(disch:=omega)only[go_sem,g1,mP,h3,h4]|((with_reducible refine ab ?_ ?_)<;>intro h<;>try first|omega|simp(disch:=omega)only[go_sem, *,g1,mP,h3,h4])
      refine ai (λj:Nat=>⟨[(1,bZ mP env),(2,.c (.ptr 0 0)),(5,I n),(6,I k),(7,I j)], [(0,.var [.pure (pI c0),.pure (bp ms)])],1,0⟩) (λj=>j≤env.length∧bI (λi=> ∀h:i<env.length,¬(env[i].1=ms[k].1∧ -1000<env[i].2)) j) (λj=>env.length-j) ⟨0, [],⟨Nat.zero_le _,.zero⟩,by simp⟩ ?_
      rintro j ⟨hj,g⟩
      refine aa ?_
      by_cases H:j<env.length
      ·have g2:=ac (f:=mP) H
       by_cases h5:env[j].1=ms[k].1
       ·by_cases h6: -1000<env[j].2
        ·have hh:=QZ H h5 h6 λi hi=>g i hi (by omega)
         have hd:=HD.out
         rw[hh]at hd
         have HQ:=Lib.hid hd
         clear hd HD g hh
         repeat' first|simp(disch:=omega)only[go_sem,g1,g2,mP,h5,h6,aj,decide_true,wrap_i64]|((with_reducible refine ab ?_ ?_)<;>intro h<;>try first|omega|simp(disch:=omega)only[go_sem, *,g1,g2,mP,h5,h6,aj,decide_true,wrap_i64])
         all_goals exact⟨(k+1,IntKind.wrap .i64 (n+IntKind.wrap .i64 (ms[k].2*env[j].2))), [],⟨o,HQ⟩,by show _-_<_-_;omega,by simp⟩
        ·have HA:=Lib.hid (g.succ λ_ h=>h6 h.2)
         clear g
         repeat' first|simp(disch:=omega)only[go_sem,g1,g2,mP,h5,h6,aj,decide_true,wrap_i64]|((with_reducible refine ab ?_ ?_)<;>intro h<;>try first|omega|simp(disch:=omega)only[go_sem, *,g1,g2,mP,h5,h6,aj,decide_true,wrap_i64])
         all_goals exact⟨j+1, [],⟨H,HA.out⟩,by omega,by simp⟩
       ·have HA:=Lib.hid (g.succ λ_ h=>h5 h.1)
        clear g
        repeat' first|simp(disch:=omega)only[go_sem,g1,g2,mP,h5,aj,decide_false,wrap_i64]|((with_reducible refine ab ?_ ?_)<;>intro h<;>try first|omega|simp(disch:=omega)only[go_sem, *,g1,g2,mP,h5,aj,decide_false,wrap_i64])
        all_goals exact⟨j+1, [],⟨H,HA.out⟩,by omega,by simp⟩
      ·have hh:=M3 (s:=ms[k].1) λi hi=>g i (by omega) hi
       have hd:=HD.out
       rw[hh]at hd
       have HQ:=Lib.hid hd
       clear hd HD g hh
       repeat' first|simp(disch:=omega)only[go_sem,wrap_i64]|((with_reducible refine ab ?_ ?_)<;>intro h<;>try first|omega|simp(disch:=omega)only[go_sem, *,wrap_i64])
       all_goals exact⟨(k+1,n), [],⟨o,HQ⟩,by show _-_<_-_;omega,by simp⟩
   ·rw[R3 (by omega)]at hd
    subst hd
    repeat' first|simp(disch:=omega)only[go_sem]|((with_reducible refine ab ?_ ?_)<;>intro h<;>try first|omega|simp(disch:=omega)only[go_sem, *])
    all_goals rfl
set_option maxHeartbeats 1000000 in
theorem oA (l:List eU) (env:List aH):af Ya rW [bZ ee l,bZ mP env] (I (BU env l)):=by
 refine af.of Bd (by simp) λhb=>aa ?_
 have D:=iQ hb
 simp only[te]
 clear hb
 obtain⟨R,hR⟩: ∃R,R=NN env 1 (l.drop 0):=⟨_,rfl⟩
 rw[show BU env l=R from hR.symm]
 have HR:=Lib.hid hR.symm
 clear hR
 repeat' first|simp(disch:=omega)only[go_sem]|((with_reducible refine ab ?_ ?_)<;>intro h<;>try first|omega|simp(disch:=omega)only[go_sem, *])
 refine ai (λz:Nat×Int=>⟨[(0,bZ ee l),(1,bZ mP env),(5,I z.2),(6,I z.1)], [],0,0⟩) (λz=>z.1≤l.length∧(1≤z.2∧z.2≤3001)∧Hid (NN env z.2 (l.drop z.1)=R)) (λz=>l.length-z.1) ⟨(0,1), [],⟨Nat.zero_le _,by omega,HR⟩,by simp⟩ ?_
 clear HR
 rintro⟨k,n⟩ ⟨hk,hn,hr⟩
 simp only at hk hn hr
 refine aa ?_
 have hd:=hr.out
 clear hr
 by_cases o:k<l.length
 ·have g1:=ac (f:=ee) o
  rw[TA o]at hd
  have cE:=zP l[k].2 env
  have hx:=Po (env:=env) (l:=l[k].2)
  have hp:=ON hn hx
  have HD:=Lib.hid hd
  clear hd
  generalize Sy env l[k].2=x at*
  have hw:IntKind.wrap .i64 (n*x)=n*x:=wrap_i64 (by omega)
  have K:1≤min 3001 (n*x)∧min 3001 (n*x)≤3001:=by omega
  repeat' first|simp(disch:=omega)only[go_sem,g1,ee,hw,wrap_i64]|((with_reducible refine ab ?_ ?_)<;>intro h<;>try first|omega|simp(disch:=omega)only[go_sem, *,g1,ee,hw,wrap_i64])|refine ae cE rfl (.inl rfl) ?_
  all_goals exact⟨(k+1,min 3001 (n*x)), [],⟨o,K,HD⟩,by show _-_<_-_;omega,by simp⟩
 ·rw[QP (by omega)]at hd
  subst hd
  repeat' first|simp(disch:=omega)only[go_sem]|((with_reducible refine ab ?_ ?_)<;>intro h<;>try first|omega|simp(disch:=omega)only[go_sem, *])
  all_goals rfl
set_option maxHeartbeats 2000000 in
theorem Bq (p:be) (env:List aH):af Ya uY [eX p,bZ mP env,I 6] (Go.Abs.B (decide (mr p env))):=by
 refine af.of B5 (by simp) λhb=>aa ?_
 have L:env.length≤9223372036854775807:=iQ hb.2
 have c1:=El p
 have c2:=qS env
 simp only[uH]
 clear hb
 by_cases h1:rD p
 ·rw[decide_eq_false (show ¬mr p env from λh=>h.1 h1)]
  rw[decide_eq_true h1]at c1
  clear c2 h1
  repeat' first|simp(disch:=omega)only[go_sem]|((with_reducible refine ab ?_ ?_)<;>intro h<;>try first|omega|simp(disch:=omega)only[go_sem, *])|refine ae c1 rfl (.inl rfl) ?_
  all_goals rfl
 ·rw[decide_eq_false h1]at c1
  by_cases h2:p.defs.length≤12
  ·have r: ¬(12:Int)<p.defs.length:=by omega
   by_cases h3:NL env
   ·rw[decide_eq_true h3]at c2
    have HB:Hid ((∀m∈env,m.2≤6)→(∀d∈p.defs,BU env d.dims*BU env d.red≤3000)→mr p env):=Lib.hid λa b=>⟨h1,h2,h3,a,b⟩
    clear h1 h3
    repeat' first|simp(disch:=omega)only[go_sem,r]|((with_reducible refine ab ?_ ?_)<;>intro h<;>try first|omega|simp(disch:=omega)only[go_sem, *,r])|refine ae c1 rfl (.inl rfl) ?_|refine ae c2 rfl (.inl rfl) ?_
    refine ai (λk:Nat=>⟨[(1,bZ mP env),(2,I 6),(3,.c (.ptr 0 0)),(7,I k)], [(0,dL p)],1,0⟩) (λk=>k≤env.length∧bI (λj=> ∀h:j<env.length,env[j].2≤6) k) (λk=>env.length-k) ⟨0, [],⟨Nat.zero_le _,.zero⟩,by simp⟩ ?_
    clear c1 c2 r
    rintro k ⟨hk,g⟩
    refine aa ?_
    by_cases o:k<env.length
    ·have g1:=ac (f:=mP) o
     by_cases h4:env[k].2≤6
     ·have HA:=Lib.hid (g.succ λ_=>h4)
      have F: ¬6<env[k].2:=by omega
      clear g h4 HB
      repeat' first|simp(disch:=omega)only[go_sem,g1,mP,wrap_i64,F]|((with_reducible refine ab ?_ ?_)<;>intro h<;>try first|omega|simp(disch:=omega)only[go_sem, *,g1,mP,wrap_i64,F])
      all_goals exact⟨k+1, [],⟨o,HA.out⟩,by omega,by simp⟩
     ·have hn: ¬mr p env:= λh=>h4 (h.2.2.2.1 _ (List.getElem_mem o))
      rw[decide_eq_false hn]
      have F:6<env[k].2:=by omega
      clear g hn h4 HB
      repeat' first|simp(disch:=omega)only[go_sem,g1,mP,F]|((with_reducible refine ab ?_ ?_)<;>intro h<;>try first|omega|simp(disch:=omega)only[go_sem, *,g1,mP,F])
      all_goals rfl
    ·have HE:Hid (∀m∈env,m.2≤6):=Lib.hid λm hm=>by
      obtain⟨i,hi,rfl⟩:=List.mem_iff_getElem.1 hm
      exact g i (by omega) hi
     clear g
     repeat' first|simp(disch:=omega)only[go_sem]|((with_reducible refine ab ?_ ?_)<;>intro h<;>try first|omega|simp(disch:=omega)only[go_sem, *])
     refine ai (λi:Nat=>⟨[(1,bZ mP env),(3,.c (.ptr 0 0)),(8,I i)], [(0,dL p)],1,0⟩) (λi=>i≤p.defs.length∧bI (λj=> ∀h:j<p.defs.length,BU env p.defs[j].dims*BU env p.defs[j].red≤3000) i) (λi=>p.defs.length-i) ⟨0, [],⟨Nat.zero_le _,.zero⟩,by simp⟩ ?_
     rintro i ⟨hi,A⟩
     refine aa ?_
     by_cases J:i<p.defs.length
     ·have g1:=ac (f:=br) J
      have cX:=oA p.defs[i].dims env
      have cY:=oA p.defs[i].red env
      have b1:=Pd (env:=env) (l:=p.defs[i].dims)
      have b2:=Pd (env:=env) (l:=p.defs[i].red)
      have hp:=ON b1 b2
      have hw:IntKind.wrap .i64 (BU env p.defs[i].dims*BU env p.defs[i].red)=BU env p.defs[i].dims*BU env p.defs[i].red:=wrap_i64 (by omega)
      by_cases h5:BU env p.defs[i].dims*BU env p.defs[i].red≤3000
      ·have HA:=Lib.hid (A.succ λ_=>h5)
       have G: ¬3000<BU env p.defs[i].dims*BU env p.defs[i].red:=by omega
       clear A h5 HB HE
       generalize BU env p.defs[i].dims=x at*
       generalize BU env p.defs[i].red=y at*
       repeat' first|simp(disch:=omega)only[go_sem,g1,br,wrap_i64,hw,G]|((with_reducible refine ab ?_ ?_)<;>intro h<;>try first|omega|simp(disch:=omega)only[go_sem, *,g1,br,wrap_i64,hw,G])|refine ae cX rfl (.inl rfl) ?_|refine ae cY rfl (.inl rfl) ?_
       all_goals exact⟨i+1, [],⟨J,HA.out⟩,by omega,by simp⟩
      ·have hn: ¬mr p env:= λh=>h5 (h.2.2.2.2 _ (List.getElem_mem J))
       rw[decide_eq_false hn]
       have G:3000<BU env p.defs[i].dims*BU env p.defs[i].red:=by omega
       clear A hn h5 HB HE
       generalize BU env p.defs[i].dims=x at*
       generalize BU env p.defs[i].red=y at*
       repeat' first|simp(disch:=omega)only[go_sem,g1,br,hw,G]|((with_reducible refine ab ?_ ?_)<;>intro h<;>try first|omega|simp(disch:=omega)only[go_sem, *,g1,br,hw,G])|refine ae cX rfl (.inl rfl) ?_|refine ae cY rfl (.inl rfl) ?_
       all_goals rfl
     ·have hl:=HB.out HE.out λd hd=>by
       obtain⟨j,hj,rfl⟩:=List.mem_iff_getElem.1 hd
       exact A j (by omega) hj
      rw[decide_eq_true hl]
      clear A hl HB HE
      repeat' first|simp(disch:=omega)only[go_sem]|((with_reducible refine ab ?_ ?_)<;>intro h<;>try first|omega|simp(disch:=omega)only[go_sem, *])
      all_goals rfl
   ·rw[decide_eq_false (show ¬mr p env from λh=>h3 h.2.2.1)]
    rw[decide_eq_false h3]at c2
    clear h3 h1
    repeat' first|simp(disch:=omega)only[go_sem,r]|((with_reducible refine ab ?_ ?_)<;>intro h<;>try first|omega|simp(disch:=omega)only[go_sem, *,r])|refine ae c1 rfl (.inl rfl) ?_|refine ae c2 rfl (.inl rfl) ?_
    all_goals rfl
  ·rw[decide_eq_false (show ¬mr p env from λh=>h2 h.2.1)]
   have r:(12:Int)<p.defs.length:=by omega
   clear h2 h1 c2
   repeat' first|simp(disch:=omega)only[go_sem,r]|((with_reducible refine ab ?_ ?_)<;>intro h<;>try first|omega|simp(disch:=omega)only[go_sem, *,r])|refine ae c1 rfl (.inl rfl) ?_
   all_goals rfl
def K0 (ms:List Int) (p:be) (env:List aH) (ins:List (List Int)):Prop:=(∀s∈ins,s.length≤20)∧ms.length≤10∧ins.length≤30∧mr p env
noncomputable instance (ms:List Int) (p:be) (env:List aH) (ins:List (List Int)):Decidable (K0 ms p env ins):=Classical.propDecidable _
set_option maxHeartbeats 2000000 in
theorem E4 (ms:List Int) (p:be) (env:List aH) (ins:List (List Int)):af Ya Ay [mI ms,eX p,bZ mP env,bZ ep ins,.c (.pure (.slice []))] (Go.Abs.B (decide (K0 ms p env ins))):=by
 refine af.of HZ (by simp) λhb=>aa ?_
 have M:ins.length≤9223372036854775807:=iQ hb.2.2.2
 have c1:=Bq p env
 have c2:=zJ
 simp only[As]
 clear hb
 repeat' first|simp(disch:=omega)only[go_sem]|((with_reducible refine ab ?_ ?_)<;>intro h<;>try first|omega|simp(disch:=omega)only[go_sem, *])
 refine ai (λk:Nat=>⟨[(2,bZ mP env),(3,bZ ep ins),(4,.c (.pure (.slice []))),(5,.c (.ptr 0 0)),(6,.c (.ptr 1 0)),(11,I k)], [(1,dL p),(0,.var [.pure (ce ms)])],2,0⟩) (λk=>k≤ins.length∧bI (λj=> ∀h:j<ins.length,ins[j].length≤20) k) (λk=>ins.length-k) ⟨0, [],⟨Nat.zero_le _,.zero⟩,by simp⟩ ?_
 rintro k ⟨hk,g⟩
 refine aa ?_
 by_cases o:k<ins.length
 ·have g1:=ac (f:=ep) o
  by_cases h1:ins[k].length≤20
  ·have HA:=Lib.hid (g.succ λ_=>h1)
   have w: ¬(20:Int)<ins[k].length:=by omega
   clear g h1 c1 c2
   repeat' first|simp(disch:=omega)only[go_sem,g1,ep,wrap_i64,w]|((with_reducible refine ab ?_ ?_)<;>intro h<;>try first|omega|simp(disch:=omega)only[go_sem, *,g1,ep,wrap_i64,w])
   all_goals exact⟨k+1, [],⟨o,HA.out⟩,by omega,by simp⟩
  ·have hn: ¬K0 ms p env ins:= λh=>h1 (h.1 _ (List.getElem_mem o))
   rw[decide_eq_false hn]
   have w:(20:Int)<ins[k].length:=by omega
   clear g hn h1 c1 c2
   repeat' first|simp(disch:=omega)only[go_sem,g1,ep,w]|((with_reducible refine ab ?_ ?_)<;>intro h<;>try first|omega|simp(disch:=omega)only[go_sem, *,g1,ep,w])
   all_goals rfl
 ·have he: ∀s∈ins,s.length≤20:= λm hm=>by
   obtain⟨i,hi,rfl⟩:=List.mem_iff_getElem.1 hm
   exact g i (by omega) hi
  clear g
  by_cases h2:ms.length≤10
  ·have r:(ms.length:Int)≤10:=by omega
   by_cases h3:ins.length≤30
   ·have C:(ins.length:Int)≤30:=by omega
    have e:decide (K0 ms p env ins)=decide (mr p env):=by
     rw[decide_eq_decide]
     exact⟨λh=>h.2.2.2,λh=>⟨he,h2,h3,h⟩⟩
    rw[e]
    clear he e h2 h3
    by_cases h4:mr p env
    ·rw[decide_eq_true h4]at c1 ⊢
     clear h4
     repeat' first|simp(disch:=omega)only[go_sem,r,C]|((with_reducible refine ab ?_ ?_)<;>intro h<;>try first|omega|simp(disch:=omega)only[go_sem, *,r,C])|refine ae c1 rfl (.inl rfl) ?_|refine ae c2 rfl (.inl rfl) ?_
     all_goals rfl
    ·rw[decide_eq_false h4]at c1 ⊢
     clear h4
     repeat' first|simp(disch:=omega)only[go_sem,r,C]|((with_reducible refine ab ?_ ?_)<;>intro h<;>try first|omega|simp(disch:=omega)only[go_sem, *,r,C])|refine ae c1 rfl (.inl rfl) ?_|refine ae c2 rfl (.inl rfl) ?_
     all_goals rfl
   ·have C: ¬(ins.length:Int)≤30:=by omega
    rw[decide_eq_false (show ¬K0 ms p env ins from λh=>h3 h.2.2.1)]
    clear he h2 h3 c1
    repeat' first|simp(disch:=omega)only[go_sem,r,C]|((with_reducible refine ab ?_ ?_)<;>intro h<;>try first|omega|simp(disch:=omega)only[go_sem, *,r,C])|refine ae c2 rfl (.inl rfl) ?_
    all_goals rfl
  ·have r: ¬(ms.length:Int)≤10:=by omega
   rw[decide_eq_false (show ¬K0 ms p env ins from λh=>h2 h.2.1)]
   clear he h2 c1 c2
   repeat' first|simp(disch:=omega)only[go_sem,r]|((with_reducible refine ab ?_ ?_)<;>intro h<;>try first|omega|simp(disch:=omega)only[go_sem, *,r])
   all_goals rfl
theorem kM (s i j:ByteArray):af Ya m5 [S s,S i,S j] (gc (jo s i j)):=by
 refine af.of vI (by simp) λhb=>aa ?_
 simp only[nd]
 clear hb
 repeat' first|simp(disch:=omega)only[go_sem,jo,fV,dN]|((with_reducible refine ab ?_ ?_)<;>intro h<;>try first|omega|simp(disch:=omega)only[go_sem, *,jo,fV,dN])|apply au|(with_reducible refine az (λh=> ?_) ?_)
 all_goals rfl
set_option maxHeartbeats 4000000 in
theorem xR:af Ya qi [] (.tup [eX iT,bZ mP [(sn,2)]]):=by
 refine af.of zD (by simp) λhb=>aa ?_
 simp only[qv]
 clear hb
 have c1:=kM sa si sk
 have c2:=kM sb sk sj
 repeat' first|simp(disch:=omega)only[go_sem]|((with_reducible refine ab ?_ ?_)<;>intro h<;>try first|omega|simp(disch:=omega)only[go_sem, *])|apply au|(with_reducible refine az (λh=> ?_) ?_)|refine ae c1 rfl (.inr rfl) ?_|refine ae c2 rfl (.inr rfl) ?_
 all_goals rfl
end Go.Proofs.YtjhkikmonejkjaaGreatDoor
