import Derived.Test.YthkaaahphlneiaaGreatDoorV18e
import Derived.Test.YthkaaahphlneiaaGreatDoorVEw
import Derived.Test.YthkaaahphlneiaaGreatDoorV18m
set_option linter.unusedVariables false
set_option linter.unusedSimpArgs false
namespace Go.Proofs.YthkaaahphlneiaaGreatDoor
def GC (o:Ob):Prop:=fR o.1∧ ∀c∈o.2,fR c
theorem O6 {f x:ca} (h:bj f): ∀c∈eN f x,fR c:=by
 intro c hc
 simp only[eN,List.mem_cons,List.not_mem_nil,or_false]at hc
 rcases hc with rfl|rfl
 ·exact h
 ·show bj (if _ then _ else _)
  split
  ·exact OM _ _
  ·exact⟨by decide,fun m hm=>by cases hm⟩
theorem UC {p:bK} {idx:List Ix} {s:ByteArray} (h: ∀x∈idx,bj x.1∧ ∀l∈x.2.2,bj l): ∀c∈Ft p idx s,fR c:=by
 intro c hc
 obtain⟨q,hq,hc⟩:=List.mem_flatMap.1 hc
 have hx:=h _ (List.of_mem_zip hq).1
 unfold Ar at hc
 split at hc
 ·exact O6 hx.1 c hc
 ·obtain⟨r,hr,hc⟩:=List.mem_flatMap.1 hc
  exact O6 (hx.2 _ (List.of_mem_zip hr).1) c hc
theorem QH {a b:List gf} (ha: ∀c∈a,fR c) (hb: ∀c∈b,fR c): ∀c∈a++b,fR c:=fun c hc=>(List.mem_append.1 hc).elim (ha c) (hb c)
theorem RY {p:bK} {cs:List gf}: ∀{l:List Ex},(∀a∈l,∀o∈ns p a cs,GC o)→ ∀o∈vC p l cs,GC o
 | [],_,o,ho=>by rw[vC]at ho;cases ho
 |a::r,h,o,ho=>by
  rw[vC]at ho
  rcases List.mem_append.1 ho with ho|ho
  ·exact h a List.mem_cons_self o ho
  ·exact RY (fun b hb=>h b (List.mem_cons_of_mem _ hb)) o ho
theorem X2 (p:bK) (e:Ex):lG e→ ∀cs,(∀c∈cs,fR c)→ ∀o∈ns p e cs,GC o:=by
 refine Ex.ind (p:=fun e=>lG e→ ∀cs,(∀c∈cs,fR c)→ ∀o∈ns p e cs,GC o) (fun e ih h cs hcs o ho=> ?_) e
 have ih': ∀a∈e.args,∀cs,(∀c∈cs,fR c)→ ∀o∈ns p a cs,GC o:=fun a ha=>ih a ha (aX h ha)
 rw[ur]at ho
 rcases List.mem_append.1 ho with ho|ho
 ·split at ho
  ·obtain⟨c,hc,rfl⟩:=List.mem_map.1 ho
   refine⟨UC (fun x hx=> ?_) c hc,hcs⟩
   have hf:=(h.2 e (nr e)).2
   exact⟨(hf x.1 (List.mem_cons_of_mem _ (List.mem_flatMap.2 ⟨x,hx,List.mem_cons_self⟩))).1,fun l hl=>(hf l (List.mem_cons_of_mem _ (List.mem_flatMap.2 ⟨x,hx,List.mem_cons_of_mem _ hl⟩))).1⟩
  ·cases ho
 ·split at ho
  ·have hfa: ∀a∈e.args,∀c∈(bw a).1,fR c:=fun a ha c hc=>((oQ a (aX h ha)).2 c hc).1
   have hfn: ∀a∈e.args,∀c∈(bw (gl a)).1,fR c:=fun a ha c hc=>((oQ _ (Fx (aX h ha))).2 c hc).1
   generalize e.args=l at*
   match l with
   | []=>cases ho
   | [a]=>cases ho
   | [a,b]=>cases ho
   |a::b::c::r=>
    simp only[Vo,List.mem_append]at ho
    rcases ho with(ho|ho)|ho
    ·exact ih' a (by simp) cs hcs o ho
    ·exact ih' b (by simp) _ (QH hcs (hfa a (by simp))) o ho
    ·exact ih' c (by simp) _ (QH hcs (hfn a (by simp))) o ho
  ·exact RY (fun a ha=>ih' a ha cs hcs) o ho
set_option maxRecDepth 20000
set_option maxHeartbeats 4000000
set_option maxRecDepth 1000000
open Go.Abs Go.RowKit
noncomputable def cJ (c:gf) (env:List aP):Bool×Int:=
 if(rR c.1.1 c.1.2 env).2≠0 then(false,(rR c.1.1 c.1.2 env).2)else(decide ((rR c.1.1 c.1.2 env).1=0)||(decide (0<(rR c.1.1 c.1.2 env).1)&& !c.2),0)
theorem lv {c:gf} {env:List aP} (h64:fR c) (he: ∀m∈env,aA m.2):ac Tryz.prog io [nI c,d8 mP env] (.tup [Go.Abs.B (cJ c env).1,I (cJ c env).2]):=by
 refine ac.of Fn (by simp) fun _=>aa ?_
 conv in wA=>cbv
 have pv:=ny (env:=env) h64.1 h64.2 he
 obtain⟨⟨k,l⟩,q⟩:=c
 unfold cJ
 simp only at pv ⊢
 generalize rR k l env=V at*
 obtain⟨v,e⟩:=V
 simp only at pv ⊢
 by_cases h0:e=0
 ·subst h0
  rw[if_neg (by simp)]
  by_cases h1:v=0
  ·subst h1
   cases q
   all_goals
    repeat' first|simp(disch:=omega) only[go_sem]|((with_reducible refine ab ?_ ?_)<;>intro h<;>try first|omega|simp(disch:=omega) only[go_sem, *])|(refine ah pv rfl (.inl rfl) ?_)
    all_goals rfl
  ·by_cases h2:0<v
   ·cases q
    all_goals
     repeat' first|simp(disch:=omega) only[go_sem,h1,h2]|((with_reducible refine ab ?_ ?_)<;>intro h<;>try first|omega|simp(disch:=omega) only[go_sem, *,h1,h2])|(refine ah pv rfl (.inl rfl) ?_)
     all_goals simp[h1,h2]
   ·cases q
    all_goals
     repeat' first|simp(disch:=omega) only[go_sem,h1,h2]|((with_reducible refine ab ?_ ?_)<;>intro h<;>try first|omega|simp(disch:=omega) only[go_sem, *,h1,h2])|(refine ah pv rfl (.inl rfl) ?_)
     all_goals simp[h1,h2]
 ·rw[if_pos h0]
  repeat' first|simp(disch:=omega) only[go_sem,h0]|((with_reducible refine ab ?_ ?_)<;>intro h<;>try first|omega|simp(disch:=omega) only[go_sem, *,h0])|(refine ah pv rfl (.inl rfl) ?_)
  all_goals rfl
theorem gz {c:gf} {env:List aP} (h64:fR c) (he: ∀m∈env,aA m.2):ac Tryz.prog fC [nI c,d8 mP env] (.tup [Go.Abs.B (cJ c env).1,I (cJ c env).2]):=by
 refine ac.of vv (by simp) fun _=>aa ?_
 simp only[nc]
 have pv:=ya (env:=env) h64.1 h64.2 he
 obtain⟨⟨k,l⟩,q⟩:=c
 unfold cJ
 simp only at pv ⊢
 generalize rR k l env=V at*
 obtain⟨v,e⟩:=V
 simp only at pv ⊢
 by_cases h0:e=0
 ·subst h0
  rw[if_neg (by simp)]
  by_cases h1:v=0
  ·subst h1
   cases q
   all_goals
    repeat' first|simp(disch:=omega) only[go_sem]|((with_reducible refine ab ?_ ?_)<;>intro h<;>try first|omega|simp(disch:=omega) only[go_sem, *])|(refine ah pv rfl (.inl rfl) ?_)
    all_goals rfl
  ·by_cases h2:0<v
   ·cases q
    all_goals
     repeat' first|simp(disch:=omega) only[go_sem,h1,h2]|((with_reducible refine ab ?_ ?_)<;>intro h<;>try first|omega|simp(disch:=omega) only[go_sem, *,h1,h2])|(refine ah pv rfl (.inl rfl) ?_)
     all_goals simp[h1,h2]
   ·cases q
    all_goals
     repeat' first|simp(disch:=omega) only[go_sem,h1,h2]|((with_reducible refine ab ?_ ?_)<;>intro h<;>try first|omega|simp(disch:=omega) only[go_sem, *,h1,h2])|(refine ah pv rfl (.inl rfl) ?_)
     all_goals simp[h1,h2]
 ·rw[if_pos h0]
  repeat' first|simp(disch:=omega) only[go_sem,h0]|((with_reducible refine ab ?_ ?_)<;>intro h<;>try first|omega|simp(disch:=omega) only[go_sem, *,h0])|(refine ah pv rfl (.inl rfl) ?_)
  all_goals rfl
noncomputable def ib (env:List aP) (c:gf):List gf→Int
 | []=>if(cJ c env).2=0∧(cJ c env).1=false then 12 else(cJ c env).2
 |f::r=>if(cJ f env).2≠0∨(cJ f env).1=false then(cJ f env).2 else ib env c r
abbrev Xl (d k:Int) (o:Ob):AV:= .agg [.pure (pI d),.pure (pI k),.pure (pI o.1.1.1),.pure (aE o.1.1.2),.pure (pB o.1.2),.pure (c9 cP o.2)]
abbrev WX (d k:Int) (o:Ob):aS:= .var [.pure (pI d),.pure (pI k),.pure (pI o.1.1.1),.pure (aE o.1.1.2),.pure (pB o.1.2),.pure (c9 cP o.2)]
theorem Lq {env:List aP} {c:gf} {l:List gf} {j:Nat} {b:Bool} {e:Int} (h:j<l.length) (hr:cJ l[j] env=(b,e)):ib env c (l.drop j)=if e≠0∨b=false then e else ib env c (l.drop (j+1)):=by
 rw[List.drop_eq_getElem_cons h,ib,hr]
theorem Hv {env:List aP} {c:gf} {l:List gf} {j:Nat} {b:Bool} {e:Int} (h:l.length≤j) (hr:cJ c env=(b,e)):ib env c (l.drop j)=if e=0∧b=false then 12 else e:=by
 rw[List.drop_of_length_le h,ib,hr]
theorem Ac {d k:Int} {o:Ob} {env:List aP} (h64:GC o) (he: ∀m∈env,aA m.2):ac Tryz.prog eo [Xl d k o,d8 mP env] (I (ib env o.1 o.2)):=by
 refine ac.of rj (by simp) fun hb=>aa ?_
 obtain⟨c,l⟩:=o
 have hl:l.length≤9223372036854775807:=by
  have:=hb.1
  simp only[ie,lO,iz]at this
  have h2:c.1.2.length≤9223372036854775807∧l.length≤9223372036854775807:=by simpa using this
  exact h2.2
 have pc:=gz (c:=c) (env:=env) h64.1 he
 have pf: ∀c∈l,ac Tryz.prog fC [nI c,d8 mP env] (.tup [Go.Abs.B (cJ c env).1,I (cJ c env).2]):=fun c h=>gz (h64.2 c h) he
 obtain⟨R,hR⟩: ∃R,R=ib env c l:=⟨_,rfl⟩
 simp only
 rw[←hR]
 have HR:Hid (ib env c (l.drop 0)=R):=Lib.hid hR.symm
 clear hR
 conv in jJ=>cbv
 repeat' first|simp(disch:=omega) only[go_sem]|((with_reducible refine ab ?_ ?_)<;>intro h<;>try first|omega|simp(disch:=omega) only[go_sem, *])
 refine aj (fun j:Nat=>⟨[(1,d8 mP env),(2,.c (.ptr 0 0)),(12,ej l),(13,I l.length),(14,I j)], [(0,WX d k (c,l))],1,0⟩) (fun j=>j≤l.length∧Hid (ib env c (l.drop j)=R)) (fun j=>l.length-j) ⟨0, [],⟨by omega,HR⟩,by simp⟩ ?_
 rintro j ⟨hj,hr⟩
 refine aa ?_
 by_cases hlt:j<l.length
 ·have p:=pf _ (List.getElem_mem hlt)
  have hd:=hr.out
  obtain⟨⟨b,e⟩,hbe⟩: ∃x,x=cJ l[j] env:=⟨_,rfl⟩
  rw[Lq hlt hbe.symm]at hd
  rw[←hbe]at p
  simp only at p
  clear hbe hr pf pc HR
  by_cases h0:e=0
  ·subst h0
   cases b
   ·rw[if_pos (.inr rfl)]at hd
    subst hd
    repeat' first|simp(disch:=omega) only[go_sem,ae hlt,cP]|((with_reducible refine ab ?_ ?_)<;>intro h<;>try first|omega|simp(disch:=omega) only[go_sem, *,ae hlt,cP])|(refine ah p rfl (.inl rfl) ?_)
   ·rw[if_neg (by simp)]at hd
    have HD:=Lib.hid hd
    clear hd
    repeat' first|simp(disch:=omega) only[go_sem,ae hlt,cP,wrap_i64]|((with_reducible refine ab ?_ ?_)<;>intro h<;>try first|omega|simp(disch:=omega) only[go_sem, *,ae hlt,cP,wrap_i64])|(refine ah p rfl (.inl rfl) ?_)
    exact⟨j+1, [],⟨by omega,HD⟩,by omega,by simp⟩
  ·rw[if_pos (.inl h0)]at hd
   subst hd
   repeat' first|simp(disch:=omega) only[go_sem,ae hlt,cP,h0]|((with_reducible refine ab ?_ ?_)<;>intro h<;>try first|omega|simp(disch:=omega) only[go_sem, *,ae hlt,cP,h0])|(refine ah p rfl (.inl rfl) ?_)
 ·have hd:=hr.out
  obtain⟨⟨b,e⟩,hbe⟩: ∃x,x=cJ c env:=⟨_,rfl⟩
  rw[Hv (by omega) hbe.symm]at hd
  rw[←hbe]at pc
  simp only at pc
  clear hbe hr pf HR
  by_cases h0:e=0
  ·subst h0
   cases b
   ·rw[if_pos ⟨rfl,rfl⟩]at hd
    subst hd
    repeat' first|simp(disch:=omega) only[go_sem]|((with_reducible refine ab ?_ ?_)<;>intro h<;>try first|omega|simp(disch:=omega) only[go_sem, *])|(refine ah pc rfl (.inl rfl) ?_)
   ·rw[if_neg (by simp)]at hd
    subst hd
    repeat' first|simp(disch:=omega) only[go_sem]|((with_reducible refine ab ?_ ?_)<;>intro h<;>try first|omega|simp(disch:=omega) only[go_sem, *])|(refine ah pc rfl (.inl rfl) ?_)
  ·rw[if_neg (by simp[h0])]at hd
   subst hd
   repeat' first|simp(disch:=omega) only[go_sem,h0]|((with_reducible refine ab ?_ ?_)<;>intro h<;>try first|omega|simp(disch:=omega) only[go_sem, *,h0])|(refine ah pc rfl (.inl rfl) ?_)
theorem Cb {d k:Int} {o:Ob} {env:List aP} (h64:GC o) (he: ∀m∈env,aA m.2):ac Tryz.prog kq [Xl d k o,d8 mP env] (I (ib env o.1 o.2)):=by
 refine ac.of EF (by simp) fun hb=>aa ?_
 obtain⟨c,l⟩:=o
 have hl:l.length≤9223372036854775807:=by
  have:=hb.1
  simp only[ie,lO,iz]at this
  have h2:c.1.2.length≤9223372036854775807∧l.length≤9223372036854775807:=by simpa using this
  exact h2.2
 have pc:=lv (c:=c) (env:=env) h64.1 he
 have pf: ∀c∈l,ac Tryz.prog io [nI c,d8 mP env] (.tup [Go.Abs.B (cJ c env).1,I (cJ c env).2]):=fun c h=>lv (h64.2 c h) he
 obtain⟨R,hR⟩: ∃R,R=ib env c l:=⟨_,rfl⟩
 simp only
 rw[←hR]
 have HR:Hid (ib env c (l.drop 0)=R):=Lib.hid hR.symm
 clear hR
 conv in wH=>cbv
 repeat' first|simp(disch:=omega) only[go_sem]|((with_reducible refine ab ?_ ?_)<;>intro h<;>try first|omega|simp(disch:=omega) only[go_sem, *])
 refine aj (fun j:Nat=>⟨[(1,d8 mP env),(2,.c (.ptr 0 0)),(5,I j)], [(0,WX d k (c,l))],1,0⟩) (fun j=>j≤l.length∧Hid (ib env c (l.drop j)=R)) (fun j=>l.length-j) ⟨0, [],⟨by omega,HR⟩,by simp⟩ ?_
 rintro j ⟨hj,hr⟩
 refine aa ?_
 by_cases hlt:j<l.length
 ·have p:=pf _ (List.getElem_mem hlt)
  have hd:=hr.out
  obtain⟨⟨b,e⟩,hbe⟩: ∃x,x=cJ l[j] env:=⟨_,rfl⟩
  rw[Lq hlt hbe.symm]at hd
  rw[←hbe]at p
  simp only at p
  clear hbe hr pf pc HR
  by_cases h0:e=0
  ·subst h0
   cases b
   ·rw[if_pos (.inr rfl)]at hd
    subst hd
    repeat' first|simp(disch:=omega) only[go_sem,ae hlt,cP]|((with_reducible refine ab ?_ ?_)<;>intro h<;>try first|omega|simp(disch:=omega) only[go_sem, *,ae hlt,cP])|(refine ah p rfl (.inl rfl) ?_)
   ·rw[if_neg (by simp)]at hd
    have HD:=Lib.hid hd
    clear hd
    repeat' first|simp(disch:=omega) only[go_sem,ae hlt,cP,wrap_i64]|((with_reducible refine ab ?_ ?_)<;>intro h<;>try first|omega|simp(disch:=omega) only[go_sem, *,ae hlt,cP,wrap_i64])|(refine ah p rfl (.inl rfl) ?_)
    exact⟨j+1, [],⟨by omega,HD⟩,by omega,by simp⟩
  ·rw[if_pos (.inl h0)]at hd
   subst hd
   repeat' first|simp(disch:=omega) only[go_sem,ae hlt,cP,h0]|((with_reducible refine ab ?_ ?_)<;>intro h<;>try first|omega|simp(disch:=omega) only[go_sem, *,ae hlt,cP,h0])|(refine ah p rfl (.inl rfl) ?_)
 ·have hd:=hr.out
  obtain⟨⟨b,e⟩,hbe⟩: ∃x,x=cJ c env:=⟨_,rfl⟩
  rw[Hv (by omega) hbe.symm]at hd
  rw[←hbe]at pc
  simp only at pc
  clear hbe hr pf HR
  by_cases h0:e=0
  ·subst h0
   cases b
   ·rw[if_pos ⟨rfl,rfl⟩]at hd
    subst hd
    repeat' first|simp(disch:=omega) only[go_sem]|((with_reducible refine ab ?_ ?_)<;>intro h<;>try first|omega|simp(disch:=omega) only[go_sem, *])|(refine ah pc rfl (.inl rfl) ?_)
   ·rw[if_neg (by simp)]at hd
    subst hd
    repeat' first|simp(disch:=omega) only[go_sem]|((with_reducible refine ab ?_ ?_)<;>intro h<;>try first|omega|simp(disch:=omega) only[go_sem, *])|(refine ah pc rfl (.inl rfl) ?_)
  ·rw[if_neg (by simp[h0])]at hd
   subst hd
   repeat' first|simp(disch:=omega) only[go_sem,h0]|((with_reducible refine ab ?_ ?_)<;>intro h<;>try first|omega|simp(disch:=omega) only[go_sem, *,h0])|(refine ah pc rfl (.inl rfl) ?_)
end Go.Proofs.YthkaaahphlneiaaGreatDoor
