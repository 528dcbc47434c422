import Derived.Test.YtigdjhnndaokjaaGreatDoorV17m
set_option linter.unusedVariables false
set_option linter.unusedSimpArgs false
set_option maxHeartbeats 4000000
open Go.Proofs.Tryz renaming prog→Pa0
namespace Go.Proofs.YtigdjhnndaokjaaGreatDoor
open Go.Abs Go.RowKit
noncomputable section
mutual
def C2 (names:List ByteArray):Ex→Prop
 | .mk op name val ty lin idx args=>(op=3∧name∈names)∨aaz names (op=11) args
def aaz (names:List ByteArray):Prop→List Ex→Prop
 |_, []=>False
 |sk,a::r=>(¬sk∧C2 names a)∨aaz names False r
end
instance (names:List ByteArray) (e:Ex):Decidable (C2 names e):=Classical.propDecidable _
theorem Sz {names:List ByteArray}: ∀{l:List Ex} {sk:Prop},aaz names sk l↔ ∃i,∃h:i<l.length,(¬sk∨0<i)∧C2 names l[i]
 | [],sk=>by simp[aaz]
 |a::r,sk=>by
  rw[aaz,Sz (l:=r)]
  constructor
  ·rintro(⟨h1,h2⟩|⟨i,h,_,h2⟩)
   ·exact⟨0,by simp,.inl h1,h2⟩
   ·exact⟨i+1,by simpa using h,.inr zR5,h2⟩
  ·rintro⟨i,h,h1,h2⟩
   cases i with
   |zero=>exact .inl ⟨h1.resolve_right zR5,h2⟩
   |succ i=>exact .inr ⟨i,by simpa using h,.inl (λh=>h),h2⟩
variable {names:List ByteArray}{e:Ex}
theorem PG:C2 names e↔(e.op=3∧e.name∈names)∨ ∃i,∃h:i<e.args.length,(¬e.op=11∨0<i)∧C2 names e.args[i]:=by
 obtain⟨op,name,val,ty,lin,idx,args⟩:=e
 rw[C2,Sz]
 rfl
mutual
def GH (p:bu) (vars act:List ByteArray):Ex→Prop
 | .mk op name val ty lin idx args=>(op=12∧ ¬ty.1=1∧ ∃h:0<args.length,(be p vars args[0]).1.1=1∧C2 act args[0])∨Yy p vars act (op=11) args
def Yy (p:bu) (vars act:List ByteArray):Prop→List Ex→Prop
 |_, []=>False
 |sk,a::r=>(¬sk∧GH p vars act a)∨Yy p vars act False r
end
instance (p:bu) (vars act:List ByteArray) (e:Ex):Decidable (GH p vars act e):=Classical.propDecidable _
theorem RN {p:bu} {vars act:List ByteArray}: ∀{l:List Ex} {sk:Prop},Yy p vars act sk l↔ ∃i,∃h:i<l.length,(¬sk∨0<i)∧GH p vars act l[i]
 | [],sk=>by simp[Yy]
 |a::r,sk=>by
  rw[Yy,RN (l:=r)]
  constructor
  ·rintro(⟨h1,h2⟩|⟨i,h,_,h2⟩)
   ·exact⟨0,by simp,.inl h1,h2⟩
   ·exact⟨i+1,by simpa using h,.inr zR5,h2⟩
  ·rintro⟨i,h,h1,h2⟩
   cases i with
   |zero=>exact .inl ⟨h1.resolve_right zR5,h2⟩
   |succ i=>exact .inr ⟨i,by simpa using h,.inl (λh=>h),h2⟩
variable {p:bu}{vars act:List ByteArray}
theorem QC:GH p vars act e↔(e.op=12∧ ¬e.ty.1=1∧ ∃h:0<e.args.length,(be p vars e.args[0]).1.1=1∧C2 act e.args[0])∨ ∃i,∃h:i<e.args.length,(¬e.op=11∨0<i)∧GH p vars act e.args[i]:=by
 obtain⟨op,name,val,ty,lin,idx,args⟩:=e
 rw[GH,RN]
 rfl
def v6 (p:bu) (k:Nat):List ByteArray:=((p.params.take k).filter λx=>decide (x.2.1.1=1)).map (·.1)
def lM (p:bu):Nat→List ByteArray
 |0=>v6 p p.params.length
 |k+1=>match p.defs[k]? with
  |some d=>if d.ty.1=1∧C2 (lM p k) d.body then lM p k++ [d.name]else lM p k
  |none=>lM p k
def H9 (p:bu):List ByteArray:=lM p p.defs.length
variable {k:Nat}
theorem Sg (h:k<p.params.length) (h1:p.params[k].2.1.1=1):v6 p (k+1)=v6 p k++ [p.params[k].1]:=by
 unfold v6
 rw[zB5 h,List.filter_append,zC8]
 simp[h1]
theorem Vj (h:k<p.params.length) (h1: ¬p.params[k].2.1.1=1):v6 p (k+1)=v6 p k:=by
 unfold v6
 rw[zB5 h,List.filter_append,zC8]
 simp[h1]
theorem Rs (h:k<p.defs.length) (h1:p.defs[k].ty.1=1) (h2:C2 (lM p k) p.defs[k].body):lM p (k+1)=lM p k++ [p.defs[k].name]:=by
 rw[lM,zA7 h]
 exact if_pos ⟨h1,h2⟩
theorem Je (h:k<p.defs.length) (h1: ¬(p.defs[k].ty.1=1∧C2 (lM p k) p.defs[k].body)):lM p (k+1)=lM p k:=by
 rw[lM,zA7 h]
 exact if_neg h1
theorem Mp (k:Nat):(v6 p k).length≤p.params.length:=by
 unfold v6
 rw[zE3]
 refine zK3 (List.length_filter_le _ _) ?_
 rw[zI2]
 omega
theorem J6 {p:bu}: ∀k:Nat,(lM p k).length≤p.params.length+k
 |0=>Mp _
 |k+1=>by
  have ih:=J6 (p:=p) k
  rw[lM]
  split
  ·split
   ·rw[zE8,List.length_singleton];omega
   ·omega
  ·omega
def lsI (p:bu) (k:Nat):Int:=match p.defs[k]? with
 |some d=>if GH p (aR d) (H9 p) d.body then 20 else 0
 |none=>0
theorem YR (h:k<p.defs.length):lsI p k=if GH p (aR p.defs[k]) (H9 p) p.defs[k].body then 20 else 0:=by
 unfold lsI
 rw[zA7 h]
def FP (p:bu):Int×Int:=if(bA p).2≠0 then bA p else(Ao 0 ((List.range p.defs.length).map (lsI p))).getD (0,0)
theorem EZ (h: ¬(bA p).2=0):FP p=bA p:=if_pos h
theorem Wa (h:(bA p).2=0) (h1: ∀j,j<p.defs.length→lsI p j=0):FP p=(0,0):=by
 unfold FP
 rw[if_neg (zA5 h),jR h1]
 rfl
theorem UX (h:(bA p).2=0) (hk:k<p.defs.length) (h1: ∀j,j<k→lsI p j=0) (h2:lsI p k=20):FP p=((k:Int),20):=by
 unfold FP
 rw[if_neg (zA5 h),oF hk h1 (by rw[h2];decide),h2]
 show((0:Int)+k,(20:Int))=_
 rw[Int.zero_add]
variable {l:List Int}
theorem Vo: ∀{a:Int} {r:Int×Int},Ao a l=some r→r.2≠0:=by
 induction l with
 |nil=>intro a r h;cases h
 |cons x l ih=>
  intro a r h
  rw[Ao]at h
  split at h
  ·cases h;assumption
  ·exact ih h
theorem Zv: ∀{a:Int},Ao a l=none→ ∀x∈l,x=0:=by
 induction l with
 |nil=>intro a _ x hx;cases hx
 |cons y l ih=>
  intro a h x hx
  rw[Ao]at h
  split at h
  ·cases h
  ·rename_i hy
   rcases zD7.1 hx with rfl|hx
   ·exact zB9.1 hy
   ·exact ih h x hx
theorem vw (h:(bA p).2=0): ∀k (hk:k<p.defs.length),hO p.defs[k].body=0:=by
 have hd: ∀j,j<p.defs.length→Do p j=0:=by
  unfold bA at h
  split at h
  ·cases h
  ·split at h
   ·exact absurd h ‹_›
   ·split at h
    ·exact absurd h ‹_›
    ·split at h
     ·rename_i r hr
      exact absurd h (Vo hr)
     ·split at h
      ·rename_i r hr
       exact absurd h (Vo hr)
      ·rename_i hr
       intro j hj
       exact Zv hr _ (zE0.2 ⟨j,zO3.2 hj,rfl⟩)
 intro k hk
 have h0:=hd k hk
 rw[DD hk]at h0
 unfold bq at h0
 split at h0
 ·exact absurd h0 ‹_›
 ·split at h0
  ·cases h0
  ·split at h0
   ·cases h0
   ·split at h0
    ·exact absurd h0 ‹_›
    ·split at h0
     ·exact absurd h0 ‹_›
     ·split at h0
      ·exact absurd h0 ‹_›
      ·rename_i ht
       refine zB9.1 λhn=>ht ?_
       unfold be
       rw[if_pos hn]
       exact hn
theorem Pk (h:(bA p).2=0):gE p:=by
 unfold bA at h
 split at h
 ·cases h
 ·exact zB9.1 ‹_›
set_option maxRecDepth 1000000
open Go.Abs Go.RowKit
theorem ZY (hk:k<e.args.length) (hc: ¬e.op=11∨0<k) (h:C2 names e.args[k]):C2 names e:=PG.2 (.inr ⟨k,hk,hc,h⟩)
def M1 (names:List ByteArray) (e:Ex) (i:Nat):Prop:= ∀h:i<e.args.length,¬((¬e.op=11∨0<i)∧C2 names e.args[i])
theorem YV (h1: ¬(e.op=3∧e.name∈names)) (h: ∀i,i<e.args.length→M1 names e i): ¬C2 names e:= λhr=>by
 rcases PG.1 hr with hh|⟨i,hi,hc⟩
 ·exact h1 hh
 ·exact h i hi hi hc
theorem GR (hk:k<e.args.length) (hc: ¬e.op=11∨0<k) (h:GH p vars act e.args[k]):GH p vars act e:=QC.2 (.inr ⟨k,hk,hc,h⟩)
def nP (p:bu) (vars act:List ByteArray) (e:Ex) (i:Nat):Prop:= ∀h:i<e.args.length,¬((¬e.op=11∨0<i)∧GH p vars act e.args[i])
def lsN (p:bu) (vars act:List ByteArray) (e:Ex):Prop:=e.op=12∧ ¬e.ty.1=1∧ ∃h:0<e.args.length,(be p vars e.args[0]).1.1=1∧C2 act e.args[0]
theorem Gj (h1: ¬lsN p vars act e) (h: ∀i,i<e.args.length→nP p vars act e i): ¬GH p vars act e:= λhr=>by
 rcases QC.1 hr with hh|⟨i,hi,hc⟩
 ·exact h1 hh
 ·exact h i hi hi hc
theorem yu (names:List ByteArray) (e:Ex):ac Pa0 oP [fp e,.c (.pure (bj names))] (Go.Abs.B (decide (C2 names e))):=by
 refine Ex.ind (p:= λe=>ac Pa0 oP [fp e,.c (.pure (bj names))] (Go.Abs.B (decide (C2 names e)))) (λe ih=> ?_) e
 refine ac.of Ny zR6 λhb=>aa ?_
 have hl:=(dq hb).1
 have cC:=fQ names e.name
 conv in EJ=>cbv
 by_cases h1:e.op=3∧e.name∈names
 ·rw[zB1 (PG.2 (.inl h1))]
  rw[zB1 h1.2]at cC
  have h3:=h1.1
  clear h1 ih
  exact yD9
 ·have hN:= λh=>YV h1 h
  by_cases hm:e.name∈names
  ·have h: ¬e.op=3:= λh=>h1 ⟨h,hm⟩
   clear h1 cC hm
   repeat' first|simp(disch:=omega)only[go_sem, *]|apply ab<;>intro h<;>try omega
   refine al (λk:Nat=>⟨[(19,I k),(18,I e.args.length),(17,.c (.pure (.slice (e.args.map Ex.row)))),(2,.c (.ptr 0 0)),(1,.c (.pure (bj names)))], [(0,zO e)],1,0⟩) (λk=>k≤e.args.length∧ct (λi=>M1 names e i) k) (λk=>e.args.length-k) ⟨0, [],⟨by omega,.zero⟩,by simp<;>omega⟩ ?_
   repeat clear h
   rintro k ⟨hk,f⟩
   refine aa ?_
   by_cases g:k<e.args.length
   ·have m:=ih _ (zA6 g)
    by_cases hr:C2 names e.args[k]
    ·rw[zB1 hr]at m
     by_cases hc: ¬e.op=11∨0<k
     ·rw[zB1 (ZY g hc hr)]
      clear f ih hr hN
      exact zW3
     ·have HA:=Lib.hid (f.succ (show M1 names e k from λ_ h=>hc h.1))
      clear f ih hr hN
      repeat' first|simp(disch:=omega)only[go_sem, *,ae g,Ex.row_eq,wrap_i64]|apply ab<;>intro h<;>try omega|refine ak m ?_
      all_goals exact⟨k+1, [],⟨by omega,HA.out⟩,by omega,by simp<;>omega⟩
    ·rw[zA9 hr]at m
     have HA:=Lib.hid (f.succ (show M1 names e k from λ_ h=>hr h.2))
     clear f ih hr hN
     repeat' first|simp(disch:=omega)only[go_sem, *,ae g,Ex.row_eq,wrap_i64]|apply ab<;>intro h<;>try omega|refine ak m ?_
     all_goals exact⟨k+1, [],⟨by omega,HA.out⟩,by omega,by simp<;>omega⟩
   ·rw[zA9 (hN λi hi=>f i zR5)]
    clear f ih hN
    exact zW0
  ·rw[zA9 hm]at cC
   clear h1 hm
   repeat' first|simp(disch:=omega)only[go_sem, *]|apply ab<;>intro h<;>try omega|refine ak cC ?_
   all_goals
    clear cC
    refine al (λk:Nat=>⟨[(19,I k),(18,I e.args.length),(17,.c (.pure (.slice (e.args.map Ex.row)))),(2,.c (.ptr 0 0)),(1,.c (.pure (bj names)))], [(0,zO e)],1,0⟩) (λk=>k≤e.args.length∧ct (λi=>M1 names e i) k) (λk=>e.args.length-k) ⟨0, [],⟨by omega,.zero⟩,by simp<;>omega⟩ ?_
    repeat clear h
    rintro k ⟨hk,f⟩
    refine aa ?_
    by_cases g:k<e.args.length
    ·have m:=ih _ (zA6 g)
     by_cases hr:C2 names e.args[k]
     ·rw[zB1 hr]at m
      by_cases hc: ¬e.op=11∨0<k
      ·rw[zB1 (ZY g hc hr)]
       clear f ih hr hN
       exact zW3
      ·have HA:=Lib.hid (f.succ (show M1 names e k from λ_ h=>hc h.1))
       clear f ih hr hN
       repeat' first|simp(disch:=omega)only[go_sem, *,ae g,Ex.row_eq,wrap_i64]|apply ab<;>intro h<;>try omega|refine ak m ?_
       all_goals exact⟨k+1, [],⟨by omega,HA.out⟩,by omega,by simp<;>omega⟩
     ·rw[zA9 hr]at m
      have HA:=Lib.hid (f.succ (show M1 names e k from λ_ h=>hr h.2))
      clear f ih hr hN
      repeat' first|simp(disch:=omega)only[go_sem, *,ae g,Ex.row_eq,wrap_i64]|apply ab<;>intro h<;>try omega|refine ak m ?_
      all_goals exact⟨k+1, [],⟨by omega,HA.out⟩,by omega,by simp<;>omega⟩
    ·rw[zA9 (hN λi hi=>f i zR5)]
     clear f ih hN
     exact zW0
theorem wF (names:List ByteArray) (e:Ex):jY e→ac Pa0 mA [fp e,.c (.pure (bj names))] (Go.Abs.B (decide (C2 names e))):=by
 refine Ex.ind (p:= λe=>jY e→ac Pa0 mA [fp e,.c (.pure (bj names))] (Go.Abs.B (decide (C2 names e)))) (λe ih o=> ?_) e
 refine ac.of K7 zR6 λhb=>aa ?_
 have hl:=(dq hb).1
 have cC:=kI names e.name
 conv in AT=>cbv
 by_cases h3:e.op=3
 ·have hE:C2 names e↔e.name∈names:=by
   have ha:=(np o).1
   rw[h3]at ha
   have D:e.args.length=0:=by
    have:lv 3=0:=by decide
    omega
   rw[PG]
   constructor
   ·rintro(h|⟨i,hi,_⟩)
    ·exact h.2
    ·omega
   ·exact λh=> .inl ⟨h3,h⟩
  rw[show decide (C2 names e)=decide (e.name∈names)from zF2.2 hE]
  clear ih hE
  exact yD9
 ·have hN:= λh=>YV (names:=names) (e:=e) (λhh=>h3 hh.1) h
  have h:=h3
  clear cC h3
  repeat' first|simp(disch:=omega)only[go_sem, *]|apply ab<;>intro h<;>try omega
  refine al (λk:Nat=>⟨[(5,I k),(2,.c (.ptr 0 0)),(1,.c (.pure (bj names)))], [(0,zO e)],1,0⟩) (λk=>k≤e.args.length∧ct (λi=>M1 names e i) k) (λk=>e.args.length-k) ⟨0, [],⟨by omega,.zero⟩,by simp<;>omega⟩ ?_
  repeat clear h
  rintro k ⟨hk,f⟩
  refine aa ?_
  by_cases g:k<e.args.length
  ·have m:=ih _ (zA6 g) (ei o (zA6 g))
   by_cases hr:C2 names e.args[k]
   ·rw[zB1 hr]at m
    by_cases hc: ¬e.op=11∨0<k
    ·rw[zB1 (ZY g hc hr)]
     clear f ih hr hN
     exact zW3
    ·have HA:=Lib.hid (f.succ (show M1 names e k from λ_ h=>hc h.1))
     clear f ih hr hN
     repeat' first|simp(disch:=omega)only[go_sem, *,ae g,Ex.row_eq,wrap_i64]|apply ab<;>intro h<;>try omega|refine ak m ?_
     all_goals exact⟨k+1, [],⟨by omega,HA.out⟩,by omega,by simp<;>omega⟩
   ·rw[zA9 hr]at m
    have HA:=Lib.hid (f.succ (show M1 names e k from λ_ h=>hr h.2))
    clear f ih hr hN
    repeat' first|simp(disch:=omega)only[go_sem, *,ae g,Ex.row_eq,wrap_i64]|apply ab<;>intro h<;>try omega|refine ak m ?_
    all_goals exact⟨k+1, [],⟨by omega,HA.out⟩,by omega,by simp<;>omega⟩
  ·rw[zA9 (hN λi hi=>f i zR5)]
   clear f ih hN
   exact zW0
set_option maxRecDepth 20000
set_option maxRecDepth 1000000
theorem mz {a b:Ex} (ha:a∈e.args) (hb:b∈a.pre):b∈e.pre:=by
 rw[Ex.pre_eq]
 refine zC3 _ ?_
 generalize e.args=l at ha
 induction l with
 |nil=>cases ha
 |cons x r z=>
  rw[Ex.pres]
  rcases zD7.1 ha with rfl|ha
  ·exact zF5 _ hb
  ·exact zE5 _ (z ha)
theorem Hu (hc:gE p):ac Pa0 rS [fL p] (.c (.pure (bj (H9 p)))):=by
 refine ac.of JV zR6 λhb=>aa ?_
 have A:=hc.2.1
 have v:=hc.2.2.1
 clear hc
 conv in A1=>cbv
 repeat' first|simp(disch:=omega)only[go_sem, *]|apply ab<;>intro h<;>try omega
 refine dc 3 9 1 rfl zR9 ?_
 refine al (λk:Nat=>⟨[(11,I k),(10,I p.params.length),(9,.c (.pure (dp ef p.params))),(3,.c (.ref 1)),(1,.c (.ptr 0 0))], [(1,.arr 9 1 ((v6 p k).map λs=> [pS s])),(0,dK p)],2,0⟩) (λk=>k≤p.params.length) (λk=>p.params.length-k) ⟨0, [],by omega,by simp[v6]⟩ ?_
 intro k hk
 refine aa ?_
 have t:=Mp (p:=p) k
 by_cases g:k<p.params.length
 ·by_cases ht:p.params[k].2.1.1=1
  ·have hw:(v6 p k).map (λs=> [pS s])++ [[pS p.params[k].1]]=(v6 p (k+1)).map λs=> [pS s]:=by rw[Sg g ht,zC8];rfl
   have HW:=Lib.hid hw
   clear hw
   repeat' first|simp(disch:=omega)only[go_sem, *,ae g,ef,wrap_i64,ht]|apply ab<;>intro h<;>try omega|refine aP rfl zS0 (aE rfl) zR8 zR8 ?_
   rw[HW.out]
   exact⟨k+1, [(1,3)],by omega,by omega,by simp⟩
  ·have HE:=Lib.hid (Vj g ht)
   repeat' first|simp(disch:=omega)only[go_sem, *,ae g,ef,wrap_i64,ht]|apply ab<;>intro h<;>try omega
   rw[←HE.out]
   exact⟨k+1, [],by omega,by omega,by simp⟩
 ·have u:k=p.params.length:=by omega
  subst u
  rw[show v6 p p.params.length=lM p 0 from rfl]
  repeat clear g
  repeat clear hk
  clear t
  repeat' first|simp(disch:=omega)only[go_sem, *]|apply ab<;>intro h<;>try omega
  refine al (λk:Nat=>⟨[(28,I k),(27,I p.defs.length),(26,.c (.pure (dp bU p.defs))),(3,.c (.ref 1))], [(1,.arr 9 1 ((lM p k).map λs=> [pS s])),(0,dK p)],2,0⟩) (λk=>k≤p.defs.length) (λk=>p.defs.length-k) ⟨0, [],by omega,by simp⟩ ?_
  intro k hk
  refine aa ?_
  have t:=J6 (p:=p) k
  by_cases g:k<p.defs.length
  ·have cR:=yu (lM p k) p.defs[k].body
   by_cases ht:p.defs[k].ty.1=1
   ·by_cases hr:C2 (lM p k) p.defs[k].body
    ·rw[zB1 hr]at cR
     have hw:(lM p k).map (λs=> [pS s])++ [[pS p.defs[k].name]]=(lM p (k+1)).map λs=> [pS s]:=by rw[Rs g ht hr,zC8];rfl
     have HW:=Lib.hid hw
     clear hw hr
     repeat' first|simp(disch:=omega)only[go_sem, *,ae g,bU,wrap_i64,ht]|apply ab<;>intro h<;>try omega|refine ak cR ?_|refine aP rfl zS0 (aE rfl) zR8 zR8 ?_
     rw[HW.out]
     exact⟨k+1, [(1,3)],by omega,by omega,by simp⟩
    ·rw[zA9 hr]at cR
     have HE:=Lib.hid (Je g λh=>hr h.2)
     clear hr
     repeat' first|simp(disch:=omega)only[go_sem, *,ae g,bU,wrap_i64,ht]|apply ab<;>intro h<;>try omega|refine ak cR ?_
     rw[←HE.out]
     exact⟨k+1, [],by omega,by omega,by simp⟩
   ·have HE:=Lib.hid (Je g λh=>ht h.1)
    repeat' first|simp(disch:=omega)only[go_sem, *,ae g,bU,wrap_i64,ht]|apply ab<;>intro h<;>try omega|refine ak cR ?_
    rw[←HE.out]
    exact⟨k+1, [],by omega,by omega,by simp⟩
  ·have u:k=p.defs.length:=by omega
   subst u
   repeat' first|simp(disch:=omega)only[go_sem, *]|apply ab<;>intro h<;>try omega
   try simp[H9]
theorem Gg (hc:gE p) (C: ∀k (hk:k<p.defs.length),jY p.defs[k].body):ac Pa0 qg [fL p] (.c (.pure (bj (H9 p)))):=by
 refine ac.of Hj zR6 λhb=>aa ?_
 have A:=hc.2.1
 have v:=hc.2.2.1
 clear hc
 conv in xG=>cbv
 repeat' first|simp(disch:=omega)only[go_sem, *]|apply ab<;>intro h<;>try omega
 refine dc 3 9 1 rfl zR9 ?_
 refine al (λk:Nat=>⟨[(4,I k),(3,.c (.ref 1)),(1,.c (.ptr 0 0))], [(1,.arr 9 1 ((v6 p k).map λs=> [pS s])),(0,dK p)],2,0⟩) (λk=>k≤p.params.length) (λk=>p.params.length-k) ⟨0, [],by omega,by simp[v6]⟩ ?_
 intro k hk
 refine aa ?_
 have t:=Mp (p:=p) k
 by_cases g:k<p.params.length
 ·by_cases ht:p.params[k].2.1.1=1
  ·have hw:(v6 p k).map (λs=> [pS s])++ [[pS p.params[k].1]]=(v6 p (k+1)).map λs=> [pS s]:=by rw[Sg g ht,zC8];rfl
   have HW:=Lib.hid hw
   clear hw
   repeat' first|simp(disch:=omega)only[go_sem, *,ae g,ef,wrap_i64,ht]|apply ab<;>intro h<;>try omega|refine aP rfl zS0 (aE rfl) zR8 zR8 ?_
   rw[HW.out]
   exact⟨k+1, [(1,2)],by omega,by omega,by simp⟩
  ·have HE:=Lib.hid (Vj g ht)
   repeat' first|simp(disch:=omega)only[go_sem, *,ae g,ef,wrap_i64,ht]|apply ab<;>intro h<;>try omega
   rw[←HE.out]
   exact⟨k+1, [],by omega,by omega,by simp⟩
 ·have u:k=p.params.length:=by omega
  subst u
  rw[show v6 p p.params.length=lM p 0 from rfl]
  repeat clear g
  repeat clear hk
  clear t
  repeat' first|simp(disch:=omega)only[go_sem, *]|apply ab<;>intro h<;>try omega
  refine al (λk:Nat=>⟨[(5,I k),(3,.c (.ref 1)),(1,.c (.ptr 0 0))], [(1,.arr 9 1 ((lM p k).map λs=> [pS s])),(0,dK p)],2,0⟩) (λk=>k≤p.defs.length) (λk=>p.defs.length-k) ⟨0, [],by omega,by simp⟩ ?_
  intro k hk
  refine aa ?_
  have t:=J6 (p:=p) k
  by_cases g:k<p.defs.length
  ·have cR:=wF (lM p k) p.defs[k].body (C k g)
   by_cases ht:p.defs[k].ty.1=1
   ·by_cases hr:C2 (lM p k) p.defs[k].body
    ·rw[zB1 hr]at cR
     have hw:(lM p k).map (λs=> [pS s])++ [[pS p.defs[k].name]]=(lM p (k+1)).map λs=> [pS s]:=by rw[Rs g ht hr,zC8];rfl
     have HW:=Lib.hid hw
     clear hw hr
     repeat' first|simp(disch:=omega)only[go_sem, *,ae g,bU,wrap_i64,ht]|apply ab<;>intro h<;>try omega|refine ak cR ?_|refine aP rfl zS0 (aE rfl) zR8 zR8 ?_
     rw[HW.out]
     exact⟨k+1, [(1,2)],by omega,by omega,by simp⟩
    ·rw[zA9 hr]at cR
     have HE:=Lib.hid (Je g λh=>hr h.2)
     clear hr
     repeat' first|simp(disch:=omega)only[go_sem, *,ae g,bU,wrap_i64,ht]|apply ab<;>intro h<;>try omega|refine ak cR ?_
     rw[←HE.out]
     exact⟨k+1, [],by omega,by omega,by simp⟩
   ·have HE:=Lib.hid (Je g λh=>ht h.1)
    repeat' first|simp(disch:=omega)only[go_sem, *,ae g,bU,wrap_i64,ht]|apply ab<;>intro h<;>try omega|refine ak cR ?_
    rw[←HE.out]
    exact⟨k+1, [],by omega,by omega,by simp⟩
  ·have u:k=p.defs.length:=by omega
   subst u
   repeat' first|simp(disch:=omega)only[go_sem, *]|apply ab<;>intro h<;>try omega
   try simp[H9]
set_option maxRecDepth 20000
set_option maxRecDepth 1000000
theorem Lx (hf:iD p) (vars act:List ByteArray) (e:Ex):jY e→(∀a∈e.pre,bD a.val)→ac Pa0 oK [fL p,.c (.pure (bj vars)),fp e,.c (.pure (bj act))] (Go.Abs.B (decide (GH p vars act e))):=by
 refine Ex.ind (p:= λe=>jY e→(∀a∈e.pre,bD a.val)→ac Pa0 oK [fL p,.c (.pure (bj vars)),fp e,.c (.pure (bj act))] (Go.Abs.B (decide (GH p vars act e)))) (λe ih o n=> ?_) e
 refine ac.of Oy zR6 λhb=>aa ?_
 have hl:=(dq hb.2.2).1
 conv in Er=>cbv
 by_cases hA:e.op=12∧ ¬e.ty.1=1
 ·have h0:0<e.args.length:=by
   have ha:=(np o).1
   rw[hA.1]at ha
   have:lv 12=1:=by decide
   omega
  have cT:=pN hf vars (λb hb=>n b (mz (zA6 h0) hb))
  have cR:=yu act e.args[0]
  by_cases ht:(be p vars e.args[0]).1.1=1
  ·by_cases hr:C2 act e.args[0]
   ·rw[zB1 (QC.2 (.inl ⟨hA.1,hA.2,h0,ht,hr⟩))]
    rw[zB1 hr]at cR
    obtain⟨ho,q⟩:=hA
    clear ih hr
    exact yA0
   ·have hN:= λh=>Gj (p:=p) (vars:=vars) (act:=act) (e:=e) (λhh=>by obtain⟨_,_,_,_,h5⟩:=hh;exact hr h5) h
    rw[zA9 hr]at cR
    obtain⟨h,q⟩:=hA
    clear hr
    repeat' first|simp(disch:=omega)only[go_sem, *,ae h0,Ex.row_eq,zB3]|apply ab<;>intro h<;>try omega|refine ak cT ?_|refine ak cR ?_
    clear cT cR ht q
    refine al (λk:Nat=>⟨[(46,I k),(45,I e.args.length),(44,.c (.pure (.slice (e.args.map Ex.row)))),(6,.c (.ptr 1 0)),(4,.c (.ptr 0 0)),(3,.c (.pure (bj act))),(1,.c (.pure (bj vars)))], [(1,zO e),(0,dK p)],2,0⟩) (λk=>k≤e.args.length∧ct (λi=>nP p vars act e i) k) (λk=>e.args.length-k) ⟨0, [],⟨by omega,.zero⟩,by simp<;>omega⟩ ?_
    repeat clear h
    rintro k ⟨hk,f⟩
    refine aa ?_
    by_cases g:k<e.args.length
    ·have m:=ih _ (zA6 g) (ei o (zA6 g)) (λb hb=>n b (mz (zA6 g) hb))
     by_cases hr:GH p vars act e.args[k]
     ·rw[zB1 hr]at m
      by_cases hc: ¬e.op=11∨0<k
      ·rw[zB1 (GR g hc hr)]
       clear f ih hr hN
       exact zW3
      ·have HA:=Lib.hid (f.succ (show nP p vars act e k from λ_ h=>hc h.1))
       clear f ih hr hN
       repeat' first|simp(disch:=omega)only[go_sem, *,ae g,Ex.row_eq,wrap_i64]|apply ab<;>intro h<;>try omega|refine ak m ?_
       all_goals exact⟨k+1, [],⟨by omega,HA.out⟩,by omega,by simp<;>omega⟩
     ·rw[zA9 hr]at m
      have HA:=Lib.hid (f.succ (show nP p vars act e k from λ_ h=>hr h.2))
      clear f ih hr hN
      repeat' first|simp(disch:=omega)only[go_sem, *,ae g,Ex.row_eq,wrap_i64]|apply ab<;>intro h<;>try omega|refine ak m ?_
      all_goals exact⟨k+1, [],⟨by omega,HA.out⟩,by omega,by simp<;>omega⟩
    ·rw[zA9 (hN λi hi=>f i zR5)]
     clear f ih hN
     exact zW0
  ·have hN:= λh=>Gj (p:=p) (vars:=vars) (act:=act) (e:=e) (λhh=>by obtain⟨_,_,_,h4,_⟩:=hh;exact ht h4) h
   obtain⟨h,q⟩:=hA
   repeat' first|simp(disch:=omega)only[go_sem, *,ae h0,Ex.row_eq,zB3]|apply ab<;>intro h<;>try omega|refine ak cT ?_|refine ak cR ?_
   clear cT cR ht q
   refine al (λk:Nat=>⟨[(46,I k),(45,I e.args.length),(44,.c (.pure (.slice (e.args.map Ex.row)))),(6,.c (.ptr 1 0)),(4,.c (.ptr 0 0)),(3,.c (.pure (bj act))),(1,.c (.pure (bj vars)))], [(1,zO e),(0,dK p)],2,0⟩) (λk=>k≤e.args.length∧ct (λi=>nP p vars act e i) k) (λk=>e.args.length-k) ⟨0, [],⟨by omega,.zero⟩,by simp<;>omega⟩ ?_
   repeat clear h
   rintro k ⟨hk,f⟩
   refine aa ?_
   by_cases g:k<e.args.length
   ·have m:=ih _ (zA6 g) (ei o (zA6 g)) (λb hb=>n b (mz (zA6 g) hb))
    by_cases hr:GH p vars act e.args[k]
    ·rw[zB1 hr]at m
     by_cases hc: ¬e.op=11∨0<k
     ·rw[zB1 (GR g hc hr)]
      clear f ih hr hN
      exact zW3
     ·have HA:=Lib.hid (f.succ (show nP p vars act e k from λ_ h=>hc h.1))
      clear f ih hr hN
      repeat' first|simp(disch:=omega)only[go_sem, *,ae g,Ex.row_eq,wrap_i64]|apply ab<;>intro h<;>try omega|refine ak m ?_
      all_goals exact⟨k+1, [],⟨by omega,HA.out⟩,by omega,by simp<;>omega⟩
    ·rw[zA9 hr]at m
     have HA:=Lib.hid (f.succ (show nP p vars act e k from λ_ h=>hr h.2))
     clear f ih hr hN
     repeat' first|simp(disch:=omega)only[go_sem, *,ae g,Ex.row_eq,wrap_i64]|apply ab<;>intro h<;>try omega|refine ak m ?_
     all_goals exact⟨k+1, [],⟨by omega,HA.out⟩,by omega,by simp<;>omega⟩
   ·rw[zA9 (hN λi hi=>f i zR5)]
    clear f ih hN
    exact zW0
 ·have hN:= λh=>Gj (p:=p) (vars:=vars) (act:=act) (e:=e) (λhh=>hA ⟨hh.1,hh.2.1⟩) h
  by_cases h:e.op=12
  ·have q:e.ty.1=1:=zB9.1 λhn=>hA ⟨h,hn⟩
   clear hA
   repeat' first|simp(disch:=omega)only[go_sem, *]|apply ab<;>intro h<;>try omega
   refine al (λk:Nat=>⟨[(46,I k),(45,I e.args.length),(44,.c (.pure (.slice (e.args.map Ex.row)))),(6,.c (.ptr 1 0)),(4,.c (.ptr 0 0)),(3,.c (.pure (bj act))),(1,.c (.pure (bj vars)))], [(1,zO e),(0,dK p)],2,0⟩) (λk=>k≤e.args.length∧ct (λi=>nP p vars act e i) k) (λk=>e.args.length-k) ⟨0, [],⟨by omega,.zero⟩,by simp<;>omega⟩ ?_
   repeat clear h
   clear q
   rintro k ⟨hk,f⟩
   refine aa ?_
   by_cases g:k<e.args.length
   ·have m:=ih _ (zA6 g) (ei o (zA6 g)) (λb hb=>n b (mz (zA6 g) hb))
    by_cases hr:GH p vars act e.args[k]
    ·rw[zB1 hr]at m
     by_cases hc: ¬e.op=11∨0<k
     ·rw[zB1 (GR g hc hr)]
      clear f ih hr hN
      exact zW3
     ·have HA:=Lib.hid (f.succ (show nP p vars act e k from λ_ h=>hc h.1))
      clear f ih hr hN
      repeat' first|simp(disch:=omega)only[go_sem, *,ae g,Ex.row_eq,wrap_i64]|apply ab<;>intro h<;>try omega|refine ak m ?_
      all_goals exact⟨k+1, [],⟨by omega,HA.out⟩,by omega,by simp<;>omega⟩
    ·rw[zA9 hr]at m
     have HA:=Lib.hid (f.succ (show nP p vars act e k from λ_ h=>hr h.2))
     clear f ih hr hN
     repeat' first|simp(disch:=omega)only[go_sem, *,ae g,Ex.row_eq,wrap_i64]|apply ab<;>intro h<;>try omega|refine ak m ?_
     all_goals exact⟨k+1, [],⟨by omega,HA.out⟩,by omega,by simp<;>omega⟩
   ·rw[zA9 (hN λi hi=>f i zR5)]
    clear f ih hN
    exact zW0
  ·clear hA
   repeat' first|simp(disch:=omega)only[go_sem, *]|apply ab<;>intro h<;>try omega
   refine al (λk:Nat=>⟨[(46,I k),(45,I e.args.length),(44,.c (.pure (.slice (e.args.map Ex.row)))),(6,.c (.ptr 1 0)),(4,.c (.ptr 0 0)),(3,.c (.pure (bj act))),(1,.c (.pure (bj vars)))], [(1,zO e),(0,dK p)],2,0⟩) (λk=>k≤e.args.length∧ct (λi=>nP p vars act e i) k) (λk=>e.args.length-k) ⟨0, [],⟨by omega,.zero⟩,by simp<;>omega⟩ ?_
   repeat clear h
   rintro k ⟨hk,f⟩
   refine aa ?_
   by_cases g:k<e.args.length
   ·have m:=ih _ (zA6 g) (ei o (zA6 g)) (λb hb=>n b (mz (zA6 g) hb))
    by_cases hr:GH p vars act e.args[k]
    ·rw[zB1 hr]at m
     by_cases hc: ¬e.op=11∨0<k
     ·rw[zB1 (GR g hc hr)]
      clear f ih hr hN
      exact zW3
     ·have HA:=Lib.hid (f.succ (show nP p vars act e k from λ_ h=>hc h.1))
      clear f ih hr hN
      repeat' first|simp(disch:=omega)only[go_sem, *,ae g,Ex.row_eq,wrap_i64]|apply ab<;>intro h<;>try omega|refine ak m ?_
      all_goals exact⟨k+1, [],⟨by omega,HA.out⟩,by omega,by simp<;>omega⟩
    ·rw[zA9 hr]at m
     have HA:=Lib.hid (f.succ (show nP p vars act e k from λ_ h=>hr h.2))
     clear f ih hr hN
     repeat' first|simp(disch:=omega)only[go_sem, *,ae g,Ex.row_eq,wrap_i64]|apply ab<;>intro h<;>try omega|refine ak m ?_
     all_goals exact⟨k+1, [],⟨by omega,HA.out⟩,by omega,by simp<;>omega⟩
   ·rw[zA9 (hN λi hi=>f i zR5)]
    clear f ih hN
    exact zW0
theorem Iv (hf:iD p) (vars act:List ByteArray) (e:Ex):jY e→(∀a∈e.pre,bD a.val)→ac Pa0 mL [fL p,.c (.pure (bj vars)),fp e,.c (.pure (bj act))] (Go.Abs.B (decide (GH p vars act e))):=by
 refine Ex.ind (p:= λe=>jY e→(∀a∈e.pre,bD a.val)→ac Pa0 mL [fL p,.c (.pure (bj vars)),fp e,.c (.pure (bj act))] (Go.Abs.B (decide (GH p vars act e)))) (λe ih o n=> ?_) e
 refine ac.of Ls zR6 λhb=>aa ?_
 have hl:=(dq hb.2.2).1
 conv in Be=>cbv
 by_cases hA:e.op=12∧ ¬e.ty.1=1
 ·have h0:0<e.args.length:=by
   have ha:=(np o).1
   rw[hA.1]at ha
   have:lv 12=1:=by decide
   omega
  have cT:=ui hf vars (λb hb=>n b (mz (zA6 h0) hb))
  have cR:=wF act e.args[0] (ei o (zA6 h0))
  by_cases ht:(be p vars e.args[0]).1.1=1
  ·by_cases hr:C2 act e.args[0]
   ·rw[zB1 (QC.2 (.inl ⟨hA.1,hA.2,h0,ht,hr⟩))]
    rw[zB1 hr]at cR
    obtain⟨ho,q⟩:=hA
    clear ih hr
    exact yA0
   ·have hN:= λh=>Gj (p:=p) (vars:=vars) (act:=act) (e:=e) (λhh=>by obtain⟨_,_,_,_,h5⟩:=hh;exact hr h5) h
    rw[zA9 hr]at cR
    obtain⟨h,q⟩:=hA
    clear hr
    repeat' first|simp(disch:=omega)only[go_sem, *,ae h0,Ex.row_eq,zB3]|apply ab<;>intro h<;>try omega|refine ak cT ?_|refine ak cR ?_
    clear cT cR ht q
    refine al (λk:Nat=>⟨[(11,I k),(6,.c (.ptr 1 0)),(4,.c (.ptr 0 0)),(3,.c (.pure (bj act))),(1,.c (.pure (bj vars)))], [(1,zO e),(0,dK p)],2,0⟩) (λk=>k≤e.args.length∧ct (λi=>nP p vars act e i) k) (λk=>e.args.length-k) ⟨0, [],⟨by omega,.zero⟩,by simp<;>omega⟩ ?_
    repeat clear h
    rintro k ⟨hk,f⟩
    refine aa ?_
    by_cases g:k<e.args.length
    ·have m:=ih _ (zA6 g) (ei o (zA6 g)) (λb hb=>n b (mz (zA6 g) hb))
     by_cases hr:GH p vars act e.args[k]
     ·rw[zB1 hr]at m
      by_cases hc: ¬e.op=11∨0<k
      ·rw[zB1 (GR g hc hr)]
       clear f ih hr hN
       exact zW3
      ·have HA:=Lib.hid (f.succ (show nP p vars act e k from λ_ h=>hc h.1))
       clear f ih hr hN
       repeat' first|simp(disch:=omega)only[go_sem, *,ae g,Ex.row_eq,wrap_i64]|apply ab<;>intro h<;>try omega|refine ak m ?_
       all_goals exact⟨k+1, [],⟨by omega,HA.out⟩,by omega,by simp<;>omega⟩
     ·rw[zA9 hr]at m
      have HA:=Lib.hid (f.succ (show nP p vars act e k from λ_ h=>hr h.2))
      clear f ih hr hN
      repeat' first|simp(disch:=omega)only[go_sem, *,ae g,Ex.row_eq,wrap_i64]|apply ab<;>intro h<;>try omega|refine ak m ?_
      all_goals exact⟨k+1, [],⟨by omega,HA.out⟩,by omega,by simp<;>omega⟩
    ·rw[zA9 (hN λi hi=>f i zR5)]
     clear f ih hN
     exact zW0
  ·have hN:= λh=>Gj (p:=p) (vars:=vars) (act:=act) (e:=e) (λhh=>by obtain⟨_,_,_,h4,_⟩:=hh;exact ht h4) h
   obtain⟨h,q⟩:=hA
   repeat' first|simp(disch:=omega)only[go_sem, *,ae h0,Ex.row_eq,zB3]|apply ab<;>intro h<;>try omega|refine ak cT ?_|refine ak cR ?_
   clear cT cR ht q
   refine al (λk:Nat=>⟨[(11,I k),(6,.c (.ptr 1 0)),(4,.c (.ptr 0 0)),(3,.c (.pure (bj act))),(1,.c (.pure (bj vars)))], [(1,zO e),(0,dK p)],2,0⟩) (λk=>k≤e.args.length∧ct (λi=>nP p vars act e i) k) (λk=>e.args.length-k) ⟨0, [],⟨by omega,.zero⟩,by simp<;>omega⟩ ?_
   repeat clear h
   rintro k ⟨hk,f⟩
   refine aa ?_
   by_cases g:k<e.args.length
   ·have m:=ih _ (zA6 g) (ei o (zA6 g)) (λb hb=>n b (mz (zA6 g) hb))
    by_cases hr:GH p vars act e.args[k]
    ·rw[zB1 hr]at m
     by_cases hc: ¬e.op=11∨0<k
     ·rw[zB1 (GR g hc hr)]
      clear f ih hr hN
      exact zW3
     ·have HA:=Lib.hid (f.succ (show nP p vars act e k from λ_ h=>hc h.1))
      clear f ih hr hN
      repeat' first|simp(disch:=omega)only[go_sem, *,ae g,Ex.row_eq,wrap_i64]|apply ab<;>intro h<;>try omega|refine ak m ?_
      all_goals exact⟨k+1, [],⟨by omega,HA.out⟩,by omega,by simp<;>omega⟩
    ·rw[zA9 hr]at m
     have HA:=Lib.hid (f.succ (show nP p vars act e k from λ_ h=>hr h.2))
     clear f ih hr hN
     repeat' first|simp(disch:=omega)only[go_sem, *,ae g,Ex.row_eq,wrap_i64]|apply ab<;>intro h<;>try omega|refine ak m ?_
     all_goals exact⟨k+1, [],⟨by omega,HA.out⟩,by omega,by simp<;>omega⟩
   ·rw[zA9 (hN λi hi=>f i zR5)]
    clear f ih hN
    exact zW0
 ·have hN:= λh=>Gj (p:=p) (vars:=vars) (act:=act) (e:=e) (λhh=>hA ⟨hh.1,hh.2.1⟩) h
  by_cases h:e.op=12
  ·have q:e.ty.1=1:=zB9.1 λhn=>hA ⟨h,hn⟩
   clear hA
   repeat' first|simp(disch:=omega)only[go_sem, *]|apply ab<;>intro h<;>try omega
   refine al (λk:Nat=>⟨[(11,I k),(6,.c (.ptr 1 0)),(4,.c (.ptr 0 0)),(3,.c (.pure (bj act))),(1,.c (.pure (bj vars)))], [(1,zO e),(0,dK p)],2,0⟩) (λk=>k≤e.args.length∧ct (λi=>nP p vars act e i) k) (λk=>e.args.length-k) ⟨0, [],⟨by omega,.zero⟩,by simp<;>omega⟩ ?_
   repeat clear h
   clear q
   rintro k ⟨hk,f⟩
   refine aa ?_
   by_cases g:k<e.args.length
   ·have m:=ih _ (zA6 g) (ei o (zA6 g)) (λb hb=>n b (mz (zA6 g) hb))
    by_cases hr:GH p vars act e.args[k]
    ·rw[zB1 hr]at m
     by_cases hc: ¬e.op=11∨0<k
     ·rw[zB1 (GR g hc hr)]
      clear f ih hr hN
      exact zW3
     ·have HA:=Lib.hid (f.succ (show nP p vars act e k from λ_ h=>hc h.1))
      clear f ih hr hN
      repeat' first|simp(disch:=omega)only[go_sem, *,ae g,Ex.row_eq,wrap_i64]|apply ab<;>intro h<;>try omega|refine ak m ?_
      all_goals exact⟨k+1, [],⟨by omega,HA.out⟩,by omega,by simp<;>omega⟩
    ·rw[zA9 hr]at m
     have HA:=Lib.hid (f.succ (show nP p vars act e k from λ_ h=>hr h.2))
     clear f ih hr hN
     repeat' first|simp(disch:=omega)only[go_sem, *,ae g,Ex.row_eq,wrap_i64]|apply ab<;>intro h<;>try omega|refine ak m ?_
     all_goals exact⟨k+1, [],⟨by omega,HA.out⟩,by omega,by simp<;>omega⟩
   ·rw[zA9 (hN λi hi=>f i zR5)]
    clear f ih hN
    exact zW0
  ·clear hA
   repeat' first|simp(disch:=omega)only[go_sem, *]|apply ab<;>intro h<;>try omega
   refine al (λk:Nat=>⟨[(11,I k),(6,.c (.ptr 1 0)),(4,.c (.ptr 0 0)),(3,.c (.pure (bj act))),(1,.c (.pure (bj vars)))], [(1,zO e),(0,dK p)],2,0⟩) (λk=>k≤e.args.length∧ct (λi=>nP p vars act e i) k) (λk=>e.args.length-k) ⟨0, [],⟨by omega,.zero⟩,by simp<;>omega⟩ ?_
   repeat clear h
   rintro k ⟨hk,f⟩
   refine aa ?_
   by_cases g:k<e.args.length
   ·have m:=ih _ (zA6 g) (ei o (zA6 g)) (λb hb=>n b (mz (zA6 g) hb))
    by_cases hr:GH p vars act e.args[k]
    ·rw[zB1 hr]at m
     by_cases hc: ¬e.op=11∨0<k
     ·rw[zB1 (GR g hc hr)]
      clear f ih hr hN
      exact zW3
     ·have HA:=Lib.hid (f.succ (show nP p vars act e k from λ_ h=>hc h.1))
      clear f ih hr hN
      repeat' first|simp(disch:=omega)only[go_sem, *,ae g,Ex.row_eq,wrap_i64]|apply ab<;>intro h<;>try omega|refine ak m ?_
      all_goals exact⟨k+1, [],⟨by omega,HA.out⟩,by omega,by simp<;>omega⟩
    ·rw[zA9 hr]at m
     have HA:=Lib.hid (f.succ (show nP p vars act e k from λ_ h=>hr h.2))
     clear f ih hr hN
     repeat' first|simp(disch:=omega)only[go_sem, *,ae g,Ex.row_eq,wrap_i64]|apply ab<;>intro h<;>try omega|refine ak m ?_
     all_goals exact⟨k+1, [],⟨by omega,HA.out⟩,by omega,by simp<;>omega⟩
   ·rw[zA9 (hN λi hi=>f i zR5)]
    clear f ih hN
    exact zW0
set_option maxRecDepth 20000
set_option maxRecDepth 1000000
theorem th (hf:iD p) (n:m9 p):ac Pa0 gJ [fL p] (.tup [I (FP p).1,I (FP p).2]):=by
 refine ac.of uZ zR6 λhb=>aa ?_
 have cV:=m4 hf n
 conv in lz=>cbv
 by_cases hv:(bA p).2=0
 ·have hc:=Pk hv
  have cA:=Hu hc
  have w:=vw hv
  have v:=hc.2.2.1
  have HV:=Lib.hid hv
  rw[hv]at cV
  clear hv hc
  repeat' first|simp(disch:=omega)only[go_sem, *]|apply ab<;>intro h<;>try omega|refine ak cV ?_|refine dH cA ?_
  refine al (λk:Nat=>⟨[(23,I k),(22,I p.defs.length),(21,.c (.pure (dp bU p.defs))),(6,.c (.pure (bj (H9 p)))),(1,.c (.ptr 0 0))], [(0,dK p)],1,0⟩) (λk=>k≤p.defs.length∧ct (λj=>lsI p j=0) k) (λk=>p.defs.length-k) ⟨0, [],⟨by omega,.zero⟩,by simp⟩ ?_
  clear cV cA
  rintro k ⟨hk,f⟩
  refine aa ?_
  by_cases g:k<p.defs.length
  ·have hd:=hf.2 _ (zA6 g)
   have cI:=kL (d:=p.defs[k]) zR5 zR5
   have cL:=Lx hf (aR p.defs[k]) (H9 p) p.defs[k].body (tL (w k g)) (n _ (zA6 g))
   have hs:=YR g
   clear hd
   by_cases hz:GH p (aR p.defs[k]) (H9 p) p.defs[k].body
   ·rw[if_pos hz]at hs
    rw[zB1 hz]at cL
    rw[UX HV.out g f hs]
    clear f hs hz
    exact yA1
   ·rw[if_neg hz]at hs
    rw[zA9 hz]at cL
    have HA:=Lib.hid (f.succ hs)
    clear f hs hz
    repeat' first|simp(disch:=omega)only[go_sem, *,ae g,bU,wrap_i64]|apply ab<;>intro h<;>try omega|refine dH cI ?_|refine ak cL ?_
    exact⟨k+1, [],⟨by omega,HA.out⟩,by omega,by simp⟩
  ·rw[Wa HV.out λj hj=>f j zR5]
   clear f
   exact zW0
 ·rw[EZ hv]
  exact yD5
theorem rH (hf:iD p) (n:m9 p):ac Pa0 gj [fL p] (.tup [I (FP p).1,I (FP p).2]):=by
 refine ac.of tZ zR6 λhb=>aa ?_
 have cV:=pV hf n
 conv in kU=>cbv
 by_cases hv:(bA p).2=0
 ·have hc:=Pk hv
  have cA:=Gg hc (λk hk=>tL (vw hv k hk))
  have w:=vw hv
  have v:=hc.2.2.1
  have HV:=Lib.hid hv
  rw[hv]at cV
  clear hv hc
  repeat' first|simp(disch:=omega)only[go_sem, *]|apply ab<;>intro h<;>try omega|refine ak cV ?_|refine dH cA ?_
  refine al (λk:Nat=>⟨[(7,I k),(6,.c (.pure (bj (H9 p)))),(1,.c (.ptr 0 0))], [(0,dK p)],1,0⟩) (λk=>k≤p.defs.length∧ct (λj=>lsI p j=0) k) (λk=>p.defs.length-k) ⟨0, [],⟨by omega,.zero⟩,by simp⟩ ?_
  clear cV cA
  rintro k ⟨hk,f⟩
  refine aa ?_
  by_cases g:k<p.defs.length
  ·have hd:=hf.2 _ (zA6 g)
   have cI:=ie (d:=p.defs[k]) zR5 zR5
   have cL:=Iv hf (aR p.defs[k]) (H9 p) p.defs[k].body (tL (w k g)) (n _ (zA6 g))
   have hs:=YR g
   clear hd
   by_cases hz:GH p (aR p.defs[k]) (H9 p) p.defs[k].body
   ·rw[if_pos hz]at hs
    rw[zB1 hz]at cL
    rw[UX HV.out g f hs]
    clear f hs hz
    exact yA1
   ·rw[if_neg hz]at hs
    rw[zA9 hz]at cL
    have HA:=Lib.hid (f.succ hs)
    clear f hs hz
    repeat' first|simp(disch:=omega)only[go_sem, *,ae g,bU,wrap_i64]|apply ab<;>intro h<;>try omega|refine dH cI ?_|refine ak cL ?_
    exact⟨k+1, [],⟨by omega,HA.out⟩,by omega,by simp⟩
  ·rw[Wa HV.out λj hj=>f j zR5]
   clear f
   exact zW0
 ·rw[EZ hv]
  exact yD5
end
end Go.Proofs.YtigdjhnndaokjaaGreatDoor
