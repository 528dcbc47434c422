import Derived.Test.YtiapgekjmcjjgaaGreatDoorV07u
set_option maxHeartbeats 4000000
set_option linter.unusedVariables false
set_option linter.unusedSimpArgs false
set_option maxRecDepth 1000000
open Go.Proofs.Tryz renaming prog→Ya
namespace Go.Proofs.YtiapgekjmcjjgaaGreatDoor
open Go.Abs Go.RowKit
def vG (a:List ByteArray):Prop:=a.Pairwise λx y=>bC x y=true
def k9 (a:List ByteArray) (s:ByteArray):List ByteArray:=if s∈a then a else a.filter (λx=>bC x s)++s::a.filter (λx=> !bC x s)
def Ew (l:List ByteArray):List ByteArray:=l.foldl k9 []
theorem NI {a:List ByteArray} {s n:ByteArray}:n∈k9 a s↔n∈a∨n=s:=by
 rw[k9]
 split
 ·rename_i h
  constructor
  ·exact .inl
  ·rintro(h1|rfl)
   ·exact h1
   ·exact h
 ·simp only[List.mem_append,List.mem_cons,List.mem_filter]
  constructor
  ·rintro(h|rfl|h)
   ·exact .inl h.1
   ·exact .inr rfl
   ·exact .inl h.1
  ·rintro(h|rfl)
   ·cases hx:bC n s with
    |true=>exact .inl ⟨h,rfl⟩
    |false=>exact .inr (.inr ⟨h,rfl⟩)
   ·exact .inr (.inl rfl)
theorem Hq {a:List ByteArray} {s:ByteArray} (h:vG a):vG (k9 a s):=by
 rw[k9]
 split
 ·exact h
 ·rename_i hs
  unfold vG at h ⊢
  rw[List.pairwise_append,List.pairwise_cons]
  have G: ∀x∈a,(!bC x s)=true→bC s x=true:= λx hx hn=>by
   rcases nU x s with h1|h1|h1
   ·rw[h1]at hn;cases hn
   ·exact absurd (h1▸hx) hs
   ·exact h1
  refine⟨h.filter _,⟨λx hx=> ?_,h.filter _⟩,λx hx y hy=> ?_⟩
  ·obtain⟨h1,h2⟩:=List.mem_filter.1 hx
   exact G x h1 h2
  ·obtain⟨h1,h2⟩:=List.mem_filter.1 hx
   rcases List.mem_cons.1 hy with rfl|hy
   ·exact h2
   ·obtain⟨h3,h4⟩:=List.mem_filter.1 hy
    exact eB h2 (G y h3 h4)
theorem PM {a:List ByteArray} {s:ByteArray}:(k9 a s).length≤a.length+1:=by
 rw[k9]
 split
 ·omega
 ·rw[List.length_append,List.length_cons]
  have h: ∀l:List ByteArray,(l.filter λx=>bC x s).length+(l.filter λx=> !bC x s).length=l.length:= λl=>by
   induction l with
   |nil=>rfl
   |cons x l ih=>
    rw[List.filter_cons,List.filter_cons,List.length_cons]
    cases bC x s
    ·simp only[Bool.false_eq_true,if_false,Bool.not_false,if_true,List.length_cons];omega
    ·simp only[if_true,Bool.not_true,Bool.false_eq_true,if_false,List.length_cons];omega
  have:=h a
  omega
theorem Rm {a:List ByteArray} {s:ByteArray} {p:Nat} (h:vG a) (hs: ¬s∈a) (h1: ∀x∈a.drop p,bC s x=true) (h2: ∀x∈a.take p,bC x s=true):k9 a s=a.take p++s::a.drop p:=by
 have e1:a.filter (λx=>bC x s)=a.take p:=by
  conv=>lhs;rw[←List.take_append_drop p a]
  rw[List.filter_append,List.filter_eq_self.2 h2,List.filter_eq_nil_iff.2 (λx hx h=>by
   have:=jV (h1 x hx)
   rw[h]at this
   simp at this),List.append_nil]
 have e2:a.filter (λx=> !bC x s)=a.drop p:=by
  conv=>lhs;rw[←List.take_append_drop p a]
  rw[List.filter_append,List.filter_eq_nil_iff.2 (λx hx h=>by rw[h2 x hx]at h;cases h),List.nil_append,List.filter_eq_self.2 (λx hx=>by
   have:=jV (h1 x hx)
   simpa using this)]
 rw[k9,if_neg hs,e1,e2]
theorem MW {a:List ByteArray} {s:ByteArray} {p:Nat} (h:vG a) (hp:p<a.length) (h2:bC a[p] s=true): ∀x∈a.take (p+1),bC x s=true:=by
 intro x hx
 obtain⟨i,hi,rfl⟩:=List.mem_iff_getElem.1 hx
 rw[List.length_take]at hi
 rw[List.getElem_take]
 by_cases e:i=p
 ·subst e;exact h2
 ·exact eB (List.pairwise_iff_getElem.1 h i p (by omega) hp (by omega)) h2
abbrev gh (l:List ByteArray):List (List PC):=l.map λs=> [pS s]
theorem O1 {a:List ByteArray} {s:ByteArray} {p:Nat} (hp:p<a.length):((gh (a.take (p+1)++s::a.drop (p+1))).set (p+1) [pS a[p]]).set p [pS s]=gh (a.take p++s::a.drop p):=by
 apply List.ext_getElem?
 intro i
 rw[List.getElem?_set,List.getElem?_set]
 have u:(a.take (p+1)).length=p+1:=by rw[List.length_take];omega
 have g:(a.take p).length=p:=by rw[List.length_take];omega
 simp only[gh,List.length_set,List.length_map,List.length_append,List.length_cons,u,List.length_drop]
 by_cases e1:p=i
 ·subst e1
  rw[if_pos rfl,if_pos (by omega),List.getElem?_map,List.getElem?_append_right (by omega),g]
  simp
 ·rw[if_neg e1]
  by_cases e2:p+1=i
  ·subst e2
   rw[if_pos rfl,if_pos (by omega),List.getElem?_map,List.getElem?_append_right (by omega),g,show p+1-p=1 by omega,List.getElem?_cons_succ,List.getElem?_drop]
   simp[hp]
  ·rw[if_neg e2,List.getElem?_map,List.getElem?_map]
   congr 1
   by_cases e3:i<p
   ·rw[List.getElem?_append_left (by omega),List.getElem?_append_left (by omega),List.getElem?_take_of_lt (by omega),List.getElem?_take_of_lt (by omega)]
   ·rw[List.getElem?_append_right (by omega),List.getElem?_append_right (by omega),u,g]
    obtain⟨k,rfl⟩: ∃k,i=p+2+k:=⟨i-(p+2),by omega⟩
    rw[show p+2+k-(p+1)=k+1 by omega,show p+2+k-p=(k+1)+1 by omega,List.getElem?_cons_succ,List.getElem?_cons_succ,List.getElem?_drop,List.getElem?_drop]
    congr 1
    omega
theorem vY {a:List ByteArray} {s:ByteArray} (h:s∈a):aw Ya 218 [.c (.ref 0),S s] [(0,.arr 9 1 (gh a))] 1 (.c (.ref 0)) [(0,.arr 9 1 (gh a))] 1:=by
 refine aw.of oU (by simp) λ_=>aa ?_
 have ph:=gM a s
 rw[decide_eq_true h]at ph
 clear h
 conv in bh _ _=>cbv
 repeat' first|simp(disch:=omega)only[go_sem, *]|apply ab<;>intro h<;>try omega|refine aq ph rfl rfl ?_
 all_goals rfl
theorem wP {a:List ByteArray} {s:ByteArray} (h: ¬s∈a) (hs:vG a) (hl:a.length≤1000000000):aw Ya 218 [.c (.ref 0),S s] [(0,.arr 9 1 (gh a))] 1 (.c (.ref 1)) [(1,.arr 9 1 (gh (k9 a s)))] 2:=by
 refine aw.of oU (by simp) λ_=>aa ?_
 have ph:=gM a s
 rw[decide_eq_false h]at ph
 conv in bh _ _=>cbv
 obtain⟨R,hR⟩: ∃R,R=gh (k9 a s):=⟨_,rfl⟩
 rw[←hR]
 have HR:Hid (∀p,(∀x∈a.drop p,bC s x=true)→(∀x∈a.take p,bC x s=true)→R=gh (a.take p++s::a.drop p)):=Lib.hid (λp h1 h2=>by rw[hR,Rm hs h h1 h2])
 have HN:=Lib.hid h
 have HS:=Lib.hid hs
 clear hR h hs
 have e0:((gh a++ [[PC.val (Value.string s)]]).length:Int)=(a.length:Int)+1:=by simp
 have w0:IntKind.wrap .i64 ((a.length:Int)+1-1)=(a.length:Int):=by rw[wrap_i64 (by omega)];omega
 repeat' first|simp(disch:=omega)only[go_sem, *,e0,w0]|apply ab<;>intro h<;>try omega|refine aq ph rfl rfl ?_|refine aA rfl (by intro h;cases h) (an rfl) (by simp;omega) (by simp;omega) ?_
 clear ph
 have est:gh a++ [[PC.val (Value.string s)]]=gh (a.take a.length++s::a.drop a.length):=by simp[gh]
 rw[est]
 refine ai (λp:Nat=>⟨[(0,.c (.ref 1)),(5,I p)], [(1,.arr 9 1 (gh (a.take p++s::a.drop p)))],2,1⟩) (λp=>p≤a.length∧Hid (∀x∈a.drop p,bC s x=true)) (λp=>p) ⟨a.length, [],⟨Nat.le_refl _,Lib.hid (by simp)⟩,by simp⟩ ?_
 clear est e0 w0
 rintro p ⟨hp,HD⟩
 refine aa ?_
 cases p with
 |zero=>
  have hR:=HR.out 0 HD.out (by simp)
  subst hR
  clear HR HN HS HD
  repeat' first|simp(disch:=omega)only[go_sem, *,Int.natCast_zero]|apply ab<;>intro h<;>try omega
  all_goals rfl
 |succ q=>
  have hq:q<a.length:=hp
  have o:(a.take (q+1)).length=q+1:=by rw[List.length_take];omega
  have g1:(gh (a.take (q+1)++s::a.drop (q+1)))[q]? =some [pS a[q]]:=by
   rw[gh,List.getElem?_map,List.getElem?_append_left (by omega),List.getElem?_take_of_lt (by omega)]
   simp[hq]
  have g2:(gh (a.take (q+1)++s::a.drop (q+1)))[q+1]? =some [pS s]:=by
   rw[gh,List.getElem?_map,List.getElem?_append_right (by omega),o]
   simp
  have e1:=O1 (s:=s) hq
  have wq:IntKind.wrap .i64 ((q:Int)+1-1)=q:=by rw[wrap_i64 (by omega)];omega
  have cq:((q+1:Nat):Int)=(q:Int)+1:=by omega
  have tq:((q:Int)+1).toNat=q+1:=by omega
  by_cases hl:bC s a[q]=true
  ·have HD':Hid (∀x∈a.drop q,bC s x=true):=Lib.hid (by
    rw[List.drop_eq_getElem_cons hq]
    intro x hx
    rcases List.mem_cons.1 hx with rfl|hx
    ·exact hl
    ·exact HD.out x hx)
   have D:Op.bytesLess a[q].toList s.toList=false:=by simpa[bC]using jV hl
   have M: ¬a[q]=s:= λe=>by rw[e]at hl;exact eh _ hl
   clear HR HN HS HD hl
   generalize H:gh (a.take (q+1)++s::a.drop (q+1))=RW at*
   have N:q+1<RW.length:=by
    rw[←H]
    simp only[gh,List.length_map,List.length_append,List.length_cons,o,List.length_drop]
    omega
   clear H
   generalize J:gh (a.take q++s::a.drop q)=RW2 at*
   generalize a[q]=x at*
   have g3:(RW.set (q+1) [pS x])[q]? =some [pS x]:=by rw[List.getElem?_set,if_neg (by omega)];exact g1
   repeat' first|simp(disch:=omega)only[go_sem, *,g1,g2,g3,D,M,wq,cq,tq,wrap_i64,Int.toNat_natCast,List.length_set,decide_false,Bool.or_false,Bool.not_false]|apply ab<;>intro h<;>try omega|apply af|(with_reducible refine ag (λh=> ?_) ?_)
   exact⟨q, [],⟨by omega,HD'⟩,by omega,by simp[e1,J]⟩
  ·have g:bC a[q] s=true:=by
    rcases nU s a[q]with h|h|h
    ·exact absurd h hl
    ·exact absurd (by rw[h];exact List.getElem_mem _) HN.out
    ·exact h
   have hR:=HR.out (q+1) HD.out (MW HS.out hq g)
   rw[←hR]
   rw[←hR]at g1 g2
   have D:Op.bytesLess a[q].toList s.toList=true:=g
   have N:q+1<R.length:=by
    rw[hR]
    simp only[gh,List.length_map,List.length_append,List.length_cons,o,List.length_drop]
    omega
   clear HR HN HS HD hl g e1 hR
   generalize a[q]=x at*
   repeat' first|simp(disch:=omega)only[go_sem, *,g1,g2,D,wq,cq,tq,wrap_i64,Int.toNat_natCast,Bool.true_or,Bool.not_true]|apply ab<;>intro h<;>try omega|apply af|(with_reducible refine ag (λh=> ?_) ?_)
   all_goals rfl
theorem DY {l:List bW} {k:Nat} (h:k<l.length):bJ (l.drop k)=l[k].2.map (·.1)++bJ (l.drop (k+1)):=by
 rw[List.drop_eq_getElem_cons h,bJ,List.flatMap_cons];rfl
theorem yQ {l:List bW} (hs:(bJ l).length≤1000000000):ac Ya 191 [i6 lP l] (lO (Ew (bJ l))):=by
 refine ac.of zW (by simp) λhb=>aa ?_
 have O:l.length≤9223372036854775807:=by have:=hb.1;simpa[gw,gT]using this
 clear hb
 conv in bh _ _=>cbv
 obtain⟨R,hR⟩: ∃R,R=(bJ (l.drop 0)).foldl k9 []:=⟨_,rfl⟩
 have v:Ew (bJ l)=R:=hR.symm
 rw[v]
 have HR:=Lib.hid hR
 clear hR v
 repeat' first|simp(disch:=omega)only[go_sem, *]|apply ab<;>intro h<;>try omega
 refine dv 3 9 1 rfl (by decide) ?_
 refine ai (λs:Nat×List ByteArray=>⟨[(0,i6 lP l),(3,.c (.ref 0)),(4,I s.1)], [(0,.arr 9 1 (gh s.2))],1,0⟩)
  (λs=>s.1≤l.length∧s.2.length+(bJ (l.drop s.1)).length≤1000000000∧Hid (vG s.2)∧Hid (R=(bJ (l.drop s.1)).foldl k9 s.2)) (λs=>l.length-s.1) ⟨(0, []), [],⟨Nat.zero_le _,by simpa using hs,Lib.hid List.Pairwise.nil,HR⟩,by simp⟩ ?_
 clear HR hs
 rintro⟨k,acc⟩ ⟨hk,ha,HS,HR⟩
 simp only at hk ha HS HR
 refine aa ?_
 by_cases d:k<l.length
 ·have g1:=ah (f:=lP) d
  have h2:=HR.out
  rw[DY d,List.foldl_append]at h2
  rw[DY d,List.length_append,List.length_map]at ha
  clear HR
  generalize l[k]=c at*
  obtain⟨ck,cl⟩:=c
  simp only[lP]at g1
  simp only at h2 ha
  have HR:Hid (R=(bJ (l.drop (k+1))).foldl k9 (((cl.drop 0).map (·.1)).foldl k9 acc)):=Lib.hid h2
  clear h2
  generalize hT:(bJ (l.drop (k+1))).length=TL at*
  have V:cl.length≤1000000000:=by omega
  repeat' first|simp(disch:=omega)only[go_sem, *,g1]|apply ab<;>intro h<;>try omega
  refine ai (λs:Nat×List ByteArray=>⟨[(0,i6 lP l),(3,.c (.ref 0)),(4,I k),(5,I s.1)], [(0,.arr 9 1 (gh s.2))],1,0⟩)
   (λs=>s.1≤cl.length∧s.2.length+(cl.length-s.1)+TL≤1000000000∧Hid (vG s.2)∧Hid (R=(bJ (l.drop (k+1))).foldl k9 (((cl.drop s.1).map (·.1)).foldl k9 s.2))) (λs=>cl.length-s.1) ⟨(0,acc), [],⟨Nat.zero_le _,by simp only;omega,HS,HR⟩,by simp⟩ ?_
  clear HR ha HS
  rintro⟨j,acc⟩ ⟨hj,ha,HS,HR⟩
  simp only at hj ha HS HR
  refine aa ?_
  by_cases w:j<cl.length
  ·have g2:=ah (f:=mP) w
   have h2:=HR.out
   rw[List.drop_eq_getElem_cons w,List.map_cons,List.foldl_cons]at h2
   have HS2:Hid (vG (k9 acc cl[j].1)):=Lib.hid (Hq HS.out)
   have P:=PM (a:=acc) (s:=cl[j].1)
   clear HR
   by_cases hn:cl[j].1∈acc
   ·have ph:=vY hn
    have e:k9 acc cl[j].1=acc:=by rw[k9,if_pos hn]
    rw[e]at h2 HS2
    have HR:=Lib.hid h2
    clear h2 hn HS e P
    generalize cl[j]=m at*
    obtain⟨n,x⟩:=m
    simp only[mP]at g2
    simp only at ph
    repeat' first|simp(disch:=omega)only[go_sem, *,g1,g2,wrap_i64]|apply ab<;>intro h<;>try omega|refine ap ph ?_
    exact⟨(j+1,acc), [],⟨w,by simp only;omega,HS2,HR⟩,by show _-_<_-_;omega,by simp⟩
   ·have ph:=wP hn HS.out (by omega)
    have HR:=Lib.hid h2
    clear h2 hn HS
    generalize k9 acc cl[j].1=acc2 at*
    generalize cl[j]=m at*
    obtain⟨n,x⟩:=m
    simp only[mP]at g2
    simp only at ph
    repeat' first|simp(disch:=omega)only[go_sem, *,g1,g2,wrap_i64]|apply ab<;>intro h<;>try omega|refine ap ph ?_
    exact⟨(j+1,acc2), [(0,1)],⟨w,by simp only;omega,HS2,HR⟩,by show _-_<_-_;omega,by simp⟩
  ·have h2:=HR.out
   rw[List.drop_eq_nil_of_le (by omega)]at h2
   have HR:Hid (R=(bJ (l.drop (k+1))).foldl k9 acc):=Lib.hid h2
   clear h2
   repeat' first|simp(disch:=omega)only[go_sem, *,g1,wrap_i64]|apply ab<;>intro h<;>try omega
   exact⟨(k+1,acc), [],⟨d,by simp only[hT];omega,HS,HR⟩,by show _-_<_-_;omega,by simp⟩
 ·have h2:=HR.out
  rw[List.drop_eq_nil_of_le (by omega)]at h2
  simp only[bJ,List.flatMap_nil,List.foldl_nil]at h2
  subst h2
  clear HR HS
  repeat' first|simp(disch:=omega)only[go_sem, *]|apply ab<;>intro h<;>try omega
  all_goals rfl
set_option maxRecDepth 20000
set_option maxRecDepth 1000000
theorem oZ (k:Int):ac Ya 146 [I k] (da k []):=by
 refine ac.of Bw (by simp) λ_=>aa ?_
 conv in bh _ _=>cbv
 repeat' first|simp(disch:=omega)only[go_sem, *]|apply ab<;>intro h<;>try omega
 all_goals rfl
theorem oS (k:Int) (l:List aR) (n:ByteArray):ac Ya 192 [da k l,S n] (I (cf l n)):=by
 refine ac.of A9 (by simp) λhb=>aa ?_
 have O:l.length≤9223372036854775807:=by have:=hb.1;simpa[gw,gT,nc]using this
 clear hb
 conv in bh _ _=>cbv
 obtain⟨R,hR⟩: ∃R,R=cf (l.drop 0) n:=⟨_,rfl⟩
 have v:cf l n=R:=hR.symm
 rw[v]
 have HR:=Lib.hid hR
 clear hR v
 repeat' first|simp(disch:=omega)only[go_sem, *]|apply ab<;>intro h<;>try omega
 refine ai (λj:Nat=>⟨[(1,S n),(2,.c (.ptr 0 0)),(5,I j)], [(0,.var [.pure (pI k),.pure (ay l)])],1,0⟩) (λj=>j≤l.length∧Hid (R=cf (l.drop j) n)) (λj=>l.length-j) ⟨0, [],⟨Nat.zero_le _,HR⟩,by simp⟩ ?_
 clear HR
 rintro j ⟨hj,HR⟩
 refine aa ?_
 by_cases d:j<l.length
 ·have g1:=ah (f:=mP) d
  have h2:=HR.out
  rw[List.drop_eq_getElem_cons d,cf]at h2
  clear HR
  generalize l[j]=m at*
  obtain⟨m,x⟩:=m
  simp only[mP]at g1
  simp only at h2
  by_cases hn:m=n
  ·rw[if_pos hn]at h2
   subst h2
   subst hn
   repeat' first|simp(disch:=omega)only[go_sem, *,g1,wrap_i64]|apply ab<;>intro h<;>try omega
   all_goals rfl
  ·rw[if_neg hn]at h2
   have HR:=Lib.hid h2
   clear h2
   repeat' first|simp(disch:=omega)only[go_sem, *,g1,hn,wrap_i64]|apply ab<;>intro h<;>try omega
   exact⟨j+1, [],⟨d,HR⟩,by omega,by simp⟩
 ·have h2:=HR.out
  rw[List.drop_eq_nil_of_le (by omega),cf]at h2
  subst h2
  clear HR
  repeat' first|simp(disch:=omega)only[go_sem, *]|apply ab<;>intro h<;>try omega
  all_goals rfl
theorem Az {a:bW} {b:Int} (h0:b≠0) (h: ¬bY a b):iT a b=((0, []),3):=by rw[iT,if_neg (by rintro(h'|h');exact h0 h';exact h h')]
theorem JA {a:bW} {b:Int} (h0:b≠0) (h:bY a b):iT a b=((a.1*b,a.2.map λm=>(m.1,m.2*b)),0):=by rw[iT,if_pos (.inr h),bq,if_neg h0]
def Fx (b:Int) (l:List aR):List (List PC):=(l.map λm=>(m.1,m.2*b)).map mP
theorem ki {a:bW} {b:Int} (ha:bl a) (hb:am b) (hs:short a.2):ac Ya 144 [da a.1 a.2,I b] (GE (bM a b)):=by
 refine ac.of A1 (by simp) λ_=>aa ?_
 conv in bh _ _=>cbv
 have pv:=ik a.1 a.2
 unfold bM
 by_cases r:aI a.2
 ·rw[if_pos r]at pv
  rw[if_neg (not_not_intro r)]
  by_cases h0:b=0
  ·have e:iT a b=((0, []),0):=by rw[iT,if_pos (.inl h0),bq,if_pos h0]
   rw[e]
   clear r ha
   obtain⟨k,l⟩:=a
   simp only at pv
   repeat' first|simp(disch:=omega)only[go_sem, *,h0]|apply ab<;>intro h<;>try omega|refine aq pv rfl rfl ?_
   all_goals rfl
  ·have pt:=je ha.1 hb
   by_cases hk:am (a.1*b)
   ·have ek:dg (a.1*b)=(a.1*b,true):=by rw[dg,if_pos hk]
    rw[ek]at pt
    obtain⟨R,hR⟩: ∃R,R=iT a b:=⟨_,rfl⟩
    rw[←hR]
    have HR:=Lib.hid hR
    have HK:=Lib.hid hk
    clear hR r hk ek
    obtain⟨_,hl⟩:=ha
    obtain⟨k,l⟩:=a
    unfold short at hs
    simp only at pv pt hl hs
    generalize L:k*b=kb at*
    have HKB:=Lib.hid L
    clear L
    repeat' first|simp(disch:=omega)only[go_sem, *,h0]|apply ab<;>intro h<;>try omega|refine aq pv rfl rfl ?_|refine aq pt rfl rfl ?_
    refine ci 2 1 85 2 _ rfl rfl (by decide) ?_
    refine ai (λj:Nat=>⟨[(1,I b),(2,.c (.ptr 0 0)),(4,.c (.ptr 1 0)),(8,.c (.ptr 2 0)),(9,I j)],
     [(0,.var [.pure (pI k),.pure (ay l)]),(1,.var [.pure (pI 0),.nils]),(2,.var [.pure (pI kb),.ref 3]),(3,.arr 85 2 (Fx b (l.take j)))],4,0⟩) (λj=>j≤l.length∧Hid (∀m∈l.take j,am (m.2*b))) (λj=>l.length-j) ⟨0, [],⟨Nat.zero_le _,Lib.hid (by simp)⟩,by simp[Fx]⟩ ?_
    clear pv pt
    rintro j ⟨hj,HT⟩
    refine aa ?_
    by_cases d:j<l.length
    ·have g1:=ah (f:=mP) d
     have hx:=hl _ (List.getElem_mem d)
     have pt:=je hx hb
     have o:(Fx b (l.take j)).length≤1000000000:=by simp[Fx];omega
     have e1:Fx b (l.take (j+1))=Fx b (l.take j)++ [[pS l[j].1,pI (l[j].2*b)]]:=by
      rw[Fx,Fx,List.take_succ_eq_append_getElem d,List.map_append,List.map_append];rfl
     by_cases hm:am (l[j].2*b)
     ·have ek:dg (l[j].2*b)=(l[j].2*b,true):=by rw[dg,if_pos hm]
      rw[ek]at pt
      have HT':Hid (∀m∈l.take (j+1),am (m.2*b)):=Lib.hid (by
       rw[List.take_succ_eq_append_getElem d]
       intro m Q
       rcases List.mem_append.1 Q with h|h
       ·exact HT.out m h
       ·rw[List.mem_singleton.1 h];exact hm)
      clear HT hm ek hx
      generalize l[j]=m at*
      obtain⟨n,x⟩:=m
      simp only[mP]at g1
      simp only at pt e1
      generalize x*b=xb at*
      generalize Fx b (l.take j)=D0 at*
      repeat' first|simp(disch:=omega)only[go_sem, *,g1,wrap_i64]|apply ab<;>intro h<;>try omega|refine aq pt rfl rfl ?_|refine aA rfl (by intro h;cases h) (an rfl) (by simp;omega) (by simp;omega) ?_
      exact⟨j+1, [(3,4)],⟨d,HT'⟩,by omega,by simp[e1]⟩
     ·have ek:dg (l[j].2*b)=(0,false):=by rw[dg,if_neg hm]
      rw[ek]at pt
      have h2:R=((0, []),3):=by rw[HR.out];exact Az h0 λh=>hm (h.2 _ (List.getElem_mem d))
      subst h2
      clear HR HT hm ek hx e1
      generalize l[j]=m at*
      obtain⟨n,x⟩:=m
      simp only[mP]at g1
      simp only at pt
      repeat' first|simp(disch:=omega)only[go_sem, *,g1,wrap_i64]|apply ab<;>intro h<;>try omega|refine aq pt rfl rfl ?_
      all_goals rfl
    ·obtain rfl:j=l.length:=by omega
     have hT:=HT.out
     rw[List.take_of_length_le (Nat.le_refl _)]at hT
     have h2:R=((kb,l.map λm=>(m.1,m.2*b)),0):=by
      rw[HR.out,←HKB.out]
      exact JA h0 ⟨by rw[HKB.out];exact HK.out,hT⟩
     subst h2
     clear HR HT hT HK HKB
     rw[List.take_of_length_le (Nat.le_refl _)]
     repeat' first|simp(disch:=omega)only[go_sem, *]|apply ab<;>intro h<;>try omega
     all_goals rfl
   ·have ek:dg (a.1*b)=(0,false):=by rw[dg,if_neg hk]
    rw[ek]at pt
    rw[Az h0 λh=>hk h.1]
    clear r hk ek ha
    obtain⟨k,l⟩:=a
    simp only at pv pt
    repeat' first|simp(disch:=omega)only[go_sem, *,h0]|apply ab<;>intro h<;>try omega|refine aq pv rfl rfl ?_|refine aq pt rfl rfl ?_
    all_goals rfl
 ·rw[if_neg r]at pv
  rw[if_pos r]
  clear r
  obtain⟨k,l⟩:=a
  simp only at pv
  repeat' first|simp(disch:=omega)only[go_sem, *]|apply ab<;>intro h<;>try omega|refine aq pv rfl rfl ?_
  all_goals rfl
theorem Hy: ∀{a b:List ByteArray},vG a→vG b→(∀n,n∈a↔n∈b)→a=b
 | [], [],_,_,_=>rfl
 | [],y::b,_,_,h=>absurd ((h y).2 List.mem_cons_self) (by simp)
 |x::a, [],_,_,h=>absurd ((h x).1 List.mem_cons_self) (by simp)
 |x::a,y::b,ha,hb,h=>by
  obtain⟨a1,a2⟩:=List.pairwise_cons.1 ha
  obtain⟨b1,b2⟩:=List.pairwise_cons.1 hb
  have e:x=y:=by
   rcases List.mem_cons.1 ((h x).1 List.mem_cons_self)with e|e
   ·exact e
   ·rcases List.mem_cons.1 ((h y).2 List.mem_cons_self)with e'|e'
    ·exact e'.symm
    ·exact absurd (b1 x e) (jV (a1 y e'))
  subst e
  rw[Hy a2 b2 λn=> ?_]
  constructor
  ·intro hn
   rcases List.mem_cons.1 ((h n).1 (List.mem_cons_of_mem _ hn))with e|e
   ·subst e
    exact absurd (a1 n hn) (eh n)
   ·exact e
  ·intro hn
   rcases List.mem_cons.1 ((h n).2 (List.mem_cons_of_mem _ hn))with e|e
   ·subst e
    exact absurd (b1 n hn) (eh n)
   ·exact e
theorem CW: ∀{s a:List ByteArray} {n:ByteArray},n∈s.foldl k9 a↔n∈a∨n∈s
 | [],a,n=>by simp
 |b::s,a,n=>by
  rw[List.foldl_cons,CW,NI]
  simp only[List.mem_cons,or_assoc]
theorem D1: ∀{s a:List ByteArray},vG a→vG (s.foldl k9 a)
 | [],a,h=>h
 |b::s,a,h=>by
  rw[List.foldl_cons]
  exact D1 (Hq h)
theorem GL {k1 k2:Int} {l1 l2:List aR} (h1:nL l1) (h2:nL l2):Ew (bJ [(k1,l1),(k2,l2)])=(bQ l1 l2).map (·.1):=by
 obtain⟨m1,m2,m3⟩:=eA l1 l2 h1 h2
 refine Hy (D1 List.Pairwise.nil) (by unfold vG;rw[List.pairwise_map];exact m1) λn=> ?_
 rw[Ew,CW]
 simp only[bJ,List.flatMap_cons,List.flatMap_nil,List.append_nil,List.mem_append,List.mem_map,List.not_mem_nil,false_or]
 constructor
 ·rintro(⟨m,hm,rfl⟩|⟨m,hm,rfl⟩)
  ·obtain⟨t,ht,e⟩:=m3 m (.inl hm)
   exact⟨t,ht,e⟩
  ·obtain⟨t,ht,e⟩:=m3 m (.inr hm)
   exact⟨t,ht,e⟩
 ·rintro⟨t,ht,rfl⟩
  obtain⟨_,_,h⟩:=m2 t ht
  rcases h with⟨m,hm,e⟩|⟨m,hm,e⟩
  ·exact .inl ⟨m,hm,e⟩
  ·exact .inr ⟨m,hm,e⟩
def tc (T:List ME):List (List PC):=(f7 T).map mP
theorem JL {T:List ME} {j:Nat} (h:j<T.length):tc (T.take (j+1))=if T[j].2.1+T[j].2.2=0 then tc (T.take j)else tc (T.take j)++ [[pS T[j].1,pI (T[j].2.1+T[j].2.2)]]:=by
 rw[tc,tc,List.take_succ_eq_append_getElem h,f7,List.filterMap_append]
 by_cases h0:T[j].2.1+T[j].2.2=0
 ·rw[if_pos h0]
  simp[h0,f7]
 ·rw[if_neg h0]
  simp[h0,f7,mP]
theorem P1 (T:List ME):(f7 T).length≤T.length:=List.length_filterMap_le _ _
theorem I0 {a b:bW} (h: ¬e7 a b):fI a b=((0, []),3):=by rw[fI,if_neg h]
theorem jJ {a b:bW} (ha:bl a) (hb:bl b) (hs:a.2.length+b.2.length≤1000000000):ac Ya 145 [da a.1 a.2,da b.1 b.2] (GE (fj a b)):=by
 refine ac.of E0 (by simp) λ_=>aa ?_
 obtain⟨k1,l1⟩:=a
 obtain⟨k2,l2⟩:=b
 obtain⟨E,u⟩:=ha
 obtain⟨F,g⟩:=hb
 simp only at E u F g hs
 have pv1:=ik k1 l1
 have pv2:=ik k2 l2
 have pp:=jH E F
 conv in bh _ _=>cbv
 unfold fj
 simp only
 by_cases o1:aI l1
 ·by_cases o2:aI l2
  ·rw[if_pos o1]at pv1
   rw[if_pos o2]at pv2
   rw[if_neg (by rintro(h|h);exact h o1;exact h o2)]
   by_cases hk:am (k1+k2)
   ·have ek:dg (k1+k2)=(k1+k2,true):=by rw[dg,if_pos hk]
    rw[ek]at pp
    obtain⟨m1,m2,m3⟩:=eA l1 l2 (bD.1 o1).1 (bD.1 o2).1
    have W:=lG l1 l2
    have pn:=yQ (l:= [(k1,l1),(k2,l2)]) (by simp[bJ];omega)
    rw[GL (bD.1 o1).1 (bD.1 o2).1]at pn
    have z: ∀n,am (cf l1 n):=DS u
    have A: ∀n,am (cf l2 n):=DS g
    obtain⟨R,hR⟩: ∃R,R=fI (k1,l1) (k2,l2):=⟨_,rfl⟩
    rw[←hR]
    have HBad:Hid ((∃t∈bQ l1 l2,¬am (t.2.1+t.2.2))→R=((0, []),3)):=Lib.hid λ⟨t,ht,h⟩=>by
     rw[hR];exact I0 λh'=>h (h'.2 t ht)
    have HGood:Hid ((∀t∈bQ l1 l2,am (t.2.1+t.2.2))→R=((k1+k2,f7 (bQ l1 l2)),0)):=Lib.hid λh=>by
     rw[hR,fI,if_pos ⟨hk,h⟩];rfl
    have pc1:= λn=>oS k1 l1 n
    have pc2:= λn=>oS k2 l2 n
    clear hR ek hk m1 m3 o1 o2 u g E F
    generalize bQ l1 l2=T at*
    generalize k1+k2=K at*
    repeat' first|simp(disch:=omega)only[go_sem, *]|apply ab<;>intro h<;>try omega|refine aq pv1 rfl rfl ?_|refine aq pv2 rfl rfl ?_|refine aq pp rfl rfl ?_|refine aW pn rfl rfl ?_
    clear pv1 pv2 pp pn
    refine ci 3 1 85 2 _ rfl rfl (by decide) ?_
    refine ai (λj:Nat=>⟨[(2,.c (.ptr 0 0)),(3,.c (.ptr 1 0)),(4,.c (.ptr 2 0)),(8,.c (.ptr 3 0)),(9,lO (T.map (·.1))),(10,I j)],
     [(0,.var [.pure (pI k1),.pure (ay l1)]),(1,.var [.pure (pI k2),.pure (ay l2)]),(2,.var [.pure (pI 0),.nils]),(3,.var [.pure (pI K),.ref 4]),(4,.arr 85 2 (tc (T.take j)))],5,0⟩) (λj=>j≤T.length∧Hid (∀t∈T.take j,am (t.2.1+t.2.2))) (λj=>T.length-j) ⟨0, [],⟨Nat.zero_le _,Lib.hid (by simp)⟩,by simp[tc,f7]⟩ ?_
    rintro j ⟨hj,HT⟩
    refine aa ?_
    have C:((T.map (·.1)).map λs=> [pS s]).length=T.length:=by simp
    by_cases d:j<T.length
    ·have g1:((T.map (·.1)).map λs=> [pS s])[j]? =some [pS T[j].1]:=by simp[d]
     obtain⟨t1,t2,_⟩:=m2 _ (List.getElem_mem d)
     have q1:=pc1 T[j].1
     have q2:=pc2 T[j].1
     have b1:=z T[j].1
     have b2:=A T[j].1
     rw[←t1]at q1 b1
     rw[←t2]at q2 b2
     have qp:=jH b1 b2
     have e1:=JL d
     have o:(tc (T.take j)).length≤2000000000:=by
      have:=P1 (T.take j)
      rw[List.length_take]at this
      simp only[tc,List.length_map]
      omega
     by_cases hm:am (T[j].2.1+T[j].2.2)
     ·have ek:dg (T[j].2.1+T[j].2.2)=(T[j].2.1+T[j].2.2,true):=by rw[dg,if_pos hm]
      rw[ek]at qp
      have HT':Hid (∀t∈T.take (j+1),am (t.2.1+t.2.2)):=Lib.hid (by
       rw[List.take_succ_eq_append_getElem d]
       intro t ht
       rcases List.mem_append.1 ht with h|h
       ·exact HT.out t h
       ·rw[List.mem_singleton.1 h];exact hm)
      clear HT hm ek b1 b2 t1 t2 m2 pc1 pc2 z A
      generalize T[j]=t at*
      obtain⟨n,x,y⟩:=t
      simp only at g1 q1 q2 qp e1
      generalize x+y=xy at*
      generalize tc (T.take j)=D0 at*
      by_cases hz:xy=0
      ·rw[if_pos hz]at e1
       subst hz
       repeat' first|simp(disch:=omega)only[go_sem, *,g1,C,wrap_i64]|apply ab<;>intro h<;>try omega|apply af|(with_reducible refine ag (λh=> ?_) ?_)|refine aq q1 rfl rfl ?_|refine aq q2 rfl rfl ?_|refine aq qp rfl rfl ?_
       all_goals exact⟨j+1, [],⟨d,HT'⟩,by omega,by simp[e1]⟩
      ·rw[if_neg hz]at e1
       repeat' first|simp(disch:=omega)only[go_sem, *,g1,C,hz,wrap_i64]|apply ab<;>intro h<;>try omega|apply af|(with_reducible refine ag (λh=> ?_) ?_)|refine aq q1 rfl rfl ?_|refine aq q2 rfl rfl ?_|refine aq qp rfl rfl ?_|refine aA rfl (by intro h;cases h) (an rfl) (by simp;omega) (by simp;omega) ?_
       all_goals exact⟨j+1, [(4,5)],⟨d,HT'⟩,by omega,by simp[e1]⟩
     ·have ek:dg (T[j].2.1+T[j].2.2)=(0,false):=by rw[dg,if_neg hm]
      rw[ek]at qp
      have h2:=HBad.out ⟨_,List.getElem_mem d,hm⟩
      subst h2
      clear HBad HGood HT hm ek b1 b2 t1 t2 m2 pc1 pc2 z A e1
      generalize T[j]=t at*
      obtain⟨n,x,y⟩:=t
      simp only at g1 q1 q2 qp
      repeat' first|simp(disch:=omega)only[go_sem, *,g1,C,wrap_i64]|apply ab<;>intro h<;>try omega|apply af|(with_reducible refine ag (λh=> ?_) ?_)|refine aq q1 rfl rfl ?_|refine aq q2 rfl rfl ?_|refine aq qp rfl rfl ?_
      all_goals rfl
    ·obtain rfl:j=T.length:=by omega
     have hT:=HT.out
     rw[List.take_of_length_le (Nat.le_refl _)]at hT
     have h2:=HGood.out hT
     subst h2
     clear HBad HGood HT hT m2 pc1 pc2 z A
     rw[List.take_of_length_le (Nat.le_refl _)]
     repeat' first|simp(disch:=omega)only[go_sem, *,C]|apply ab<;>intro h<;>try omega
     all_goals rfl
   ·have ek:dg (k1+k2)=(0,false):=by rw[dg,if_neg hk]
    rw[ek]at pp
    rw[I0 λh=>hk h.1]
    clear hk ek o1 o2
    repeat' first|simp(disch:=omega)only[go_sem, *]|apply ab<;>intro h<;>try omega|refine aq pv1 rfl rfl ?_|refine aq pv2 rfl rfl ?_|refine aq pp rfl rfl ?_
    all_goals rfl
  ·rw[if_pos o1]at pv1
   rw[if_neg o2]at pv2
   rw[if_pos (.inr o2)]
   clear o1 o2
   repeat' first|simp(disch:=omega)only[go_sem, *]|apply ab<;>intro h<;>try omega|refine aq pv1 rfl rfl ?_|refine aq pv2 rfl rfl ?_
   all_goals rfl
 ·rw[if_neg o1]at pv1
  rw[if_pos (.inl o1)]
  clear o1 pv2
  repeat' first|simp(disch:=omega)only[go_sem, *]|apply ab<;>intro h<;>try omega|refine aq pv1 rfl rfl ?_
  all_goals rfl
