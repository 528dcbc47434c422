import Derived.Test.YthbcbaembicdbaaGreatDoorV07u
set_option linter.unusedVariables false
set_option linter.unusedSimpArgs false
set_option maxRecDepth 20000
set_option maxHeartbeats 4000000
set_option maxRecDepth 1000000
namespace Go.Proofs.YthbcbaembicdbaaGreatDoor
open Go.Abs Go.RowKit
def Aw (a:List ByteArray):Prop:=a.Pairwise fun x y=>cn x y=true
def m7 (a:List ByteArray) (s:ByteArray):List ByteArray:=if s∈a then a else a.filter (fun x=>cn x s)++s::a.filter (fun x=> !cn x s)
def LJ (l:List ByteArray):List ByteArray:=l.foldl m7 []
theorem WU {a:List ByteArray} {s n:ByteArray}:n∈m7 a s↔n∈a∨n=s:=by
 rw[m7]
 split
 ·rename_i h
  constructor
  ·exact .inl
  ·rintro(h1|rfl)
   ·exact h1
   ·exact h
 ·simp only[List.mem_append,List.mem_cons,List.mem_filter]
  constructor
  ·rintro(h|rfl|h)
   ·exact .inl h.1
   ·exact .inr rfl
   ·exact .inl h.1
  ·rintro(h|rfl)
   ·cases hx:cn n s with
    |true=>exact .inl ⟨h,rfl⟩
    |false=>exact .inr (.inr ⟨h,rfl⟩)
   ·exact .inr (.inl rfl)
theorem O6 {a:List ByteArray} {s:ByteArray} (h:Aw a):Aw (m7 a s):=by
 rw[m7]
 split
 ·exact h
 ·rename_i hs
  unfold Aw at h ⊢
  rw[List.pairwise_append,List.pairwise_cons]
  have hge: ∀x∈a,(!cn x s)=true→cn s x=true:=fun x hx hn=>by
   rcases CD x s with h1|h1|h1
   ·rw[h1]at hn;cases hn
   ·exact absurd (h1▸hx) hs
   ·exact h1
  refine⟨h.filter _,⟨fun x hx=> ?_,h.filter _⟩,fun x hx y hy=> ?_⟩
  ·obtain⟨h1,h2⟩:=List.mem_filter.1 hx
   exact hge x h1 h2
  ·obtain⟨h1,h2⟩:=List.mem_filter.1 hx
   rcases List.mem_cons.1 hy with rfl|hy
   ·exact h2
   ·obtain⟨h3,h4⟩:=List.mem_filter.1 hy
    exact gK h2 (hge y h3 h4)
theorem Vj {a:List ByteArray} {s:ByteArray}:(m7 a s).length≤a.length+1:=by
 rw[m7]
 split
 ·omega
 ·rw[List.length_append,List.length_cons]
  have h: ∀l:List ByteArray,(l.filter fun x=>cn x s).length+(l.filter fun x=> !cn x s).length=l.length:=fun l=>by
   induction l with
   |nil=>rfl
   |cons x l ih=>
    rw[List.filter_cons,List.filter_cons,List.length_cons]
    cases cn x s
    ·simp only[Bool.false_eq_true,if_false,Bool.not_false,if_true,List.length_cons];omega
    ·simp only[if_true,Bool.not_true,Bool.false_eq_true,if_false,List.length_cons];omega
  have:=h a
  omega
theorem Ye {a:List ByteArray} {s:ByteArray} {p:Nat} (h:Aw a) (hs: ¬s∈a) (h1: ∀x∈a.drop p,cn s x=true) (h2: ∀x∈a.take p,cn x s=true):m7 a s=a.take p++s::a.drop p:=by
 have e1:a.filter (fun x=>cn x s)=a.take p:=by
  conv=>lhs;rw[←List.take_append_drop p a]
  rw[List.filter_append,List.filter_eq_self.2 h2,List.filter_eq_nil_iff.2 (fun x hx h=>by
   have:=pO (h1 x hx)
   rw[h]at this
   simp at this),List.append_nil]
 have e2:a.filter (fun x=> !cn x s)=a.drop p:=by
  conv=>lhs;rw[←List.take_append_drop p a]
  rw[List.filter_append,List.filter_eq_nil_iff.2 (fun x hx h=>by rw[h2 x hx]at h;cases h),List.nil_append,List.filter_eq_self.2 (fun x hx=>by
   have:=pO (h1 x hx)
   simpa using this)]
 rw[m7,if_neg hs,e1,e2]
theorem TR {a:List ByteArray} {s:ByteArray} {p:Nat} (h:Aw a) (hp:p<a.length) (h2:cn a[p] s=true): ∀x∈a.take (p+1),cn x s=true:=by
 intro x hx
 obtain⟨i,hi,rfl⟩:=List.mem_iff_getElem.1 hx
 rw[List.length_take]at hi
 rw[List.getElem_take]
 by_cases e:i=p
 ·subst e;exact h2
 ·exact gK (List.pairwise_iff_getElem.1 h i p (by omega) hp (by omega)) h2
abbrev gv (l:List ByteArray):List (List PC):=l.map fun s=> [pS s]
theorem Vc {a:List ByteArray} {s:ByteArray} {p:Nat} (hp:p<a.length):((gv (a.take (p+1)++s::a.drop (p+1))).set (p+1) [pS a[p]]).set p [pS s]=gv (a.take p++s::a.drop p):=by
 apply List.ext_getElem?
 intro i
 rw[List.getElem?_set,List.getElem?_set]
 have hl1:(a.take (p+1)).length=p+1:=by rw[List.length_take];omega
 have hl2:(a.take p).length=p:=by rw[List.length_take];omega
 simp only[gv,List.length_set,List.length_map,List.length_append,List.length_cons,hl1,List.length_drop]
 by_cases e1:p=i
 ·subst e1
  rw[if_pos rfl,if_pos (by omega),List.getElem?_map,List.getElem?_append_right (by omega),hl2]
  simp
 ·rw[if_neg e1]
  by_cases e2:p+1=i
  ·subst e2
   rw[if_pos rfl,if_pos (by omega),List.getElem?_map,List.getElem?_append_right (by omega),hl2,show p+1-p=1 by omega,List.getElem?_cons_succ,List.getElem?_drop]
   simp[hp]
  ·rw[if_neg e2,List.getElem?_map,List.getElem?_map]
   congr 1
   by_cases e3:i<p
   ·rw[List.getElem?_append_left (by omega),List.getElem?_append_left (by omega),List.getElem?_take_of_lt (by omega),List.getElem?_take_of_lt (by omega)]
   ·rw[List.getElem?_append_right (by omega),List.getElem?_append_right (by omega),hl1,hl2]
    obtain⟨k,rfl⟩: ∃k,i=p+2+k:=⟨i-(p+2),by omega⟩
    rw[show p+2+k-(p+1)=k+1 by omega,show p+2+k-p=(k+1)+1 by omega,List.getElem?_cons_succ,List.getElem?_cons_succ,List.getElem?_drop,List.getElem?_drop]
    congr 1
    omega
theorem Cs {a:List ByteArray} {s:ByteArray} (h:s∈a):au Tryz.prog oI [.c (.ref 0),S s] [(0,.arr 9 1 (gv a))] 1 (.c (.ref 0)) [(0,.arr 9 1 (gv a))] 1:=by
 refine au.of tn (by simp) fun _=>aa ?_
 have ph:=ij a s
 rw[decide_eq_true h]at ph
 clear h
 conv in oh=>cbv
 repeat' first|simp(disch:=omega) only[go_sem, *]|((with_reducible apply ab)<;>intro h<;>try omega)|(refine aF ph rfl rfl ?_)
 all_goals rfl
set_option maxHeartbeats 2000000 in
theorem CG {a:List ByteArray} {s:ByteArray} (h: ¬s∈a) (hs:Aw a) (hl:a.length≤1000000000):au Tryz.prog oI [.c (.ref 0),S s] [(0,.arr 9 1 (gv a))] 1 (.c (.ref 1)) [(1,.arr 9 1 (gv (m7 a s)))] 2:=by
 refine au.of tn (by simp) fun _=>aa ?_
 have ph:=ij a s
 rw[decide_eq_false h]at ph
 conv in oh=>cbv
 obtain⟨R,hR⟩: ∃R,R=gv (m7 a s):=⟨_,rfl⟩
 rw[←hR]
 have HR:Hid (∀p,(∀x∈a.drop p,cn s x=true)→(∀x∈a.take p,cn x s=true)→R=gv (a.take p++s::a.drop p)):=Lib.hid (fun p h1 h2=>by rw[hR,Ye hs h h1 h2])
 have HN:=Lib.hid h
 have HS:=Lib.hid hs
 clear hR h hs
 have e0:((gv a++ [[PC.val (Value.string s)]]).length:Int)=(a.length:Int)+1:=by simp
 have w0:IntKind.wrap .i64 ((a.length:Int)+1-1)=(a.length:Int):=by rw[wrap_i64 (by omega)];omega
 repeat' first|simp(disch:=omega) only[go_sem, *,e0,w0]|((with_reducible apply ab)<;>intro h<;>try omega)|(refine aF ph rfl rfl ?_)|(refine aJ rfl (by intro h;cases h) (aB rfl) (by simp;omega) (by simp;omega) ?_)
 clear ph
 have est:gv a++ [[PC.val (Value.string s)]]=gv (a.take a.length++s::a.drop a.length):=by simp[gv]
 rw[est]
 refine an (fun p:Nat=>⟨[(0,.c (.ref 1)),(5,I p)], [(1,.arr 9 1 (gv (a.take p++s::a.drop p)))],2,1⟩) (fun p=>p≤a.length∧Hid (∀x∈a.drop p,cn s x=true)) (fun p=>p) ⟨a.length, [],⟨Nat.le_refl _,Lib.hid (by simp)⟩,by simp⟩ ?_
 clear est e0 w0
 rintro p ⟨hp,HD⟩
 refine aa ?_
 cases p with
 |zero=>
  have hR:=HR.out 0 HD.out (by simp)
  subst hR
  clear HR HN HS HD
  repeat' first|simp(disch:=omega) only[go_sem, *,Int.natCast_zero]|((with_reducible apply ab)<;>intro h<;>try omega)
  all_goals rfl
 |succ q=>
  have hq:q<a.length:=hp
  have hlen:(a.take (q+1)).length=q+1:=by rw[List.length_take];omega
  have g1:(gv (a.take (q+1)++s::a.drop (q+1)))[q]? =some [pS a[q]]:=by
   rw[gv,List.getElem?_map,List.getElem?_append_left (by omega),List.getElem?_take_of_lt (by omega)]
   simp[hq]
  have g2:(gv (a.take (q+1)++s::a.drop (q+1)))[q+1]? =some [pS s]:=by
   rw[gv,List.getElem?_map,List.getElem?_append_right (by omega),hlen]
   simp
  have e1:=Vc (s:=s) hq
  have wq:IntKind.wrap .i64 ((q:Int)+1-1)=q:=by rw[wrap_i64 (by omega)];omega
  have cq:((q+1:Nat):Int)=(q:Int)+1:=by omega
  have tq:((q:Int)+1).toNat=q+1:=by omega
  by_cases hl:cn s a[q]=true
  ·have HD':Hid (∀x∈a.drop q,cn s x=true):=Lib.hid (by
    rw[List.drop_eq_getElem_cons hq]
    intro x hx
    rcases List.mem_cons.1 hx with rfl|hx
    ·exact hl
    ·exact HD.out x hx)
   have hl':Op.bytesLess a[q].toList s.toList=false:=by simpa[cn]using pO hl
   have hne: ¬a[q]=s:=fun e=>by rw[e]at hl;exact ic _ hl
   clear HR HN HS HD hl
   generalize hRW:gv (a.take (q+1)++s::a.drop (q+1))=RW at*
   have hRl:q+1<RW.length:=by
    rw[←hRW]
    simp only[gv,List.length_map,List.length_append,List.length_cons,hlen,List.length_drop]
    omega
   clear hRW
   generalize hRW2:gv (a.take q++s::a.drop q)=RW2 at*
   generalize a[q]=x at*
   have g3:(RW.set (q+1) [pS x])[q]? =some [pS x]:=by rw[List.getElem?_set,if_neg (by omega)];exact g1
   repeat' first|simp(disch:=omega) only[go_sem, *,g1,g2,g3,hl',hne,wq,cq,tq,wrap_i64,Int.toNat_natCast,List.length_set,decide_false,Bool.or_false,Bool.not_false]|((with_reducible apply ab)<;>intro h<;>try omega)|(with_reducible apply ag)|(with_reducible refine aj (fun h=> ?_) ?_)
   exact⟨q, [],⟨by omega,HD'⟩,by omega,by simp[e1,hRW2]⟩
  ·have hl2:cn a[q] s=true:=by
    rcases CD s a[q]with h|h|h
    ·exact absurd h hl
    ·exact absurd (by rw[h];exact List.getElem_mem _) HN.out
    ·exact h
   have hR:=HR.out (q+1) HD.out (TR HS.out hq hl2)
   rw[←hR]
   rw[←hR]at g1 g2
   have hl':Op.bytesLess a[q].toList s.toList=true:=hl2
   have hRl:q+1<R.length:=by
    rw[hR]
    simp only[gv,List.length_map,List.length_append,List.length_cons,hlen,List.length_drop]
    omega
   clear HR HN HS HD hl hl2 e1 hR
   generalize a[q]=x at*
   repeat' first|simp(disch:=omega) only[go_sem, *,g1,g2,hl',wq,cq,tq,wrap_i64,Int.toNat_natCast,Bool.true_or,Bool.not_true]|((with_reducible apply ab)<;>intro h<;>try omega)|(with_reducible apply ag)|(with_reducible refine aj (fun h=> ?_) ?_)
   all_goals rfl
theorem Jx {l:List bY} {k:Nat} (h:k<l.length):bz (l.drop k)=l[k].2.map (·.1)++bz (l.drop (k+1)):=by
 rw[List.drop_eq_getElem_cons h,bz,List.flatMap_cons];rfl
set_option maxHeartbeats 2000000 in
theorem DY {l:List bY} (hs:(bz l).length≤1000000000):ac Tryz.prog yl [j5 lP l] (mO (LJ (bz l))):=by
 refine ac.of FI (by simp) fun hb=>aa ?_
 have hbl:l.length≤9223372036854775807:=by have:=hb.1;simpa[i5,jS]using this
 clear hb
 conv in xT=>cbv
 obtain⟨R,hR⟩: ∃R,R=(bz (l.drop 0)).foldl m7 []:=⟨_,rfl⟩
 have hR0:LJ (bz l)=R:=hR.symm
 rw[hR0]
 have HR:=Lib.hid hR
 clear hR hR0
 repeat' first|simp(disch:=omega) only[go_sem, *]|((with_reducible apply ab)<;>intro h<;>try omega)
 refine dR 3 9 1 rfl (by decide) ?_
 refine an (fun s:Nat×List ByteArray=>⟨[(0,j5 lP l),(3,.c (.ref 0)),(4,I s.1)], [(0,.arr 9 1 (gv s.2))],1,0⟩)
  (fun s=>s.1≤l.length∧s.2.length+(bz (l.drop s.1)).length≤1000000000∧Hid (Aw s.2)∧Hid (R=(bz (l.drop s.1)).foldl m7 s.2)) (fun s=>l.length-s.1) ⟨(0, []), [],⟨Nat.zero_le _,by simpa using hs,Lib.hid List.Pairwise.nil,HR⟩,by simp⟩ ?_
 clear HR hs
 rintro⟨k,acc⟩ ⟨hk,ha,HS,HR⟩
 simp only at hk ha HS HR
 refine aa ?_
 by_cases hlt:k<l.length
 ·have g1:=ah (f:=lP) hlt
  have h2:=HR.out
  rw[Jx hlt,List.foldl_append]at h2
  rw[Jx hlt,List.length_append,List.length_map]at ha
  clear HR
  generalize l[k]=c at*
  obtain⟨ck,cl⟩:=c
  simp only[lP]at g1
  simp only at h2 ha
  have HR:Hid (R=(bz (l.drop (k+1))).foldl m7 (((cl.drop 0).map (·.1)).foldl m7 acc)):=Lib.hid h2
  clear h2
  generalize hT:(bz (l.drop (k+1))).length=TL at*
  have hcl:cl.length≤1000000000:=by omega
  repeat' first|simp(disch:=omega) only[go_sem, *,g1]|((with_reducible apply ab)<;>intro h<;>try omega)
  refine an (fun s:Nat×List ByteArray=>⟨[(0,j5 lP l),(3,.c (.ref 0)),(4,I k),(5,I s.1)], [(0,.arr 9 1 (gv s.2))],1,0⟩)
   (fun s=>s.1≤cl.length∧s.2.length+(cl.length-s.1)+TL≤1000000000∧Hid (Aw s.2)∧Hid (R=(bz (l.drop (k+1))).foldl m7 (((cl.drop s.1).map (·.1)).foldl m7 s.2))) (fun s=>cl.length-s.1) ⟨(0,acc), [],⟨Nat.zero_le _,by simp only;omega,HS,HR⟩,by simp⟩ ?_
  clear HR ha HS
  rintro⟨j,acc⟩ ⟨hj,ha,HS,HR⟩
  simp only at hj ha HS HR
  refine aa ?_
  by_cases hlj:j<cl.length
  ·have g2:=ah (f:=mP) hlj
   have h2:=HR.out
   rw[List.drop_eq_getElem_cons hlj,List.map_cons,List.foldl_cons]at h2
   have HS2:Hid (Aw (m7 acc cl[j].1)):=Lib.hid (O6 HS.out)
   have hil:=Vj (a:=acc) (s:=cl[j].1)
   clear HR
   by_cases hn:cl[j].1∈acc
   ·have ph:=Cs hn
    have e:m7 acc cl[j].1=acc:=by rw[m7,if_pos hn]
    rw[e]at h2 HS2
    have HR:=Lib.hid h2
    clear h2 hn HS e hil
    generalize cl[j]=m at*
    obtain⟨n,x⟩:=m
    simp only[mP]at g2
    simp only at ph
    repeat' first|simp(disch:=omega) only[go_sem, *,g1,g2,wrap_i64]|((with_reducible apply ab)<;>intro h<;>try omega)|(refine ap ph ?_)
    exact⟨(j+1,acc), [],⟨hlj,by simp only;omega,HS2,HR⟩,by show _-_<_-_;omega,by simp⟩
   ·have ph:=CG hn HS.out (by omega)
    have HR:=Lib.hid h2
    clear h2 hn HS
    generalize m7 acc cl[j].1=acc2 at*
    generalize cl[j]=m at*
    obtain⟨n,x⟩:=m
    simp only[mP]at g2
    simp only at ph
    repeat' first|simp(disch:=omega) only[go_sem, *,g1,g2,wrap_i64]|((with_reducible apply ab)<;>intro h<;>try omega)|(refine ap ph ?_)
    exact⟨(j+1,acc2), [(0,1)],⟨hlj,by simp only;omega,HS2,HR⟩,by show _-_<_-_;omega,by simp⟩
  ·have h2:=HR.out
   rw[List.drop_eq_nil_of_le (by omega)]at h2
   have HR:Hid (R=(bz (l.drop (k+1))).foldl m7 acc):=Lib.hid h2
   clear h2
   repeat' first|simp(disch:=omega) only[go_sem, *,g1,wrap_i64]|((with_reducible apply ab)<;>intro h<;>try omega)
   exact⟨(k+1,acc), [],⟨hlt,by simp only[hT];omega,HS,HR⟩,by show _-_<_-_;omega,by simp⟩
 ·have h2:=HR.out
  rw[List.drop_eq_nil_of_le (by omega)]at h2
  simp only[bz,List.flatMap_nil,List.foldl_nil]at h2
  subst h2
  clear HR HS
  repeat' first|simp(disch:=omega) only[go_sem, *]|((with_reducible apply ab)<;>intro h<;>try omega)
  all_goals rfl
set_option maxRecDepth 20000
set_option maxRecDepth 1000000
theorem tj (k:Int):ac Tryz.prog xM [I k] (dm k []):=by
 refine ac.of Fh (by simp) fun _=>aa ?_
 conv in yH=>cbv
 repeat' first|simp(disch:=omega) only[go_sem, *]|((with_reducible apply ab)<;>intro h<;>try omega)
 all_goals rfl
theorem sW (k:Int) (l:List bJ) (n:ByteArray):ac Tryz.prog xl [dm k l,S n] (I (cf l n)):=by
 refine ac.of GO (by simp) fun hb=>aa ?_
 have hbl:l.length≤9223372036854775807:=by have:=hb.1;simpa[i5,jS,rF]using this
 clear hb
 conv in xz=>cbv
 obtain⟨R,hR⟩: ∃R,R=cf (l.drop 0) n:=⟨_,rfl⟩
 have hR0:cf l n=R:=hR.symm
 rw[hR0]
 have HR:=Lib.hid hR
 clear hR hR0
 repeat' first|simp(disch:=omega) only[go_sem, *]|((with_reducible apply ab)<;>intro h<;>try omega)
 refine an (fun j:Nat=>⟨[(1,S n),(2,.c (.ptr 0 0)),(5,I j)], [(0,.var [.pure (pI k),.pure (aw l)])],1,0⟩) (fun j=>j≤l.length∧Hid (R=cf (l.drop j) n)) (fun j=>l.length-j) ⟨0, [],⟨Nat.zero_le _,HR⟩,by simp⟩ ?_
 clear HR
 rintro j ⟨hj,HR⟩
 refine aa ?_
 by_cases hlt:j<l.length
 ·have g1:=ah (f:=mP) hlt
  have h2:=HR.out
  rw[List.drop_eq_getElem_cons hlt,cf]at h2
  clear HR
  generalize l[j]=m at*
  obtain⟨m,x⟩:=m
  simp only[mP]at g1
  simp only at h2
  by_cases hn:m=n
  ·rw[if_pos hn]at h2
   subst h2
   subst hn
   repeat' first|simp(disch:=omega) only[go_sem, *,g1,wrap_i64]|((with_reducible apply ab)<;>intro h<;>try omega)
   all_goals rfl
  ·rw[if_neg hn]at h2
   have HR:=Lib.hid h2
   clear h2
   repeat' first|simp(disch:=omega) only[go_sem, *,g1,hn,wrap_i64]|((with_reducible apply ab)<;>intro h<;>try omega)
   exact⟨j+1, [],⟨hlt,HR⟩,by omega,by simp⟩
 ·have h2:=HR.out
  rw[List.drop_eq_nil_of_le (by omega),cf]at h2
  subst h2
  clear HR
  repeat' first|simp(disch:=omega) only[go_sem, *]|((with_reducible apply ab)<;>intro h<;>try omega)
  all_goals rfl
theorem F9 {a:bY} {b:Int} (h0:b≠0) (h: ¬iK a b):kB a b=((0, []),3):=by rw[kB,if_neg (by rintro(h'|h');exact h0 h';exact h h')]
theorem Qj {a:bY} {b:Int} (h0:b≠0) (h:iK a b):kB a b=((a.1*b,a.2.map fun m=>(m.1,m.2*b)),0):=by rw[kB,if_pos (.inr h),dw,if_neg h0]
def L7 (b:Int) (l:List bJ):List (List PC):=(l.map fun m=>(m.1,m.2*b)).map mP
set_option maxHeartbeats 2000000 in
theorem mp {a:bY} {b:Int} (ha:bq a) (hb:ay b) (hs:short a.2):ac Tryz.prog yC [dm a.1 a.2,I b] (NY (bO a b)):=by
 refine ac.of FW (by simp) fun _=>aa ?_
 conv in xL=>cbv
 have pv:=iM a.1 a.2
 unfold bO
 by_cases hok:bi a.2
 ·rw[if_pos hok]at pv
  rw[if_neg (not_not_intro hok)]
  by_cases h0:b=0
  ·have e:kB a b=((0, []),0):=by rw[kB,if_pos (.inl h0),dw,if_pos h0]
   rw[e]
   clear hok ha
   obtain⟨k,l⟩:=a
   simp only at pv
   repeat' first|simp(disch:=omega) only[go_sem, *,h0]|((with_reducible apply ab)<;>intro h<;>try omega)|(refine aF pv rfl rfl ?_)
   all_goals rfl
  ·have pt:=vO ha.1 hb
   by_cases hk:ay (a.1*b)
   ·have ek:gC (a.1*b)=(a.1*b,true):=by rw[gC,if_pos hk]
    rw[ek]at pt
    obtain⟨R,hR⟩: ∃R,R=kB a b:=⟨_,rfl⟩
    rw[←hR]
    have HR:=Lib.hid hR
    have HK:=Lib.hid hk
    clear hR hok hk ek
    obtain⟨_,hl⟩:=ha
    obtain⟨k,l⟩:=a
    unfold short at hs
    simp only at pv pt hl hs
    generalize hkb:k*b=kb at*
    have HKB:=Lib.hid hkb
    clear hkb
    repeat' first|simp(disch:=omega) only[go_sem, *,h0]|((with_reducible apply ab)<;>intro h<;>try omega)|(refine aF pv rfl rfl ?_)|(refine aF pt rfl rfl ?_)
    refine cQ 2 1 114 2 _ rfl rfl (by decide) ?_
    refine an (fun j:Nat=>⟨[(1,I b),(2,.c (.ptr 0 0)),(4,.c (.ptr 1 0)),(8,.c (.ptr 2 0)),(9,I j)],
     [(0,.var [.pure (pI k),.pure (aw l)]),(1,.var [.pure (pI 0),.nils]),(2,.var [.pure (pI kb),.ref 3]),(3,.arr 114 2 (L7 b (l.take j)))],4,0⟩) (fun j=>j≤l.length∧Hid (∀m∈l.take j,ay (m.2*b))) (fun j=>l.length-j) ⟨0, [],⟨Nat.zero_le _,Lib.hid (by simp)⟩,by simp[L7]⟩ ?_
    clear pv pt
    rintro j ⟨hj,HT⟩
    refine aa ?_
    by_cases hlt:j<l.length
    ·have g1:=ah (f:=mP) hlt
     have hx:=hl _ (List.getElem_mem hlt)
     have pt:=vO hx hb
     have hlen:(L7 b (l.take j)).length≤1000000000:=by simp[L7];omega
     have e1:L7 b (l.take (j+1))=L7 b (l.take j)++ [[pS l[j].1,pI (l[j].2*b)]]:=by
      rw[L7,L7,List.take_succ_eq_append_getElem hlt,List.map_append,List.map_append];rfl
     by_cases hm:ay (l[j].2*b)
     ·have ek:gC (l[j].2*b)=(l[j].2*b,true):=by rw[gC,if_pos hm]
      rw[ek]at pt
      have HT':Hid (∀m∈l.take (j+1),ay (m.2*b)):=Lib.hid (by
       rw[List.take_succ_eq_append_getElem hlt]
       intro m hmm
       rcases List.mem_append.1 hmm with h|h
       ·exact HT.out m h
       ·rw[List.mem_singleton.1 h];exact hm)
      clear HT hm ek hx
      generalize l[j]=m at*
      obtain⟨n,x⟩:=m
      simp only[mP]at g1
      simp only at pt e1
      generalize x*b=xb at*
      generalize L7 b (l.take j)=D0 at*
      repeat' first|simp(disch:=omega) only[go_sem, *,g1,wrap_i64]|((with_reducible apply ab)<;>intro h<;>try omega)|(refine aF pt rfl rfl ?_)|(refine aJ rfl (by intro h;cases h) (aB rfl) (by simp;omega) (by simp;omega) ?_)
      exact⟨j+1, [(3,4)],⟨hlt,HT'⟩,by omega,by simp[e1]⟩
     ·have ek:gC (l[j].2*b)=(0,false):=by rw[gC,if_neg hm]
      rw[ek]at pt
      have h2:R=((0, []),3):=by rw[HR.out];exact F9 h0 fun h=>hm (h.2 _ (List.getElem_mem hlt))
      subst h2
      clear HR HT hm ek hx e1
      generalize l[j]=m at*
      obtain⟨n,x⟩:=m
      simp only[mP]at g1
      simp only at pt
      repeat' first|simp(disch:=omega) only[go_sem, *,g1,wrap_i64]|((with_reducible apply ab)<;>intro h<;>try omega)|(refine aF pt rfl rfl ?_)
      all_goals rfl
    ·obtain rfl:j=l.length:=by omega
     have hT:=HT.out
     rw[List.take_of_length_le (Nat.le_refl _)]at hT
     have h2:R=((kb,l.map fun m=>(m.1,m.2*b)),0):=by
      rw[HR.out,←HKB.out]
      exact Qj h0 ⟨by rw[HKB.out];exact HK.out,hT⟩
     subst h2
     clear HR HT hT HK HKB
     rw[List.take_of_length_le (Nat.le_refl _)]
     repeat' first|simp(disch:=omega) only[go_sem, *]|((with_reducible apply ab)<;>intro h<;>try omega)
     all_goals rfl
   ·have ek:gC (a.1*b)=(0,false):=by rw[gC,if_neg hk]
    rw[ek]at pt
    rw[F9 h0 fun h=>hk h.1]
    clear hok hk ek ha
    obtain⟨k,l⟩:=a
    simp only at pv pt
    repeat' first|simp(disch:=omega) only[go_sem, *,h0]|((with_reducible apply ab)<;>intro h<;>try omega)|(refine aF pv rfl rfl ?_)|(refine aF pt rfl rfl ?_)
    all_goals rfl
 ·rw[if_neg hok]at pv
  rw[if_pos hok]
  clear hok
  obtain⟨k,l⟩:=a
  simp only at pv
  repeat' first|simp(disch:=omega) only[go_sem, *]|((with_reducible apply ab)<;>intro h<;>try omega)|(refine aF pv rfl rfl ?_)
  all_goals rfl
theorem MH: ∀{a b:List ByteArray},Aw a→Aw b→(∀n,n∈a↔n∈b)→a=b
 | [], [],_,_,_=>rfl
 | [],y::b,_,_,h=>absurd ((h y).2 List.mem_cons_self) (by simp)
 |x::a, [],_,_,h=>absurd ((h x).1 List.mem_cons_self) (by simp)
 |x::a,y::b,ha,hb,h=>by
  obtain⟨a1,a2⟩:=List.pairwise_cons.1 ha
  obtain⟨b1,b2⟩:=List.pairwise_cons.1 hb
  have e:x=y:=by
   rcases List.mem_cons.1 ((h x).1 List.mem_cons_self)with e|e
   ·exact e
   ·rcases List.mem_cons.1 ((h y).2 List.mem_cons_self)with e'|e'
    ·exact e'.symm
    ·exact absurd (b1 x e) (pO (a1 y e'))
  subst e
  rw[MH a2 b2 fun n=> ?_]
  constructor
  ·intro hn
   rcases List.mem_cons.1 ((h n).1 (List.mem_cons_of_mem _ hn))with e|e
   ·subst e
    exact absurd (a1 n hn) (ic n)
   ·exact e
  ·intro hn
   rcases List.mem_cons.1 ((h n).2 (List.mem_cons_of_mem _ hn))with e|e
   ·subst e
    exact absurd (b1 n hn) (ic n)
   ·exact e
theorem Kf: ∀{s a:List ByteArray} {n:ByteArray},n∈s.foldl m7 a↔n∈a∨n∈s
 | [],a,n=>by simp
 |b::s,a,n=>by
  rw[List.foldl_cons,Kf,WU]
  simp only[List.mem_cons,or_assoc]
theorem J5: ∀{s a:List ByteArray},Aw a→Aw (s.foldl m7 a)
 | [],a,h=>h
 |b::s,a,h=>by
  rw[List.foldl_cons]
  exact J5 (O6 h)
theorem Oc {k1 k2:Int} {l1 l2:List bJ} (h1:En l1) (h2:En l2):LJ (bz [(k1,l1),(k2,l2)])=(bM l1 l2).map (·.1):=by
 obtain⟨m1,m2,m3⟩:=fi l1 l2 h1 h2
 refine MH (J5 List.Pairwise.nil) (by unfold Aw;rw[List.pairwise_map];exact m1) fun n=> ?_
 rw[LJ,Kf]
 simp only[bz,List.flatMap_cons,List.flatMap_nil,List.append_nil,List.mem_append,List.mem_map,List.not_mem_nil,false_or]
 constructor
 ·rintro(⟨m,hm,rfl⟩|⟨m,hm,rfl⟩)
  ·obtain⟨t,ht,e⟩:=m3 m (.inl hm)
   exact⟨t,ht,e⟩
  ·obtain⟨t,ht,e⟩:=m3 m (.inr hm)
   exact⟨t,ht,e⟩
 ·rintro⟨t,ht,rfl⟩
  obtain⟨_,_,h⟩:=m2 t ht
  rcases h with⟨m,hm,e⟩|⟨m,hm,e⟩
  ·exact .inl ⟨m,hm,e⟩
  ·exact .inr ⟨m,hm,e⟩
def xw (T:List Tf):List (List PC):=(ql T).map mP
theorem Q5 {T:List Tf} {j:Nat} (h:j<T.length):xw (T.take (j+1))=if T[j].2.1+T[j].2.2=0 then xw (T.take j)else xw (T.take j)++ [[pS T[j].1,pI (T[j].2.1+T[j].2.2)]]:=by
 rw[xw,xw,List.take_succ_eq_append_getElem h,ql,List.filterMap_append]
 by_cases h0:T[j].2.1+T[j].2.2=0
 ·rw[if_pos h0]
  simp[h0,ql]
 ·rw[if_neg h0]
  simp[h0,ql,mP]
theorem Ux (T:List Tf):(ql T).length≤T.length:=List.length_filterMap_le _ _
theorem N3 {a b:bY} (h: ¬DB a b):gu a b=((0, []),3):=by rw[gu,if_neg h]
set_option maxHeartbeats 4000000 in
theorem kV {a b:bY} (ha:bq a) (hb:bq b) (hs:a.2.length+b.2.length≤1000000000):ac Tryz.prog Df [dm a.1 a.2,dm b.1 b.2] (NY (fK a b)):=by
 refine ac.of LS (by simp) fun _=>aa ?_
 obtain⟨k1,l1⟩:=a
 obtain⟨k2,l2⟩:=b
 obtain⟨hk1,hl1⟩:=ha
 obtain⟨hk2,hl2⟩:=hb
 simp only at hk1 hl1 hk2 hl2 hs
 have pv1:=iM k1 l1
 have pv2:=iM k2 l2
 have pp:=yF hk1 hk2
 conv in CZ=>cbv
 unfold fK
 simp only
 by_cases o1:bi l1
 ·by_cases o2:bi l2
  ·rw[if_pos o1]at pv1
   rw[if_pos o2]at pv2
   rw[if_neg (by rintro(h|h);exact h o1;exact h o2)]
   by_cases hk:ay (k1+k2)
   ·have ek:gC (k1+k2)=(k1+k2,true):=by rw[gC,if_pos hk]
    rw[ek]at pp
    obtain⟨m1,m2,m3⟩:=fi l1 l2 (cj.1 o1).1 (cj.1 o2).1
    have hTl:=ol l1 l2
    have pn:=DY (l:= [(k1,l1),(k2,l2)]) (by simp[bz];omega)
    rw[Oc (cj.1 o1).1 (cj.1 o2).1]at pn
    have hc1: ∀n,ay (cf l1 n):=J2 hl1
    have hc2: ∀n,ay (cf l2 n):=J2 hl2
    obtain⟨R,hR⟩: ∃R,R=gu (k1,l1) (k2,l2):=⟨_,rfl⟩
    rw[←hR]
    have HBad:Hid ((∃t∈bM l1 l2,¬ay (t.2.1+t.2.2))→R=((0, []),3)):=Lib.hid fun⟨t,ht,h⟩=>by
     rw[hR];exact N3 fun h'=>h (h'.2 t ht)
    have HGood:Hid ((∀t∈bM l1 l2,ay (t.2.1+t.2.2))→R=((k1+k2,ql (bM l1 l2)),0)):=Lib.hid fun h=>by
     rw[hR,gu,if_pos ⟨hk,h⟩];rfl
    have pc1:=fun n=>sW k1 l1 n
    have pc2:=fun n=>sW k2 l2 n
    clear hR ek hk m1 m3 o1 o2 hl1 hl2 hk1 hk2
    generalize bM l1 l2=T at*
    generalize k1+k2=K at*
    repeat' first|simp(disch:=omega) only[go_sem, *]|((with_reducible apply ab)<;>intro h<;>try omega)|(refine aF pv1 rfl rfl ?_)|(refine aF pv2 rfl rfl ?_)|(refine aF pp rfl rfl ?_)|(refine cg pn rfl rfl ?_)
    clear pv1 pv2 pp pn
    refine cQ 3 1 114 2 _ rfl rfl (by decide) ?_
    refine an (fun j:Nat=>⟨[(2,.c (.ptr 0 0)),(3,.c (.ptr 1 0)),(4,.c (.ptr 2 0)),(8,.c (.ptr 3 0)),(9,mO (T.map (·.1))),(10,I j)],
     [(0,.var [.pure (pI k1),.pure (aw l1)]),(1,.var [.pure (pI k2),.pure (aw l2)]),(2,.var [.pure (pI 0),.nils]),(3,.var [.pure (pI K),.ref 4]),(4,.arr 114 2 (xw (T.take j)))],5,0⟩) (fun j=>j≤T.length∧Hid (∀t∈T.take j,ay (t.2.1+t.2.2))) (fun j=>T.length-j) ⟨0, [],⟨Nat.zero_le _,Lib.hid (by simp)⟩,by simp[xw,ql]⟩ ?_
    rintro j ⟨hj,HT⟩
    refine aa ?_
    have hml:((T.map (·.1)).map fun s=> [pS s]).length=T.length:=by simp
    by_cases hlt:j<T.length
    ·have g1:((T.map (·.1)).map fun s=> [pS s])[j]? =some [pS T[j].1]:=by simp[hlt]
     obtain⟨t1,t2,_⟩:=m2 _ (List.getElem_mem hlt)
     have q1:=pc1 T[j].1
     have q2:=pc2 T[j].1
     have b1:=hc1 T[j].1
     have b2:=hc2 T[j].1
     rw[←t1]at q1 b1
     rw[←t2]at q2 b2
     have qp:=yF b1 b2
     have e1:=Q5 hlt
     have hlen:(xw (T.take j)).length≤2000000000:=by
      have:=Ux (T.take j)
      rw[List.length_take]at this
      simp only[xw,List.length_map]
      omega
     by_cases hm:ay (T[j].2.1+T[j].2.2)
     ·have ek:gC (T[j].2.1+T[j].2.2)=(T[j].2.1+T[j].2.2,true):=by rw[gC,if_pos hm]
      rw[ek]at qp
      have HT':Hid (∀t∈T.take (j+1),ay (t.2.1+t.2.2)):=Lib.hid (by
       rw[List.take_succ_eq_append_getElem hlt]
       intro t ht
       rcases List.mem_append.1 ht with h|h
       ·exact HT.out t h
       ·rw[List.mem_singleton.1 h];exact hm)
      clear HT hm ek b1 b2 t1 t2 m2 pc1 pc2 hc1 hc2
      generalize T[j]=t at*
      obtain⟨n,x,y⟩:=t
      simp only at g1 q1 q2 qp e1
      generalize x+y=xy at*
      generalize xw (T.take j)=D0 at*
      by_cases hz:xy=0
      ·rw[if_pos hz]at e1
       subst hz
       repeat' first|simp(disch:=omega) only[go_sem, *,g1,hml,wrap_i64]|((with_reducible apply ab)<;>intro h<;>try omega)|(with_reducible apply ag)|(with_reducible refine aj (fun h=> ?_) ?_)|(refine aF q1 rfl rfl ?_)|(refine aF q2 rfl rfl ?_)|(refine aF qp rfl rfl ?_)
       all_goals exact⟨j+1, [],⟨hlt,HT'⟩,by omega,by simp[e1]⟩
      ·rw[if_neg hz]at e1
       repeat' first|simp(disch:=omega) only[go_sem, *,g1,hml,hz,wrap_i64]|((with_reducible apply ab)<;>intro h<;>try omega)|(with_reducible apply ag)|(with_reducible refine aj (fun h=> ?_) ?_)|(refine aF q1 rfl rfl ?_)|(refine aF q2 rfl rfl ?_)|(refine aF qp rfl rfl ?_)|(refine aJ rfl (by intro h;cases h) (aB rfl) (by simp;omega) (by simp;omega) ?_)
       all_goals exact⟨j+1, [(4,5)],⟨hlt,HT'⟩,by omega,by simp[e1]⟩
     ·have ek:gC (T[j].2.1+T[j].2.2)=(0,false):=by rw[gC,if_neg hm]
      rw[ek]at qp
      have h2:=HBad.out ⟨_,List.getElem_mem hlt,hm⟩
      subst h2
      clear HBad HGood HT hm ek b1 b2 t1 t2 m2 pc1 pc2 hc1 hc2 e1
      generalize T[j]=t at*
      obtain⟨n,x,y⟩:=t
      simp only at g1 q1 q2 qp
      repeat' first|simp(disch:=omega) only[go_sem, *,g1,hml,wrap_i64]|((with_reducible apply ab)<;>intro h<;>try omega)|(with_reducible apply ag)|(with_reducible refine aj (fun h=> ?_) ?_)|(refine aF q1 rfl rfl ?_)|(refine aF q2 rfl rfl ?_)|(refine aF qp rfl rfl ?_)
      all_goals rfl
    ·obtain rfl:j=T.length:=by omega
     have hT:=HT.out
     rw[List.take_of_length_le (Nat.le_refl _)]at hT
     have h2:=HGood.out hT
     subst h2
     clear HBad HGood HT hT m2 pc1 pc2 hc1 hc2
     rw[List.take_of_length_le (Nat.le_refl _)]
     repeat' first|simp(disch:=omega) only[go_sem, *,hml]|((with_reducible apply ab)<;>intro h<;>try omega)
     all_goals rfl
   ·have ek:gC (k1+k2)=(0,false):=by rw[gC,if_neg hk]
    rw[ek]at pp
    rw[N3 fun h=>hk h.1]
    clear hk ek o1 o2
    repeat' first|simp(disch:=omega) only[go_sem, *]|((with_reducible apply ab)<;>intro h<;>try omega)|(refine aF pv1 rfl rfl ?_)|(refine aF pv2 rfl rfl ?_)|(refine aF pp rfl rfl ?_)
    all_goals rfl
  ·rw[if_pos o1]at pv1
   rw[if_neg o2]at pv2
   rw[if_pos (.inr o2)]
   clear o1 o2
   repeat' first|simp(disch:=omega) only[go_sem, *]|((with_reducible apply ab)<;>intro h<;>try omega)|(refine aF pv1 rfl rfl ?_)|(refine aF pv2 rfl rfl ?_)
   all_goals rfl
 ·rw[if_neg o1]at pv1
  rw[if_pos (.inl o1)]
  clear o1 pv2
  repeat' first|simp(disch:=omega) only[go_sem, *]|((with_reducible apply ab)<;>intro h<;>try omega)|(refine aF pv1 rfl rfl ?_)
  all_goals rfl
end Go.Proofs.YthbcbaembicdbaaGreatDoor
