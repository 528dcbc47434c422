import Derived.Test.YthkaaahphlneiaaGreatDoorV07c
set_option linter.unusedVariables false
set_option linter.unusedSimpArgs false
set_option maxRecDepth 20000
set_option maxHeartbeats 4000000
set_option maxRecDepth 1000000
namespace Go.Proofs.YthkaaahphlneiaaGreatDoor
open Go.Abs Go.RowKit
def bE (forms:List ca):List ByteArray:=forms.flatMap fun f=>f.2.map (·.1)
def lP (f:ca):List PC:= [pI f.1,aE f.2]
def zf (a:List ByteArray):Prop:=a.Pairwise fun x y=>b7 x y=true
def ms (a:List ByteArray) (s:ByteArray):List ByteArray:=if s∈a then a else a.filter (fun x=>b7 x s)++s::a.filter (fun x=> !b7 x s)
def Jz (l:List ByteArray):List ByteArray:=l.foldl ms []
theorem Sk {a:List ByteArray} {s n:ByteArray}:n∈ms a s↔n∈a∨n=s:=by
 rw[ms]
 split
 ·rename_i h
  constructor
  ·exact .inl
  ·rintro(h1|rfl)
   ·exact h1
   ·exact h
 ·simp only[List.mem_append,List.mem_cons,List.mem_filter]
  constructor
  ·rintro(h|rfl|h)
   ·exact .inl h.1
   ·exact .inr rfl
   ·exact .inl h.1
  ·rintro(h|rfl)
   ·cases hx:b7 n s with
    |true=>exact .inl ⟨h,rfl⟩
    |false=>exact .inr (.inr ⟨h,rfl⟩)
   ·exact .inr (.inl rfl)
theorem Mu {a:List ByteArray} {s:ByteArray} (h:zf a):zf (ms a s):=by
 rw[ms]
 split
 ·exact h
 ·rename_i hs
  unfold zf at h ⊢
  rw[List.pairwise_append,List.pairwise_cons]
  have hge: ∀x∈a,(!b7 x s)=true→b7 s x=true:=fun x hx hn=>by
   rcases zO x s with h1|h1|h1
   ·rw[h1]at hn;cases hn
   ·exact absurd (h1▸hx) hs
   ·exact h1
  refine⟨h.filter _,⟨fun x hx=> ?_,h.filter _⟩,fun x hx y hy=> ?_⟩
  ·obtain⟨h1,h2⟩:=List.mem_filter.1 hx
   exact hge x h1 h2
  ·obtain⟨h1,h2⟩:=List.mem_filter.1 hx
   rcases List.mem_cons.1 hy with rfl|hy
   ·exact h2
   ·obtain⟨h3,h4⟩:=List.mem_filter.1 hy
    exact gC h2 (hge y h3 h4)
theorem To {a:List ByteArray} {s:ByteArray}:(ms a s).length≤a.length+1:=by
 rw[ms]
 split
 ·omega
 ·rw[List.length_append,List.length_cons]
  have h: ∀l:List ByteArray,(l.filter fun x=>b7 x s).length+(l.filter fun x=> !b7 x s).length=l.length:=fun l=>by
   induction l with
   |nil=>rfl
   |cons x l ih=>
    rw[List.filter_cons,List.filter_cons,List.length_cons]
    cases b7 x s
    ·simp only[Bool.false_eq_true,if_false,Bool.not_false,if_true,List.length_cons];omega
    ·simp only[if_true,Bool.not_true,Bool.false_eq_true,if_false,List.length_cons];omega
  have:=h a
  omega
theorem TZ {a:List ByteArray} {s:ByteArray} {p:Nat} (h:zf a) (hs: ¬s∈a) (h1: ∀x∈a.drop p,b7 s x=true) (h2: ∀x∈a.take p,b7 x s=true):ms a s=a.take p++s::a.drop p:=by
 have e1:a.filter (fun x=>b7 x s)=a.take p:=by
  conv=>lhs;rw[←List.take_append_drop p a]
  rw[List.filter_append,List.filter_eq_self.2 h2,List.filter_eq_nil_iff.2 (fun x hx h=>by
   have:=oc (h1 x hx)
   rw[h]at this
   simp at this),List.append_nil]
 have e2:a.filter (fun x=> !b7 x s)=a.drop p:=by
  conv=>lhs;rw[←List.take_append_drop p a]
  rw[List.filter_append,List.filter_eq_nil_iff.2 (fun x hx h=>by rw[h2 x hx]at h;cases h),List.nil_append,List.filter_eq_self.2 (fun x hx=>by
   have:=oc (h1 x hx)
   simpa using this)]
 rw[ms,if_neg hs,e1,e2]
theorem P1 {a:List ByteArray} {s:ByteArray} {p:Nat} (h:zf a) (hp:p<a.length) (h2:b7 a[p] s=true): ∀x∈a.take (p+1),b7 x s=true:=by
 intro x hx
 obtain⟨i,hi,rfl⟩:=List.mem_iff_getElem.1 hx
 rw[List.length_take]at hi
 rw[List.getElem_take]
 by_cases e:i=p
 ·subst e;exact h2
 ·exact gC (List.pairwise_iff_getElem.1 h i p (by omega) hp (by omega)) h2
abbrev fZ (l:List ByteArray):List (List PC):=l.map fun s=> [pS s]
theorem Sc {a:List ByteArray} {s:ByteArray} {p:Nat} (hp:p<a.length):((fZ (a.take (p+1)++s::a.drop (p+1))).set (p+1) [pS a[p]]).set p [pS s]=fZ (a.take p++s::a.drop p):=by
 apply List.ext_getElem?
 intro i
 rw[List.getElem?_set,List.getElem?_set]
 have hl1:(a.take (p+1)).length=p+1:=by rw[List.length_take];omega
 have hl2:(a.take p).length=p:=by rw[List.length_take];omega
 simp only[fZ,List.length_set,List.length_map,List.length_append,List.length_cons,hl1,List.length_drop]
 by_cases e1:p=i
 ·subst e1
  rw[if_pos rfl,if_pos (by omega),List.getElem?_map,List.getElem?_append_right (by omega),hl2]
  simp
 ·rw[if_neg e1]
  by_cases e2:p+1=i
  ·subst e2
   rw[if_pos rfl,if_pos (by omega),List.getElem?_map,List.getElem?_append_right (by omega),hl2,show p+1-p=1 by omega,List.getElem?_cons_succ,List.getElem?_drop]
   simp[hp]
  ·rw[if_neg e2,List.getElem?_map,List.getElem?_map]
   congr 1
   by_cases e3:i<p
   ·rw[List.getElem?_append_left (by omega),List.getElem?_append_left (by omega),List.getElem?_take_of_lt (by omega),List.getElem?_take_of_lt (by omega)]
   ·rw[List.getElem?_append_right (by omega),List.getElem?_append_right (by omega),hl1,hl2]
    obtain⟨k,rfl⟩: ∃k,i=p+2+k:=⟨i-(p+2),by omega⟩
    rw[show p+2+k-(p+1)=k+1 by omega,show p+2+k-p=(k+1)+1 by omega,List.getElem?_cons_succ,List.getElem?_cons_succ,List.getElem?_drop,List.getElem?_drop]
    congr 1
    omega
theorem zP {a:List ByteArray} {s:ByteArray} (h:s∈a):am Tryz.prog jr [.c (.ref 0),S s] [(0,.arr 9 1 (fZ a))] 1 (.c (.ref 0)) [(0,.arr 9 1 (fZ a))] 1:=by
 refine am.of sv (by simp) fun _=>aa ?_
 have ph:=gQ a s
 rw[decide_eq_true h]at ph
 clear h
 conv in m5=>cbv
 repeat' first|simp(disch:=omega) only[go_sem, *]|((with_reducible refine ab ?_ ?_)<;>intro h<;>try omega)|(refine av ph rfl rfl ?_)
 all_goals rfl
set_option maxHeartbeats 2000000 in
theorem Az {a:List ByteArray} {s:ByteArray} (h: ¬s∈a) (hs:zf a) (hl:a.length≤1000000000):am Tryz.prog jr [.c (.ref 0),S s] [(0,.arr 9 1 (fZ a))] 1 (.c (.ref 1)) [(1,.arr 9 1 (fZ (ms a s)))] 2:=by
 refine am.of sv (by simp) fun _=>aa ?_
 have ph:=gQ a s
 rw[decide_eq_false h]at ph
 conv in m5=>cbv
 obtain⟨R,hR⟩: ∃R,R=fZ (ms a s):=⟨_,rfl⟩
 rw[←hR]
 have HR:Hid (∀p,(∀x∈a.drop p,b7 s x=true)→(∀x∈a.take p,b7 x s=true)→R=fZ (a.take p++s::a.drop p)):=Lib.hid (fun p h1 h2=>by rw[hR,TZ hs h h1 h2])
 have HN:=Lib.hid h
 have HS:=Lib.hid hs
 clear hR h hs
 have e0:((fZ a++ [[PC.val (Value.string s)]]).length:Int)=(a.length:Int)+1:=by simp
 have w0:IntKind.wrap .i64 ((a.length:Int)+1-1)=(a.length:Int):=by rw[wrap_i64 (by omega)];omega
 repeat' first|simp(disch:=omega) only[go_sem, *,e0,w0]|((with_reducible refine ab ?_ ?_)<;>intro h<;>try omega)|(refine av ph rfl rfl ?_)|(refine aN rfl (by intro h;cases h) (aI rfl) (by simp;omega) (by simp;omega) ?_)
 clear ph
 have est:fZ a++ [[PC.val (Value.string s)]]=fZ (a.take a.length++s::a.drop a.length):=by simp[fZ]
 rw[est]
 refine aj (fun p:Nat=>⟨[(0,.c (.ref 1)),(5,I p)], [(1,.arr 9 1 (fZ (a.take p++s::a.drop p)))],2,1⟩) (fun p=>p≤a.length∧Hid (∀x∈a.drop p,b7 s x=true)) (fun p=>p) ⟨a.length, [],⟨Nat.le_refl _,Lib.hid (by simp)⟩,by simp⟩ ?_
 clear est e0 w0
 rintro p ⟨hp,HD⟩
 refine aa ?_
 cases p with
 |zero=>
  have hR:=HR.out 0 HD.out (by simp)
  subst hR
  clear HR HN HS HD
  repeat' first|simp(disch:=omega) only[go_sem, *,Int.natCast_zero]|((with_reducible refine ab ?_ ?_)<;>intro h<;>try omega)
  all_goals rfl
 |succ q=>
  have hq:q<a.length:=hp
  have hlen:(a.take (q+1)).length=q+1:=by rw[List.length_take];omega
  have g1:(fZ (a.take (q+1)++s::a.drop (q+1)))[q]? =some [pS a[q]]:=by
   rw[fZ,List.getElem?_map,List.getElem?_append_left (by omega),List.getElem?_take_of_lt (by omega)]
   simp[hq]
  have g2:(fZ (a.take (q+1)++s::a.drop (q+1)))[q+1]? =some [pS s]:=by
   rw[fZ,List.getElem?_map,List.getElem?_append_right (by omega),hlen]
   simp
  have e1:=Sc (s:=s) hq
  have wq:IntKind.wrap .i64 ((q:Int)+1-1)=q:=by rw[wrap_i64 (by omega)];omega
  have cq:((q+1:Nat):Int)=(q:Int)+1:=by omega
  have tq:((q:Int)+1).toNat=q+1:=by omega
  by_cases hl:b7 s a[q]=true
  ·have HD':Hid (∀x∈a.drop q,b7 s x=true):=Lib.hid (by
    rw[List.drop_eq_getElem_cons hq]
    intro x hx
    rcases List.mem_cons.1 hx with rfl|hx
    ·exact hl
    ·exact HD.out x hx)
   have hl':Op.bytesLess a[q].toList s.toList=false:=by simpa[b7]using oc hl
   have hne: ¬a[q]=s:=fun e=>by rw[e]at hl;exact jD _ hl
   clear HR HN HS HD hl
   generalize hRW:fZ (a.take (q+1)++s::a.drop (q+1))=RW at*
   have hRl:q+1<RW.length:=by
    rw[←hRW]
    simp only[fZ,List.length_map,List.length_append,List.length_cons,hlen,List.length_drop]
    omega
   clear hRW
   generalize hRW2:fZ (a.take q++s::a.drop q)=RW2 at*
   generalize a[q]=x at*
   have g3:(RW.set (q+1) [pS x])[q]? =some [pS x]:=by rw[List.getElem?_set,if_neg (by omega)];exact g1
   repeat' first|simp(disch:=omega) only[go_sem, *,g1,g2,g3,hl',hne,wq,cq,tq,wrap_i64,Int.toNat_natCast,List.length_set,decide_false,Bool.or_false,Bool.not_false]|((with_reducible refine ab ?_ ?_)<;>intro h<;>try omega)|(with_reducible refine af ?_ ?_)|(with_reducible refine ag (fun h=> ?_) ?_)
   exact⟨q, [],⟨by omega,HD'⟩,by omega,by simp[e1,hRW2]⟩
  ·have hl2:b7 a[q] s=true:=by
    rcases zO s a[q]with h|h|h
    ·exact absurd h hl
    ·exact absurd (by rw[h];exact List.getElem_mem _) HN.out
    ·exact h
   have hR:=HR.out (q+1) HD.out (P1 HS.out hq hl2)
   rw[←hR]
   rw[←hR]at g1 g2
   have hl':Op.bytesLess a[q].toList s.toList=true:=hl2
   have hRl:q+1<R.length:=by
    rw[hR]
    simp only[fZ,List.length_map,List.length_append,List.length_cons,hlen,List.length_drop]
    omega
   clear HR HN HS HD hl hl2 e1 hR
   generalize a[q]=x at*
   repeat' first|simp(disch:=omega) only[go_sem, *,g1,g2,hl',wq,cq,tq,wrap_i64,Int.toNat_natCast,Bool.true_or,Bool.not_true]|((with_reducible refine ab ?_ ?_)<;>intro h<;>try omega)|(with_reducible refine af ?_ ?_)|(with_reducible refine ag (fun h=> ?_) ?_)
   all_goals rfl
theorem Hl {l:List ca} {k:Nat} (h:k<l.length):bE (l.drop k)=l[k].2.map (·.1)++bE (l.drop (k+1)):=by
 rw[List.drop_eq_getElem_cons h,bE,List.flatMap_cons];rfl
set_option maxHeartbeats 2000000 in
theorem Cx {l:List ca} (hs:(bE l).length≤1000000000):ac Tryz.prog oq [d8 lP l] (pT (Jz (bE l))):=by
 refine ac.of Fy (by simp) fun hb=>aa ?_
 have hbl:l.length≤9223372036854775807:=by have:=hb.1;simpa[ie,iz]using this
 clear hb
 conv in v8=>cbv
 obtain⟨R,hR⟩: ∃R,R=(bE (l.drop 0)).foldl ms []:=⟨_,rfl⟩
 have hR0:Jz (bE l)=R:=hR.symm
 rw[hR0]
 have HR:=Lib.hid hR
 clear hR hR0
 repeat' first|simp(disch:=omega) only[go_sem, *]|((with_reducible refine ab ?_ ?_)<;>intro h<;>try omega)
 refine dv 3 9 1 rfl (by decide) ?_
 refine aj (fun s:Nat×List ByteArray=>⟨[(0,d8 lP l),(3,.c (.ref 0)),(4,I s.1)], [(0,.arr 9 1 (fZ s.2))],1,0⟩)
  (fun s=>s.1≤l.length∧s.2.length+(bE (l.drop s.1)).length≤1000000000∧Hid (zf s.2)∧Hid (R=(bE (l.drop s.1)).foldl ms s.2)) (fun s=>l.length-s.1) ⟨(0, []), [],⟨Nat.zero_le _,by simpa using hs,Lib.hid List.Pairwise.nil,HR⟩,by simp⟩ ?_
 clear HR hs
 rintro⟨k,acc⟩ ⟨hk,ha,HS,HR⟩
 simp only at hk ha HS HR
 refine aa ?_
 by_cases hlt:k<l.length
 ·have g1:=ae (f:=lP) hlt
  have h2:=HR.out
  rw[Hl hlt,List.foldl_append]at h2
  rw[Hl hlt,List.length_append,List.length_map]at ha
  clear HR
  generalize l[k]=c at*
  obtain⟨ck,cl⟩:=c
  simp only[lP]at g1
  simp only at h2 ha
  have HR:Hid (R=(bE (l.drop (k+1))).foldl ms (((cl.drop 0).map (·.1)).foldl ms acc)):=Lib.hid h2
  clear h2
  generalize hT:(bE (l.drop (k+1))).length=TL at*
  have hcl:cl.length≤1000000000:=by omega
  repeat' first|simp(disch:=omega) only[go_sem, *,g1]|((with_reducible refine ab ?_ ?_)<;>intro h<;>try omega)
  refine aj (fun s:Nat×List ByteArray=>⟨[(0,d8 lP l),(3,.c (.ref 0)),(4,I k),(5,I s.1)], [(0,.arr 9 1 (fZ s.2))],1,0⟩)
   (fun s=>s.1≤cl.length∧s.2.length+(cl.length-s.1)+TL≤1000000000∧Hid (zf s.2)∧Hid (R=(bE (l.drop (k+1))).foldl ms (((cl.drop s.1).map (·.1)).foldl ms s.2))) (fun s=>cl.length-s.1) ⟨(0,acc), [],⟨Nat.zero_le _,by simp only;omega,HS,HR⟩,by simp⟩ ?_
  clear HR ha HS
  rintro⟨j,acc⟩ ⟨hj,ha,HS,HR⟩
  simp only at hj ha HS HR
  refine aa ?_
  by_cases hlj:j<cl.length
  ·have g2:=ae (f:=mP) hlj
   have h2:=HR.out
   rw[List.drop_eq_getElem_cons hlj,List.map_cons,List.foldl_cons]at h2
   have HS2:Hid (zf (ms acc cl[j].1)):=Lib.hid (Mu HS.out)
   have hil:=To (a:=acc) (s:=cl[j].1)
   clear HR
   by_cases hn:cl[j].1∈acc
   ·have ph:=zP hn
    have e:ms acc cl[j].1=acc:=by rw[ms,if_pos hn]
    rw[e]at h2 HS2
    have HR:=Lib.hid h2
    clear h2 hn HS e hil
    generalize cl[j]=m at*
    obtain⟨n,x⟩:=m
    simp only[mP]at g2
    simp only at ph
    repeat' first|simp(disch:=omega) only[go_sem, *,g1,g2,wrap_i64]|((with_reducible refine ab ?_ ?_)<;>intro h<;>try omega)|(refine aq ph ?_)
    exact⟨(j+1,acc), [],⟨hlj,by simp only;omega,HS2,HR⟩,by show _-_<_-_;omega,by simp⟩
   ·have ph:=Az hn HS.out (by omega)
    have HR:=Lib.hid h2
    clear h2 hn HS
    generalize ms acc cl[j].1=acc2 at*
    generalize cl[j]=m at*
    obtain⟨n,x⟩:=m
    simp only[mP]at g2
    simp only at ph
    repeat' first|simp(disch:=omega) only[go_sem, *,g1,g2,wrap_i64]|((with_reducible refine ab ?_ ?_)<;>intro h<;>try omega)|(refine aq ph ?_)
    exact⟨(j+1,acc2), [(0,1)],⟨hlj,by simp only;omega,HS2,HR⟩,by show _-_<_-_;omega,by simp⟩
  ·have h2:=HR.out
   rw[List.drop_eq_nil_of_le (by omega)]at h2
   have HR:Hid (R=(bE (l.drop (k+1))).foldl ms acc):=Lib.hid h2
   clear h2
   repeat' first|simp(disch:=omega) only[go_sem, *,g1,wrap_i64]|((with_reducible refine ab ?_ ?_)<;>intro h<;>try omega)
   exact⟨(k+1,acc), [],⟨hlt,by simp only[hT];omega,HS,HR⟩,by show _-_<_-_;omega,by simp⟩
 ·have h2:=HR.out
  rw[List.drop_eq_nil_of_le (by omega)]at h2
  simp only[bE,List.flatMap_nil,List.foldl_nil]at h2
  subst h2
  clear HR HS
  repeat' first|simp(disch:=omega) only[go_sem, *]|((with_reducible refine ab ?_ ?_)<;>intro h<;>try omega)
  all_goals rfl
set_option maxRecDepth 20000
set_option maxRecDepth 1000000
theorem Vi {l:List aP} (h: ∀m∈l,aA m.2) (n:ByteArray):aA (cf l n):=by
 by_cases h0:cf l n=0
 ·rw[h0];exact dn
 ·obtain⟨m,h1,_,h2⟩:=Xt h0
  rw[←h2];exact h m h1
theorem rU (k:Int):ac Tryz.prog oK [I k] (dj k []):=by
 refine ac.of DU (by simp) fun _=>aa ?_
 conv in wZ=>cbv
 repeat' first|simp(disch:=omega) only[go_sem, *]|((with_reducible refine ab ?_ ?_)<;>intro h<;>try omega)
 all_goals rfl
theorem rS (k:Int) (l:List aP) (n:ByteArray):ac Tryz.prog oO [dj k l,S n] (I (cf l n)):=by
 refine ac.of DG (by simp) fun hb=>aa ?_
 have hbl:l.length≤9223372036854775807:=by have:=hb.1;simpa[ie,iz,lO]using this
 clear hb
 conv in vK=>cbv
 obtain⟨R,hR⟩: ∃R,R=cf (l.drop 0) n:=⟨_,rfl⟩
 have hR0:cf l n=R:=hR.symm
 rw[hR0]
 have HR:=Lib.hid hR
 clear hR hR0
 repeat' first|simp(disch:=omega) only[go_sem, *]|((with_reducible refine ab ?_ ?_)<;>intro h<;>try omega)
 refine aj (fun j:Nat=>⟨[(1,S n),(2,.c (.ptr 0 0)),(5,I j)], [(0,.var [.pure (pI k),.pure (aE l)])],1,0⟩) (fun j=>j≤l.length∧Hid (R=cf (l.drop j) n)) (fun j=>l.length-j) ⟨0, [],⟨Nat.zero_le _,HR⟩,by simp⟩ ?_
 clear HR
 rintro j ⟨hj,HR⟩
 refine aa ?_
 by_cases hlt:j<l.length
 ·have g1:=ae (f:=mP) hlt
  have h2:=HR.out
  rw[List.drop_eq_getElem_cons hlt,cf]at h2
  clear HR
  generalize l[j]=m at*
  obtain⟨m,x⟩:=m
  simp only[mP]at g1
  simp only at h2
  by_cases hn:m=n
  ·rw[if_pos hn]at h2
   subst h2
   subst hn
   repeat' first|simp(disch:=omega) only[go_sem, *,g1,wrap_i64]|((with_reducible refine ab ?_ ?_)<;>intro h<;>try omega)
   all_goals rfl
  ·rw[if_neg hn]at h2
   have HR:=Lib.hid h2
   clear h2
   repeat' first|simp(disch:=omega) only[go_sem, *,g1,hn,wrap_i64]|((with_reducible refine ab ?_ ?_)<;>intro h<;>try omega)
   exact⟨j+1, [],⟨hlt,HR⟩,by omega,by simp⟩
 ·have h2:=HR.out
  rw[List.drop_eq_nil_of_le (by omega),cf]at h2
  subst h2
  clear HR
  repeat' first|simp(disch:=omega) only[go_sem, *]|((with_reducible refine ab ?_ ?_)<;>intro h<;>try omega)
  all_goals rfl
theorem EA {a:ca} {b:Int} (h0:b≠0) (h: ¬qG a b):nn a b=((0, []),3):=by rw[nn,if_neg (by rintro(h'|h');exact h0 h';exact h h')]
theorem Ni {a:ca} {b:Int} (h0:b≠0) (h:qG a b):nn a b=((a.1*b,a.2.map fun m=>(m.1,m.2*b)),0):=by rw[nn,if_pos (.inr h),mF,if_neg h0]
def JE (b:Int) (l:List aP):List (List PC):=(l.map fun m=>(m.1,m.2*b)).map mP
set_option maxHeartbeats 2000000 in
theorem lB {a:ca} {b:Int} (ha:bj a) (hb:aA b) (hs:ft a.2):ac Tryz.prog oG [dj a.1 a.2,I b] (KA (bJ a b)):=by
 refine ac.of Ek (by simp) fun _=>aa ?_
 conv in wu=>cbv
 have pv:=dB a.1 a.2
 unfold bJ
 by_cases hok:cd a.2
 ·rw[if_pos hok]at pv
  rw[if_neg (not_not_intro hok)]
  by_cases h0:b=0
  ·have e:nn a b=((0, []),0):=by rw[nn,if_pos (.inl h0),mF,if_pos h0]
   rw[e]
   clear hok ha
   obtain⟨k,l⟩:=a
   simp only at pv
   repeat' first|simp(disch:=omega) only[go_sem, *,h0]|((with_reducible refine ab ?_ ?_)<;>intro h<;>try omega)|(refine av pv rfl rfl ?_)
   all_goals rfl
  ·have pt:=uf ha.1 hb
   by_cases hk:aA (a.1*b)
   ·have ek:f9 (a.1*b)=(a.1*b,true):=by rw[f9,if_pos hk]
    rw[ek]at pt
    obtain⟨R,hR⟩: ∃R,R=nn a b:=⟨_,rfl⟩
    rw[←hR]
    have HR:=Lib.hid hR
    have HK:=Lib.hid hk
    clear hR hok hk ek
    obtain⟨_,hl⟩:=ha
    obtain⟨k,l⟩:=a
    unfold ft at hs
    simp only at pv pt hl hs
    generalize hkb:k*b=kb at*
    have HKB:=Lib.hid hkb
    clear hkb
    repeat' first|simp(disch:=omega) only[go_sem, *,h0]|((with_reducible refine ab ?_ ?_)<;>intro h<;>try omega)|(refine av pv rfl rfl ?_)|(refine av pt rfl rfl ?_)
    refine fc 2 1 89 2 _ rfl rfl (by decide) ?_
    refine aj (fun j:Nat=>⟨[(1,I b),(2,.c (.ptr 0 0)),(4,.c (.ptr 1 0)),(8,.c (.ptr 2 0)),(9,I j)],
     [(0,.var [.pure (pI k),.pure (aE l)]),(1,.var [.pure (pI 0),.nils]),(2,.var [.pure (pI kb),.ref 3]),(3,.arr 89 2 (JE b (l.take j)))],4,0⟩) (fun j=>j≤l.length∧Hid (∀m∈l.take j,aA (m.2*b))) (fun j=>l.length-j) ⟨0, [],⟨Nat.zero_le _,Lib.hid (by simp)⟩,by simp[JE]⟩ ?_
    clear pv pt
    rintro j ⟨hj,HT⟩
    refine aa ?_
    by_cases hlt:j<l.length
    ·have g1:=ae (f:=mP) hlt
     have hx:=hl _ (List.getElem_mem hlt)
     have pt:=uf hx hb
     have hlen:(JE b (l.take j)).length≤1000000000:=by simp[JE];omega
     have e1:JE b (l.take (j+1))=JE b (l.take j)++ [[pS l[j].1,pI (l[j].2*b)]]:=by
      rw[JE,JE,List.take_succ_eq_append_getElem hlt,List.map_append,List.map_append];rfl
     by_cases hm:aA (l[j].2*b)
     ·have ek:f9 (l[j].2*b)=(l[j].2*b,true):=by rw[f9,if_pos hm]
      rw[ek]at pt
      have HT':Hid (∀m∈l.take (j+1),aA (m.2*b)):=Lib.hid (by
       rw[List.take_succ_eq_append_getElem hlt]
       intro m hmm
       rcases List.mem_append.1 hmm with h|h
       ·exact HT.out m h
       ·rw[List.mem_singleton.1 h];exact hm)
      clear HT hm ek hx
      generalize l[j]=m at*
      obtain⟨n,x⟩:=m
      simp only[mP]at g1
      simp only at pt e1
      generalize x*b=xb at*
      generalize JE b (l.take j)=D0 at*
      repeat' first|simp(disch:=omega) only[go_sem, *,g1,wrap_i64]|((with_reducible refine ab ?_ ?_)<;>intro h<;>try omega)|(refine av pt rfl rfl ?_)|(refine aN rfl (by intro h;cases h) (aI rfl) (by simp;omega) (by simp;omega) ?_)
      exact⟨j+1, [(3,4)],⟨hlt,HT'⟩,by omega,by simp[e1]⟩
     ·have ek:f9 (l[j].2*b)=(0,false):=by rw[f9,if_neg hm]
      rw[ek]at pt
      have h2:R=((0, []),3):=by rw[HR.out];exact EA h0 fun h=>hm (h.2 _ (List.getElem_mem hlt))
      subst h2
      clear HR HT hm ek hx e1
      generalize l[j]=m at*
      obtain⟨n,x⟩:=m
      simp only[mP]at g1
      simp only at pt
      repeat' first|simp(disch:=omega) only[go_sem, *,g1,wrap_i64]|((with_reducible refine ab ?_ ?_)<;>intro h<;>try omega)|(refine av pt rfl rfl ?_)
      all_goals rfl
    ·obtain rfl:j=l.length:=by omega
     have hT:=HT.out
     rw[List.take_of_length_le (Nat.le_refl _)]at hT
     have h2:R=((kb,l.map fun m=>(m.1,m.2*b)),0):=by
      rw[HR.out,←HKB.out]
      exact Ni h0 ⟨by rw[HKB.out];exact HK.out,hT⟩
     subst h2
     clear HR HT hT HK HKB
     rw[List.take_of_length_le (Nat.le_refl _)]
     repeat' first|simp(disch:=omega) only[go_sem, *]|((with_reducible refine ab ?_ ?_)<;>intro h<;>try omega)
     all_goals rfl
   ·have ek:f9 (a.1*b)=(0,false):=by rw[f9,if_neg hk]
    rw[ek]at pt
    rw[EA h0 fun h=>hk h.1]
    clear hok hk ek ha
    obtain⟨k,l⟩:=a
    simp only at pv pt
    repeat' first|simp(disch:=omega) only[go_sem, *,h0]|((with_reducible refine ab ?_ ?_)<;>intro h<;>try omega)|(refine av pv rfl rfl ?_)|(refine av pt rfl rfl ?_)
    all_goals rfl
 ·rw[if_neg hok]at pv
  rw[if_pos hok]
  clear hok
  obtain⟨k,l⟩:=a
  simp only at pv
  repeat' first|simp(disch:=omega) only[go_sem, *]|((with_reducible refine ab ?_ ?_)<;>intro h<;>try omega)|(refine av pv rfl rfl ?_)
  all_goals rfl
theorem KC: ∀{a b:List ByteArray},zf a→zf b→(∀n,n∈a↔n∈b)→a=b
 | [], [],_,_,_=>rfl
 | [],y::b,_,_,h=>absurd ((h y).2 List.mem_cons_self) (by simp)
 |x::a, [],_,_,h=>absurd ((h x).1 List.mem_cons_self) (by simp)
 |x::a,y::b,ha,hb,h=>by
  obtain⟨a1,a2⟩:=List.pairwise_cons.1 ha
  obtain⟨b1,b2⟩:=List.pairwise_cons.1 hb
  have e:x=y:=by
   rcases List.mem_cons.1 ((h x).1 List.mem_cons_self)with e|e
   ·exact e
   ·rcases List.mem_cons.1 ((h y).2 List.mem_cons_self)with e'|e'
    ·exact e'.symm
    ·exact absurd (b1 x e) (oc (a1 y e'))
  subst e
  rw[KC a2 b2 fun n=> ?_]
  constructor
  ·intro hn
   rcases List.mem_cons.1 ((h n).1 (List.mem_cons_of_mem _ hn))with e|e
   ·subst e
    exact absurd (a1 n hn) (jD n)
   ·exact e
  ·intro hn
   rcases List.mem_cons.1 ((h n).2 (List.mem_cons_of_mem _ hn))with e|e
   ·subst e
    exact absurd (b1 n hn) (jD n)
   ·exact e
theorem IA: ∀{s a:List ByteArray} {n:ByteArray},n∈s.foldl ms a↔n∈a∨n∈s
 | [],a,n=>by simp
 |b::s,a,n=>by
  rw[List.foldl_cons,IA,Sk]
  simp only[List.mem_cons,or_assoc]
theorem IF: ∀{s a:List ByteArray},zf a→zf (s.foldl ms a)
 | [],a,h=>h
 |b::s,a,h=>by
  rw[List.foldl_cons]
  exact IF (Mu h)
theorem Kv {k1 k2:Int} {l1 l2:List aP} (h1:Sd l1) (h2:Sd l2):Jz (bE [(k1,l1),(k2,l2)])=(bI l1 l2).map (·.1):=by
 obtain⟨m1,m2,m3⟩:=kD l1 l2 h1 h2
 refine KC (IF List.Pairwise.nil) (by unfold zf;rw[List.pairwise_map];exact m1) fun n=> ?_
 rw[Jz,IA]
 simp only[bE,List.flatMap_cons,List.flatMap_nil,List.append_nil,List.mem_append,List.mem_map,List.not_mem_nil,false_or]
 constructor
 ·rintro(⟨m,hm,rfl⟩|⟨m,hm,rfl⟩)
  ·obtain⟨t,ht,e⟩:=m3 m (.inl hm)
   exact⟨t,ht,e⟩
  ·obtain⟨t,ht,e⟩:=m3 m (.inr hm)
   exact⟨t,ht,e⟩
 ·rintro⟨t,ht,rfl⟩
  obtain⟨_,_,h⟩:=m2 t ht
  rcases h with⟨m,hm,e⟩|⟨m,hm,e⟩
  ·exact .inl ⟨m,hm,e⟩
  ·exact .inr ⟨m,hm,e⟩
def vZ (T:List SI):List (List PC):=(Al T).map mP
theorem M9 {T:List SI} {j:Nat} (h:j<T.length):vZ (T.take (j+1))=if T[j].2.1+T[j].2.2=0 then vZ (T.take j)else vZ (T.take j)++ [[pS T[j].1,pI (T[j].2.1+T[j].2.2)]]:=by
 rw[vZ,vZ,List.take_succ_eq_append_getElem h,Al,List.filterMap_append]
 by_cases h0:T[j].2.1+T[j].2.2=0
 ·rw[if_pos h0]
  simp[h0,Al]
 ·rw[if_neg h0]
  simp[h0,Al,mP]
theorem Sw (T:List SI):(Al T).length≤T.length:=List.length_filterMap_le _ _
theorem Mi {a b:ca} (h: ¬Im a b):gh a b=((0, []),3):=by rw[gh,if_neg h]
set_option maxHeartbeats 4000000 in
theorem kp {a b:ca} (ha:bj a) (hb:bj b) (hs:a.2.length+b.2.length≤1000000000):ac Tryz.prog uu [dj a.1 a.2,dj b.1 b.2] (KA (fV a b)):=by
 refine ac.of Jo (by simp) fun _=>aa ?_
 obtain⟨k1,l1⟩:=a
 obtain⟨k2,l2⟩:=b
 obtain⟨hk1,hl1⟩:=ha
 obtain⟨hk2,hl2⟩:=hb
 simp only at hk1 hl1 hk2 hl2 hs
 have pv1:=dB k1 l1
 have pv2:=dB k2 l2
 have pp:=wI hk1 hk2
 conv in BP=>cbv
 unfold fV
 simp only
 by_cases o1:cd l1
 ·by_cases o2:cd l2
  ·rw[if_pos o1]at pv1
   rw[if_pos o2]at pv2
   rw[if_neg (by rintro(h|h);exact h o1;exact h o2)]
   by_cases hk:aA (k1+k2)
   ·have ek:f9 (k1+k2)=(k1+k2,true):=by rw[f9,if_pos hk]
    rw[ek]at pp
    obtain⟨m1,m2,m3⟩:=kD l1 l2 (mB.1 o1).1 (mB.1 o2).1
    have hTl:=nj l1 l2
    have pn:=Cx (l:= [(k1,l1),(k2,l2)]) (by simp[bE];omega)
    rw[Kv (mB.1 o1).1 (mB.1 o2).1]at pn
    have hc1: ∀n,aA (cf l1 n):=Vi hl1
    have hc2: ∀n,aA (cf l2 n):=Vi hl2
    obtain⟨R,hR⟩: ∃R,R=gh (k1,l1) (k2,l2):=⟨_,rfl⟩
    rw[←hR]
    have HBad:Hid ((∃t∈bI l1 l2,¬aA (t.2.1+t.2.2))→R=((0, []),3)):=Lib.hid fun⟨t,ht,h⟩=>by
     rw[hR];exact Mi fun h'=>h (h'.2 t ht)
    have HGood:Hid ((∀t∈bI l1 l2,aA (t.2.1+t.2.2))→R=((k1+k2,Al (bI l1 l2)),0)):=Lib.hid fun h=>by
     rw[hR,gh,if_pos ⟨hk,h⟩];rfl
    have pc1:=fun n=>rS k1 l1 n
    have pc2:=fun n=>rS k2 l2 n
    clear hR ek hk m1 m3 o1 o2 hl1 hl2 hk1 hk2
    generalize bI l1 l2=T at*
    generalize k1+k2=K at*
    repeat' first|simp(disch:=omega) only[go_sem, *]|((with_reducible refine ab ?_ ?_)<;>intro h<;>try omega)|(refine av pv1 rfl rfl ?_)|(refine av pv2 rfl rfl ?_)|(refine av pp rfl rfl ?_)|(refine bS pn rfl rfl ?_)
    clear pv1 pv2 pp pn
    refine fc 3 1 89 2 _ rfl rfl (by decide) ?_
    refine aj (fun j:Nat=>⟨[(2,.c (.ptr 0 0)),(3,.c (.ptr 1 0)),(4,.c (.ptr 2 0)),(8,.c (.ptr 3 0)),(9,pT (T.map (·.1))),(10,I j)],
     [(0,.var [.pure (pI k1),.pure (aE l1)]),(1,.var [.pure (pI k2),.pure (aE l2)]),(2,.var [.pure (pI 0),.nils]),(3,.var [.pure (pI K),.ref 4]),(4,.arr 89 2 (vZ (T.take j)))],5,0⟩) (fun j=>j≤T.length∧Hid (∀t∈T.take j,aA (t.2.1+t.2.2))) (fun j=>T.length-j) ⟨0, [],⟨Nat.zero_le _,Lib.hid (by simp)⟩,by simp[vZ,Al]⟩ ?_
    rintro j ⟨hj,HT⟩
    refine aa ?_
    have hml:((T.map (·.1)).map fun s=> [pS s]).length=T.length:=by simp
    by_cases hlt:j<T.length
    ·have g1:((T.map (·.1)).map fun s=> [pS s])[j]? =some [pS T[j].1]:=by simp[hlt]
     obtain⟨t1,t2,_⟩:=m2 _ (List.getElem_mem hlt)
     have q1:=pc1 T[j].1
     have q2:=pc2 T[j].1
     have b1:=hc1 T[j].1
     have b2:=hc2 T[j].1
     rw[←t1]at q1 b1
     rw[←t2]at q2 b2
     have qp:=wI b1 b2
     have e1:=M9 hlt
     have hlen:(vZ (T.take j)).length≤2000000000:=by
      have:=Sw (T.take j)
      rw[List.length_take]at this
      simp only[vZ,List.length_map]
      omega
     by_cases hm:aA (T[j].2.1+T[j].2.2)
     ·have ek:f9 (T[j].2.1+T[j].2.2)=(T[j].2.1+T[j].2.2,true):=by rw[f9,if_pos hm]
      rw[ek]at qp
      have HT':Hid (∀t∈T.take (j+1),aA (t.2.1+t.2.2)):=Lib.hid (by
       rw[List.take_succ_eq_append_getElem hlt]
       intro t ht
       rcases List.mem_append.1 ht with h|h
       ·exact HT.out t h
       ·rw[List.mem_singleton.1 h];exact hm)
      clear HT hm ek b1 b2 t1 t2 m2 pc1 pc2 hc1 hc2
      generalize T[j]=t at*
      obtain⟨n,x,y⟩:=t
      simp only at g1 q1 q2 qp e1
      generalize x+y=xy at*
      generalize vZ (T.take j)=D0 at*
      by_cases hz:xy=0
      ·rw[if_pos hz]at e1
       subst hz
       repeat' first|simp(disch:=omega) only[go_sem, *,g1,hml,wrap_i64]|((with_reducible refine ab ?_ ?_)<;>intro h<;>try omega)|(with_reducible refine af ?_ ?_)|(with_reducible refine ag (fun h=> ?_) ?_)|(refine av q1 rfl rfl ?_)|(refine av q2 rfl rfl ?_)|(refine av qp rfl rfl ?_)
       all_goals exact⟨j+1, [],⟨hlt,HT'⟩,by omega,by simp[e1]⟩
      ·rw[if_neg hz]at e1
       repeat' first|simp(disch:=omega) only[go_sem, *,g1,hml,hz,wrap_i64]|((with_reducible refine ab ?_ ?_)<;>intro h<;>try omega)|(with_reducible refine af ?_ ?_)|(with_reducible refine ag (fun h=> ?_) ?_)|(refine av q1 rfl rfl ?_)|(refine av q2 rfl rfl ?_)|(refine av qp rfl rfl ?_)|(refine aN rfl (by intro h;cases h) (aI rfl) (by simp;omega) (by simp;omega) ?_)
       all_goals exact⟨j+1, [(4,5)],⟨hlt,HT'⟩,by omega,by simp[e1]⟩
     ·have ek:f9 (T[j].2.1+T[j].2.2)=(0,false):=by rw[f9,if_neg hm]
      rw[ek]at qp
      have h2:=HBad.out ⟨_,List.getElem_mem hlt,hm⟩
      subst h2
      clear HBad HGood HT hm ek b1 b2 t1 t2 m2 pc1 pc2 hc1 hc2 e1
      generalize T[j]=t at*
      obtain⟨n,x,y⟩:=t
      simp only at g1 q1 q2 qp
      repeat' first|simp(disch:=omega) only[go_sem, *,g1,hml,wrap_i64]|((with_reducible refine ab ?_ ?_)<;>intro h<;>try omega)|(with_reducible refine af ?_ ?_)|(with_reducible refine ag (fun h=> ?_) ?_)|(refine av q1 rfl rfl ?_)|(refine av q2 rfl rfl ?_)|(refine av qp rfl rfl ?_)
      all_goals rfl
    ·obtain rfl:j=T.length:=by omega
     have hT:=HT.out
     rw[List.take_of_length_le (Nat.le_refl _)]at hT
     have h2:=HGood.out hT
     subst h2
     clear HBad HGood HT hT m2 pc1 pc2 hc1 hc2
     rw[List.take_of_length_le (Nat.le_refl _)]
     repeat' first|simp(disch:=omega) only[go_sem, *,hml]|((with_reducible refine ab ?_ ?_)<;>intro h<;>try omega)
     all_goals rfl
   ·have ek:f9 (k1+k2)=(0,false):=by rw[f9,if_neg hk]
    rw[ek]at pp
    rw[Mi fun h=>hk h.1]
    clear hk ek o1 o2
    repeat' first|simp(disch:=omega) only[go_sem, *]|((with_reducible refine ab ?_ ?_)<;>intro h<;>try omega)|(refine av pv1 rfl rfl ?_)|(refine av pv2 rfl rfl ?_)|(refine av pp rfl rfl ?_)
    all_goals rfl
  ·rw[if_pos o1]at pv1
   rw[if_neg o2]at pv2
   rw[if_pos (.inr o2)]
   clear o1 o2
   repeat' first|simp(disch:=omega) only[go_sem, *]|((with_reducible refine ab ?_ ?_)<;>intro h<;>try omega)|(refine av pv1 rfl rfl ?_)|(refine av pv2 rfl rfl ?_)
   all_goals rfl
 ·rw[if_neg o1]at pv1
  rw[if_pos (.inl o1)]
  clear o1 pv2
  repeat' first|simp(disch:=omega) only[go_sem, *]|((with_reducible refine ab ?_ ?_)<;>intro h<;>try omega)|(refine av pv1 rfl rfl ?_)
  all_goals rfl
end Go.Proofs.YthkaaahphlneiaaGreatDoor
