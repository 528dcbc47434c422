import Derived.Test.YthbcbaembicdbaaGreatDoorP17
import Derived.Test.YthbcbaembicdbaaGreatDoorAbs28
import Derived.Test.YthbcbaembicdbaaGreatDoorVSort
set_option linter.unusedVariables false
set_option linter.unusedSimpArgs false
set_option maxRecDepth 20000
set_option maxHeartbeats 4000000
set_option maxRecDepth 1000000
namespace Go.Proofs.YthbcbaembicdbaaGreatDoor
open Go.Abs Go.RowKit
theorem Vh (n:Nat) (hn:n≤1000000) (w:World):Calls Tryz.prog 197 #[.slice none 0 0,.int .i64 n] w fun en w'=>
  ∃v cells,en= .returned v∧w'.ownsRow w.heap.size 111 3 v 0 cells∧cells= []∧Below w.heap.size w w':=by
 have hn0:(n:Int)≤1000000:=by omega
 by_cases h0:n=0
 ·subst h0
  go_enter Tryz.func197,Tryz.ntmps197
  go_wp2
  go_ret
  exact⟨_, [],rfl,World.ownsRow_nil _ _ _ _,rfl,Below.refl _ _⟩
 ·have h1: ¬((n:Int)<0):=by omega
  have h2:(0:Int)<n:=by omega
  have hby:Tryz.t111.bytes=48:=by kernel_rfl
  have hfit: ¬281474976710656<Builtin.nextslicecap n 0*Tryz.t111.bytes:=by
   have:=growslice_fits (need:=n) (old:=0) (bytes:=Tryz.t111.bytes) (by omega) (by rw[hby];omega)
   omega
  have hfit2: ¬(281474976710656:Int)<(n:Int)*Tryz.t111.bytes:=by rw[hby];omega
  have h3: ¬n*3=0:=by omega
  have h9:(n:Int)≤9223372036854775807:=by omega
  have h5:0<n:=by omega
  go_enter Tryz.func197,Tryz.ntmps197
  go_wp2
  go_ret
  have hge:n≤(Question.appendCap n 0 111).cut (w.tape w.drawn (Question.appendCap n 0 111)):=grownCap_ge w n 0 _
  have hle:(Question.appendCap n 0 111).cut (w.tape w.drawn (Question.appendCap n 0 111))≤maxLen:=grownCap_le_maxLen w n 0 _ (by unfold maxLen;omega)
  generalize (Question.appendCap n 0 111).cut (w.tape w.drawn (Question.appendCap n 0 111))=cap at*
  refine⟨_,rfl, [],⟨by simp,.inr ⟨w.heap.size,cap,_,rfl,Nat.le_refl _,World.alloc_heap_new w _,by omega,hle, ?_,by simp⟩⟩,rfl, ?_⟩
  ·simp[RB]
   omega
  ·exact((Below.refl _ w).alloc (Nat.le_refl _) _).drew
theorem XC (n:Nat) (hn:n≤1000000) (mem:List (Nat×bc)) (nx:Nat):au Tryz.prog 197 [.c .nils,I n] mem nx (.c (.ref nx)) ((nx,.arr 111 3 [])::mem) (nx+1):=by
 refine⟨⟨_,Tryz.func197,rfl,by kernel_rfl⟩,fun w0 U ι w vs hs hr=> ?_⟩
 have hB:=hs.below.size
 obtain⟨vs⟩:=vs
 cases hr with
 |cons h1 t=>cases t with
  |cons h2 t=>
   cases t
   have e1:=wK h1
   have e2:=(bp h2).1
   subst e1 e2
   refine(Vh n hn w).mono ?_
   rintro en w' ⟨v,cells,rfl,hown,rfl,hbel⟩
   obtain⟨ι',k1,k2,k3,k4⟩:=hs.newBox (pv:=v) (bx:= .arr 111 3 []) hbel (fun b hb=>by
    rcases hown.2 with⟨e,_⟩|⟨g,cap,cur,e,hg,_⟩
    ·rw[e]at hb;cases hb
    ·rw[e]at hb
     simp[bF]at hb
     omega) (fun ι' e1 e2 hfree=>⟨[],by decide,by rw[e2];exact su hown hB,by simp,bf.nil⟩)
   refine⟨v,ι',rfl,k1, ?_⟩
   rw[←k2]
   refine .c (.ref (Nat.lt_succ_self _) ?_)
   rw[k2]
   rcases hown.2 with⟨e,_⟩|⟨g,cap,cur,e,_⟩
   ·exact⟨_,_,_,e⟩
   ·exact⟨_,_,_,e⟩
theorem H9 (a b:List iu) (ha:a.length≤1000) (hb':b.length≤1000):ac Tryz.prog eZ [.c (.pure (.slice [[du fl a], [du fl b]]))] (j5 fl (a++b)):=by
 refine ac.of iY (by simp) fun hb=>aa ?_
 conv in eY=>cbv
 repeat' first|simp(disch:=omega) only[go_sem, *]|((with_reducible apply ab)<;>intro h<;>try omega)
 refine an (fun k:Nat=>⟨[(11,I k),(10,I 2),(9,.c (.pure (.slice [[du fl a], [du fl b]]))),(3,I (if k=0 then 0 else if k=1 then a.length else a.length+b.length:Nat)),(0,.c (.pure (.slice [[du fl a], [du fl b]])))], [],0,0⟩) (fun k=>k≤2) (fun k=>2-k) ⟨0, [],by omega,by simp⟩ ?_
 intro k hk
 refine aa ?_
 have hk':k=0∨k=1∨k=2:=by omega
 rcases hk' with rfl|rfl|rfl
 ·repeat' first|simp(disch:=omega) only[go_sem, *,wrap_i64]|((with_reducible apply ab)<;>intro h<;>try omega)
  exact⟨1, [],by omega,by omega,by simp⟩
 ·repeat' first|simp(disch:=omega) only[go_sem, *,wrap_i64]|((with_reducible apply ab)<;>intro h<;>try omega)
  exact⟨2, [],by omega,by omega,by simp⟩
 ·repeat' first|simp(disch:=omega) only[go_sem, *,wrap_i64]|((with_reducible apply ab)<;>intro h<;>try omega)|(refine ap (XC (a.length+b.length) (by omega) _ _) ?_)
  refine an (fun k:Nat=>⟨[(27,I k),(26,I 2),(25,.c (.pure (.slice [[du fl a], [du fl b]]))),(6,.c (.ref 0))], [(0,.arr 111 3 ((if k=0 then []else if k=1 then a else a++b).map fl))],1,0⟩) (fun k=>k≤2) (fun k=>2-k) ⟨0, [],by omega,by simp⟩ ?_
  intro k hk
  refine aa ?_
  have hk':k=0∨k=1∨k=2:=by omega
  rcases hk' with rfl|rfl|rfl
  ·repeat' first|simp(disch:=omega) only[go_sem, *,wrap_i64]|((with_reducible apply ab)<;>intro h<;>try omega)|(refine aJ rfl (by intro h;cases h) (av fun x=>rfl) (by simp;omega) (by simp;omega) ?_)
   exact⟨1, [(0,1)],by omega,by omega,by simp⟩
  ·repeat' first|simp(disch:=omega) only[go_sem, *,wrap_i64]|((with_reducible apply ab)<;>intro h<;>try omega)|(refine aJ rfl (by intro h;cases h) (av fun x=>rfl) (by simp;omega) (by simp;omega) ?_)
   exact⟨2, [(0,1)],by omega,by omega,by simp⟩
  ·repeat' first|simp(disch:=omega) only[go_sem, *,wrap_i64]|((with_reducible apply ab)<;>intro h<;>try omega)
set_option maxRecDepth 20000
set_option maxRecDepth 1000000
theorem VT {w:World} {V:Nat→Prop} {T:TypeId} {l:List ByteArray} (hV:V w.heap.size) (hl:l.length≤9223372036854775807):
  aU (w.alloc (.cells (l.map Value.string).toArray T)) V (fun _=>undef) 0 (mO l) (.slice (some ⟨w.heap.size,0,none⟩) l.length l.length):=by
 refine .c (.pure (.slice (sz:=1) (fun i _=>(l.map Value.string).getD i undef) (by simp) (Nat.le_refl _) (by simpa using hl) ?_ ?_ ?_))
 ·intro i row hi
  rw[List.getElem?_map]at hi
  obtain⟨s,_,rfl⟩:=Option.map_eq_some_iff.1 hi
  rfl
 ·intro i row j p hi hj
  rw[List.getElem?_map]at hi
  obtain⟨s,hs,rfl⟩:=Option.map_eq_some_iff.1 hi
  cases j with
  |succ j=>simp at hj
  |zero=>
   refine⟨w.heap.size,0,rfl,hV, ?_⟩
   have hlt:=(List.getElem?_eq_some_iff.1 hs).1
   rw[cell_of_row _ _ _ _ _ _ (World.alloc_heap_new w _)]
   simp[hs]
 ·intro i row j p hi hj
  rw[List.getElem?_map]at hi
  obtain⟨s,hs,rfl⟩:=Option.map_eq_some_iff.1 hi
  cases j with
  |succ j=>simp at hj
  |zero=>
   simp at hj
   subst hj
   simp[hs]
   exact .val rfl
theorem yT {s:ByteArray} {l:List ByteArray} (hs:s.size<4294967281) (hascii:s.data.toList.all (fun b=>decide (b.toNat<128))=true) (hl:(Go.Lib.fields s.data.toList).map (fun l=>(⟨l.toArray⟩:ByteArray))=l) (hlen:l.length≤1000000):ac Tryz.prog 227 [S s] (mO l):=by
 refine⟨⟨_,Tryz.func227,rfl,by kernel_rfl⟩,fun w U vs hG hr=> ?_⟩
 obtain⟨vs⟩:=vs
 cases hr with
 |cons h1 t=>
  cases t
  have e1:=(bp h1).1
  subst e1
  have hT: ∀c:Nat,c<256→w.cell? ⟨Tryz.lays157_ren.g 0,c,none⟩=some (.int .u8 (if Lib.isSp (UInt8.ofNat c)then 1 else 0)):=fun c hc=>hG _ rfl c hc
  refine(Any.strings_Fields_core Tryz.lays157 (by kernel_rfl) s w hs (fun j b hb=>of_decide_eq_true (List.all_eq_true.1 hascii b (List.mem_of_getElem? hb))) hT).mono ?_
  rintro e w' ⟨rfl,rfl⟩
  have e2:(Go.Lib.fields s.data.toList).map (fun l=>Value.string ⟨l.toArray⟩)=l.map Value.string:=by rw[←hl,List.map_map];rfl
  have e3:(Go.Lib.fields s.data.toList).length=l.length:=by rw[←hl,List.length_map]
  rw[e2,e3]
  exact⟨_,rfl,VT (.inr (Nat.le_refl _)) (by omega),(Below.refl _ w).alloc (Nat.le_refl _) _⟩
theorem zj:ac Tryz.prog qR [] (mO yg):=by
 refine ac.of A8 (by simp) fun hb=>aa ?_
 conv in qA=>cbv
 repeat' first|simp(disch:=omega) only[go_sem, *]|((with_reducible apply ab)<;>intro h<;>try omega)|(refine cg (yT (l:=yg) (by decide) (by decide+kernel) (by kernel_rfl) (by decide)) rfl rfl ?_)
abbrev R32 (n:Int):AV:= .c (.pure (.val (.int .i32 n)))
theorem rb (n:Int):ac Tryz.prog vW [R32 n] (Go.Abs.B (decide (97≤n∧n≤122))):=by
 refine ac.of EM (by simp) fun hb=>aa ?_
 conv in uS=>cbv
 repeat' first|simp(disch:=omega) only[go_sem, *]|((with_reducible apply ab)<;>intro h<;>try omega)
 all_goals(simp[*]<;>omega)
theorem EI (n:Int):ac Tryz.prog xI [R32 n] (Go.Abs.B (decide (48≤n∧n≤57))):=by
 refine ac.of Fe (by simp) fun hb=>aa ?_
 conv in yu=>cbv
 repeat' first|simp(disch:=omega) only[go_sem, *]|((with_reducible apply ab)<;>intro h<;>try omega)
 all_goals(simp[*]<;>omega)
def OX (n:Int):Prop:=(97≤n∧n≤122)∨(48≤n∧n≤57)∨n=95
instance (n:Int):Decidable (OX n):=inferInstanceAs (Decidable (_∨_))
theorem rt (n:Int):ac Tryz.prog jB [R32 n] (Go.Abs.B (decide (OX n))):=by
 refine ac.of Eh (by simp) fun hb=>aa ?_
 conv in t7=>cbv
 repeat' first|simp(disch:=omega) only[go_sem, *]|((with_reducible apply ab)<;>intro h<;>try omega)|(refine aF (rb n) rfl rfl ?_)|(refine aF (EI n) rfl rfl ?_)
 all_goals(refine BD ?_;clear hb;simp only[Bool.not_eq_true',D9,D7,reduceCtorEq,false_iff,true_iff,not_exists,not_and,Classical.not_not,decide_eq_true_iff,decide_eq_false_iff_not];first|done|grind [OX])
def nD:List UInt8→Nat
 | []=>0
 |c::r=>if OX c.toNat then nD r+1 else 0
theorem Nw: ∀l:List UInt8,nD l≤l.length
 | []=>by simp[nD]
 |c::r=>by
  rw[nD]
  have:=Nw r
  split<;>simp<;>omega
theorem Pz: ∀{l:List UInt8} {k:Nat},(∀i (h:i<k) (hl:i<l.length),OX (l[i].toNat))→k≤l.length→(∀h:k<l.length,¬OX (l[k].toNat))→nD l=k
 | [],k,_,hk,_=>by simp at hk;simp[nD,hk]
 |c::r,0,_,_,h=>by rw[nD,if_neg (show ¬OX c.toNat from h (by simp))]
 |c::r,k+1,h1,h2,h3=>by
  rw[nD,if_pos (show OX c.toNat from h1 0 (by omega) (by simp)),Pz (l:=r) (k:=k) (fun i hi hl=>h1 (i+1) (by omega) (by simpa using hl)) (by simpa using h2) (fun h=>h3 (by simpa using h))]
theorem yL: ∀{l:List UInt8},nD l=l.length↔ ∀i (h:i<l.length),OX (l[i].toNat)
 | []=>by simp[nD]
 |c::r=>by
  have:=Nw r
  rw[nD]
  constructor
  ·intro h i hi
   split at h
   ·cases i with
    |zero=>assumption
    |succ i=>exact(yL (l:=r)).1 (by simpa using h) i (by simpa using hi)
   ·simp at h
  ·intro h
   rw[if_pos (show OX c.toNat from h 0 (by simp)),(yL (l:=r)).2 fun i hi=>h (i+1) (by simpa using hi)]
   simp
theorem NT {s:ByteArray} {i:Nat} (h:i<s.size):s[i]=s.data.toList[i]'(by simpa using h):=rfl
theorem Hx {s:ByteArray} (hs:s.size≤16):ac Tryz.prog zH [S s,.c (.clo jB [])] (I (nD s.data.toList)):=by
 refine ac.of IR (by simp) fun hb=>aa ?_
 conv in AO=>cbv
 repeat' first|simp(disch:=omega) only[go_sem]|((with_reducible refine ab ?_ ?_)<;>intro h<;>try first|omega|simp(disch:=omega) only[go_sem, *])
 refine an (fun k:Nat=>⟨[(5,I k),(1,.c (.clo jB [])),(0,S s)], [],0,0⟩) (fun k=>k≤s.size∧el (fun j=> ∀h:j<s.size,OX (s[j].toNat)) k) (fun k=>s.size-k) ⟨0, [],⟨by omega,.zero⟩,by simp⟩ ?_
 rintro k ⟨hk,hall⟩
 refine aa ?_
 have fin:(∀h:k<s.size,¬OX (s[k].toNat))→nD s.data.toList=k:=fun h=>Pz (fun i hi hl=>NT (by simpa using hl)▸hall i hi (by simpa using hl)) (by simpa using hk) (fun hl=>NT (by simpa using hl)▸h (by simpa using hl))
 by_cases hlt:k<s.size
 ·have hc:=(s[k]).toNat_lt
  have e1:IntKind.wrap .i32 (s[k].toNat:Int)=s[k].toNat:=by rw[IntKind.wrap_i32];omega
  by_cases hw:OX (s[k].toNat)
  ·have HF:=Lib.hid fin
   clear fin
   repeat' first|simp(disch:=omega) only[go_sem,getElem?_pos s k hlt,wrap_i64,e1]|((with_reducible refine ab ?_ ?_)<;>intro h<;>try first|omega|simp(disch:=omega) only[go_sem, *,getElem?_pos s k hlt,wrap_i64,e1])|(refine aF (rt _) rfl rfl ?_)
   ·exact⟨k+1, [],⟨by omega,hall.succ fun _=>hw⟩,by omega,by simp⟩
   ·exact absurd hw h
  ·have e2:=fin fun _=>hw
   have E2:=Lib.hid e2
   clear e2 fin hall
   repeat' first|simp(disch:=omega) only[go_sem,getElem?_pos s k hlt,wrap_i64,e1]|((with_reducible refine ab ?_ ?_)<;>intro h<;>try first|omega|simp(disch:=omega) only[go_sem, *,getElem?_pos s k hlt,wrap_i64,e1])|(refine aF (rt _) rfl rfl ?_)
   ·exact absurd h hw
   ·rw[E2.out]
 ·have e2:=fin fun h=>absurd h hlt
  have E2:=Lib.hid e2
  clear e2 fin hall
  repeat' first|simp(disch:=omega) only[go_sem]|((with_reducible refine ab ?_ ?_)<;>intro h<;>try first|omega|simp(disch:=omega) only[go_sem, *])
  rw[E2.out]
theorem vY (xs:List ByteArray) (s:ByteArray):ac Tryz.prog f9 [mO xs,S s] (I (sV (· =s) xs)):=by
 refine ac.of ld (by simp) fun hb=>aa ?_
 have hl:xs.length≤9223372036854775807:=by simpa[i5,jS]using hb.1
 conv in f8=>cbv
 repeat' first|simp(disch:=omega) only[go_sem, *]|((with_reducible apply ab)<;>intro h<;>try omega)
 refine an (fun k:Nat=>⟨[(0,mO xs),(1,S s),(7,I xs.length),(8,I k)], [],0,0⟩) (fun k=>k≤xs.length∧el (fun j=> ∀h:j<xs.length,¬xs[j]=s) k) (fun k=>xs.length-k) ⟨0, [],⟨by omega,.zero⟩,by simp⟩ ?_
 rintro k ⟨hk,hall⟩
 refine aa ?_
 by_cases hlt:k<xs.length
 ·by_cases he:xs[k]=s
  ·have e2:=GM (p:=(· =s)) hlt he fun j hj=>hall j hj (by omega)
   have E2:=Lib.hid e2
   clear e2 hall
   repeat' first|simp(disch:=omega) only[go_sem, *,ah hlt,nq,he,wrap_i64,decide_true]|((with_reducible apply ab)<;>intro h<;>try omega)
   rw[E2.out]
  ·have he': ¬s=xs[k]:=fun h=>he h.symm
   repeat' first|simp(disch:=omega) only[go_sem, *,ah hlt,nq,he',wrap_i64]|((with_reducible apply ab)<;>intro h<;>try omega)
   exact⟨k+1, [],⟨by omega,hall.succ fun _=>he⟩,by omega,by simp⟩
 ·have e2:=y6 (p:=(· =s)) (xs:=xs) fun j hj=>hall j (by omega) hj
  have E2:=Lib.hid e2
  clear e2 hall
  repeat' first|simp(disch:=omega) only[go_sem, *]|((with_reducible apply ab)<;>intro h<;>try omega)
  rw[E2.out]
theorem je (xs:List ByteArray) (s:ByteArray):ac Tryz.prog fy [mO xs,S s] (Go.Abs.B (decide (s∈xs))):=by
 refine ac.of jQ (by simp) fun hb=>aa ?_
 conv in fB=>cbv
 repeat' first|simp(disch:=omega) only[go_sem, *]|((with_reducible apply ab)<;>intro h<;>try omega)|(refine aF (vY xs s) rfl rfl ?_)
 refine BD ?_
 rw[decide_eq_true_iff]
 refine NH.trans ⟨?_,fun h=>⟨s,h,rfl⟩⟩
 rintro⟨x,hx,rfl⟩
 exact hx
theorem wY (s:ByteArray):ac Tryz.prog oW [S s] (Go.Abs.B (decide (s∈yg))):=by
 refine ac.of zl (by simp) fun hb=>aa ?_
 conv in oV=>cbv
 repeat' first|simp(disch:=omega) only[go_sem, *]|((with_reducible apply ab)<;>intro h<;>try omega)|(refine cg zj rfl rfl ?_)|(refine aF (je yg s) rfl rfl ?_)
theorem GL {s:ByteArray} (h:0<s.size):gc s↔s.size≤16∧ ¬s∈yg∧(97≤(s[0].toNat:Int)∧(s[0].toNat:Int)≤122)∧ ∀i (h:i<s.size),OX (s[i].toNat):=by
 unfold gc
 constructor
 ·rintro⟨h1,h2,h3,h4⟩
  refine⟨h2,h3,by have:=h4 0 h;unfold w3 at this;omega,fun i hi=>by have:=h4 i hi;unfold w3 at this;unfold OX;omega⟩
 ·rintro⟨h2,h3,h4,h5⟩
  refine⟨h,h2,h3,fun i hi=> ?_⟩
  have:=h5 i hi
  unfold OX at this
  unfold w3
  by_cases e:i=0
  ·subst e;omega
  ·omega
theorem bH (s:ByteArray):ac Tryz.prog uT [S s] (Go.Abs.B (decide (gc s))):=by
 refine ac.of D8 (by simp) fun hb=>aa ?_
 conv in vc=>cbv
 by_cases h0:s.size=0
 ·have he:s=⟨⟨[]⟩⟩:=by
   obtain⟨⟨l⟩⟩:=s
   have:l= []:=List.eq_nil_of_length_eq_zero h0
   rw[this]
  subst he
  repeat' first|simp(disch:=omega) only[go_sem, *]|((with_reducible apply ab)<;>intro h<;>try omega)
  exact BD ⟨fun h=>(by cases h),fun h=>(by have:=h.1;revert this;decide)⟩
 ·by_cases h16:s.size≤16
  ·have hpos:0<s.size:=by omega
   have hne: ¬s=⟨⟨[]⟩⟩:=fun h=>h0 (by rw[h];rfl)
   have hc:=(s[0]).toNat_lt
   have e1:IntKind.wrap .i32 (s[0].toNat:Int)=s[0].toNat:=by rw[IntKind.wrap_i32];omega
   have hsp:=Hx h16
   have hfull:nD s.data.toList=s.size↔ ∀i (h:i<s.size),OX (s[i].toNat):=by
    have hsz:s.data.toList.length=s.size:=by simp
    refine Iff.trans (by rw[←hsz]) (yL.trans ⟨fun h i hi=>h i (by simpa using hi),fun h i hi=>h i (by simpa using hi)⟩)
   generalize nD s.data.toList=m at hsp hfull
   have HF:=Lib.hid hfull
   clear hfull
   repeat' first|simp(disch:=omega) only[go_sem, *,getElem?_pos s 0 hpos,Int.toNat_zero,e1,hne]|((with_reducible apply ab)<;>intro h<;>try omega)|(refine aF (rb _) rfl rfl ?_)|(refine aF hsp rfl rfl ?_)|(refine aF (wY s) rfl rfl ?_)
   ·refine BD ?_
    rw[GL hpos]
    have:=HF.out.1 (by omega)
    simp only[Bool.not_eq_true',decide_eq_false_iff_not]
    exact⟨fun hn=>⟨h16,hn,‹_›,this⟩,fun hh=>hh.2.1⟩
   ·refine BD ⟨fun h=>(by cases h),fun hh=> ?_⟩
    have:=HF.out.2 ((GL hpos).1 hh).2.2.2
    omega
   ·exact BD ⟨fun h=>(by cases h),fun hh=>absurd ((GL hpos).1 hh).2.2.1 h⟩
  ·have hne: ¬s=⟨⟨[]⟩⟩:=fun h=>h0 (by rw[h];rfl)
   repeat' first|simp(disch:=omega) only[go_sem, *,hne]|((with_reducible apply ab)<;>intro h<;>try omega)
   exact BD ⟨fun h=>(by cases h),fun hh=>absurd hh.2.1 h16⟩
end Go.Proofs.YthbcbaembicdbaaGreatDoor
