import Derived.Test.YthbcbaembicdbaaGreatDoorP17
import Derived.Test.YthbcbaembicdbaaGreatDoorAbs28
import Derived.Test.YthbcbaembicdbaaGreatDoorVSort
set_option maxHeartbeats 4000000
set_option linter.unusedVariables false
set_option linter.unusedSimpArgs false
set_option maxRecDepth 20000
namespace Go.Proofs.YthbcbaembicdbaaGreatDoor
open Go.Abs Go.RowKit
theorem TJ (n:Nat) (hn:n≤1000000) (w:World):Calls Tryz.prog 197 #[.slice none 0 0,.int .i64 n] w λen w'=>
  ∃v cells,en= .returned v∧w'.ownsRow w.heap.size 111 3 v 0 cells∧cells= []∧Below w.heap.size w w':=by
 have hn0:(n:Int)≤1000000:=by omega
 by_cases h0:n=0
 ·subst h0
  go_enter Tryz.func197,Tryz.ntmps197
  go_wp2
  go_ret
  exact⟨_, [],rfl,World.ownsRow_nil _ _ _ _,rfl,Below.refl _ _⟩
 ·have h1: ¬((n:Int)<0):=by omega
  have h2:(0:Int)<n:=by omega
  have hby:Tryz.t111.bytes=48:=by kernel_rfl
  have hfit: ¬281474976710656<Builtin.nextslicecap n 0*Tryz.t111.bytes:=by
   have:=growslice_fits (need:=n) (old:=0) (bytes:=Tryz.t111.bytes) (by omega) (by rw[hby];omega)
   omega
  have hfit2: ¬(281474976710656:Int)<(n:Int)*Tryz.t111.bytes:=by rw[hby];omega
  have h3: ¬n*3=0:=by omega
  have h9:(n:Int)≤9223372036854775807:=by omega
  have h5:0<n:=by omega
  go_enter Tryz.func197,Tryz.ntmps197
  go_wp2
  go_ret
  have hge:n≤(Question.appendCap n 0 111).cut (w.tape w.drawn (Question.appendCap n 0 111)):=grownCap_ge w n 0 _
  have hle:(Question.appendCap n 0 111).cut (w.tape w.drawn (Question.appendCap n 0 111))≤maxLen:=grownCap_le_maxLen w n 0 _ (by unfold maxLen;omega)
  generalize (Question.appendCap n 0 111).cut (w.tape w.drawn (Question.appendCap n 0 111))=cap at*
  refine⟨_,rfl, [],⟨by simp,.inr ⟨w.heap.size,cap,_,rfl,Nat.le_refl _,World.alloc_heap_new w _,by omega,hle, ?_,by simp⟩⟩,rfl, ?_⟩
  ·simp[PA]
   omega
  ·exact((Below.refl _ w).alloc (Nat.le_refl _) _).drew
theorem Tu (n:Nat) (hn:n≤1000000) (mem:List (Nat×aU)) (nx:Nat):aq Tryz.prog 197 [.c .nils,I n] mem nx (.c (.ref nx)) ((nx,.arr 111 3 [])::mem) (nx+1):=by
 refine⟨⟨_,Tryz.func197,rfl,by kernel_rfl⟩,λw0 U ι w vs hs hr=> ?_⟩
 have hB:=hs.below.size
 obtain⟨vs⟩:=vs
 cases hr with
 |cons h1 t=>cases t with
  |cons h2 t=>
   cases t
   have e1:=vM h1
   have e2:=(aZ h2).1
   subst e1 e2
   refine(TJ n hn w).mono ?_
   rintro en w' ⟨v,cells,rfl,hown,rfl,hbel⟩
   obtain⟨ι',k1,k2,k3,k4⟩:=hs.newBox (pv:=v) (bx:= .arr 111 3 []) hbel (λb hb=>by
    rcases hown.2 with⟨e,_⟩|⟨g,cap,cur,e,hg,_⟩
    ·rw[e]at hb;cases hb
    ·rw[e]at hb
     simp[bt]at hb
     omega) (λι' e1 e2 hfree=>⟨[],by decide,by rw[e2];exact rY hown hB,by simp,aX.nil⟩)
   refine⟨v,ι',rfl,k1, ?_⟩
   rw[←k2]
   refine .c (.ref (Nat.lt_succ_self _) ?_)
   rw[k2]
   rcases hown.2 with⟨e,_⟩|⟨g,cap,cur,e,_⟩
   ·exact⟨_,_,_,e⟩
   ·exact⟨_,_,_,e⟩
theorem E6 (a b:List dW) (ha:a.length≤1000) (hb':b.length≤1000):af Tryz.prog ep [.c (.pure (.slice [[dg ic a], [dg ic b]]))] (gG ic (a++b)):=by
 refine af.of iE (by simp) λhb=>aa ?_
 simp only[ej]
 repeat' first|simp(disch:=omega) only[go_sem, *]|((with_reducible apply ab)<;>intro h<;>try omega)
 refine ap (λk:Nat=>⟨[(11,I k),(10,I 2),(9,.c (.pure (.slice [[dg ic a], [dg ic b]]))),(3,I (if k=0 then 0 else if k=1 then a.length else a.length+b.length:Nat)),(0,.c (.pure (.slice [[dg ic a], [dg ic b]])))], [],0,0⟩) (λk=>k≤2) (λk=>2-k) ⟨0, [],by omega,by simp⟩ ?_
 intro k hk
 refine aa ?_
 have hk':k=0∨k=1∨k=2:=by omega
 rcases hk' with rfl|rfl|rfl
 ·repeat' first|simp(disch:=omega) only[go_sem, *,wrap_i64]|((with_reducible apply ab)<;>intro h<;>try omega)
  exact⟨1, [],by omega,by omega,by simp⟩
 ·repeat' first|simp(disch:=omega) only[go_sem, *,wrap_i64]|((with_reducible apply ab)<;>intro h<;>try omega)
  exact⟨2, [],by omega,by omega,by simp⟩
 ·repeat' first|simp(disch:=omega) only[go_sem, *,wrap_i64]|((with_reducible apply ab)<;>intro h<;>try omega)|(refine an (Tu (a.length+b.length) (by omega) _ _) ?_)
  refine ap (λk:Nat=>⟨[(27,I k),(26,I 2),(25,.c (.pure (.slice [[dg ic a], [dg ic b]]))),(6,.c (.ref 0))], [(0,.arr 111 3 ((if k=0 then []else if k=1 then a else a++b).map ic))],1,0⟩) (λk=>k≤2) (λk=>2-k) ⟨0, [],by omega,by simp⟩ ?_
  intro k hk
  refine aa ?_
  have hk':k=0∨k=1∨k=2:=by omega
  rcases hk' with rfl|rfl|rfl
  ·repeat' first|simp(disch:=omega) only[go_sem, *,wrap_i64]|((with_reducible apply ab)<;>intro h<;>try omega)|(refine bf rfl (by intro h;cases h) (aQ λx=>rfl) (by simp;omega) (by simp;omega) ?_)
   exact⟨1, [(0,1)],by omega,by omega,by simp⟩
  ·repeat' first|simp(disch:=omega) only[go_sem, *,wrap_i64]|((with_reducible apply ab)<;>intro h<;>try omega)|(refine bf rfl (by intro h;cases h) (aQ λx=>rfl) (by simp;omega) (by simp;omega) ?_)
   exact⟨2, [(0,1)],by omega,by omega,by simp⟩
  ·repeat' first|simp(disch:=omega) only[go_sem, *,wrap_i64]|((with_reducible apply ab)<;>intro h<;>try omega)
set_option maxRecDepth 1000000
theorem UC {w:World} {V:Nat→Prop} {T:TypeId} {l:List ByteArray} (hV:V w.heap.size) (hl:l.length≤9223372036854775807):
  aN (w.alloc (.cells (l.map Value.string).toArray T)) V (λ_=>undef) 0 (om l) (.slice (some ⟨w.heap.size,0,none⟩) l.length l.length):=by
 refine .c (.pure (.slice (sz:=1) (λi _=>(l.map Value.string).getD i undef) (by simp) (Nat.le_refl _) (by simpa using hl) ?_ ?_ ?_))
 ·intro i row hi
  rw[List.getElem?_map]at hi
  obtain⟨s,_,rfl⟩:=Option.map_eq_some_iff.1 hi
  rfl
 ·intro i row j p hi hj
  rw[List.getElem?_map]at hi
  obtain⟨s,hs,rfl⟩:=Option.map_eq_some_iff.1 hi
  cases j with
  |succ j=>simp at hj
  |zero=>
   refine⟨w.heap.size,0,rfl,hV, ?_⟩
   have hlt:=(List.getElem?_eq_some_iff.1 hs).1
   rw[cell_of_row _ _ _ _ _ _ (World.alloc_heap_new w _)]
   simp[hs]
 ·intro i row j p hi hj
  rw[List.getElem?_map]at hi
  obtain⟨s,hs,rfl⟩:=Option.map_eq_some_iff.1 hi
  cases j with
  |succ j=>simp at hj
  |zero=>
   simp at hj
   subst hj
   simp[hs]
   exact .val rfl
theorem x6 {s:ByteArray} {l:List ByteArray} (hs:s.size<4294967281) (hascii:s.data.toList.all (λb=>decide (b.toNat<128))=true) (hl:(Go.Lib.fields s.data.toList).map (λl=>(⟨l.toArray⟩:ByteArray))=l) (hlen:l.length≤1000000):af Tryz.prog 227 [S s] (om l):=by
 refine⟨⟨_,Tryz.func227,rfl,by kernel_rfl⟩,λw U vs hG hr=> ?_⟩
 obtain⟨vs⟩:=vs
 cases hr with
 |cons h1 t=>
  cases t
  have e1:=(aZ h1).1
  subst e1
  have hT: ∀c:Nat,c<256→w.cell? ⟨Tryz.lays157_ren.g 0,c,none⟩=some (.int .u8 (if Lib.isSp (UInt8.ofNat c)then 1 else 0)):= λc hc=>hG _ rfl c hc
  refine(Any.strings_Fields_core Tryz.lays157 (by kernel_rfl) s w hs (λj b hb=>of_decide_eq_true (List.all_eq_true.1 hascii b (List.mem_of_getElem? hb))) hT).mono ?_
  rintro e w' ⟨rfl,rfl⟩
  have e2:(Go.Lib.fields s.data.toList).map (λl=>Value.string ⟨l.toArray⟩)=l.map Value.string:=by rw[←hl,List.map_map];rfl
  have e3:(Go.Lib.fields s.data.toList).length=l.length:=by rw[←hl,List.length_map]
  rw[e2,e3]
  exact⟨_,rfl,UC (.inr (Nat.le_refl _)) (by omega),(Below.refl _ w).alloc (Nat.le_refl _) _⟩
theorem ye:af Tryz.prog qL [] (om xz):=by
 refine af.of yJ (by simp) λhb=>aa ?_
 simp only[qk]
 repeat' first|simp(disch:=omega) only[go_sem, *]|((with_reducible apply ab)<;>intro h<;>try omega)|(refine el (x6 (l:=xz) (by decide) (by decide+kernel) (by kernel_rfl) (by decide)) rfl rfl ?_)
abbrev R32 (n:Int):AV:= .c (.pure (.val (.int .i32 n)))
theorem qH (n:Int):af Tryz.prog vE [R32 n] (Go.Abs.B (decide (97≤n∧n≤122))):=by
 refine af.of Cn (by simp) λhb=>aa ?_
 simp only[vm]
 repeat' first|simp(disch:=omega) only[go_sem, *]|((with_reducible apply ab)<;>intro h<;>try omega)
 all_goals(simp[*]<;>omega)
theorem Cr (n:Int):af Tryz.prog wN [R32 n] (Go.Abs.B (decide (48≤n∧n≤57))):=by
 refine af.of Ee (by simp) λhb=>aa ?_
 simp only[w7]
 repeat' first|simp(disch:=omega) only[go_sem, *]|((with_reducible apply ab)<;>intro h<;>try omega)
 all_goals(simp[*]<;>omega)
def KY (n:Int):Prop:=(97≤n∧n≤122)∨(48≤n∧n≤57)∨n=95
instance (n:Int):Decidable (KY n):=inferInstanceAs (Decidable (_∨_))
theorem qA (n:Int):af Tryz.prog jx [R32 n] (Go.Abs.B (decide (KY n))):=by
 refine af.of Cy (by simp) λhb=>aa ?_
 simp only[uK]
 repeat' first|simp(disch:=omega) only[go_sem, *]|((with_reducible apply ab)<;>intro h<;>try omega)|(refine aY (qH n) rfl rfl ?_)|(refine aY (Cr n) rfl rfl ?_)
 all_goals(refine BD ?_;clear hb;simp only[Bool.not_eq_true',M6,Oj,reduceCtorEq,false_iff,true_iff,not_exists,not_and,Classical.not_not,decide_eq_true_iff,decide_eq_false_iff_not];first|done|grind [KY])
def nj:List UInt8→Nat
 | []=>0
 |c::r=>if KY c.toNat then nj r+1 else 0
theorem Mh: ∀l:List UInt8,nj l≤l.length
 | []=>by simp[nj]
 |c::r=>by
  rw[nj]
  have:=Mh r
  split<;>simp<;>omega
theorem Mx: ∀{l:List UInt8} {k:Nat},(∀i (h:i<k) (hl:i<l.length),KY (l[i].toNat))→k≤l.length→(∀h:k<l.length,¬KY (l[k].toNat))→nj l=k
 | [],k,_,hk,_=>by simp at hk;simp[nj,hk]
 |c::r,0,_,_,h=>by rw[nj,if_neg (show ¬KY c.toNat from h (by simp))]
 |c::r,k+1,h1,h2,h3=>by
  rw[nj,if_pos (show KY c.toNat from h1 0 (by omega) (by simp)),Mx (l:=r) (k:=k) (λi hi hl=>h1 (i+1) (by omega) (by simpa using hl)) (by simpa using h2) (λh=>h3 (by simpa using h))]
theorem xD: ∀{l:List UInt8},nj l=l.length↔ ∀i (h:i<l.length),KY (l[i].toNat)
 | []=>by simp[nj]
 |c::r=>by
  have:=Mh r
  rw[nj]
  constructor
  ·intro h i hi
   split at h
   ·cases i with
    |zero=>assumption
    |succ i=>exact(xD (l:=r)).1 (by simpa using h) i (by simpa using hi)
   ·simp at h
  ·intro h
   rw[if_pos (show KY c.toNat from h 0 (by simp)),(xD (l:=r)).2 λi hi=>h (i+1) (by simpa using hi)]
   simp
theorem Mc {s:ByteArray} {i:Nat} (h:i<s.size):s[i]=s.data.toList[i]'(by simpa using h):=rfl
theorem Fz {s:ByteArray} (hs:s.size≤16):af Tryz.prog yT [S s,.c (.clo jx [])] (I (nj s.data.toList)):=by
 refine af.of Gc (by simp) λhb=>aa ?_
 simp only[zR]
 repeat' first|simp(disch:=omega) only[go_sem]|((with_reducible refine ab ?_ ?_)<;>intro h<;>try first|omega|simp(disch:=omega) only[go_sem, *])
 refine ap (λk:Nat=>⟨[(5,I k),(1,.c (.clo jx [])),(0,S s)], [],0,0⟩) (λk=>k≤s.size∧fY (λj=> ∀h:j<s.size,KY (s[j].toNat)) k) (λk=>s.size-k) ⟨0, [],⟨by omega,.zero⟩,by simp⟩ ?_
 rintro k ⟨hk,hall⟩
 refine aa ?_
 have fin:(∀h:k<s.size,¬KY (s[k].toNat))→nj s.data.toList=k:= λh=>Mx (λi hi hl=>Mc (by simpa using hl)▸hall i hi (by simpa using hl)) (by simpa using hk) (λhl=>Mc (by simpa using hl)▸h (by simpa using hl))
 by_cases hlt:k<s.size
 ·have hc:=(s[k]).toNat_lt
  have e1:IntKind.wrap .i32 (s[k].toNat:Int)=s[k].toNat:=by rw[IntKind.wrap_i32];omega
  by_cases hw:KY (s[k].toNat)
  ·have HF:=Lib.hid fin
   clear fin
   repeat' first|simp(disch:=omega) only[go_sem,getElem?_pos s k hlt,wrap_i64,e1]|((with_reducible refine ab ?_ ?_)<;>intro h<;>try first|omega|simp(disch:=omega) only[go_sem, *,getElem?_pos s k hlt,wrap_i64,e1])|(refine aY (qA _) rfl rfl ?_)
   ·exact⟨k+1, [],⟨by omega,hall.succ λ_=>hw⟩,by omega,by simp⟩
   ·exact absurd hw h
  ·have e2:=fin λ_=>hw
   have E2:=Lib.hid e2
   clear e2 fin hall
   repeat' first|simp(disch:=omega) only[go_sem,getElem?_pos s k hlt,wrap_i64,e1]|((with_reducible refine ab ?_ ?_)<;>intro h<;>try first|omega|simp(disch:=omega) only[go_sem, *,getElem?_pos s k hlt,wrap_i64,e1])|(refine aY (qA _) rfl rfl ?_)
   ·exact absurd h hw
   ·rw[E2.out]
 ·have e2:=fin λh=>absurd h hlt
  have E2:=Lib.hid e2
  clear e2 fin hall
  repeat' first|simp(disch:=omega) only[go_sem]|((with_reducible refine ab ?_ ?_)<;>intro h<;>try first|omega|simp(disch:=omega) only[go_sem, *])
  rw[E2.out]
theorem vi (xs:List ByteArray) (s:ByteArray):af Tryz.prog fL [om xs,S s] (I (ny (· =s) xs)):=by
 refine af.of lJ (by simp) λhb=>aa ?_
 have hl:xs.length≤9223372036854775807:=by simpa[iI,jt]using hb.1
 simp only[fH]
 repeat' first|simp(disch:=omega) only[go_sem, *]|((with_reducible apply ab)<;>intro h<;>try omega)
 refine ap (λk:Nat=>⟨[(0,om xs),(1,S s),(7,I xs.length),(8,I k)], [],0,0⟩) (λk=>k≤xs.length∧fY (λj=> ∀h:j<xs.length,¬xs[j]=s) k) (λk=>xs.length-k) ⟨0, [],⟨by omega,.zero⟩,by simp⟩ ?_
 rintro k ⟨hk,hall⟩
 refine aa ?_
 by_cases hlt:k<xs.length
 ·by_cases he:xs[k]=s
  ·have e2:=yS (p:=(· =s)) hlt he λj hj=>hall j hj (by omega)
   have E2:=Lib.hid e2
   clear e2 hall
   repeat' first|simp(disch:=omega) only[go_sem, *,ai hlt,ry,he,wrap_i64,decide_true]|((with_reducible apply ab)<;>intro h<;>try omega)
   rw[E2.out]
  ·have he': ¬s=xs[k]:= λh=>he h.symm
   repeat' first|simp(disch:=omega) only[go_sem, *,ai hlt,ry,he',wrap_i64]|((with_reducible apply ab)<;>intro h<;>try omega)
   exact⟨k+1, [],⟨by omega,hall.succ λ_=>he⟩,by omega,by simp⟩
 ·have e2:=rf (p:=(· =s)) (xs:=xs) λj hj=>hall j (by omega) hj
  have E2:=Lib.hid e2
  clear e2 hall
  repeat' first|simp(disch:=omega) only[go_sem, *]|((with_reducible apply ab)<;>intro h<;>try omega)
  rw[E2.out]
theorem jf (xs:List ByteArray) (s:ByteArray):af Tryz.prog eX [om xs,S s] (Go.Abs.B (decide (s∈xs))):=by
 refine af.of js (by simp) λhb=>aa ?_
 simp only[eY]
 repeat' first|simp(disch:=omega) only[go_sem, *]|((with_reducible apply ab)<;>intro h<;>try omega)|(refine aY (vi xs s) rfl rfl ?_)
 refine BD ?_
 rw[decide_eq_true_iff]
 refine LH.trans ⟨?_,λh=>⟨s,h,rfl⟩⟩
 rintro⟨x,hx,rfl⟩
 exact hx
theorem ww (s:ByteArray):af Tryz.prog oY [S s] (Go.Abs.B (decide (s∈xz))):=by
 refine af.of x5 (by simp) λhb=>aa ?_
 simp only[o6]
 repeat' first|simp(disch:=omega) only[go_sem, *]|((with_reducible apply ab)<;>intro h<;>try omega)|(refine el ye rfl rfl ?_)|(refine aY (jf xz s) rfl rfl ?_)
theorem DJ {s:ByteArray} (h:0<s.size):gk s↔s.size≤16∧ ¬s∈xz∧(97≤(s[0].toNat:Int)∧(s[0].toNat:Int)≤122)∧ ∀i (h:i<s.size),KY (s[i].toNat):=by
 unfold gk
 constructor
 ·rintro⟨h1,h2,h3,h4⟩
  refine⟨h2,h3,by have:=h4 0 h;unfold wB at this;omega,λi hi=>by have:=h4 i hi;unfold wB at this;unfold KY;omega⟩
 ·rintro⟨h2,h3,h4,h5⟩
  refine⟨h,h2,h3,λi hi=> ?_⟩
  have:=h5 i hi
  unfold KY at this
  unfold wB
  by_cases e:i=0
  ·subst e;omega
  ·omega
theorem bu (s:ByteArray):af Tryz.prog u0 [S s] (Go.Abs.B (decide (gk s))):=by
 refine af.of Cp (by simp) λhb=>aa ?_
 conv in uF=>cbv
 by_cases h0:s.size=0
 ·have he:s=⟨⟨[]⟩⟩:=by
   obtain⟨⟨l⟩⟩:=s
   have:l= []:=List.eq_nil_of_length_eq_zero h0
   rw[this]
  subst he
  repeat' first|simp(disch:=omega) only[go_sem, *]|((with_reducible apply ab)<;>intro h<;>try omega)
  exact BD ⟨λh=>(by cases h),λh=>(by have:=h.1;revert this;decide)⟩
 ·by_cases h16:s.size≤16
  ·have hpos:0<s.size:=by omega
   have hne: ¬s=⟨⟨[]⟩⟩:= λh=>h0 (by rw[h];rfl)
   have hc:=(s[0]).toNat_lt
   have e1:IntKind.wrap .i32 (s[0].toNat:Int)=s[0].toNat:=by rw[IntKind.wrap_i32];omega
   have hsp:=Fz h16
   have hfull:nj s.data.toList=s.size↔ ∀i (h:i<s.size),KY (s[i].toNat):=by
    have hsz:s.data.toList.length=s.size:=by simp
    refine Iff.trans (by rw[←hsz]) (xD.trans ⟨λh i hi=>h i (by simpa using hi),λh i hi=>h i (by simpa using hi)⟩)
   generalize nj s.data.toList=m at hsp hfull
   have HF:=Lib.hid hfull
   clear hfull
   repeat' first|simp(disch:=omega) only[go_sem, *,getElem?_pos s 0 hpos,Int.toNat_zero,e1,hne]|((with_reducible apply ab)<;>intro h<;>try omega)|(refine aY (qH _) rfl rfl ?_)|(refine aY hsp rfl rfl ?_)|(refine aY (ww s) rfl rfl ?_)
   ·refine BD ?_
    rw[DJ hpos]
    have:=HF.out.1 (by omega)
    simp only[Bool.not_eq_true',decide_eq_false_iff_not]
    exact⟨λhn=>⟨h16,hn,‹_›,this⟩,λhh=>hh.2.1⟩
   ·refine BD ⟨λh=>(by cases h),λhh=> ?_⟩
    have:=HF.out.2 ((DJ hpos).1 hh).2.2.2
    omega
   ·exact BD ⟨λh=>(by cases h),λhh=>absurd ((DJ hpos).1 hh).2.2.1 h⟩
  ·have hne: ¬s=⟨⟨[]⟩⟩:= λh=>h0 (by rw[h];rfl)
   repeat' first|simp(disch:=omega) only[go_sem, *,hne]|((with_reducible apply ab)<;>intro h<;>try omega)
   exact BD ⟨λh=>(by cases h),λhh=>absurd hh.2.1 h16⟩
end Go.Proofs.YthbcbaembicdbaaGreatDoor
