import Derived.Test.YtiapgekjmcjjgaaGreatDoorP17
import Derived.Test.YtiapgekjmcjjgaaGreatDoorAbs28
import Derived.Test.YtiapgekjmcjjgaaGreatDoorVSort
set_option maxHeartbeats 4000000
set_option linter.unusedVariables false
set_option linter.unusedSimpArgs false
set_option maxRecDepth 1000000
open Go.Proofs.Tryz renaming prog→Ya
namespace Go.Proofs.YtiapgekjmcjjgaaGreatDoor
open Go.Abs Go.RowKit
theorem Pj (n:Nat) (hn:n≤1000000) (w:World):Calls Ya 151 #[.slice none 0 0,.int .i64 n] w λen w'=>
  ∃v cells,en= .returned v∧w'.ownsRow w.heap.size 92 3 v 0 cells∧cells= []∧Below w.heap.size w w':=by
 have O:(n:Int)≤1000000:=by omega
 by_cases h0:n=0
 ·subst h0
  go_enter Tryz.func151,Tryz.ntmps151
  go_wp2
  go_ret
  exact⟨_, [],rfl,World.ownsRow_nil _ _ _ _,rfl,Below.refl _ _⟩
 ·have h1: ¬((n:Int)<0):=by omega
  have h2:(0:Int)<n:=by omega
  have D:Tryz.t92.bytes=48:=by kernel_rfl
  have M: ¬281474976710656<Builtin.nextslicecap n 0*Tryz.t92.bytes:=by
   have:=growslice_fits (need:=n) (old:=0) (bytes:=Tryz.t92.bytes) (by omega) (by rw[D];omega)
   omega
  have G: ¬(281474976710656:Int)<(n:Int)*Tryz.t92.bytes:=by rw[D];omega
  have h3: ¬n*3=0:=by omega
  have h9:(n:Int)≤9223372036854775807:=by omega
  have h5:0<n:=by omega
  go_enter Tryz.func151,Tryz.ntmps151
  go_wp2
  go_ret
  have P:n≤(Question.appendCap n 0 92).cut (w.tape w.drawn (Question.appendCap n 0 92)):=grownCap_ge w n 0 _
  have H:(Question.appendCap n 0 92).cut (w.tape w.drawn (Question.appendCap n 0 92))≤maxLen:=grownCap_le_maxLen w n 0 _ (by unfold maxLen;omega)
  generalize (Question.appendCap n 0 92).cut (w.tape w.drawn (Question.appendCap n 0 92))=cap at*
  refine⟨_,rfl, [],⟨by simp,.inr ⟨w.heap.size,cap,_,rfl,Nat.le_refl _,World.alloc_heap_new w _,by omega,H, ?_,by simp⟩⟩,rfl, ?_⟩
  ·simp[KW]
   omega
  ·exact((Below.refl _ w).alloc (Nat.le_refl _) _).drew
theorem NA (n:Nat) (hn:n≤1000000) (mem:List (Nat×bk)) (nx:Nat):aw Ya 151 [.c .nils,I n] mem nx (.c (.ref nx)) ((nx,.arr 92 3 [])::mem) (nx+1):=by
 refine⟨⟨_,Tryz.func151,rfl,by kernel_rfl⟩,λw0 U ι w vs hs hr=> ?_⟩
 have hB:=hs.below.size
 obtain⟨vs⟩:=vs
 cases hr with
 |cons h1 t=>cases t with
  |cons h2 t=>
   cases t
   have e1:=rO h1
   have e2:=(bo h2).1
   subst e1 e2
   refine(Pj n hn w).mono ?_
   rintro en w' ⟨v,cells,rfl,u,rfl,E⟩
   obtain⟨ι',k1,k2,k3,k4⟩:=hs.newBox (pv:=v) (bx:= .arr 92 3 []) E (λb hb=>by
    rcases u.2 with⟨e,_⟩|⟨g,cap,cur,e,hg,_⟩
    ·rw[e]at hb;cases hb
    ·rw[e]at hb
     simp[bI]at hb
     omega) (λι' e1 e2 J=>⟨[],by decide,by rw[e2];exact ol u hB,by simp,bu.nil⟩)
   refine⟨v,ι',rfl,k1, ?_⟩
   rw[←k2]
   refine .c (.ref (Nat.lt_succ_self _) ?_)
   rw[k2]
   rcases u.2 with⟨e,_⟩|⟨g,cap,cur,e,_⟩
   ·exact⟨_,_,_,e⟩
   ·exact⟨_,_,_,e⟩
theorem A0 (a b:List gU) (ha:a.length≤1000) (Q:b.length≤1000):ac Ya 113 [.c (.pure (.slice [[dp fg a], [dp fg b]]))] (i6 fg (a++b)):=by
 refine ac.of ii (by simp) λhb=>aa ?_
 conv in bh _ _=>cbv
 repeat' first|simp(disch:=omega)only[go_sem, *]|apply ab<;>intro h<;>try omega
 refine ai (λk:Nat=>⟨[(11,I k),(10,I 2),(9,.c (.pure (.slice [[dp fg a], [dp fg b]]))),(3,I (if k=0 then 0 else if k=1 then a.length else a.length+b.length:Nat)),(0,.c (.pure (.slice [[dp fg a], [dp fg b]])))], [],0,0⟩) (λk=>k≤2) (λk=>2-k) ⟨0, [],by omega,by simp⟩ ?_
 intro k hk
 refine aa ?_
 have z:k=0∨k=1∨k=2:=by omega
 rcases z with rfl|rfl|rfl
 ·repeat' first|simp(disch:=omega)only[go_sem, *,wrap_i64]|apply ab<;>intro h<;>try omega
  exact⟨1, [],by omega,by omega,by simp⟩
 ·repeat' first|simp(disch:=omega)only[go_sem, *,wrap_i64]|apply ab<;>intro h<;>try omega
  exact⟨2, [],by omega,by omega,by simp⟩
 ·repeat' first|simp(disch:=omega)only[go_sem, *,wrap_i64]|apply ab<;>intro h<;>try omega|refine ap (NA (a.length+b.length) (by omega) _ _) ?_
  refine ai (λk:Nat=>⟨[(27,I k),(26,I 2),(25,.c (.pure (.slice [[dp fg a], [dp fg b]]))),(6,.c (.ref 0))], [(0,.arr 92 3 ((if k=0 then []else if k=1 then a else a++b).map fg))],1,0⟩) (λk=>k≤2) (λk=>2-k) ⟨0, [],by omega,by simp⟩ ?_
  intro k hk
  refine aa ?_
  have z:k=0∨k=1∨k=2:=by omega
  rcases z with rfl|rfl|rfl
  ·repeat' first|simp(disch:=omega)only[go_sem, *,wrap_i64]|apply ab<;>intro h<;>try omega|refine aA rfl (by intro h;cases h) (ar λx=>rfl) (by simp;omega) (by simp;omega) ?_
   exact⟨1, [(0,1)],by omega,by omega,by simp⟩
  ·repeat' first|simp(disch:=omega)only[go_sem, *,wrap_i64]|apply ab<;>intro h<;>try omega|refine aA rfl (by intro h;cases h) (ar λx=>rfl) (by simp;omega) (by simp;omega) ?_
   exact⟨2, [(0,1)],by omega,by omega,by simp⟩
  ·repeat' first|simp(disch:=omega)only[go_sem, *,wrap_i64]|apply ab<;>intro h<;>try omega
set_option maxRecDepth 20000
set_option maxRecDepth 1000000
theorem OV {w:World} {V:Nat→Prop} {T:TypeId} {l:List ByteArray} (hV:V w.heap.size) (hl:l.length≤9223372036854775807):
  aX (w.alloc (.cells (l.map Value.string).toArray T)) V (λ_=>undef) 0 (lO l) (.slice (some ⟨w.heap.size,0,none⟩) l.length l.length):=by
 refine .c (.pure (.slice (sz:=1) (λi _=>(l.map Value.string).getD i undef) (by simp) (Nat.le_refl _) (by simpa using hl) ?_ ?_ ?_))
 ·intro i row hi
  rw[List.getElem?_map]at hi
  obtain⟨s,_,rfl⟩:=Option.map_eq_some_iff.1 hi
  rfl
 ·intro i row j p hi hj
  rw[List.getElem?_map]at hi
  obtain⟨s,hs,rfl⟩:=Option.map_eq_some_iff.1 hi
  cases j with
  |succ j=>simp at hj
  |zero=>
   refine⟨w.heap.size,0,rfl,hV, ?_⟩
   have f:=(List.getElem?_eq_some_iff.1 hs).1
   rw[cell_of_row _ _ _ _ _ _ (World.alloc_heap_new w _)]
   simp[hs]
 ·intro i row j p hi hj
  rw[List.getElem?_map]at hi
  obtain⟨s,hs,rfl⟩:=Option.map_eq_some_iff.1 hi
  cases j with
  |succ j=>simp at hj
  |zero=>
   simp at hj
   subst hj
   simp[hs]
   exact .val rfl
theorem tv {s:ByteArray} {l:List ByteArray} (hs:s.size<4294967281) (y:s.data.toList.all (λb=>decide (b.toNat<128))=true) (hl:(Go.Lib.fields s.data.toList).map (λl=>(⟨l.toArray⟩:ByteArray))=l) (N:l.length≤1000000):ac Ya 193 [S s] (lO l):=by
 refine⟨⟨_,Tryz.func193,rfl,by kernel_rfl⟩,λw U vs hG hr=> ?_⟩
 obtain⟨vs⟩:=vs
 cases hr with
 |cons h1 t=>
  cases t
  have e1:=(bo h1).1
  subst e1
  have hT: ∀c:Nat,c<256→w.cell? ⟨Tryz.lays157_ren.g 0,c,none⟩=some (.int .u8 (if Lib.isSp (UInt8.ofNat c)then 1 else 0)):= λc hc=>hG _ rfl c hc
  refine(Any.strings_Fields_core Tryz.lays157 (by kernel_rfl) s w hs (λj b hb=>of_decide_eq_true (List.all_eq_true.1 y b (List.mem_of_getElem? hb))) hT).mono ?_
  rintro e w' ⟨rfl,rfl⟩
  have e2:(Go.Lib.fields s.data.toList).map (λl=>Value.string ⟨l.toArray⟩)=l.map Value.string:=by rw[←hl,List.map_map];rfl
  have e3:(Go.Lib.fields s.data.toList).length=l.length:=by rw[←hl,List.length_map]
  rw[e2,e3]
  exact⟨_,rfl,OV (.inr (Nat.le_refl _)) (by omega),(Below.refl _ w).alloc (Nat.le_refl _) _⟩
theorem uh:ac Ya 148 [] (lO s9):=by
 refine ac.of vw (by simp) λhb=>aa ?_
 conv in bh _ _=>cbv
 repeat' first|simp(disch:=omega)only[go_sem, *]|apply ab<;>intro h<;>try omega|refine aW (tv (l:=s9) (by decide) (by decide+kernel) (by kernel_rfl) (by decide)) rfl rfl ?_
abbrev Vo (n:Int):AV:= .c (.pure (.val (.int .i32 n)))
theorem nH (n:Int):ac Ya 106 [Vo n] (Go.Abs.B (decide (97≤n∧n≤122))):=by
 refine ac.of yw (by simp) λhb=>aa ?_
 conv in bh _ _=>cbv
 repeat' first|simp(disch:=omega)only[go_sem, *]|apply ab<;>intro h<;>try omega
 all_goals(simp[*]<;>omega)
theorem yj (n:Int):ac Ya 147 [Vo n] (Go.Abs.B (decide (48≤n∧n≤57))):=by
 refine ac.of y1 (by simp) λhb=>aa ?_
 conv in bh _ _=>cbv
 repeat' first|simp(disch:=omega)only[go_sem, *]|apply ab<;>intro h<;>try omega
 all_goals(simp[*]<;>omega)
def Hz (n:Int):Prop:=(97≤n∧n≤122)∨(48≤n∧n≤57)∨n=95
instance (n:Int):Decidable (Hz n):=inferInstanceAs (Decidable (_∨_))
theorem nD (n:Int):ac Ya 108 [Vo n] (Go.Abs.B (decide (Hz n))):=by
 refine ac.of x5 (by simp) λhb=>aa ?_
 conv in bh _ _=>cbv
 repeat' first|simp(disch:=omega)only[go_sem, *]|apply ab<;>intro h<;>try omega|refine aq (nH n) rfl rfl ?_|refine aq (yj n) rfl rfl ?_
 all_goals(refine BD ?_;clear hb;simp only[Bool.not_eq_true',xP,yB,reduceCtorEq,false_iff,true_iff,not_exists,not_and,Classical.not_not,decide_eq_true_iff,decide_eq_false_iff_not];first|done|grind [Hz])
def mf:List UInt8→Nat
 | []=>0
 |c::r=>if Hz c.toNat then mf r+1 else 0
theorem F5: ∀l:List UInt8,mf l≤l.length
 | []=>by simp[mf]
 |c::r=>by
  rw[mf]
  have:=F5 r
  split<;>simp<;>omega
theorem ID: ∀{l:List UInt8} {k:Nat},(∀i (h:i<k) (hl:i<l.length),Hz (l[i].toNat))→k≤l.length→(∀h:k<l.length,¬Hz (l[k].toNat))→mf l=k
 | [],k,_,hk,_=>by simp at hk;simp[mf,hk]
 |c::r,0,_,_,h=>by rw[mf,if_neg (show ¬Hz c.toNat from h (by simp))]
 |c::r,k+1,h1,h2,h3=>by
  rw[mf,if_pos (show Hz c.toNat from h1 0 (by omega) (by simp)),ID (l:=r) (k:=k) (λi hi hl=>h1 (i+1) (by omega) (by simpa using hl)) (by simpa using h2) (λh=>h3 (by simpa using h))]
theorem tH: ∀{l:List UInt8},mf l=l.length↔ ∀i (h:i<l.length),Hz (l[i].toNat)
 | []=>by simp[mf]
 |c::r=>by
  have:=F5 r
  rw[mf]
  constructor
  ·intro h i hi
   split at h
   ·cases i with
    |zero=>assumption
    |succ i=>exact(tH (l:=r)).1 (by simpa using h) i (by simpa using hi)
   ·simp at h
  ·intro h
   rw[if_pos (show Hz c.toNat from h 0 (by simp)),(tH (l:=r)).2 λi hi=>h (i+1) (by simpa using hi)]
   simp
theorem Gb {s:ByteArray} {i:Nat} (h:i<s.size):s[i]=s.data.toList[i]'(by simpa using h):=rfl
theorem zt {s:ByteArray} (hs:s.size≤16):ac Ya 107 [S s,.c (.clo 108 [])] (I (mf s.data.toList)):=by
 refine ac.of CF (by simp) λhb=>aa ?_
 conv in bh _ _=>cbv
 repeat' first|simp(disch:=omega)only[go_sem]|((with_reducible refine ab ?_ ?_)<;>intro h<;>try first|omega|simp(disch:=omega)only[go_sem, *])
 refine ai (λk:Nat=>⟨[(5,I k),(1,.c (.clo 108 [])),(0,S s)], [],0,0⟩) (λk=>k≤s.size∧dZ (λj=> ∀h:j<s.size,Hz (s[j].toNat)) k) (λk=>s.size-k) ⟨0, [],⟨by omega,.zero⟩,by simp⟩ ?_
 rintro k ⟨hk,d⟩
 refine aa ?_
 have fin:(∀h:k<s.size,¬Hz (s[k].toNat))→mf s.data.toList=k:= λh=>ID (λi hi hl=>Gb (by simpa using hl)▸d i hi (by simpa using hl)) (by simpa using hk) (λhl=>Gb (by simpa using hl)▸h (by simpa using hl))
 by_cases f:k<s.size
 ·have hc:=(s[k]).toNat_lt
  have e1:IntKind.wrap .i32 (s[k].toNat:Int)=s[k].toNat:=by rw[IntKind.wrap_i32];omega
  by_cases hw:Hz (s[k].toNat)
  ·have HF:=Lib.hid fin
   clear fin
   repeat' first|simp(disch:=omega)only[go_sem,getElem?_pos s k f,wrap_i64,e1]|((with_reducible refine ab ?_ ?_)<;>intro h<;>try first|omega|simp(disch:=omega)only[go_sem, *,getElem?_pos s k f,wrap_i64,e1])|refine aq (nD _) rfl rfl ?_
   ·exact⟨k+1, [],⟨by omega,d.succ λ_=>hw⟩,by omega,by simp⟩
   ·exact absurd hw h
  ·have e2:=fin λ_=>hw
   have E2:=Lib.hid e2
   clear e2 fin d
   repeat' first|simp(disch:=omega)only[go_sem,getElem?_pos s k f,wrap_i64,e1]|((with_reducible refine ab ?_ ?_)<;>intro h<;>try first|omega|simp(disch:=omega)only[go_sem, *,getElem?_pos s k f,wrap_i64,e1])|refine aq (nD _) rfl rfl ?_
   ·exact absurd h hw
   ·rw[E2.out]
 ·have e2:=fin λh=>absurd h f
  have E2:=Lib.hid e2
  clear e2 fin d
  repeat' first|simp(disch:=omega)only[go_sem]|((with_reducible refine ab ?_ ?_)<;>intro h<;>try first|omega|simp(disch:=omega)only[go_sem, *])
  rw[E2.out]
theorem qJ (xs:List ByteArray) (s:ByteArray):ac Ya 65 [lO xs,S s] (I (oY (· =s) xs)):=by
 refine ac.of jT (by simp) λhb=>aa ?_
 have hl:xs.length≤9223372036854775807:=by simpa[gw,gT]using hb.1
 conv in bh _ _=>cbv
 repeat' first|simp(disch:=omega)only[go_sem, *]|apply ab<;>intro h<;>try omega
 refine ai (λk:Nat=>⟨[(0,lO xs),(1,S s),(7,I xs.length),(8,I k)], [],0,0⟩) (λk=>k≤xs.length∧dZ (λj=> ∀h:j<xs.length,¬xs[j]=s) k) (λk=>xs.length-k) ⟨0, [],⟨by omega,.zero⟩,by simp⟩ ?_
 rintro k ⟨hk,d⟩
 refine aa ?_
 by_cases f:k<xs.length
 ·by_cases he:xs[k]=s
  ·have e2:=AH (p:=(· =s)) f he λj hj=>d j hj (by omega)
   have E2:=Lib.hid e2
   clear e2 d
   repeat' first|simp(disch:=omega)only[go_sem, *,ah f,lL,he,wrap_i64,decide_true]|apply ab<;>intro h<;>try omega
   rw[E2.out]
  ·have K: ¬s=xs[k]:= λh=>he h.symm
   repeat' first|simp(disch:=omega)only[go_sem, *,ah f,lL,K,wrap_i64]|apply ab<;>intro h<;>try omega
   exact⟨k+1, [],⟨by omega,d.succ λ_=>he⟩,by omega,by simp⟩
 ·have e2:=tZ (p:=(· =s)) (xs:=xs) λj hj=>d j (by omega) hj
  have E2:=Lib.hid e2
  clear e2 d
  repeat' first|simp(disch:=omega)only[go_sem, *]|apply ab<;>intro h<;>try omega
  rw[E2.out]
theorem iK (xs:List ByteArray) (s:ByteArray):ac Ya 30 [lO xs,S s] (Go.Abs.B (decide (s∈xs))):=by
 refine ac.of jc (by simp) λhb=>aa ?_
 conv in bh _ _=>cbv
 repeat' first|simp(disch:=omega)only[go_sem, *]|apply ab<;>intro h<;>try omega|refine aq (qJ xs s) rfl rfl ?_
 refine BD ?_
 rw[decide_eq_true_iff]
 refine Hr.trans ⟨?_,λh=>⟨s,h,rfl⟩⟩
 rintro⟨x,hx,rfl⟩
 exact hx
theorem sy (s:ByteArray):ac Ya 109 [S s] (Go.Abs.B (decide (s∈s9))):=by
 refine ac.of ud (by simp) λhb=>aa ?_
 conv in bh _ _=>cbv
 repeat' first|simp(disch:=omega)only[go_sem, *]|apply ab<;>intro h<;>try omega|refine aW uh rfl rfl ?_|refine aq (iK s9 s) rfl rfl ?_
theorem BO {s:ByteArray} (h:0<s.size):fW s↔s.size≤16∧ ¬s∈s9∧(97≤(s[0].toNat:Int)∧(s[0].toNat:Int)≤122)∧ ∀i (h:i<s.size),Hz (s[i].toNat):=by
 unfold fW
 constructor
 ·rintro⟨h1,h2,h3,h4⟩
  refine⟨h2,h3,by have:=h4 0 h;unfold sx at this;omega,λi hi=>by have:=h4 i hi;unfold sx at this;unfold Hz;omega⟩
 ·rintro⟨h2,h3,h4,h5⟩
  refine⟨h,h2,h3,λi hi=> ?_⟩
  have:=h5 i hi
  unfold Hz at this
  unfold sx
  by_cases e:i=0
  ·subst e;omega
  ·omega
theorem bK (s:ByteArray):ac Ya 57 [S s] (Go.Abs.B (decide (fW s))):=by
 refine ac.of yc (by simp) λhb=>aa ?_
 conv in bh _ _=>cbv
 by_cases h0:s.size=0
 ·have he:s=⟨⟨[]⟩⟩:=by
   obtain⟨⟨l⟩⟩:=s
   have:l= []:=List.eq_nil_of_length_eq_zero h0
   rw[this]
  subst he
  repeat' first|simp(disch:=omega)only[go_sem, *]|apply ab<;>intro h<;>try omega
  exact BD ⟨λh=>(by cases h),λh=>(by have:=h.1;revert this;decide)⟩
 ·by_cases A:s.size≤16
  ·have q:0<s.size:=by omega
   have C: ¬s=⟨⟨[]⟩⟩:= λh=>h0 (by rw[h];rfl)
   have hc:=(s[0]).toNat_lt
   have e1:IntKind.wrap .i32 (s[0].toNat:Int)=s[0].toNat:=by rw[IntKind.wrap_i32];omega
   have F:=zt A
   have o:mf s.data.toList=s.size↔ ∀i (h:i<s.size),Hz (s[i].toNat):=by
    have L:s.data.toList.length=s.size:=by simp
    refine Iff.trans (by rw[←L]) (tH.trans ⟨λh i hi=>h i (by simpa using hi),λh i hi=>h i (by simpa using hi)⟩)
   generalize mf s.data.toList=m at F o
   have HF:=Lib.hid o
   clear o
   repeat' first|simp(disch:=omega)only[go_sem, *,getElem?_pos s 0 q,Int.toNat_zero,e1,C]|apply ab<;>intro h<;>try omega|refine aq (nH _) rfl rfl ?_|refine aq F rfl rfl ?_|refine aq (sy s) rfl rfl ?_
   ·refine BD ?_
    rw[BO q]
    have:=HF.out.1 (by omega)
    simp only[Bool.not_eq_true',decide_eq_false_iff_not]
    exact⟨λhn=>⟨A,hn,‹_›,this⟩,λhh=>hh.2.1⟩
   ·refine BD ⟨λh=>(by cases h),λhh=> ?_⟩
    have:=HF.out.2 ((BO q).1 hh).2.2.2
    omega
   ·exact BD ⟨λh=>(by cases h),λhh=>absurd ((BO q).1 hh).2.2.1 h⟩
  ·have C: ¬s=⟨⟨[]⟩⟩:= λh=>h0 (by rw[h];rfl)
   repeat' first|simp(disch:=omega)only[go_sem, *,C]|apply ab<;>intro h<;>try omega
   exact BD ⟨λh=>(by cases h),λhh=>absurd hh.2.1 A⟩
end Go.Proofs.YtiapgekjmcjjgaaGreatDoor
