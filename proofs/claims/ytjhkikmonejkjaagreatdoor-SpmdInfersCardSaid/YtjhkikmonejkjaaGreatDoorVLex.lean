import Derived.Test.YtjhkikmonejkjaaGreatDoorP17
import Derived.Test.YtjhkikmonejkjaaGreatDoorLift
import Derived.Test.YtjhkikmonejkjaaGreatDoorVSort
set_option linter.unusedVariables false
set_option linter.unusedSimpArgs false
set_option maxRecDepth 20000
open Go.Proofs.Tryz renaming prog→Ya
namespace Go.Proofs.YtjhkikmonejkjaaGreatDoor
open Go.Abs Go.RowKit
theorem QG (n:Nat) (hn:n≤1000000) (w:World):Calls Ya 165 #[.slice none 0 0,.int .i64 n] w λen w'=>
  ∃v cells,en= .returned v∧w'.ownsRow w.heap.size 103 3 v 0 cells∧cells= []∧Below w.heap.size w w':=by
 have O:(n:Int)≤1000000:=by omega
 by_cases h0:n=0
 ·subst h0
  go_enter Tryz.func165,Tryz.ntmps165
  go_wp2
  go_ret
  exact⟨_, [],rfl,World.ownsRow_nil _ _ _ _,rfl,Below.refl _ _⟩
 ·have h1: ¬((n:Int)<0):=by omega
  have h2:(0:Int)<n:=by omega
  have D:Tryz.t103.bytes=48:=by kernel_rfl
  have M: ¬281474976710656<Builtin.nextslicecap n 0*Tryz.t103.bytes:=by
   have:=growslice_fits (need:=n) (old:=0) (bytes:=Tryz.t103.bytes) (by omega) (by rw[D];omega)
   omega
  have G: ¬(281474976710656:Int)<(n:Int)*Tryz.t103.bytes:=by rw[D];omega
  have h3: ¬n*3=0:=by omega
  have h9:(n:Int)≤9223372036854775807:=by omega
  have h5:0<n:=by omega
  go_enter Tryz.func165,Tryz.ntmps165
  go_wp2
  go_ret
  have P:n≤(Question.appendCap n 0 103).cut (w.tape w.drawn (Question.appendCap n 0 103)):=grownCap_ge w n 0 _
  have H:(Question.appendCap n 0 103).cut (w.tape w.drawn (Question.appendCap n 0 103))≤maxLen:=grownCap_le_maxLen w n 0 _ (by unfold maxLen;omega)
  generalize (Question.appendCap n 0 103).cut (w.tape w.drawn (Question.appendCap n 0 103))=cap at*
  refine⟨_,rfl, [],⟨by simp,.inr ⟨w.heap.size,cap,_,rfl,Nat.le_refl _,World.alloc_heap_new w _,by omega,H, ?_,by simp⟩⟩,rfl, ?_⟩
  ·simp[Mz]
   omega
  ·exact((Below.refl _ w).alloc (Nat.le_refl _) _).drew
theorem Ok (n:Nat) (hn:n≤1000000) (mem:List (Nat×bm)) (nx:Nat):bb Ya 165 [.c .nils,I n] mem nx (.c (.ref nx)) ((nx,.arr 103 3 [])::mem) (nx+1):=by
 refine⟨⟨_,Tryz.func165,rfl,by kernel_rfl⟩,λw0 U ι w vs hs hr=> ?_⟩
 have hB:=hs.below.size
 obtain⟨vs⟩:=vs
 cases hr with
 |cons h1 t=>cases t with
  |cons h2 t=>
   cases t
   have e1:=tx h1
   have e2:=(aQ h2).1
   subst e1 e2
   refine(QG n hn w).mono ?_
   rintro en w' ⟨v,cells,rfl,u,rfl,E⟩
   obtain⟨ι',k1,k2,k3,k4⟩:=hs.newBox (pv:=v) (bx:= .arr 103 3 []) E (λb hb=>by
    rcases u.2 with⟨e,_⟩|⟨g,cap,cur,e,hg,_⟩
    ·rw[e]at hb;cases hb
    ·rw[e]at hb
     simp[bc]at hb
     omega) (λι' e1 e2 J=>⟨[],by decide,by rw[e2];exact pd u hB,by simp,aO.nil⟩)
   refine⟨v,ι',rfl,k1, ?_⟩
   rw[←k2]
   refine .c (.ref (Nat.lt_succ_self _) ?_)
   rw[k2]
   rcases u.2 with⟨e,_⟩|⟨g,cap,cur,e,_⟩
   ·exact⟨_,_,_,e⟩
   ·exact⟨_,_,_,e⟩
theorem DL (a b:List eU) (ha:a.length≤1000) (Q:b.length≤1000):af Ya dP [.c (.pure (.slice [[cZ ee a], [cZ ee b]]))] (bZ ee (a++b)):=by
 refine af.of gR (by simp) λhb=>aa ?_
 simp only[dO]
 repeat' first|simp(disch:=omega)only[go_sem, *]|apply ab<;>intro h<;>try omega
 refine ai (λk:Nat=>⟨[(11,I k),(10,I 2),(9,.c (.pure (.slice [[cZ ee a], [cZ ee b]]))),(3,I (if k=0 then 0 else if k=1 then a.length else a.length+b.length:Nat)),(0,.c (.pure (.slice [[cZ ee a], [cZ ee b]])))], [],0,0⟩) (λk=>k≤2) (λk=>2-k) ⟨0, [],by omega,by simp⟩ ?_
 intro k hk
 refine aa ?_
 have z:k=0∨k=1∨k=2:=by omega
 rcases z with rfl|rfl|rfl
 ·repeat' first|simp(disch:=omega)only[go_sem, *,wrap_i64]|apply ab<;>intro h<;>try omega
  exact⟨1, [],by omega,by omega,by simp⟩
 ·repeat' first|simp(disch:=omega)only[go_sem, *,wrap_i64]|apply ab<;>intro h<;>try omega
  exact⟨2, [],by omega,by omega,by simp⟩
 ·repeat' first|simp(disch:=omega)only[go_sem, *,wrap_i64]|apply ab<;>intro h<;>try omega|refine aU (Ok (a.length+b.length) (by omega) _ _) ?_
  refine ai (λk:Nat=>⟨[(27,I k),(26,I 2),(25,.c (.pure (.slice [[cZ ee a], [cZ ee b]]))),(6,.c (.ref 0))], [(0,.arr 103 3 ((if k=0 then []else if k=1 then a else a++b).map ee))],1,0⟩) (λk=>k≤2) (λk=>2-k) ⟨0, [],by omega,by simp⟩ ?_
  intro k hk
  refine aa ?_
  have z:k=0∨k=1∨k=2:=by omega
  rcases z with rfl|rfl|rfl
  ·repeat' first|simp(disch:=omega)only[go_sem, *,wrap_i64]|apply ab<;>intro h<;>try omega|refine aF rfl (by intro h;cases h) (aG λx=>rfl) (by simp;omega) (by simp;omega) ?_
   exact⟨1, [(0,1)],by omega,by omega,by simp⟩
  ·repeat' first|simp(disch:=omega)only[go_sem, *,wrap_i64]|apply ab<;>intro h<;>try omega|refine aF rfl (by intro h;cases h) (aG λx=>rfl) (by simp;omega) (by simp;omega) ?_
   exact⟨2, [(0,1)],by omega,by omega,by simp⟩
  ·repeat' first|simp(disch:=omega)only[go_sem, *,wrap_i64]|apply ab<;>intro h<;>try omega
theorem QC {w:World} {V:Nat→Prop} {T:TypeId} {l:List ByteArray} (hV:V w.heap.size) (hl:l.length≤9223372036854775807):
  aK (w.alloc (.cells (l.map Value.string).toArray T)) V (λ_=>undef) 0 (iA l) (.slice (some ⟨w.heap.size,0,none⟩) l.length l.length):=by
 refine .c (.pure (.slice (sz:=1) (λi _=>(l.map Value.string).getD i undef) (by simp) (Nat.le_refl _) (by simpa using hl) ?_ ?_ ?_))
 ·intro i row hi
  rw[List.getElem?_map]at hi
  obtain⟨s,_,rfl⟩:=Option.map_eq_some_iff.1 hi
  rfl
 ·intro i row j p hi hj
  rw[List.getElem?_map]at hi
  obtain⟨s,hs,rfl⟩:=Option.map_eq_some_iff.1 hi
  cases j with
  |succ j=>simp at hj
  |zero=>
   refine⟨w.heap.size,0,rfl,hV, ?_⟩
   have f:=(List.getElem?_eq_some_iff.1 hs).1
   rw[cell_of_row _ _ _ _ _ _ (World.alloc_heap_new w _)]
   simp[hs]
 ·intro i row j p hi hj
  rw[List.getElem?_map]at hi
  obtain⟨s,hs,rfl⟩:=Option.map_eq_some_iff.1 hi
  cases j with
  |succ j=>simp at hj
  |zero=>
   simp at hj
   subst hj
   simp[hs]
   exact .val rfl
theorem wo {s:ByteArray} {l:List ByteArray} (hs:s.size<4294967281) (y:s.data.toList.all (λb=>decide (b.toNat<128))=true) (hl:(Go.Lib.fields s.data.toList).map (λl=>(⟨l.toArray⟩:ByteArray))=l) (N:l.length≤1000000):af Ya 194 [S s] (iA l):=by
 refine⟨⟨_,Tryz.func194,rfl,by kernel_rfl⟩,λw U vs hG hr=> ?_⟩
 obtain⟨vs⟩:=vs
 cases hr with
 |cons h1 t=>
  cases t
  have e1:=(aQ h1).1
  subst e1
  have hT: ∀c:Nat,c<256→w.cell? ⟨Tryz.lays157_ren.g 0,c,none⟩=some (.int .u8 (if Lib.isSp (UInt8.ofNat c)then 1 else 0)):= λc hc=>hG _ rfl c hc
  refine(Any.strings_Fields_core Tryz.lays157 (by kernel_rfl) s w hs (λj b hb=>of_decide_eq_true (List.all_eq_true.1 y b (List.mem_of_getElem? hb))) hT).mono ?_
  rintro e w' ⟨rfl,rfl⟩
  have e2:(Go.Lib.fields s.data.toList).map (λl=>Value.string ⟨l.toArray⟩)=l.map Value.string:=by rw[←hl,List.map_map];rfl
  have e3:(Go.Lib.fields s.data.toList).length=l.length:=by rw[←hl,List.length_map]
  rw[e2,e3]
  exact⟨_,rfl,QC (.inr (Nat.le_refl _)) (by omega),(Below.refl _ w).alloc (Nat.le_refl _) _⟩
theorem vH:af Ya nV [] (iA vz):=by
 refine af.of yj (by simp) λhb=>aa ?_
 simp only[o3]
 repeat' first|simp(disch:=omega)only[go_sem, *]|apply ab<;>intro h<;>try omega|refine o5 (wo (l:=vz) (by decide) (by decide+kernel) (by kernel_rfl) (by decide)) rfl rfl ?_
abbrev VZ (n:Int):AV:= .c (.pure (.val (.int .i32 n)))
theorem oi (n:Int):af Ya tp [VZ n] (Go.Abs.B (decide (97≤n∧n≤122))):=by
 refine af.of Bl (by simp) λhb=>aa ?_
 simp only[sq]
 repeat' first|simp(disch:=omega)only[go_sem, *]|apply ab<;>intro h<;>try omega
 all_goals(simp[*]<;>omega)
theorem Bw (n:Int):af Ya uk [VZ n] (Go.Abs.B (decide (48≤n∧n≤57))):=by
 refine af.of DR (by simp) λhb=>aa ?_
 simp only[uZ]
 repeat' first|simp(disch:=omega)only[go_sem, *]|apply ab<;>intro h<;>try omega
 all_goals(simp[*]<;>omega)
def IW (n:Int):Prop:=(97≤n∧n≤122)∨(48≤n∧n≤57)∨n=95
instance (n:Int):Decidable (IW n):=inferInstanceAs (Decidable (_∨_))
theorem oj (n:Int):af Ya iB [VZ n] (Go.Abs.B (decide (IW n))):=by
 refine af.of A0 (by simp) λhb=>aa ?_
 simp only[rA]
 repeat' first|simp(disch:=omega)only[go_sem, *]|apply ab<;>intro h<;>try omega|refine av (oi n) rfl rfl ?_|refine av (Bw n) rfl rfl ?_
 all_goals(refine BD ?_;clear hb;simp only[Bool.not_eq_true',A3,BF,reduceCtorEq,false_iff,true_iff,not_exists,not_and,Classical.not_not,decide_eq_true_iff,decide_eq_false_iff_not];first|done|grind [IW])
def ml:List UInt8→Nat
 | []=>0
 |c::r=>if IW c.toNat then ml r+1 else 0
theorem IJ: ∀l:List UInt8,ml l≤l.length
 | []=>by simp[ml]
 |c::r=>by
  rw[ml]
  have:=IJ r
  split<;>simp<;>omega
theorem Jo: ∀{l:List UInt8} {k:Nat},(∀i (h:i<k) (hl:i<l.length),IW (l[i].toNat))→k≤l.length→(∀h:k<l.length,¬IW (l[k].toNat))→ml l=k
 | [],k,_,hk,_=>by simp at hk;simp[ml,hk]
 |c::r,0,_,_,h=>by rw[ml,if_neg (show ¬IW c.toNat from h (by simp))]
 |c::r,k+1,h1,h2,h3=>by
  rw[ml,if_pos (show IW c.toNat from h1 0 (by omega) (by simp)),Jo (l:=r) (k:=k) (λi hi hl=>h1 (i+1) (by omega) (by simpa using hl)) (by simpa using h2) (λh=>h3 (by simpa using h))]
theorem wc: ∀{l:List UInt8},ml l=l.length↔ ∀i (h:i<l.length),IW (l[i].toNat)
 | []=>by simp[ml]
 |c::r=>by
  have:=IJ r
  rw[ml]
  constructor
  ·intro h i hi
   split at h
   ·cases i with
    |zero=>assumption
    |succ i=>exact(wc (l:=r)).1 (by simpa using h) i (by simpa using hi)
   ·simp at h
  ·intro h
   rw[if_pos (show IW c.toNat from h 0 (by simp)),(wc (l:=r)).2 λi hi=>h (i+1) (by simpa using hi)]
   simp
theorem Jg {s:ByteArray} {i:Nat} (h:i<s.size):s[i]=s.data.toList[i]'(by simpa using h):=rfl
theorem Dg {s:ByteArray} (hs:s.size≤16):af Ya xv [S s,.c (.clo iB [])] (I (ml s.data.toList)):=by
 refine af.of Fg (by simp) λhb=>aa ?_
 simp only[w6]
 repeat' first|simp(disch:=omega)only[go_sem]|((with_reducible refine ab ?_ ?_)<;>intro h<;>try first|omega|simp(disch:=omega)only[go_sem, *])
 refine ai (λk:Nat=>⟨[(5,I k),(1,.c (.clo iB [])),(0,S s)], [],0,0⟩) (λk=>k≤s.size∧bI (λj=> ∀h:j<s.size,IW (s[j].toNat)) k) (λk=>s.size-k) ⟨0, [],⟨by omega,.zero⟩,by simp⟩ ?_
 rintro k ⟨hk,d⟩
 refine aa ?_
 have fin:(∀h:k<s.size,¬IW (s[k].toNat))→ml s.data.toList=k:= λh=>Jo (λi hi hl=>Jg (by simpa using hl)▸d i hi (by simpa using hl)) (by simpa using hk) (λhl=>Jg (by simpa using hl)▸h (by simpa using hl))
 by_cases f:k<s.size
 ·have hc:=(s[k]).toNat_lt
  have e1:IntKind.wrap .i32 (s[k].toNat:Int)=s[k].toNat:=by rw[IntKind.wrap_i32];omega
  by_cases hw:IW (s[k].toNat)
  ·have HF:=Lib.hid fin
   clear fin
   repeat' first|simp(disch:=omega)only[go_sem,getElem?_pos s k f,wrap_i64,e1]|((with_reducible refine ab ?_ ?_)<;>intro h<;>try first|omega|simp(disch:=omega)only[go_sem, *,getElem?_pos s k f,wrap_i64,e1])|refine av (oj _) rfl rfl ?_
   ·exact⟨k+1, [],⟨by omega,d.succ λ_=>hw⟩,by omega,by simp⟩
   ·exact absurd hw h
  ·have e2:=fin λ_=>hw
   have E2:=Lib.hid e2
   clear e2 fin d
   repeat' first|simp(disch:=omega)only[go_sem,getElem?_pos s k f,wrap_i64,e1]|((with_reducible refine ab ?_ ?_)<;>intro h<;>try first|omega|simp(disch:=omega)only[go_sem, *,getElem?_pos s k f,wrap_i64,e1])|refine av (oj _) rfl rfl ?_
   ·exact absurd h hw
   ·rw[E2.out]
 ·have e2:=fin λh=>absurd h f
  have E2:=Lib.hid e2
  clear e2 fin d
  repeat' first|simp(disch:=omega)only[go_sem]|((with_reducible refine ab ?_ ?_)<;>intro h<;>try first|omega|simp(disch:=omega)only[go_sem, *])
  rw[E2.out]
theorem sM (xs:List ByteArray) (s:ByteArray):af Ya e8 [iA xs,S s] (I (iY (· =s) xs)):=by
 refine af.of jJ (by simp) λhb=>aa ?_
 have hl:xs.length≤9223372036854775807:=by simpa[eW,ft]using hb.1
 simp only[eZ]
 repeat' first|simp(disch:=omega)only[go_sem, *]|apply ab<;>intro h<;>try omega
 refine ai (λk:Nat=>⟨[(0,iA xs),(1,S s),(7,I xs.length),(8,I k)], [],0,0⟩) (λk=>k≤xs.length∧bI (λj=> ∀h:j<xs.length,¬xs[j]=s) k) (λk=>xs.length-k) ⟨0, [],⟨by omega,.zero⟩,by simp⟩ ?_
 rintro k ⟨hk,d⟩
 refine aa ?_
 by_cases f:k<xs.length
 ·by_cases he:xs[k]=s
  ·have e2:=lv (p:=(· =s)) f he λj hj=>d j hj (by omega)
   have E2:=Lib.hid e2
   clear e2 d
   repeat' first|simp(disch:=omega)only[go_sem, *,ac f,aj,he,wrap_i64,decide_true]|apply ab<;>intro h<;>try omega
   rw[E2.out]
  ·have K: ¬s=xs[k]:= λh=>he h.symm
   repeat' first|simp(disch:=omega)only[go_sem, *,ac f,aj,K,wrap_i64]|apply ab<;>intro h<;>try omega
   exact⟨k+1, [],⟨by omega,d.succ λ_=>he⟩,by omega,by simp⟩
 ·have e2:=gK (p:=(· =s)) (xs:=xs) λj hj=>d j (by omega) hj
  have E2:=Lib.hid e2
  clear e2 d
  repeat' first|simp(disch:=omega)only[go_sem, *]|apply ab<;>intro h<;>try omega
  rw[E2.out]
theorem hX (xs:List ByteArray) (s:ByteArray):af Ya eh [iA xs,S s] (Go.Abs.B (decide (s∈xs))):=by
 refine af.of iM (by simp) λhb=>aa ?_
 simp only[ei]
 repeat' first|simp(disch:=omega)only[go_sem, *]|apply ab<;>intro h<;>try omega|refine av (sM xs s) rfl rfl ?_
 refine BD ?_
 rw[decide_eq_true_iff]
 refine yf.trans ⟨?_,λh=>⟨s,h,rfl⟩⟩
 rintro⟨x,hx,rfl⟩
 exact hx
theorem tU (s:ByteArray):af Ya m9 [S s] (Go.Abs.B (decide (s∈vz))):=by
 refine af.of vR (by simp) λhb=>aa ?_
 simp only[mR]
 repeat' first|simp(disch:=omega)only[go_sem, *]|apply ab<;>intro h<;>try omega|refine o5 vH rfl rfl ?_|refine av (hX vz s) rfl rfl ?_
theorem Ch {s:ByteArray} (h:0<s.size):eI s↔s.size≤16∧ ¬s∈vz∧(97≤(s[0].toNat:Int)∧(s[0].toNat:Int)≤122)∧ ∀i (h:i<s.size),IW (s[i].toNat):=by
 unfold eI
 constructor
 ·rintro⟨h1,h2,h3,h4⟩
  refine⟨h2,h3,by have:=h4 0 h;unfold uc at this;omega,λi hi=>by have:=h4 i hi;unfold uc at this;unfold IW;omega⟩
 ·rintro⟨h2,h3,h4,h5⟩
  refine⟨h,h2,h3,λi hi=> ?_⟩
  have:=h5 i hi
  unfold IW at this
  unfold uc
  by_cases e:i=0
  ·subst e;omega
  ·omega
theorem bf (s:ByteArray):af Ya rv [S s] (Go.Abs.B (decide (eI s))):=by
 refine af.of BA (by simp) λhb=>aa ?_
 simp only[rQ]
 by_cases h0:s.size=0
 ·have he:s=⟨⟨[]⟩⟩:=by
   obtain⟨⟨l⟩⟩:=s
   have:l= []:=List.eq_nil_of_length_eq_zero h0
   rw[this]
  subst he
  repeat' first|simp(disch:=omega)only[go_sem, *]|apply ab<;>intro h<;>try omega
  exact BD ⟨λh=>(by cases h),λh=>(by have:=h.1;revert this;decide)⟩
 ·by_cases A:s.size≤16
  ·have q:0<s.size:=by omega
   have C: ¬s=⟨⟨[]⟩⟩:= λh=>h0 (by rw[h];rfl)
   have hc:=(s[0]).toNat_lt
   have e1:IntKind.wrap .i32 (s[0].toNat:Int)=s[0].toNat:=by rw[IntKind.wrap_i32];omega
   have F:=Dg A
   have o:ml s.data.toList=s.size↔ ∀i (h:i<s.size),IW (s[i].toNat):=by
    have L:s.data.toList.length=s.size:=by simp
    refine Iff.trans (by rw[←L]) (wc.trans ⟨λh i hi=>h i (by simpa using hi),λh i hi=>h i (by simpa using hi)⟩)
   generalize ml s.data.toList=m at F o
   have HF:=Lib.hid o
   clear o
   repeat' first|simp(disch:=omega)only[go_sem, *,getElem?_pos s 0 q,Int.toNat_zero,e1,C]|apply ab<;>intro h<;>try omega|refine av (oi _) rfl rfl ?_|refine av F rfl rfl ?_|refine av (tU s) rfl rfl ?_
   ·refine BD ?_
    rw[Ch q]
    have:=HF.out.1 (by omega)
    simp only[Bool.not_eq_true',decide_eq_false_iff_not]
    exact⟨λhn=>⟨A,hn,‹_›,this⟩,λhh=>hh.2.1⟩
   ·refine BD ⟨λh=>(by cases h),λhh=> ?_⟩
    have:=HF.out.2 ((Ch q).1 hh).2.2.2
    omega
   ·exact BD ⟨λh=>(by cases h),λhh=>absurd ((Ch q).1 hh).2.2.1 h⟩
  ·have C: ¬s=⟨⟨[]⟩⟩:= λh=>h0 (by rw[h];rfl)
   repeat' first|simp(disch:=omega)only[go_sem, *,C]|apply ab<;>intro h<;>try omega
   exact BD ⟨λh=>(by cases h),λhh=>absurd hh.2.1 A⟩
end Go.Proofs.YtjhkikmonejkjaaGreatDoor
