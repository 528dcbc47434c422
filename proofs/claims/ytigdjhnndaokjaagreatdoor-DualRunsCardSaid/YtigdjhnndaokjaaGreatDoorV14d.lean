import Derived.Test.YtigdjhnndaokjaaGreatDoorShF
import Derived.Test.YtigdjhnndaokjaaGreatDoorV14b
set_option linter.unusedVariables false
set_option linter.unusedSimpArgs false
set_option maxHeartbeats 4000000
set_option maxRecDepth 1000000
open Go.Proofs.Tryz renaming prog→Pa0
namespace Go.Proofs.YtigdjhnndaokjaaGreatDoor
open Go.Abs Go.RowKit
variable {w:World}{l:List ByteArray}
theorem YY {V:Nat→Prop} {T:TypeId} (hV:V w.heap.size) (hl:l.length≤9223372036854775807):
  aT (w.alloc (.cells (l.map Value.string).toArray T)) V (λ_=>undef) 0 (DW l) (.slice (some ⟨w.heap.size,0,none⟩) l.length l.length):=by
 refine .c (.pure (.slice (sz:=1) (λi _=>(l.map Value.string).getD i undef) zR6 (zB2 _) zS8 ?_ ?_ ?_))
 ·intro i row hi
  rw[zC7]at hi
  obtain⟨s,_,rfl⟩:=zC1.1 hi
  rfl
 ·intro i row j p hi hj
  rw[zC7]at hi
  obtain⟨s,hs,rfl⟩:=zC1.1 hi
  cases j with
  |succ j=>simp at hj
  |zero=>
   refine⟨w.heap.size,0,rfl,hV, ?_⟩
   have d:=(zB7.1 hs).1
   rw[cell_of_row _ _ _ _ _ _ (World.alloc_heap_new w _)]
   simp[hs]
 ·intro i row j p hi hj
  rw[zC7]at hi
  obtain⟨s,hs,rfl⟩:=zC1.1 hi
  cases j with
  |succ j=>simp at hj
  |zero=>
   simp at hj
   subst hj
   simp[hs]
   exact .val rfl
variable {s:ByteArray}
theorem CP (hs:s.size<4294967281) (M:s.data.toList.all (λb=>decide (b.toNat<128))=true) (hl:(Go.Lib.fields s.data.toList).map (λl=>(⟨l.toArray⟩:ByteArray))=l) (f:l.length≤1000000):ac Pa0 298 [S s] (DW l):=by
 refine⟨⟨_,Tryz.func298,rfl,by kernel_rfl⟩,λw U vs hG hr=> ?_⟩
 obtain⟨vs⟩:=vs
 cases hr with
 |cons h1 t=>
  cases t
  have e1:=(aU h1).1
  subst e1
  have hT: ∀c:Nat,c<256→w.cell? ⟨Tryz.lays157_ren.g 0,c,none⟩=some (.int .u8 (if Lib.isSp (UInt8.ofNat c)then 1 else 0)):= λc hc=>hG _ rfl c hc
  refine(Any.strings_Fields_core Tryz.lays157 (by kernel_rfl) s w hs (λj b hb=>zI6 (zH6.1 M b (zF0 hb))) hT).mono ?_
  rintro e w' ⟨rfl,rfl⟩
  have e2:(Go.Lib.fields s.data.toList).map (λl=>Value.string ⟨l.toArray⟩)=l.map Value.string:=by rw[←hl,zL1];rfl
  have e3:(Go.Lib.fields s.data.toList).length=l.length:=by rw[←hl,zE3]
  rw[e2,e3]
  exact⟨_,rfl,YY (.inr (zB2 _)) zR5,(Below.refl _ w).alloc (zB2 _) _⟩
theorem B2:ac Pa0 lW [] (DW Ea):=by
 refine ac.of Dp zR6 λhb=>aa ?_
 conv in uu=>cbv
 repeat' first|simp(disch:=omega)only[go_sem, *]|apply ab<;>intro h<;>try omega|refine ah (CP (l:=Ea) zR9 (by decide+kernel) (by kernel_rfl) zR9) rfl (.inr rfl) ?_
abbrev R32 (n:Int):AV:= .c (.pure (.val (.int .i32 n)))
theorem tP (n:Int):ac Pa0 pY [R32 n] (Go.Abs.B (decide (97≤n∧n≤122))):=by
 refine ac.of IL zR6 λhb=>aa ?_
 conv in xN=>cbv
 repeat' first|simp(disch:=omega)only[go_sem, *]|apply ab<;>intro h<;>try omega
 all_goals(simp[*]<;>omega)
theorem Ij (n:Int):ac Pa0 sq [R32 n] (Go.Abs.B (decide (48≤n∧n≤57))):=by
 refine ac.of Kh zR6 λhb=>aa ?_
 conv in Bh=>cbv
 repeat' first|simp(disch:=omega)only[go_sem, *]|apply ab<;>intro h<;>try omega
 all_goals(simp[*]<;>omega)
def So (n:Int):Prop:=(97≤n∧n≤122)∨(48≤n∧n≤57)∨n=95
instance (n:Int):Decidable (So n):=inferInstanceAs (Decidable (_∨_))
theorem tt (n:Int):ac Pa0 gU [R32 n] (Go.Abs.B (decide (So n))):=by
 refine ac.of IB zR6 λhb=>aa ?_
 conv in zD=>cbv
 repeat' first|simp(disch:=omega)only[go_sem, *]|apply ab<;>intro h<;>try omega|refine ak (tP n) ?_|refine ak (Ij n) ?_
 all_goals(refine BD ?_;clear hb;simp only[Bool.not_eq_true',H6,Hw,reduceCtorEq,false_iff,true_iff,not_exists,not_and,Classical.not_not,decide_eq_true_iff,decide_eq_false_iff_not];first|done|grind [So])
def pz:List UInt8→Nat
 | []=>0
 |c::r=>if So c.toNat then pz r+1 else 0
theorem RP: ∀l:List UInt8,pz l≤l.length
 | []=>by simp[pz]
 |c::r=>by
  rw[pz]
  have:=RP r
  split<;>simp<;>omega
theorem RY: ∀{l:List UInt8} {k:Nat},(∀i (h:i<k) (hl:i<l.length),So (l[i].toNat))→k≤l.length→(∀h:k<l.length,¬So (l[k].toNat))→pz l=k
 | [],k,_,hk,_=>by simp at hk;simp[pz,hk]
 |c::r,0,_,_,h=>by rw[pz,if_neg (show ¬So c.toNat from h zR6)]
 |c::r,k+1,h1,h2,h3=>by
  rw[pz,if_pos (show So c.toNat from h1 0 zR5 zR6),RY (l:=r) (k:=k) (λi hi hl=>h1 (i+1) zR5 zS8) zV5 (λh=>h3 zS9)]
theorem B7: ∀{l:List UInt8},pz l=l.length↔ ∀i (h:i<l.length),So (l[i].toNat)
 | []=>by simp[pz]
 |c::r=>by
  have:=RP r
  rw[pz]
  constructor
  ·intro h i hi
   split at h
   ·cases i with
    |zero=>assumption
    |succ i=>exact(B7 (l:=r)).1 zS9 i zS7
   ·simp at h
  ·intro h
   rw[if_pos (show So c.toNat from h 0 zR6),(B7 (l:=r)).2 λi hi=>h (i+1) zS7]
   simp
variable {i:Nat}
theorem RL (h:i<s.size):s[i]=s.data.toList[i]' zS9:=rfl
theorem Lz (hs:s.size≤16):ac Pa0 vF [S s,.c (.clo gU [])] (I (pz s.data.toList)):=by
 refine ac.of NG zR6 λhb=>aa ?_
 conv in Fi=>cbv
 repeat' first|simp(disch:=omega)only[go_sem]|((with_reducible refine ab ?_ ?_)<;>intro h<;>try first|omega|simp(disch:=omega)only[go_sem, *])
 refine al (λk:Nat=>⟨[(5,I k),(1,.c (.clo gU [])),(0,S s)], [],0,0⟩) (λk=>k≤s.size∧ct (λj=> ∀h:j<s.size,So (s[j].toNat)) k) (λk=>s.size-k) ⟨0, [],⟨by omega,.zero⟩,by simp⟩ ?_
 rintro k ⟨hk,v⟩
 refine aa ?_
 have fin:(∀h:k<s.size,¬So (s[k].toNat))→pz s.data.toList=k:= λh=>RY (λi hi hl=>RL zS8 ▸v i hi zS8) zT7 (λhl=>RL zS8 ▸h zS8)
 by_cases d:k<s.size
 ·have hc:=(s[k]).toNat_lt
  have e1:IntKind.wrap .i32 (s[k].toNat:Int)=s[k].toNat:=by rw[IntKind.wrap_i32];omega
  by_cases hw:So (s[k].toNat)
  ·have HF:=Lib.hid fin
   clear fin
   repeat' first|simp(disch:=omega)only[go_sem,getElem?_pos s k d,wrap_i64,e1]|((with_reducible refine ab ?_ ?_)<;>intro h<;>try first|omega|simp(disch:=omega)only[go_sem, *,getElem?_pos s k d,wrap_i64,e1])|refine ak (tt _) ?_
   ·exact⟨k+1, [],⟨by omega,v.succ λ_=>hw⟩,by omega,by simp⟩
   ·exact absurd hw h
  ·have e2:=fin λ_=>hw
   have E2:=Lib.hid e2
   clear e2 fin v
   repeat' first|simp(disch:=omega)only[go_sem,getElem?_pos s k d,wrap_i64,e1]|((with_reducible refine ab ?_ ?_)<;>intro h<;>try first|omega|simp(disch:=omega)only[go_sem, *,getElem?_pos s k d,wrap_i64,e1])|refine ak (tt _) ?_
   ·exact absurd h hw
   ·rw[E2.out]
 ·have e2:=fin λh=>absurd h d
  have E2:=Lib.hid e2
  clear e2 fin v
  repeat' first|simp(disch:=omega)only[go_sem]|((with_reducible refine ab ?_ ?_)<;>intro h<;>try first|omega|simp(disch:=omega)only[go_sem, *])
  rw[E2.out]
theorem xO (xs:List ByteArray) (s:ByteArray):ac Pa0 eg [DW xs,S s] (I (oz (· =s) xs)):=by
 refine ac.of m7 zR6 λhb=>aa ?_
 have hl:xs.length≤9223372036854775807:=by simpa[fB,f5]using hb.1
 conv in gA=>cbv
 repeat' first|simp(disch:=omega)only[go_sem, *]|apply ab<;>intro h<;>try omega
 refine al (λk:Nat=>⟨[(0,DW xs),(1,S s),(7,I xs.length),(8,I k)], [],0,0⟩) (λk=>k≤xs.length∧ct (λj=> ∀h:j<xs.length,¬xs[j]=s) k) (λk=>xs.length-k) ⟨0, [],⟨by omega,.zero⟩,by simp⟩ ?_
 rintro k ⟨hk,v⟩
 refine aa ?_
 by_cases d:k<xs.length
 ·by_cases he:xs[k]=s
  ·have e2:=yC (p:=(· =s)) d he λj hj=>v j hj zR5
   have E2:=Lib.hid e2
   clear e2 v
   repeat' first|simp(disch:=omega)only[go_sem, *,ae d,eK,he,wrap_i64,decide_true]|apply ab<;>intro h<;>try omega
   rw[E2.out]
  ·have hF: ¬s=xs[k]:= λh=>he h.symm
   repeat' first|simp(disch:=omega)only[go_sem, *,ae d,eK,hF,wrap_i64]|apply ab<;>intro h<;>try omega
   exact⟨k+1, [],⟨by omega,v.succ λ_=>he⟩,by omega,by simp⟩
 ·have e2:=qy (p:=(· =s)) (xs:=xs) λj hj=>v j zR5 hj
  have E2:=Lib.hid e2
  clear e2 v
  repeat' first|simp(disch:=omega)only[go_sem, *]|apply ab<;>intro h<;>try omega
  rw[E2.out]
theorem fQ (xs:List ByteArray) (s:ByteArray):ac Pa0 dJ [DW xs,S s] (Go.Abs.B (decide (s∈xs))):=by
 refine ac.of kD zR6 λhb=>aa ?_
 conv in fw=>cbv
 repeat' first|simp(disch:=omega)only[go_sem, *]|apply ab<;>intro h<;>try omega|refine ak (xO xs s) ?_
 refine BD ?_
 rw[zQ4]
 refine Sd.trans ⟨?_,λh=>⟨s,h,rfl⟩⟩
 rintro⟨x,hx,rfl⟩
 exact hx
theorem Ap (s:ByteArray):ac Pa0 lm [S s] (Go.Abs.B (decide (s∈Ea))):=by
 refine ac.of Cd zR6 λhb=>aa ?_
 conv in ry=>cbv
 repeat' first|simp(disch:=omega)only[go_sem, *]|apply ab<;>intro h<;>try omega|refine dH B2 ?_|refine ak (fQ Ea s) ?_
theorem Jv (h:0<s.size):oE s↔s.size≤16∧ ¬s∈Ea∧(97≤(s[0].toNat:Int)∧(s[0].toNat:Int)≤122)∧ ∀i (h:i<s.size),So (s[i].toNat):=by
 unfold oE
 constructor
 ·rintro⟨h1,h2,h3,h4⟩
  refine⟨h2,h3,by have:=h4 0 h;unfold Ae at this;omega,λi hi=>by have:=h4 i hi;unfold Ae at this;unfold So;omega⟩
 ·rintro⟨h2,h3,h4,h5⟩
  refine⟨h,h2,h3,λi hi=> ?_⟩
  have:=h5 i hi
  unfold So at this
  unfold Ae
  by_cases e:i=0
  ·subst e;omega
  ·omega
theorem bB (s:ByteArray):ac Pa0 qQ [S s] (Go.Abs.B (decide (oE s))):=by
 refine ac.of Hn zR6 λhb=>aa ?_
 conv in yD=>cbv
 by_cases h0:s.size=0
 ·have he:s=⟨⟨[]⟩⟩:=by
   obtain⟨⟨l⟩⟩:=s
   have:l= []:=zG4 h0
   rw[this]
  subst he
  repeat' first|simp(disch:=omega)only[go_sem, *]|apply ab<;>intro h<;>try omega
  exact BD ⟨λh=> zT0,λh=>(by have:=h.1;revert this;decide)⟩
 ·by_cases Q:s.size≤16
  ·have H:0<s.size:=by omega
   have R: ¬s=⟨⟨[]⟩⟩:= λh=>h0 zT8
   have hc:=(s[0]).toNat_lt
   have e1:IntKind.wrap .i32 (s[0].toNat:Int)=s[0].toNat:=by rw[IntKind.wrap_i32];omega
   have Z:=Lz Q
   have F:pz s.data.toList=s.size↔ ∀i (h:i<s.size),So (s[i].toNat):=by
    have hI:s.data.toList.length=s.size:=by simp
    refine Iff.trans (by rw[←hI]) (B7.trans ⟨λh i hi=>h i zS7,λh i hi=>h i zS7⟩)
   generalize pz s.data.toList=m at Z F
   have HF:=Lib.hid F
   clear F
   repeat' first|simp(disch:=omega)only[go_sem, *,getElem?_pos s 0 H,zB3,e1,R]|apply ab<;>intro h<;>try omega|refine ak (tP _) ?_|refine ak Z ?_|refine ak (Ap s) ?_
   ·refine BD ?_
    rw[Jv H]
    have:=HF.out.1 zR5
    simp only[zI7,decide_eq_false_iff_not]
    exact⟨λhn=>⟨Q,hn,‹_›,this⟩,λhh=>hh.2.1⟩
   ·refine BD ⟨λh=> zT0,λhh=> ?_⟩
    have:=HF.out.2 ((Jv H).1 hh).2.2.2
    omega
   ·exact BD ⟨λh=> zT0,λhh=>absurd ((Jv H).1 hh).2.2.1 h⟩
  ·have R: ¬s=⟨⟨[]⟩⟩:= λh=>h0 zT8
   repeat' first|simp(disch:=omega)only[go_sem, *,R]|apply ab<;>intro h<;>try omega
   exact BD ⟨λh=> zT0,λhh=>absurd hh.2.1 Q⟩
set_option maxRecDepth 20000
set_option maxRecDepth 1000000
abbrev cEx (e:Ex):AV:= .c (.cptr [pI e.op,pS e.name,pI e.val.1,pI e.val.2,pI e.ty.1,pI e.ty.2.1,pI e.ty.2.2.1,pI e.ty.2.2.2.1,pI e.ty.2.2.2.2,pI e.lin.1,bQ e.lin.2,dp gS e.idx,.slice (e.args.map Ex.row)])
def aeC (k n:Nat) (res:AV) (k':Option Nat):Prop:=(res=Go.Abs.B true∧k'=some (k+n))∨(res=Go.Abs.B false∧k'=none)
def At (xs:List (List AV)) (k:Nat) (l:List Ex):Prop:= ∀(i:Nat) a,l[i]? =some a→xs[k+i]? =some [fp a]
variable {xs:List (List AV)}{e:Ex}
theorem adj {k:Nat} (h:At xs k e.pre) (hi:i<e.args.length):At xs (k+1+Ex.szs (e.args.take i)) e.args[i].pre:=by
 intro j a hj
 have e1:Ex.pres e.args=Ex.pres (e.args.take i)++(e.args[i].pre++Ex.pres (e.args.drop (i+1))):=by
  have e2:e.args=e.args.take i++(e.args[i]::e.args.drop (i+1)):=by rw[←zC0 hi,zF1]
  have e3:Ex.pres (e.args.take i++(e.args[i]::e.args.drop (i+1)))=Ex.pres (e.args.take i)++(e.args[i].pre++Ex.pres (e.args.drop (i+1))):=by rw[Ex.pres_append,Ex.pres]
  rw[←e2]at e3
  exact e3
 have hl:(Ex.pres (e.args.take i)).length=Ex.szs (e.args.take i):=Ex.pres_length λa _=>Ex.pre_length a
 have:=h (1+Ex.szs (e.args.take i)+j) a (by
  rw[Ex.pre_eq,show 1+Ex.szs (e.args.take i)+j=(Ex.szs (e.args.take i)+j)+1 by omega,zB4,e1,zD9 zR5,hl,zL6,zD8 (zB7.1 hj).1]
  exact hj)
 rw[←this]
 congr 1
 omega
variable {P:Program}{J:Option Nat→(Nat→Prop)→World→Prop}
theorem K8 {l:Nat} (h:GK P l w xs J): ∀k S W,J k S W→(∀b,S b→b<W.heap.size)∧wY W:= λk S W hj=>⟨(h.old k S W hj).1,(h.old k S W hj).2.2⟩
theorem BU {l:Nat} (h:GK P l w xs J): ∀k S W W',J k S W→Below W.heap.size W W'→J k (λb=>S b∨W.heap.size≤b∧b<W'.heap.size) W':= λk S W W' hj hb=>h.grow k S W W' hj (.of_below hb)
theorem P3 {l:Nat} (hY:GK Pa0 l w xs J) (e:Ex): ∀k:Nat,At xs k e.pre→mU Pa0 J rA [fp e,yv l] (some k) (aeC k e.sz):=by
 refine Ex.ind (p:= λe=> ∀k:Nat,At xs k e.pre→mU Pa0 J rA [fp e,yv l] (some k) (aeC k e.sz)) (λe ih k hx=> ?_) e
 have d:=K8 hY
 have o:=BU hY
 refine mU.of d P4 zR6 λhb=> ?_
 have hl:=(dq hb).1
 conv in Gt=>cbv
 refine cH (cf d o ?_)
 simp(disch:=omega)only[go_sem]
 refine⟨[(1,yv l),(2,cEx e)],zR7, ?_⟩
 have h0:xs[k]? =some [fp e]:=hx 0 e (by rw[Ex.pre_eq];rfl)
 refine cH (cH (KE 2 rfl d o ?_))
 simp only[List.take,List.drop]
 simp(disch:=omega)only[go_sem]
 refine⟨[(8,fp e),(7,yv l),(1,yv l),(2,cEx e)],zR7,_,m8 hY h0, ?_⟩
 rintro res k' ⟨b,rfl,rfl⟩
 simp(disch:=omega)only[go_sem]
 refine⟨[(10,Go.Abs.B !b),(1,yv l),(2,cEx e)],zR7, ?_⟩
 refine ky (t:= !b) rfl (λy=> ?_) (λy=> ?_) d
 ·obtain rfl:b=false:=by simpa using y
  refine cH (cf d o ?_)
  simp(disch:=omega)only[go_sem]
  refine⟨[(4,Go.Abs.B false)],zR7,B1 ?_⟩
  show nD _ _ _ _
  simp(disch:=omega)only[go_sem]
  exact .inr ⟨rfl,rfl⟩
 ·obtain rfl:b=true:=by simpa using y
  refine mW ?_
  simp only[↓reduceIte]
  refine cH (cH (cf d o ?_))
  simp(disch:=omega)only[go_sem]
  refine⟨[(14,I 0),(13,I e.args.length),(12,.c (.pure (.slice (e.args.map Ex.row)))),(1,yv l)],zR7, ?_⟩
  refine ns (Jl (λi:Nat=>(some (k+1+Ex.szs (e.args.take i)), [(14,I i),(13,I e.args.length),(12,.c (.pure (.slice (e.args.map Ex.row)))),(1,yv l)])) (λi=>i≤e.args.length) (λi=>e.args.length-i) ⟨0,by omega,by simp[Ex.szs],zR7⟩ ?_)
  intro i hi
  refine cH (cf d o ?_)
  simp(disch:=omega)only[go_sem]
  refine⟨[(15,Go.Abs.B (decide ((i:Int)<e.args.length))),(14,I i),(13,I e.args.length),(12,.c (.pure (.slice (e.args.map Ex.row)))),(1,yv l)],zR7, ?_⟩
  refine cH (ky rfl (λG=> ?_) (λG=> ?_) d)
  ·have u:i<e.args.length:=by simpa using G
   refine mW (cH (ns (cH (cf d o ?_))))
   simp(disch:=omega)only[go_sem,ae u,Ex.row_eq]
   refine⟨[(6,cEx e.args[i]),(14,I i),(13,I e.args.length),(12,.c (.pure (.slice (e.args.map Ex.row)))),(1,yv l)],zR7, ?_⟩
   refine cH (KE 2 rfl d o ?_)
   simp only[List.take,List.drop]
   simp(disch:=omega)only[go_sem]
   refine⟨[(18,fp e.args[i]),(19,yv l),(14,I i),(13,I e.args.length),(12,.c (.pure (.slice (e.args.map Ex.row)))),(1,yv l)],zR7,_,LP (ih _ (zA6 u) _ (adj hx u)), ?_⟩
   rintro res k' (⟨rfl,rfl⟩|⟨rfl,rfl⟩)
   ·simp(disch:=omega)only[go_sem]
    refine⟨[(21,Go.Abs.B false),(14,I i),(13,I e.args.length),(12,.c (.pure (.slice (e.args.map Ex.row)))),(1,yv l)],zR7, ?_⟩
    refine ky (t:=false) rfl (λh=> zT0) (λ_=>mW ?_) d
    refine cf d o ?_
    simp(disch:=omega)only[go_sem,wrap_i64]
    refine⟨[(14,I ((i:Int)+1)),(13,I e.args.length),(12,.c (.pure (.slice (e.args.map Ex.row)))),(1,yv l)],zR7,i+1,u,by show _-_<_-_;omega, ?_,zR7⟩
    show some _=some _
    rw[Ex.szs_take u]
    congr 1
    omega
   ·simp(disch:=omega)only[go_sem]
    refine⟨[(21,Go.Abs.B true)],zR7, ?_⟩
    refine ky (t:=true) rfl (λ_=>cH (cf d o ?_)) (λh=> zT0) d
    simp(disch:=omega)only[go_sem]
    refine⟨[(4,Go.Abs.B false)],zR7,B1 ?_⟩
    show nD _ _ _ _
    simp(disch:=omega)only[go_sem]
    exact .inr ⟨rfl,rfl⟩
  ·have hn: ¬i<e.args.length:=by simpa using G
   refine Ji ?_
   show aci _ _ _ _ _ _ _ _
   refine cH (cf d o ?_)
   simp(disch:=omega)only[go_sem]
   refine⟨[(4,Go.Abs.B true)],zR7,B1 ?_⟩
   show nD _ _ _ _
   simp(disch:=omega)only[go_sem]
   refine .inl ⟨rfl, ?_⟩
   rw[zB6 zR5,Ex.sz_eq e]
   congr 1
   omega
theorem adC (e:Ex):At (e.pre.map λa=> [fp a]) 0 e.pre:= λi a h=>by rw[zJ3,zC7,h];rfl
theorem Bv (e:Ex):jH Pa0 my [cEx e] (e.pre.map λa=> [fp a]):=by
 refine jH.of ⟨_,Tryz.func267,rfl,by kernel_rfl⟩ λl w J hY=> ?_
 have d:=K8 hY
 have o:=BU hY
 refine mU.of d JU zR6 λhb=> ?_
 conv in Bc=>cbv
 refine KE 2 rfl d o ?_
 simp only[List.take,List.drop]
 simp(disch:=omega)only[go_sem]
 refine⟨[(3,fp e),(4,yv l)],zR7,_,LP (P3 hY e 0 (adC e)), ?_⟩
 rintro res k' hk
 refine⟨[],zR7, ?_⟩
 show _∨_
 rcases hk with⟨_,rfl⟩|⟨_,rfl⟩
 ·left
  rw[Ex.pre_length,zJ3]
 ·exact .inr rfl
def AtL (xs:List (List AV)) (k:Nat) (l:List iB):Prop:= ∀(i:Nat) a,l[i]? =some a→xs[k+i]? =some [iK a.1 a.2]
theorem BF (e:Ex):ac Pa0 yX [fp e] (.c (.clo my [.cptr [pI e.op,pS e.name,pI e.val.1,pI e.val.2,pI e.ty.1,pI e.ty.2.1,pI e.ty.2.2.1,pI e.ty.2.2.2.1,pI e.ty.2.2.2.2,pI e.lin.1,bQ e.lin.2,dp gS e.idx,.slice (e.args.map Ex.row)]])):=by
 refine ac.of Qy zR6 λhb=>aa ?_
 conv in Gz=>cbv
 exact zW0
theorem Kj (e:Ex):ac Pa0 uY [fp e] (.c (.clo kX [.cptr [pI e.op,pS e.name,pI e.val.1,pI e.val.2,pI e.ty.1,pI e.ty.2.1,pI e.ty.2.2.1,pI e.ty.2.2.2.1,pI e.ty.2.2.2.2,pI e.lin.1,bQ e.lin.2,dp gS e.idx,.slice (e.args.map Ex.row)]])):=by
 refine ac.of Ol zR6 λhb=>aa ?_
 conv in DP=>cbv
 exact zW0
theorem AtL.app {k:Nat} {l r:List iB} (h:AtL xs k (l++r)):AtL xs (k+l.length) r:= λi a hi=>by
 have:=h (l.length+i) a (by rw[zD9 zR5,zL6];exact hi)
 rw[←this,zN1]
def Aj (x:Ix):List iB:=x.1::x.2.2
theorem R1 (hi:i<e.idx.length):e.forms=(e.lin::(e.idx.take i).flatMap Aj)++(Aj e.idx[i]++(e.idx.drop (i+1)).flatMap Aj):=by
 have e1:(e.idx.take i++e.idx[i]::e.idx.drop (i+1)).flatMap Aj=(e.idx.take i).flatMap Aj++(Aj e.idx[i]++(e.idx.drop (i+1)).flatMap Aj):=by
  rw[List.flatMap_append,List.flatMap_cons]
 rw[←zC0 hi,zF1]at e1
 show e.lin::e.idx.flatMap Aj=_
 rw[e1]
 rfl
def ID (e:Ex) (i:Nat):Nat:=(e.lin::(e.idx.take i).flatMap Aj).length
theorem Wp (e:Ex):ID e 0=1:=by simp[ID]
theorem Xr (hi:i<e.idx.length):ID e (i+1)=ID e i+1+e.idx[i].2.2.length:=by
 unfold ID
 rw[zB5 hi,List.flatMap_append]
 simp[Aj]
 omega
theorem W9:ID e e.idx.length=e.forms.length:=by
 unfold ID
 rw[zB6 (zB2 _)]
 rfl
theorem aaM (hx:AtL xs 0 e.forms) (hi:i<e.idx.length):AtL xs (ID e i) (Aj e.idx[i]++(e.idx.drop (i+1)).flatMap Aj):=by
 have:=(show AtL xs 0 ((e.lin::(e.idx.take i).flatMap Aj)++(Aj e.idx[i]++(e.idx.drop (i+1)).flatMap Aj)) by rw[←R1 hi];exact hx).app
 rw[zJ3]at this
 exact this
theorem JN (e:Ex) (h6: ∀x∈e.idx,x.2.2.length≤6) (hl:e.idx.length≤6):jH Pa0 kX [cEx e] (e.forms.map λa=> [iK a.1 a.2]):=by
 refine jH.of ⟨_,Tryz.func307,rfl,by kernel_rfl⟩ λl w J hY=> ?_
 have d:=K8 hY
 have o:=BU hY
 have hx:AtL (e.forms.map λa=> [iK a.1 a.2]) 0 e.forms:= λi a h=>by rw[zJ3,zC7,h];rfl
 have f:(e.forms.map λa:iB=> [iK a.1 a.2]).length=e.forms.length:=by simp
 generalize (e.forms.map λa:iB=> [iK a.1 a.2])=xs at*
 have h0:xs[0]? =some [iK e.lin.1 e.lin.2]:=hx 0 e.lin rfl
 refine mU.of d H4 zR6 λhb=> ?_
 conv in xt=>cbv
 refine cH (cH (KE 3 rfl d o ?_))
 simp only[List.take,List.drop]
 simp(disch:=omega)only[go_sem]
 refine⟨[(9,iK e.lin.1 e.lin.2),(7,yv l),(0,yv l),(1,cEx e)],zR7,_,m8 hY h0, ?_⟩
 rintro res k' ⟨b,rfl,rfl⟩
 simp(disch:=omega)only[go_sem]
 refine⟨[(11,Go.Abs.B !b),(0,yv l),(1,cEx e)],zR7, ?_⟩
 refine ky (t:= !b) rfl (λy=> ?_) (λy=> ?_) d
 ·obtain rfl:b=false:=by simpa using y
  exact B1 (.inr rfl)
 ·obtain rfl:b=true:=by simpa using y
  refine mW ?_
  simp only[↓reduceIte]
  refine cH (cf d o ?_)
  simp(disch:=omega)only[go_sem]
  refine⟨[(15,I 0),(14,I e.idx.length),(13,.c (.pure (dp gS e.idx))),(0,yv l)],zR7, ?_⟩
  refine ns (Jl (λi:Nat=>(some (ID e i), [(15,I i),(14,I e.idx.length),(13,.c (.pure (dp gS e.idx))),(0,yv l)])) (λi=>i≤e.idx.length) (λi=>e.idx.length-i) ⟨0,by omega,by simp[Wp],zR7⟩ ?_)
  intro i hi
  refine cH (cf d o ?_)
  simp(disch:=omega)only[go_sem]
  refine⟨[(16,Go.Abs.B (decide ((i:Int)<e.idx.length))),(15,I i),(14,I e.idx.length),(13,.c (.pure (dp gS e.idx))),(0,yv l)],zR7, ?_⟩
  refine cH (ky rfl (λG=> ?_) (λG=> ?_) d)
  ·have u:i<e.idx.length:=by simpa using G
   have hA:=aaM hx u
   have hm:=Xr u
   have hQ:=h6 _ (zA6 u)
   have hJ:xs[ID e i]? =some [iK e.idx[i].1.1 e.idx[i].1.2]:=hA 0 e.idx[i].1 rfl
   have hK: ∀(j:Nat) (hj:j<e.idx[i].2.2.length),xs[ID e i+1+j]? =some [iK e.idx[i].2.2[j].1 e.idx[i].2.2[j].2]:= λj hj=>by
    have:=hA (j+1) e.idx[i].2.2[j] (by simp[Aj,List.getElem?_append,hj])
    rw[←this];congr 1;omega
   refine mW (cH (ns (cH (cf d o ?_))))
   simp(disch:=omega)only[go_sem,ae u,gS]
   refine⟨[(4,.c (.cptr [pI e.idx[i].1.1,bQ e.idx[i].1.2,pS e.idx[i].2.1,dp bT e.idx[i].2.2])),(15,I i),(14,I e.idx.length),(13,.c (.pure (dp gS e.idx))),(0,yv l)],zR7, ?_⟩
   refine cH (cH (KE 3 rfl d o ?_))
   simp only[List.take,List.drop]
   simp(disch:=omega)only[go_sem]
   refine⟨[(21,iK e.idx[i].1.1 e.idx[i].1.2),(19,yv l),(4,.c (.cptr [pI e.idx[i].1.1,bQ e.idx[i].1.2,pS e.idx[i].2.1,dp bT e.idx[i].2.2])),(15,I i),(14,I e.idx.length),(13,.c (.pure (dp gS e.idx))),(0,yv l)],zR7,_,m8 hY hJ, ?_⟩
   rintro res k' ⟨b,rfl,rfl⟩
   simp(disch:=omega)only[go_sem]
   refine⟨[(23,Go.Abs.B !b),(4,.c (.cptr [pI e.idx[i].1.1,bQ e.idx[i].1.2,pS e.idx[i].2.1,dp bT e.idx[i].2.2])),(15,I i),(14,I e.idx.length),(13,.c (.pure (dp gS e.idx))),(0,yv l)],zR7, ?_⟩
   refine ky (t:= !b) rfl (λy=> ?_) (λy=> ?_) d
   ·obtain rfl:b=false:=by simpa using y
    exact B1 (.inr rfl)
   ·obtain rfl:b=true:=by simpa using y
    refine mW ?_
    simp only[↓reduceIte]
    refine cH (cf d o ?_)
    simp(disch:=omega)only[go_sem]
    refine⟨[(27,I 0),(26,I e.idx[i].2.2.length),(25,.c (.pure (dp bT e.idx[i].2.2))),(15,I i),(14,I e.idx.length),(13,.c (.pure (dp gS e.idx))),(0,yv l)],zR7, ?_⟩
    refine ns (Jl (λj:Nat=>(some (ID e i+1+j), [(27,I j),(26,I e.idx[i].2.2.length),(25,.c (.pure (dp bT e.idx[i].2.2))),(15,I i),(14,I e.idx.length),(13,.c (.pure (dp gS e.idx))),(0,yv l)])) (λj=>j≤e.idx[i].2.2.length) (λj=>e.idx[i].2.2.length-j) ⟨0,by omega,by simp,zR7⟩ ?_)
    intro j hj
    refine cH (cf d o ?_)
    simp(disch:=omega)only[go_sem]
    refine⟨[(28,Go.Abs.B (decide ((j:Int)<e.idx[i].2.2.length))),(27,I j),(26,I e.idx[i].2.2.length),(25,.c (.pure (dp bT e.idx[i].2.2))),(15,I i),(14,I e.idx.length),(13,.c (.pure (dp gS e.idx))),(0,yv l)],zR7, ?_⟩
    refine cH (ky rfl (λX=> ?_) (λX=> ?_) d)
    ·have K:j<e.idx[i].2.2.length:=by simpa using X
     refine mW (cH (ns (cH (cf d o ?_))))
     simp(disch:=omega)only[go_sem,ae K,bT]
     refine⟨[(6,.c (.cptr [pI e.idx[i].2.2[j].1,bQ e.idx[i].2.2[j].2])),(27,I j),(26,I e.idx[i].2.2.length),(25,.c (.pure (dp bT e.idx[i].2.2))),(15,I i),(14,I e.idx.length),(13,.c (.pure (dp gS e.idx))),(0,yv l)],zR7, ?_⟩
     refine cH (KE 2 rfl d o ?_)
     simp only[List.take,List.drop]
     simp(disch:=omega)only[go_sem]
     refine⟨[(32,iK e.idx[i].2.2[j].1 e.idx[i].2.2[j].2),(31,yv l),(27,I j),(26,I e.idx[i].2.2.length),(25,.c (.pure (dp bT e.idx[i].2.2))),(15,I i),(14,I e.idx.length),(13,.c (.pure (dp gS e.idx))),(0,yv l)],zR7,_,m8 hY (hK j K), ?_⟩
     rintro res k' ⟨b,rfl,rfl⟩
     simp(disch:=omega)only[go_sem]
     refine⟨[(34,Go.Abs.B !b),(27,I j),(26,I e.idx[i].2.2.length),(25,.c (.pure (dp bT e.idx[i].2.2))),(15,I i),(14,I e.idx.length),(13,.c (.pure (dp gS e.idx))),(0,yv l)],zR7, ?_⟩
     refine ky (t:= !b) rfl (λy=> ?_) (λy=> ?_) d
     ·obtain rfl:b=false:=by simpa using y
      exact B1 (.inr rfl)
     ·obtain rfl:b=true:=by simpa using y
      refine mW ?_
      simp only[↓reduceIte]
      refine cf d o ?_
      simp(disch:=omega)only[go_sem,wrap_i64]
      exact⟨[(27,I ((j:Int)+1)),(26,I e.idx[i].2.2.length),(25,.c (.pure (dp bT e.idx[i].2.2))),(15,I i),(14,I e.idx.length),(13,.c (.pure (dp gS e.idx))),(0,yv l)],zR7,j+1,K,by show _-_<_-_;omega,rfl,zR7⟩
    ·have hn:j=e.idx[i].2.2.length:=by
      have: ¬j<e.idx[i].2.2.length:=by simpa using X
      omega
     refine Ji ?_
     show AY _ _ _ _ _ _ _
     refine cf d o ?_
     simp(disch:=omega)only[go_sem,wrap_i64]
     refine⟨[(15,I ((i:Int)+1)),(14,I e.idx.length),(13,.c (.pure (dp gS e.idx))),(0,yv l)],zR7,i+1,u,by show _-_<_-_;omega, ?_,zR7⟩
     show some _=some _
     rw[hm,hn]
  ·have hn:i=e.idx.length:=by
    have: ¬i<e.idx.length:=by simpa using G
    omega
   refine Ji ?_
   show _∨_
   left
   rw[f,hn,W9]
set_option maxRecDepth 20000
set_option maxRecDepth 1000000
theorem KN (e:Ex): ∀n:Nat,1≤n→n≤1000000→ac Pa0 oI [fp e,I n] (I (min e.dep n:Nat)):=by
 refine Ex.ind (p:= λe=> ∀n:Nat,1≤n→n≤1000000→ac Pa0 oI [fp e,I n] (I (min e.dep n:Nat))) (λe ih n h1 h2=> ?_) e
 refine ac.of NZ zR6 λhb=>aa ?_
 have hl:=(dq hb).1
 conv in EM=>cbv
 have hL:=Ex.dep_pos e
 by_cases hn:n=1
 ·subst hn
  repeat' first|simp(disch:=omega)only[go_sem, *]|apply ab<;>intro h<;>try omega
  rw[Nat.min_eq_right hL]
 ·rw[Ex.dep_eq]
  have hM: ¬(n:Int)≤1:=by omega
  repeat' first|simp(disch:=omega)only[go_sem, *,hM]|apply ab<;>intro h<;>try omega
  refine al (λk:Nat=>⟨[(14,I k),(13,I e.args.length),(12,.c (.pure (.slice (e.args.map Ex.row)))),(5,I (min (1+Ex.deps (e.args.take k)) n:Nat)),(1,I n)], [],0,0⟩) (λk=>k≤e.args.length) (λk=>e.args.length-k) ⟨0, [],by omega,by simp[Ex.deps,zI8 h1]⟩ ?_
  rintro k hk
  refine aa ?_
  by_cases d:k<e.args.length
  ·have hB:=ih _ (zA6 d) (n-1) zR5 zR5
   rw[show((n-1:Nat):Int)=(n:Int)-1 by omega]at hB
   have hd:=Ex.deps_take d
   clear ih
   repeat' first|simp(disch:=omega)only[go_sem, *,ae d,Ex.row_eq,wrap_i64]|apply ab<;>intro h<;>try omega|refine ak hB ?_
   have he:max ((min (1+Ex.deps (e.args.take k)) n:Nat):Int) (1+((min e.args[k].dep (n-1):Nat):Int))=((min (1+Ex.deps (e.args.take (k+1))) n:Nat):Int):=by rw[hd];omega
   rw[he]
   exact⟨k+1, [],by omega,by omega,by simp⟩
  ·repeat' first|simp(disch:=omega)only[go_sem, *]|apply ab<;>intro h<;>try omega
   rw[zB6 zR5]
theorem qu (e:Ex):ac Pa0 vk [fp e] (I (min e.dep 41:Nat)):=by
 refine ac.of NY zR6 λhb=>aa ?_
 conv in Eu=>cbv
 repeat' first|simp(disch:=omega)only[go_sem, *]|apply ab<;>intro h<;>try omega|refine ak (KN e 41 zR5 zR5) ?_
theorem AI (e:Ex):ac Pa0 yW [fp e] (I (min e.sz 2001:Nat)):=by
 refine ac.of QO zR6 λhb=>aa ?_
 conv in Gq=>cbv
 repeat' first|simp(disch:=omega)only[go_sem, *]|apply ab<;>intro h<;>try omega|refine dH (BF e) ?_
 have f:(e.pre.map λa=> [fp a]).length=e.sz:=by rw[zE3,Ex.pre_length]
 refine tq 2 [(3,.c (.ptr 1 0))] (λk (_:Unit)=>([(1,.var [.pure (pI k)]),(0,zO e)],2)) (λk _=>k≤2000) rfl rfl rfl (Bv e) ?_ ⟨by simp,by simp⟩ zR7 ⟨(), [],by omega,by simp⟩ ?_ ?_
 ·intro x hx
  obtain⟨a,_,rfl⟩:=zE0.1 hx
  rfl
 ·intro k x t hx hk
  obtain⟨a,ha,rfl⟩: ∃a,e.pre[k]? =some a∧ [fp a]=x:=by
   rw[zC7]at hx
   exact zC1.1 hx
  have hR:k<e.sz:=by rw[←Ex.pre_length];exact(zB7.1 ha).1
  clear hx ha
  repeat' first|simp(disch:=omega)only[go_sem, *,wrap_i64]|apply ab<;>intro h<;>try omega
  ·rw[show(k:Int)+1=((min e.sz 2001:Nat):Int) by omega]
  ·exact⟨(), [],by omega,by simp⟩
 ·intro t hk
  rw[f]at hk ⊢
  repeat' first|simp(disch:=omega)only[go_sem, *]|apply ab<;>intro h<;>try omega
  rw[zI8 zR5]
theorem FA:Y3 qa (λx=> ¬(x.2.1≠⟨⟨[]⟩⟩→oE x.2.1)):=by
 intro x
 refine ac.of Il zR6 λhb=>aa ?_
 conv in yY=>cbv
 repeat' first|simp(disch:=omega)only[go_sem, *]|apply ab<;>intro h<;>try omega|refine ak (bB _) ?_
 all_goals(refine BC ?_;clear hb;simp only[Bool.not_eq_true',H6,Hw,reduceCtorEq,false_iff,true_iff,not_exists,not_and,Classical.not_not,decide_eq_true_iff,decide_eq_false_iff_not];first|done|grind [])
theorem iq (e:Ex):ac Pa0 vl [fp e] (Go.Abs.B (decide (AB e))):=by
 refine ac.of Nr zR6 λhb=>aa ?_
 conv in DH=>cbv
 repeat' first|simp(disch:=omega)only[go_sem, *]|apply ab<;>intro h<;>try omega|refine ak (bB _) ?_|refine ak (eG FA e.idx) ?_
 all_goals(refine BD ?_;clear hb;simp only[Bool.not_eq_true',H6,Hw,reduceCtorEq,false_iff,true_iff,not_exists,not_and,Classical.not_not,decide_eq_true_iff,decide_eq_false_iff_not];first|done|grind [AB])
theorem NI (h1:AH e) (h2:AB e) (h3:AM e) (h4:tf e) (h5:e.op=1→aK e.ty e.val):((∀l∈e.forms,gN l.2)→bo e=0)∧((¬ ∀l∈e.forms,gN l.2)→bo e=1):=by
 unfold bo
 rw[if_neg (zA5 h1),if_neg (zA5 h2),if_neg (zA5 h3),if_neg (zA5 h4)]
 exact⟨λhf=>if_neg (zA5 ⟨h5,hf⟩),λhf=>if_pos λh=>hf h.2⟩
theorem Cf (hv:bD e.val):ac Pa0 mq [fp e] (I (bo e)):=by
 refine ac.of Ew zR6 λhb=>aa ?_
 conv in ut=>cbv
 by_cases h1:AH e
 ·by_cases h2:AB e
  ·by_cases h3:AM e
   ·by_cases h4:tf e
    ·have L:= λh=>de (h4.1 (.inl h)) hv
     by_cases h5:e.op=1→aK e.ty e.val
     ·obtain⟨n0,n1⟩:=NI h1 h2 h3 h4 h5
      have hY:=JN e h3.2.2 h3.2.1
      have c1:=eW e
      have c2:=iq e
      have c3:=mM e
      have c4:=pg e
      have c5:=Kj e
      have f:(e.forms.map λa:iB=> [iK a.1 a.2]).length=e.forms.length:=zE3 _
      have q: ∀(k:Nat) x,(e.forms.map λa:iB=> [iK a.1 a.2])[k]? =some x→ ∃h:k<e.forms.length,x= [iK e.forms[k].1 e.forms[k].2]:= λk x hx=>by
       rw[zC7]at hx
       obtain⟨a,ha,rfl⟩:=zC1.1 hx
       obtain⟨hk,rfl⟩:=zB7.1 ha
       exact⟨hk,rfl⟩
      have z: ∀x∈e.forms.map λa:iB=> [iK a.1 a.2],x.length=1:= λx hx=>by
       obtain⟨a,_,rfl⟩:=zE0.1 hx
       rfl
      have O: ∀k (h:k<e.forms.length),e.forms[k]∈e.forms:= λk h=>zA6 h
      generalize bo e=E at*
      by_cases A:e.op=1
      ·have D:=L A
       have hN:=h5 A
       obtain⟨op,name,val,ty,lin,idx,args⟩:=e
       simp only[Ex.op]at A
       subst A
       generalize (Ex.mk 1 name val ty lin idx args).forms=fs at*
       have N0:=Lib.hid n0
       have N1:=Lib.hid n1
       have HY:=Lib.hid hY
       have HG:=Lib.hid q
       have HL:=Lib.hid f
       have HD:=Lib.hid z
       clear n0 n1 L h5 hb O q f z hY
       repeat' first|simp(disch:=omega)only[go_sem, *,h1,h2,h3,h4,hN,Ex.op]|apply ab<;>intro h<;>try omega|refine ak c1 ?_|refine ak c2 ?_|refine ak c3 ?_|refine ak c4 ?_|refine ak D ?_|refine dH c5 ?_
       have n0:=N0.out
       have n1:=N1.out
       have hY:=HY.out
       have q:=HG.out
       have f:=HL.out
       have z:=HD.out
       clear N0 N1 HY HG HL HD
       refine tq 2 [(2,.c (.ptr 1 0))] (λk (_:Unit)=>([(1,.var [.pure (pI 0)]),(0,zO (Ex.mk 1 name val ty lin idx args))],2)) (λk _=>ct (λi=> ∀h:i<fs.length,gN fs[i].2) k) rfl rfl rfl hY z ⟨by simp,by simp⟩ zR7 ⟨(), [],.zero,by simp[Ex.op]⟩ ?_ ?_
       ·intro k x t hx hk
        obtain⟨d,rfl⟩:=q k x hx
        clear hx f q z hY
        by_cases C:gN fs[k].2
        ·clear n1
         repeat' first|simp(disch:=omega)only[go_sem, *,C,Ex.op]|apply ab<;>intro h<;>try omega|refine ak (cw _ _) ?_
         exact⟨(), [],hk.succ λ_=>C,by simp[Ex.op]⟩
        ·have hE:=n1 λh=>C (h _ (zA6 d))
         subst hE
         clear n0 n1 hk
         exact yB8
       ·intro t hk
        rw[f]at hk
        have hE:=n0 λl hl=>by
         obtain⟨i,hi,rfl⟩:=zC2.1 hl
         exact hk i hi hi
        subst hE
        clear n0 n1 hk f q z hY
        exact yE4
      ·have D:=trivial
       generalize e.forms=fs at*
       have N0:=Lib.hid n0
       have N1:=Lib.hid n1
       have HY:=Lib.hid hY
       have HG:=Lib.hid q
       have HL:=Lib.hid f
       have HD:=Lib.hid z
       clear n0 n1 L h5 hb O q f z hY
       repeat' first|simp(disch:=omega)only[go_sem, *,h1,h2,h3,h4,A]|apply ab<;>intro h<;>try omega|refine ak c1 ?_|refine ak c2 ?_|refine ak c3 ?_|refine ak c4 ?_|refine ak D ?_|refine dH c5 ?_
       have n0:=N0.out
       have n1:=N1.out
       have hY:=HY.out
       have q:=HG.out
       have f:=HL.out
       have z:=HD.out
       clear N0 N1 HY HG HL HD
       refine tq 2 [(2,.c (.ptr 1 0))] (λk (_:Unit)=>([(1,.var [.pure (pI 0)]),(0,zO e)],2)) (λk _=>ct (λi=> ∀h:i<fs.length,gN fs[i].2) k) rfl rfl rfl hY z ⟨by simp,by simp⟩ zR7 ⟨(), [],.zero,by simp[Ex.op]⟩ ?_ ?_
       ·intro k x t hx hk
        obtain⟨d,rfl⟩:=q k x hx
        clear hx f q z hY
        by_cases C:gN fs[k].2
        ·clear n1
         repeat' first|simp(disch:=omega)only[go_sem, *,C,Ex.op]|apply ab<;>intro h<;>try omega|refine ak (cw _ _) ?_
         exact⟨(), [],hk.succ λ_=>C,by simp[Ex.op]⟩
        ·have hE:=n1 λh=>C (h _ (zA6 d))
         subst hE
         clear n0 n1 hk
         exact yB8
       ·intro t hk
        rw[f]at hk
        have hE:=n0 λl hl=>by
         obtain⟨i,hi,rfl⟩:=zC2.1 hl
         exact hk i hi hi
        subst hE
        clear n0 n1 hk f q z hY
        exact yE4
     ·have A:e.op=1:=zD5 λh=>h5 λh'=>absurd h' h
      have hP: ¬aK e.ty e.val:= λh=>h5 λ_=>h
      have hE:bo e=1:=by
       unfold bo
       rw[if_neg (zA5 h1),if_neg (zA5 h2),if_neg (zA5 h3),if_neg (zA5 h4)]
       exact if_pos λh=>h5 h.1
      have D:=L A
      have c1:=eW e
      have c2:=iq e
      have c3:=mM e
      have c4:=pg e
      rw[hE]
      clear hE h5 L
      obtain⟨op,name,val,ty,lin,idx,args⟩:=e
      simp only[Ex.op]at A
      subst A
      repeat' first|simp(disch:=omega)only[go_sem, *,h1,h2,h3,h4,hP,Ex.op]|apply ab<;>intro h<;>try omega|refine ak c1 ?_|refine ak c2 ?_|refine ak c3 ?_|refine ak c4 ?_|refine ak D ?_
    ·have hn:bo e=10:=by simp[bo,h1,h2,h3,h4]
     rw[hn]
     clear hn
     repeat' first|simp(disch:=omega)only[go_sem, *,h1,h2,h3,h4]|apply ab<;>intro h<;>try omega|refine ak (eW e) ?_|refine ak (iq e) ?_|refine ak (mM e) ?_|refine ak (pg e) ?_
   ·have hn:bo e=11:=by simp[bo,h1,h2,h3]
    rw[hn]
    clear hn
    repeat' first|simp(disch:=omega)only[go_sem, *,h1,h2,h3]|apply ab<;>intro h<;>try omega|refine ak (eW e) ?_|refine ak (iq e) ?_|refine ak (mM e) ?_
  ·have hn:bo e=7:=by simp[bo,h1,h2]
   rw[hn]
   clear hn
   repeat' first|simp(disch:=omega)only[go_sem, *,h1,h2]|apply ab<;>intro h<;>try omega|refine ak (eW e) ?_|refine ak (iq e) ?_
 ·have hn:bo e=5:=by simp[bo,h1]
  rw[hn]
  clear hn
  repeat' first|simp(disch:=omega)only[go_sem, *,h1]|apply ab<;>intro h<;>try omega|refine ak (eW e) ?_
theorem Fc (N: ∀a∈e.pre,bD a.val):ac Pa0 nO [fp e] (I (hO e)):=by
 refine ac.of FB zR6 λhb=>aa ?_
 conv in wE=>cbv
 by_cases h1:40<e.dep
 ·have hE:hO e=13:=if_pos h1
  rw[hE]
  clear hE N
  repeat' first|simp(disch:=omega)only[go_sem,show((min e.dep 41:Nat):Int)=41 by omega]|((with_reducible refine ab ?_ ?_)<;>intro h<;>try first|omega|simp(disch:=omega)only[go_sem, *,show((min e.dep 41:Nat):Int)=41 by omega])|refine ak (qu e) ?_
 ·by_cases h2:2000<e.sz
  ·have hE:hO e=2:=by unfold hO;rw[if_neg h1,if_pos h2]
   rw[hE]
   clear hE N
   repeat' first|simp(disch:=omega)only[go_sem,show((min e.dep 41:Nat):Int)=e.dep by omega,show((min e.sz 2001:Nat):Int)=2001 by omega,show ¬(e.dep:Int)>40 by omega]|((with_reducible refine ab ?_ ?_)<;>intro h<;>try first|omega|simp(disch:=omega)only[go_sem, *,show((min e.dep 41:Nat):Int)=e.dep by omega,show((min e.sz 2001:Nat):Int)=2001 by omega,show ¬(e.dep:Int)>40 by omega])|refine ak (qu e) ?_|refine ak (AI e) ?_
  ·have hE:hO e=dz (e.pre.map bo):=by unfold hO;rw[if_neg h1,if_neg h2];rfl
   rw[hE]
   have hY:=Bv e
   have f:(e.pre.map λa=> [fp a]).length=e.pre.length:=zE3 _
   have q: ∀(k:Nat) x,(e.pre.map λa=> [fp a])[k]? =some x→ ∃h:k<e.pre.length,x= [fp e.pre[k]]:= λk x hx=>by
    rw[zC7]at hx
    obtain⟨a,ha,rfl⟩:=zC1.1 hx
    obtain⟨hk,rfl⟩:=zB7.1 ha
    exact⟨hk,rfl⟩
   have z: ∀x∈e.pre.map λa=> [fp a],x.length=1:= λx hx=>by
    obtain⟨a,_,rfl⟩:=zE0.1 hx
    rfl
   generalize e.pre=fs at*
   have HY:=Lib.hid hY
   have HG:=Lib.hid q
   have HL:=Lib.hid f
   have HD:=Lib.hid z
   have H64:=Lib.hid N
   clear q f z hY N hE
   repeat' first|simp(disch:=omega)only[go_sem,show((min e.dep 41:Nat):Int)=e.dep by omega,show((min e.sz 2001:Nat):Int)=e.sz by omega,show ¬(e.dep:Int)>40 by omega,show ¬(e.sz:Int)>2000 by omega]|((with_reducible refine ab ?_ ?_)<;>intro h<;>try first|omega|simp(disch:=omega)only[go_sem, *,show((min e.dep 41:Nat):Int)=e.dep by omega,show((min e.sz 2001:Nat):Int)=e.sz by omega,show ¬(e.dep:Int)>40 by omega,show ¬(e.sz:Int)>2000 by omega])|refine ak (qu e) ?_|refine ak (AI e) ?_|refine dH (BF e) ?_
   refine tq 2 [(2,.c (.ptr 1 0))] (λk (_:Unit)=>([(1,.var [.pure (pI 0)]),(0,zO e)],2)) (λk _=>Hid (dz ((fs.map bo).take k)=0)) rfl rfl rfl HY.out HD.out ⟨by simp,by simp⟩ zR7 ⟨(), [],by show _=_;simp[dz],by simp⟩ ?_ ?_
   ·intro k x t hx hk
    obtain⟨d,rfl⟩:=HG.out k x hx
    have hC:=Cf (H64.out _ (zA6 d))
    have hD:k<(fs.map bo).length:=by simpa using d
    have h3:=jL hD hk.out
    have h4:=qk hD hk.out
    rw[zJ2]at h3 h4
    clear hx HG HL HD HY H64 hk
    by_cases hp:bo fs[k]=0
    ·have H3:=Lib.hid (h3.trans hp)
     clear h3 h4
     repeat' first|simp(disch:=omega)only[go_sem,hp]|((with_reducible refine ab ?_ ?_)<;>intro h<;>try first|omega|simp(disch:=omega)only[go_sem, *,hp])|refine ak hC ?_
     exact⟨(), [],H3,by simp⟩
    ·have h5:=h4 hp
     rw[h5]
     clear h3 h4 h5
     repeat' first|simp(disch:=omega)only[go_sem,hp]|((with_reducible refine ab ?_ ?_)<;>intro h<;>try first|omega|simp(disch:=omega)only[go_sem, *,hp])|refine ak hC ?_
   ·intro t hk
    have Y:=hk.out
    rw[HL.out,zB6 zR6]at Y
    rw[Y]
    clear hk Y HG HL HD HY H64
    exact zW1
end Go.Proofs.YtigdjhnndaokjaaGreatDoor
