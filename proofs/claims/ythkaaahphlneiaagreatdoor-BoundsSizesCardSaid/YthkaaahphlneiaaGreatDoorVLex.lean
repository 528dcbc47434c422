import Derived.Test.YthkaaahphlneiaaGreatDoorV12a
import Derived.Test.YthkaaahphlneiaaGreatDoorShelf
import Derived.Lib.Hide
import Derived.Test.YthkaaahphlneiaaGreatDoorP14
set_option linter.unusedVariables false
set_option linter.unusedSimpArgs false
set_option maxRecDepth 20000
set_option maxHeartbeats 4000000
set_option maxRecDepth 1000000
namespace Go.Proofs.YthkaaahphlneiaaGreatDoor
open Go.Abs Go.RowKit
theorem Sj {w:World} {V:Nat→Prop} {T:TypeId} {l:List ByteArray} (hV:V w.heap.size) (hl:l.length≤9223372036854775807):
  aM (w.alloc (.cells (l.map Value.string).toArray T)) V (fun _=>undef) 0 (pT l) (.slice (some ⟨w.heap.size,0,none⟩) l.length l.length):=by
 refine .c (.pure (.slice (sz:=1) (fun i _=>(l.map Value.string).getD i undef) (by simp) (Nat.le_refl _) (by simpa using hl) ?_ ?_ ?_))
 ·intro i row hi
  rw[List.getElem?_map]at hi
  obtain⟨s,_,rfl⟩:=Option.map_eq_some_iff.1 hi
  rfl
 ·intro i row j p hi hj
  rw[List.getElem?_map]at hi
  obtain⟨s,hs,rfl⟩:=Option.map_eq_some_iff.1 hi
  cases j with
  |succ j=>simp at hj
  |zero=>
   refine⟨w.heap.size,0,rfl,hV, ?_⟩
   have hlt:=(List.getElem?_eq_some_iff.1 hs).1
   rw[cell_of_row _ _ _ _ _ _ (World.alloc_heap_new w _)]
   simp[hs]
 ·intro i row j p hi hj
  rw[List.getElem?_map]at hi
  obtain⟨s,hs,rfl⟩:=Option.map_eq_some_iff.1 hi
  cases j with
  |succ j=>simp at hj
  |zero=>
   simp at hj
   subst hj
   simp[hs]
   exact .val rfl
theorem xx {s:ByteArray} {l:List ByteArray} (hs:s.size<4294967281) (hascii:s.data.toList.all (fun b=>decide (b.toNat<128))=true) (hl:(Go.Lib.fields s.data.toList).map (fun l=>(⟨l.toArray⟩:ByteArray))=l) (hlen:l.length≤1000000):ac Tryz.prog 200 [S s] (pT l):=by
 refine⟨⟨_,Tryz.func200,rfl,by kernel_rfl⟩,fun w U vs hG hr=> ?_⟩
 obtain⟨vs⟩:=vs
 cases hr with
 |cons h1 t=>
  cases t
  have e1:=(bb h1).1
  subst e1
  have hT: ∀c:Nat,c<256→w.cell? ⟨Tryz.lays157_ren.g 0,c,none⟩=some (.int .u8 (if Lib.isSp (UInt8.ofNat c)then 1 else 0)):=fun c hc=>hG _ rfl c hc
  refine(Any.strings_Fields_core Tryz.lays157 (by kernel_rfl) s w hs (fun j b hb=>of_decide_eq_true (List.all_eq_true.1 hascii b (List.mem_of_getElem? hb))) hT).mono ?_
  rintro e w' ⟨rfl,rfl⟩
  have e2:(Go.Lib.fields s.data.toList).map (fun l=>Value.string ⟨l.toArray⟩)=l.map Value.string:=by rw[←hl,List.map_map];rfl
  have e3:(Go.Lib.fields s.data.toList).length=l.length:=by rw[←hl,List.length_map]
  rw[e2,e3]
  exact⟨_,rfl,Sj (.inr (Nat.le_refl _)) (by omega),(Below.refl _ w).alloc (Nat.le_refl _) _⟩
theorem xz:ac Tryz.prog qc [] (pT wm):=by
 refine ac.of y9 (by simp) fun hb=>aa ?_
 simp only[qt]
 repeat' first|simp(disch:=omega) only[go_sem, *]|((with_reducible refine ab ?_ ?_)<;>intro h<;>try omega)|(refine bS (xx (l:=wm) (by decide) (by decide+kernel) (by kernel_rfl) (by decide)) rfl rfl ?_)
abbrev YO (n:Int):AV:= .c (.pure (.val (.int .i32 n)))
theorem qg (n:Int):ac Tryz.prog tZ [YO n] (Go.Abs.B (decide (97≤n∧n≤122))):=by
 refine ac.of Cq (by simp) fun hb=>aa ?_
 simp only[uJ]
 repeat' first|simp(disch:=omega) only[go_sem, *]|((with_reducible refine ab ?_ ?_)<;>intro h<;>try omega)
 all_goals(simp[*]<;>omega)
theorem BZ (n:Int):ac Tryz.prog vU [YO n] (Go.Abs.B (decide (48≤n∧n≤57))):=by
 refine ac.of DF (by simp) fun hb=>aa ?_
 simp only[wF]
 repeat' first|simp(disch:=omega) only[go_sem, *]|((with_reducible refine ab ?_ ?_)<;>intro h<;>try omega)
 all_goals(simp[*]<;>omega)
def La (n:Int):Prop:=(97≤n∧n≤122)∨(48≤n∧n≤57)∨n=95
instance (n:Int):Decidable (La n):=inferInstanceAs (Decidable (_∨_))
theorem pz (n:Int):ac Tryz.prog jg [YO n] (Go.Abs.B (decide (La n))):=by
 refine ac.of Cg (by simp) fun hb=>aa ?_
 simp only[uc]
 repeat' first|simp(disch:=omega) only[go_sem, *]|((with_reducible refine ab ?_ ?_)<;>intro h<;>try omega)|(refine av (qg n) rfl rfl ?_)|(refine av (BZ n) rfl rfl ?_)
 all_goals(refine BD ?_;clear hb;simp only[Bool.not_eq_true',BT,B4,reduceCtorEq,false_iff,true_iff,not_exists,not_and,Classical.not_not,decide_eq_true_iff,decide_eq_false_iff_not];first|done|grind [La])
def mE:List UInt8→Nat
 | []=>0
 |c::r=>if La c.toNat then mE r+1 else 0
theorem K8: ∀l:List UInt8,mE l≤l.length
 | []=>by simp[mE]
 |c::r=>by
  rw[mE]
  have:=K8 r
  split<;>simp<;>omega
theorem Ly: ∀{l:List UInt8} {k:Nat},(∀i (h:i<k) (hl:i<l.length),La (l[i].toNat))→k≤l.length→(∀h:k<l.length,¬La (l[k].toNat))→mE l=k
 | [],k,_,hk,_=>by simp at hk;simp[mE,hk]
 |c::r,0,_,_,h=>by rw[mE,if_neg (show ¬La c.toNat from h (by simp))]
 |c::r,k+1,h1,h2,h3=>by
  rw[mE,if_pos (show La c.toNat from h1 0 (by omega) (by simp)),Ly (l:=r) (k:=k) (fun i hi hl=>h1 (i+1) (by omega) (by simpa using hl)) (by simpa using h2) (fun h=>h3 (by simpa using h))]
theorem xw: ∀{l:List UInt8},mE l=l.length↔ ∀i (h:i<l.length),La (l[i].toNat)
 | []=>by simp[mE]
 |c::r=>by
  have:=K8 r
  rw[mE]
  constructor
  ·intro h i hi
   split at h
   ·cases i with
    |zero=>assumption
    |succ i=>exact(xw (l:=r)).1 (by simpa using h) i (by simpa using hi)
   ·simp at h
  ·intro h
   rw[if_pos (show La c.toNat from h 0 (by simp)),(xw (l:=r)).2 fun i hi=>h (i+1) (by simpa using hi)]
   simp
theorem Ll {s:ByteArray} {i:Nat} (h:i<s.size):s[i]=s.data.toList[i]'(by simpa using h):=rfl
theorem FA {s:ByteArray} (hs:s.size≤16):ac Tryz.prog yl [S s,.c (.clo jg [])] (I (mE s.data.toList)):=by
 refine ac.of Gx (by simp) fun hb=>aa ?_
 simp only[yB]
 repeat' first|simp(disch:=omega) only[go_sem]|((with_reducible refine ab ?_ ?_)<;>intro h<;>try first|omega|simp(disch:=omega) only[go_sem, *])
 refine aj (fun k:Nat=>⟨[(5,I k),(1,.c (.clo jg [])),(0,S s)], [],0,0⟩) (fun k=>k≤s.size∧dW (fun j=> ∀h:j<s.size,La (s[j].toNat)) k) (fun k=>s.size-k) ⟨0, [],⟨by omega,.zero⟩,by simp⟩ ?_
 rintro k ⟨hk,hall⟩
 refine aa ?_
 have fin:(∀h:k<s.size,¬La (s[k].toNat))→mE s.data.toList=k:=fun h=>Ly (fun i hi hl=>Ll (by simpa using hl)▸hall i hi (by simpa using hl)) (by simpa using hk) (fun hl=>Ll (by simpa using hl)▸h (by simpa using hl))
 by_cases hlt:k<s.size
 ·have hc:=(s[k]).toNat_lt
  have e1:IntKind.wrap .i32 (s[k].toNat:Int)=s[k].toNat:=by rw[IntKind.wrap_i32];omega
  by_cases hw:La (s[k].toNat)
  ·have HF:=Lib.hid fin
   clear fin
   repeat' first|simp(disch:=omega) only[go_sem,getElem?_pos s k hlt,wrap_i64,e1]|((with_reducible refine ab ?_ ?_)<;>intro h<;>try first|omega|simp(disch:=omega) only[go_sem, *,getElem?_pos s k hlt,wrap_i64,e1])|(refine av (pz _) rfl rfl ?_)
   ·exact⟨k+1, [],⟨by omega,hall.succ fun _=>hw⟩,by omega,by simp⟩
   ·exact absurd hw h
  ·have e2:=fin fun _=>hw
   have E2:=Lib.hid e2
   clear e2 fin hall
   repeat' first|simp(disch:=omega) only[go_sem,getElem?_pos s k hlt,wrap_i64,e1]|((with_reducible refine ab ?_ ?_)<;>intro h<;>try first|omega|simp(disch:=omega) only[go_sem, *,getElem?_pos s k hlt,wrap_i64,e1])|(refine av (pz _) rfl rfl ?_)
   ·exact absurd h hw
   ·rw[E2.out]
 ·have e2:=fin fun h=>absurd h hlt
  have E2:=Lib.hid e2
  clear e2 fin hall
  repeat' first|simp(disch:=omega) only[go_sem]|((with_reducible refine ab ?_ ?_)<;>intro h<;>try first|omega|simp(disch:=omega) only[go_sem, *])
  rw[E2.out]
theorem tc (xs:List ByteArray) (s:ByteArray):ac Tryz.prog fQ [pT xs,S s] (I (nB (· =s) xs)):=by
 refine ac.of kJ (by simp) fun hb=>aa ?_
 have hl:xs.length≤9223372036854775807:=by simpa[ie,iz]using hb.1
 simp only[fO]
 repeat' first|simp(disch:=omega) only[go_sem, *]|((with_reducible refine ab ?_ ?_)<;>intro h<;>try omega)
 refine aj (fun k:Nat=>⟨[(0,pT xs),(1,S s),(7,I xs.length),(8,I k)], [],0,0⟩) (fun k=>k≤xs.length∧dW (fun j=> ∀h:j<xs.length,¬xs[j]=s) k) (fun k=>xs.length-k) ⟨0, [],⟨by omega,.zero⟩,by simp⟩ ?_
 rintro k ⟨hk,hall⟩
 refine aa ?_
 by_cases hlt:k<xs.length
 ·by_cases he:xs[k]=s
  ·have e2:=y8 (p:=(· =s)) hlt he fun j hj=>hall j hj (by omega)
   have E2:=Lib.hid e2
   clear e2 hall
   repeat' first|simp(disch:=omega) only[go_sem, *,ae hlt,jA,he,wrap_i64,decide_true]|((with_reducible refine ab ?_ ?_)<;>intro h<;>try omega)
   rw[E2.out]
  ·have he': ¬s=xs[k]:=fun h=>he h.symm
   repeat' first|simp(disch:=omega) only[go_sem, *,ae hlt,jA,he',wrap_i64]|((with_reducible refine ab ?_ ?_)<;>intro h<;>try omega)
   exact⟨k+1, [],⟨by omega,hall.succ fun _=>he⟩,by omega,by simp⟩
 ·have e2:=re (p:=(· =s)) (xs:=xs) fun j hj=>hall j (by omega) hj
  have E2:=Lib.hid e2
  clear e2 hall
  repeat' first|simp(disch:=omega) only[go_sem, *]|((with_reducible refine ab ?_ ?_)<;>intro h<;>try omega)
  rw[E2.out]
theorem iV (xs:List ByteArray) (s:ByteArray):ac Tryz.prog eZ [pT xs,S s] (Go.Abs.B (decide (s∈xs))):=by
 refine ac.of jB (by simp) fun hb=>aa ?_
 simp only[e7]
 repeat' first|simp(disch:=omega) only[go_sem, *]|((with_reducible refine ab ?_ ?_)<;>intro h<;>try omega)|(refine av (tc xs s) rfl rfl ?_)
 refine BD ?_
 rw[decide_eq_true_iff]
 refine KB.trans ⟨?_,fun h=>⟨s,h,rfl⟩⟩
 rintro⟨x,hx,rfl⟩
 exact hx
theorem vH (s:ByteArray):ac Tryz.prog oj [S s] (Go.Abs.B (decide (s∈wm))):=by
 refine ac.of xk (by simp) fun hb=>aa ?_
 simp only[oi]
 repeat' first|simp(disch:=omega) only[go_sem, *]|((with_reducible refine ab ?_ ?_)<;>intro h<;>try omega)|(refine bS xz rfl rfl ?_)|(refine av (iV wm s) rfl rfl ?_)
theorem Fl {s:ByteArray} (h:0<s.size):fp s↔s.size≤16∧ ¬s∈wm∧(97≤(s[0].toNat:Int)∧(s[0].toNat:Int)≤122)∧ ∀i (h:i<s.size),La (s[i].toNat):=by
 unfold fp
 constructor
 ·rintro⟨h1,h2,h3,h4⟩
  refine⟨h2,h3,by have:=h4 0 h;unfold vw at this;omega,fun i hi=>by have:=h4 i hi;unfold vw at this;unfold La;omega⟩
 ·rintro⟨h2,h3,h4,h5⟩
  refine⟨h,h2,h3,fun i hi=> ?_⟩
  have:=h5 i hi
  unfold La at this
  unfold vw
  by_cases e:i=0
  ·subst e;omega
  ·omega
theorem br (s:ByteArray):ac Tryz.prog mI [S s] (Go.Abs.B (decide (fp s))):=by
 refine ac.of B3 (by simp) fun hb=>aa ?_
 conv in uL=>cbv
 by_cases h0:s.size=0
 ·have he:s=⟨⟨[]⟩⟩:=by
   obtain⟨⟨l⟩⟩:=s
   have:l= []:=List.eq_nil_of_length_eq_zero h0
   rw[this]
  subst he
  repeat' first|simp(disch:=omega) only[go_sem, *]|((with_reducible refine ab ?_ ?_)<;>intro h<;>try omega)
  exact BD ⟨fun h=>(by cases h),fun h=>(by have:=h.1;revert this;decide)⟩
 ·by_cases h16:s.size≤16
  ·have hpos:0<s.size:=by omega
   have hne: ¬s=⟨⟨[]⟩⟩:=fun h=>h0 (by rw[h];rfl)
   have hc:=(s[0]).toNat_lt
   have e1:IntKind.wrap .i32 (s[0].toNat:Int)=s[0].toNat:=by rw[IntKind.wrap_i32];omega
   have hsp:=FA h16
   have hfull:mE s.data.toList=s.size↔ ∀i (h:i<s.size),La (s[i].toNat):=by
    have hsz:s.data.toList.length=s.size:=by simp
    refine Iff.trans (by rw[←hsz]) (xw.trans ⟨fun h i hi=>h i (by simpa using hi),fun h i hi=>h i (by simpa using hi)⟩)
   generalize mE s.data.toList=m at hsp hfull
   have HF:=Lib.hid hfull
   clear hfull
   repeat' first|simp(disch:=omega) only[go_sem, *,getElem?_pos s 0 hpos,Int.toNat_zero,e1,hne]|((with_reducible refine ab ?_ ?_)<;>intro h<;>try omega)|(refine av (qg _) rfl rfl ?_)|(refine av hsp rfl rfl ?_)|(refine av (vH s) rfl rfl ?_)
   ·refine BD ?_
    rw[Fl hpos]
    have:=HF.out.1 (by omega)
    simp only[Bool.not_eq_true',decide_eq_false_iff_not]
    exact⟨fun hn=>⟨h16,hn,‹_›,this⟩,fun hh=>hh.2.1⟩
   ·refine BD ⟨fun h=>(by cases h),fun hh=> ?_⟩
    have:=HF.out.2 ((Fl hpos).1 hh).2.2.2
    omega
   ·exact BD ⟨fun h=>(by cases h),fun hh=>absurd ((Fl hpos).1 hh).2.2.1 h⟩
  ·have hne: ¬s=⟨⟨[]⟩⟩:=fun h=>h0 (by rw[h];rfl)
   repeat' first|simp(disch:=omega) only[go_sem, *,hne]|((with_reducible refine ab ?_ ?_)<;>intro h<;>try omega)
   exact BD ⟨fun h=>(by cases h),fun hh=>absurd hh.2.1 h16⟩
end Go.Proofs.YthkaaahphlneiaaGreatDoor
