import Derived.Test.YthbcbaembicdbaaGreatDoorV18r
import Derived.Test.YthbcbaembicdbaaGreatDoorExec
set_option linter.unusedVariables false
set_option linter.unusedSimpArgs false
set_option maxRecDepth 20000
namespace Go.Proofs.YthbcbaembicdbaaGreatDoor
open Go.Abs Go.RowKit
theorem RA: ∀{l m:List (List UInt8)},l.Pairwise (· < ·)→m.Pairwise (· < ·)→(∀x,x∈l↔x∈m)→l=m
 | [], [],_,_,_=>rfl
 | [],y::m,_,_,h=>by cases (h y).2 List.mem_cons_self
 |x::l, [],_,_,h=>by cases (h x).1 List.mem_cons_self
 |x::l,y::m,h1,h2,h=>by
  obtain⟨a1,a2⟩:=List.pairwise_cons.1 h1
  obtain⟨b1,b2⟩:=List.pairwise_cons.1 h2
  have e:x=y:=by
   rcases List.mem_cons.1 ((h x).1 List.mem_cons_self)with e|e
   ·exact e
   ·rcases List.mem_cons.1 ((h y).2 List.mem_cons_self)with e2|e2
    ·exact e2.symm
    ·exact absurd (b1 _ e) (List.lt_asymm (a1 _ e2))
  subst e
  refine congrArg _ (RA a2 b2 fun z=>⟨fun hz=> ?_,fun hz=> ?_⟩)
  ·rcases List.mem_cons.1 ((h z).1 (List.mem_cons_of_mem _ hz))with rfl|e
   ·exact absurd (a1 _ hz) (List.lt_irrefl _)
   ·exact e
  ·rcases List.mem_cons.1 ((h z).2 (List.mem_cons_of_mem _ hz))with rfl|e
   ·exact absurd (b1 _ hz) (List.lt_irrefl _)
   ·exact e
def LU (s:List UInt8):List (List UInt8)→List (List UInt8)
 | []=> [s]
 |x::r=>if x<s then x::LU s r else if s<x then s::x::r else x::r
theorem FA {s z:List UInt8}: ∀{l:List (List UInt8)},z∈LU s l↔z=s∨z∈l
 | []=>by simp[LU]
 |x::r=>by
  rw[LU]
  split
  ·rw[List.mem_cons,FA,List.mem_cons]
   constructor
   ·rintro(h|h|h)
    ·exact .inr (.inl h)
    ·exact .inl h
    ·exact .inr (.inr h)
   ·rintro(h|h|h)
    ·exact .inr (.inl h)
    ·exact .inl h
    ·exact .inr (.inr h)
  ·split
   ·rw[List.mem_cons]
   ·rename_i h1 h2
    have e:x=s:=Std.le_antisymm (Std.not_lt.1 h2) (Std.not_lt.1 h1)
    subst e
    rw[List.mem_cons]
    constructor
    ·exact .inr
    ·rintro(h|h)
     ·exact .inl h
     ·exact h
theorem Nu {s:List UInt8}: ∀{l:List (List UInt8)},l.Pairwise (· < ·)→(LU s l).Pairwise (· < ·)
 | [],_=>by simp[LU]
 |x::r,h=>by
  obtain⟨h1,h2⟩:=List.pairwise_cons.1 h
  rw[LU]
  split
  ·rename_i hx
   refine List.pairwise_cons.2 ⟨fun z hz=> ?_,Nu h2⟩
   rcases FA.1 hz with rfl|hz
   ·exact hx
   ·exact h1 _ hz
  ·split
   ·rename_i hx
    refine List.pairwise_cons.2 ⟨fun z hz=> ?_,h⟩
    rcases List.mem_cons.1 hz with rfl|hz
    ·exact hx
    ·exact List.lt_trans hx (h1 _ hz)
   ·exact h
def Gq (l:List (List UInt8)):List (List UInt8):=l.foldr LU []
theorem G7: ∀{l:List (List UInt8)},(Gq l).Pairwise (· < ·)
 | []=>List.Pairwise.nil
 |x::l=>Nu (G7 (l:=l))
theorem Iu {z:List UInt8}: ∀{l:List (List UInt8)},z∈Gq l↔z∈l
 | []=>Iff.rfl
 |x::l=>by
  show z∈LU x (Gq l)↔_
  rw[FA,Iu,List.mem_cons]
theorem Il {l:List (List UInt8)} (h:l.Pairwise (· ≤ ·)): ∀m,m≤l.length→(Lib.compactUpTo l.toArray m).Pairwise (· < ·)∧(∀x∈Lib.compactUpTo l.toArray m,0<m∧x≤l.toArray[m-1]!)∧ ∀x,x∈Lib.compactUpTo l.toArray m↔x∈l.take m
 |0,_=>⟨List.Pairwise.nil,(fun x hx=>absurd hx List.not_mem_nil),fun x=>by simp[Lib.compactUpTo]⟩
 |m+1,hm=>by
  obtain⟨h1,h2,h3⟩:=Il h m (by omega)
  have hlt:m<l.length:=by omega
  have em:l.toArray[m]! =l[m]:=by simp[hlt]
  rw[Lib.compactUpTo_succ,List.take_succ_eq_append_getElem hlt]
  have hle:0<m→l.toArray[m-1]! ≤l[m]:=fun h0=>by
   have e1:l.toArray[m-1]! =l[m-1]:=by simp[show m-1<l.length by omega]
   rw[e1]
   exact List.pairwise_iff_getElem.1 h (m-1) m (by omega) hlt (by omega)
  by_cases hk:Lib.keeps l.toArray m=true
  ·rw[if_pos hk,em]
   have hk':m=0∨l.toArray[m]! ≠l.toArray[m-1]! :=by simpa[Lib.keeps]using hk
   rw[em]at hk'
   refine⟨?_, ?_,fun x=>by rw[List.mem_append,List.mem_append,h3]⟩
   ·rw[List.pairwise_append]
    refine⟨h1,List.pairwise_singleton _ _,fun x hx y hy=> ?_⟩
    obtain rfl:=List.mem_singleton.1 hy
    obtain⟨h0,hx2⟩:=h2 x hx
    rcases hk' with hk'|hk'
    ·omega
    ·exact Std.lt_of_le_of_lt hx2 (Std.lt_of_le_of_ne (hle h0) fun e=>hk' e.symm)
   ·intro x hx
    refine⟨by omega, ?_⟩
    rw[Nat.add_sub_cancel,em]
    rcases List.mem_append.1 hx with hx|hx
    ·obtain⟨h0,hx2⟩:=h2 x hx
     exact Std.le_trans hx2 (hle h0)
    ·obtain rfl:=List.mem_singleton.1 hx
     exact List.le_refl _
  ·rw[if_neg hk,List.append_nil]
   have hk': ¬(m=0∨l.toArray[m]! ≠l.toArray[m-1]!):=by simpa[Lib.keeps]using hk
   have h0:m≠0:=fun e=>hk' (.inl e)
   have he:l.toArray[m]! =l.toArray[m-1]! :=Classical.not_not.1 fun e=>hk' (.inr e)
   refine⟨h1,fun x hx=>⟨by omega, ?_⟩,fun x=> ?_⟩
   ·rw[Nat.add_sub_cancel,he]
    exact(h2 x hx).2
   ·rw[List.mem_append,h3]
    constructor
    ·exact .inl
    ·rintro(hx|hx)
     ·exact hx
     ·obtain rfl:=List.mem_singleton.1 hx
      rw[←em,he]
      have e1:l.toArray[m-1]! =l[m-1]:=by simp[show m-1<l.length by omega]
      rw[e1,List.mem_take_iff_getElem]
      exact⟨m-1,by omega,rfl⟩
theorem P5 (l:List ByteArray):ux (yp l)=kO (Gq (bC l)):=by
 rw[ux,yp,Io]
 have hs:((bC l).mergeSort fun x y=>decide (x≤y)).Pairwise (· ≤ ·):=
  (List.pairwise_mergeSort (le:=fun x y:List UInt8=>decide (x≤y)) (fun a b c h1 h2=>decide_eq_true (Std.le_trans (of_decide_eq_true h1) (of_decide_eq_true h2))) (fun a b=>by
   rw[Bool.or_eq_true,decide_eq_true_iff,decide_eq_true_iff]
   exact List.le_total a b) (bC l)).imp fun h=>of_decide_eq_true h
 obtain⟨h1,_,h3⟩:=Il hs _ (Nat.le_refl _)
 refine congrArg _ (RA h1 G7 fun x=> ?_)
 rw[Iu,Lib.compact,h3 x,List.take_length,List.mem_mergeSort]
def Ra:List PC→Option bJ
 | [.val (.string s),.val (.int .i64 n)]=>some (s,n)
 |_=>none
def MS {α:Type} (f:List PC→Option α):List (List PC)→Option (List α)
 | []=>some []
 |r::l=>match f r,MS f l with
  |some x,some y=>some (x::y)
  |_,_=>none
def Xd:List PC→Option bY
 |[.val (.int .i64 k),.slice rows]=>match MS Ra rows with
  |some l=>some (k,l)
  |none=>none
 |_=>none
theorem Hg {α:Type} {f:List PC→Option α} {g:α→List PC} (h: ∀r x,f r=some x→r=g x): ∀{l:List (List PC)} {y:List α},MS f l=some y→l=y.map g
 | [],y,e=>by cases e;rfl
 |r::l,y,e=>by
  unfold MS at e
  split at e
  ·rename_i x z e1 e2
   cases e
   rw[List.map_cons,←h _ _ e1,←Hg h e2]
  ·cases e
theorem Sx: ∀r x,Ra r=some x→r=mP x:=fun r x e=>by
 unfold Ra at e
 split at e
 ·cases e;rfl
 ·cases e
theorem XA: ∀r x,Xd r=some x→r=lP x:=fun r x e=>by
 unfold Xd at e
 split at e
 ·split at e
  ·rename_i e1
   cases e
   rw[Hg Sx e1]
   rfl
  ·cases e
 ·cases e
def Q3 (xs:List AV):Option AV:=match xs with
 |[.c (.pure (.slice rows))]=>match MS Xd rows with
  |some l=>match decide ((bz l).length≤1000000000)with
   |true=>some (mO (kO (Gq (bC (bz l)))))
   |false=>none
  |none=>none
 |_=>none
theorem Sy {xs:List AV} {r:AV} (h:Q3 xs=some r):ac Tryz.prog py xs r:=by
 unfold Q3 at h
 split at h
 ·split at h
  ·rename_i l e
   split at h
   ·rename_i e1
    cases h
    rw[Hg XA e,←P5]
    exact xt (of_decide_eq_true e1)
   ·cases h
  ·cases h
 ·cases h
def Lg (f:FuncId) (xs:List AV):Option AV:=match Nat.beq f py with
 |true=>Q3 xs
 |false=>none
theorem Qp: ∀f xs r,Lg f xs=some r→ac Tryz.prog f xs r:=fun f xs r h=>by
 unfold Lg at h
 split at h
 ·rename_i e
  obtain rfl:=Nat.eq_of_beq_eq_true e
  exact Sy h
 ·cases h
end Go.Proofs.YthbcbaembicdbaaGreatDoor
