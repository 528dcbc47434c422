import Derived.Test.YthbcbaembicdbaaGreatDoorV07u
import Derived.Test.YthbcbaembicdbaaGreatDoorExec
set_option linter.unusedVariables false
set_option linter.unusedSimpArgs false
set_option maxRecDepth 20000
namespace Go.Proofs.YthbcbaembicdbaaGreatDoor
open Go.Abs Go.RowKit
theorem PB: ∀{l m:List (List UInt8)},l.Pairwise (· < ·)→m.Pairwise (· < ·)→(∀x,x∈l↔x∈m)→l=m
 | [], [],_,_,_=>rfl
 | [],y::m,_,_,h=>by cases (h y).2 List.mem_cons_self
 |x::l, [],_,_,h=>by cases (h x).1 List.mem_cons_self
 |x::l,y::m,h1,h2,h=>by
  obtain⟨a1,a2⟩:=List.pairwise_cons.1 h1
  obtain⟨b1,b2⟩:=List.pairwise_cons.1 h2
  have e:x=y:=by
   rcases List.mem_cons.1 ((h x).1 List.mem_cons_self)with e|e
   ·exact e
   ·rcases List.mem_cons.1 ((h y).2 List.mem_cons_self)with e2|e2
    ·exact e2.symm
    ·exact absurd (b1 _ e) (List.lt_asymm (a1 _ e2))
  subst e
  refine congrArg _ (PB a2 b2 λz=>⟨λhz=> ?_,λhz=> ?_⟩)
  ·rcases List.mem_cons.1 ((h z).1 (List.mem_cons_of_mem _ hz))with rfl|e
   ·exact absurd (a1 _ hz) (List.lt_irrefl _)
   ·exact e
  ·rcases List.mem_cons.1 ((h z).2 (List.mem_cons_of_mem _ hz))with rfl|e
   ·exact absurd (b1 _ hz) (List.lt_irrefl _)
   ·exact e
def Je (s:List UInt8):List (List UInt8)→List (List UInt8)
 | []=> [s]
 |x::r=>if x<s then x::Je s r else if s<x then s::x::r else x::r
theorem Eg {s z:List UInt8}: ∀{l:List (List UInt8)},z∈Je s l↔z=s∨z∈l
 | []=>by simp[Je]
 |x::r=>by
  rw[Je]
  split
  ·rw[List.mem_cons,Eg,List.mem_cons]
   constructor
   ·rintro(h|h|h)
    ·exact .inr (.inl h)
    ·exact .inl h
    ·exact .inr (.inr h)
   ·rintro(h|h|h)
    ·exact .inr (.inl h)
    ·exact .inl h
    ·exact .inr (.inr h)
  ·split
   ·rw[List.mem_cons]
   ·rename_i h1 h2
    have e:x=s:=Std.le_antisymm (Std.not_lt.1 h2) (Std.not_lt.1 h1)
    subst e
    rw[List.mem_cons]
    constructor
    ·exact .inr
    ·rintro(h|h)
     ·exact .inl h
     ·exact h
theorem Mj {s:List UInt8}: ∀{l:List (List UInt8)},l.Pairwise (· < ·)→(Je s l).Pairwise (· < ·)
 | [],_=>by simp[Je]
 |x::r,h=>by
  obtain⟨h1,h2⟩:=List.pairwise_cons.1 h
  rw[Je]
  split
  ·rename_i hx
   refine List.pairwise_cons.2 ⟨λz hz=> ?_,Mj h2⟩
   rcases Eg.1 hz with rfl|hz
   ·exact hx
   ·exact h1 _ hz
  ·split
   ·rename_i hx
    refine List.pairwise_cons.2 ⟨λz hz=> ?_,h⟩
    rcases List.mem_cons.1 hz with rfl|hz
    ·exact hx
    ·exact List.lt_trans hx (h1 _ hz)
   ·exact h
def FK (l:List (List UInt8)):List (List UInt8):=l.foldr Je []
theorem EG: ∀{l:List (List UInt8)},(FK l).Pairwise (· < ·)
 | []=>List.Pairwise.nil
 |x::l=>Mj (EG (l:=l))
theorem Ei {z:List UInt8}: ∀{l:List (List UInt8)},z∈FK l↔z∈l
 | []=>Iff.rfl
 |x::l=>by
  show z∈Je x (FK l)↔_
  rw[Eg,Ei,List.mem_cons]
theorem Fh {l:List (List UInt8)} (h:l.Pairwise (· ≤ ·)): ∀m,m≤l.length→(Lib.compactUpTo l.toArray m).Pairwise (· < ·)∧(∀x∈Lib.compactUpTo l.toArray m,0<m∧x≤l.toArray[m-1]!)∧ ∀x,x∈Lib.compactUpTo l.toArray m↔x∈l.take m
 |0,_=>⟨List.Pairwise.nil,(λx hx=>absurd hx List.not_mem_nil),λx=>by simp[Lib.compactUpTo]⟩
 |m+1,hm=>by
  obtain⟨h1,h2,h3⟩:=Fh h m (by omega)
  have hlt:m<l.length:=by omega
  have em:l.toArray[m]! =l[m]:=by simp[hlt]
  rw[Lib.compactUpTo_succ,List.take_succ_eq_append_getElem hlt]
  have hle:0<m→l.toArray[m-1]! ≤l[m]:= λh0=>by
   have e1:l.toArray[m-1]! =l[m-1]:=by simp[show m-1<l.length by omega]
   rw[e1]
   exact List.pairwise_iff_getElem.1 h (m-1) m (by omega) hlt (by omega)
  by_cases hk:Lib.keeps l.toArray m=true
  ·rw[if_pos hk,em]
   have hk':m=0∨l.toArray[m]! ≠l.toArray[m-1]! :=by simpa[Lib.keeps]using hk
   rw[em]at hk'
   refine⟨?_, ?_,λx=>by rw[List.mem_append,List.mem_append,h3]⟩
   ·rw[List.pairwise_append]
    refine⟨h1,List.pairwise_singleton _ _,λx hx y hy=> ?_⟩
    obtain rfl:=List.mem_singleton.1 hy
    obtain⟨h0,hx2⟩:=h2 x hx
    rcases hk' with hk'|hk'
    ·omega
    ·exact Std.lt_of_le_of_lt hx2 (Std.lt_of_le_of_ne (hle h0) λe=>hk' e.symm)
   ·intro x hx
    refine⟨by omega, ?_⟩
    rw[Nat.add_sub_cancel,em]
    rcases List.mem_append.1 hx with hx|hx
    ·obtain⟨h0,hx2⟩:=h2 x hx
     exact Std.le_trans hx2 (hle h0)
    ·obtain rfl:=List.mem_singleton.1 hx
     exact List.le_refl _
  ·rw[if_neg hk,List.append_nil]
   have hk': ¬(m=0∨l.toArray[m]! ≠l.toArray[m-1]!):=by simpa[Lib.keeps]using hk
   have h0:m≠0:= λe=>hk' (.inl e)
   have he:l.toArray[m]! =l.toArray[m-1]! :=Classical.not_not.1 λe=>hk' (.inr e)
   refine⟨h1,λx hx=>⟨by omega, ?_⟩,λx=> ?_⟩
   ·rw[Nat.add_sub_cancel,he]
    exact(h2 x hx).2
   ·rw[List.mem_append,h3]
    constructor
    ·exact .inl
    ·rintro(hx|hx)
     ·exact hx
     ·obtain rfl:=List.mem_singleton.1 hx
      rw[←em,he]
      have e1:l.toArray[m-1]! =l[m-1]:=by simp[show m-1<l.length by omega]
      rw[e1,List.mem_take_iff_getElem]
      exact⟨m-1,by omega,rfl⟩
theorem MU (l:List ByteArray):tA (wQ l)=kC (FK (bo l)):=by
 rw[tA,wQ,DT]
 have hs:((bo l).mergeSort λx y=>decide (x≤y)).Pairwise (· ≤ ·):=
  (List.pairwise_mergeSort (le:= λx y:List UInt8=>decide (x≤y)) (λa b c h1 h2=>decide_eq_true (Std.le_trans (of_decide_eq_true h1) (of_decide_eq_true h2))) (λa b=>by
   rw[Bool.or_eq_true,decide_eq_true_iff,decide_eq_true_iff]
   exact List.le_total a b) (bo l)).imp λh=>of_decide_eq_true h
 obtain⟨h1,_,h3⟩:=Fh hs _ (Nat.le_refl _)
 refine congrArg _ (PB h1 EG λx=> ?_)
 rw[Ei,Lib.compact,h3 x,List.take_length,List.mem_mergeSort]
def Nn:List PC→Option aD
 | [.val (.string s),.val (.int .i64 n)]=>some (s,n)
 |_=>none
def LG {α:Type} (f:List PC→Option α):List (List PC)→Option (List α)
 | []=>some []
 |r::l=>match f r,LG f l with
  |some x,some y=>some (x::y)
  |_,_=>none
def Vf:List PC→Option bU
 |[.val (.int .i64 k),.slice rows]=>match LG Nn rows with
  |some l=>some (k,l)
  |none=>none
 |_=>none
theorem FX {α:Type} {f:List PC→Option α} {g:α→List PC} (h: ∀r x,f r=some x→r=g x): ∀{l:List (List PC)} {y:List α},LG f l=some y→l=y.map g
 | [],y,e=>by cases e;rfl
 |r::l,y,e=>by
  unfold LG at e
  split at e
  ·rename_i x z e1 e2
   cases e
   rw[List.map_cons,←h _ _ e1,←FX h e2]
  ·cases e
theorem RD: ∀r x,Nn r=some x→r=mP x:= λr x e=>by
 unfold Nn at e
 split at e
 ·cases e;rfl
 ·cases e
theorem TN: ∀r x,Vf r=some x→r=lP x:= λr x e=>by
 unfold Vf at e
 split at e
 ·split at e
  ·rename_i e1
   cases e
   rw[FX RD e1]
   rfl
  ·cases e
 ·cases e
def NU (xs:List AV):Option AV:=match xs with
 |[.c (.pure (.slice rows))]=>match LG Vf rows with
  |some l=>match decide ((dH l).length≤1000000000)with
   |true=>some (om (kC (FK (bo (dH l)))))
   |false=>none
  |none=>none
 |_=>none
theorem Qf {xs:List AV} {r:AV} (h:NU xs=some r):af Tryz.prog oG xs r:=by
 unfold NU at h
 split at h
 ·split at h
  ·rename_i l e
   split at h
   ·rename_i e1
    cases h
    rw[FX TN e,←MU]
    exact xA (of_decide_eq_true e1)
   ·cases h
  ·cases h
 ·cases h
def I8 (f:FuncId) (xs:List AV):Option AV:=match Nat.beq f oG with
 |true=>NU xs
 |false=>none
theorem Nh: ∀f xs r,I8 f xs=some r→af Tryz.prog f xs r:= λf xs r h=>by
 unfold I8 at h
 split at h
 ·rename_i e
  obtain rfl:=Nat.eq_of_beq_eq_true e
  exact Qf h
 ·cases h
end Go.Proofs.YthbcbaembicdbaaGreatDoor
