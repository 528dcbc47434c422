import Derived.Test.YthkaaahphlneiaaGreatDoorV18r
import Derived.Test.YthkaaahphlneiaaGreatDoorVSort
import Derived.Test.YthkaaahphlneiaaGreatDoorExec
set_option linter.unusedVariables false
set_option linter.unusedSimpArgs false
set_option maxRecDepth 20000
set_option maxHeartbeats 4000000
set_option maxRecDepth 1000000
namespace Go.Proofs.YthkaaahphlneiaaGreatDoor
open Go.Abs Go.RowKit
theorem Np (l:List (List UInt8)):bm (jX l)=l:=by
 rw[jX,bm,List.map_map]
 exact(List.map_congr_left (fun s _=>by simp)).trans (List.map_id l)
theorem F0 {forms:List ca} {k:Nat} (h:k<forms.length):bE (forms.drop k)=forms[k].2.map (·.1)++bE (forms.drop (k+1)):=by
 rw[List.drop_eq_getElem_cons h]
 rfl
theorem FX {forms:List ca} (hl:(bE forms).length≤1000000000):ac Tryz.prog kQ [d8 lP forms] (pT (yU (BN (bE forms)))):=by
 refine ac.of JX (by simp) fun hb=>aa ?_
 have hfl:forms.length≤9223372036854775807:=by simpa[lW,ie,iz]using hb
 clear hb
 conv in Bc=>cbv
 obtain⟨R,hR⟩: ∃R,R= []++bE (forms.drop 0):=⟨_,rfl⟩
 have hR0:bE forms=R:=hR.symm
 rw[hR0]at hl ⊢
 have HR:=Lib.hid hR
 clear hR hR0
 repeat' first|simp(disch:=omega) only[go_sem, *]|((with_reducible refine ab ?_ ?_)<;>intro h<;>try omega)
 refine dv 3 9 1 rfl (by decide) ?_
 refine aj (fun s:Nat×List ByteArray=>⟨[(3,.c (.ref 0)),(8,d8 lP forms),(9,I forms.length),(10,I s.1)], [(0,.arr 9 1 (cg s.2))],1,0⟩) (fun s=>s.1≤forms.length∧Hid (R=s.2++bE (forms.drop s.1))) (fun s=>forms.length-s.1) ⟨(0, []), [],⟨Nat.zero_le _,HR⟩,by simp⟩ ?_
 clear HR
 rintro⟨j,acc⟩ ⟨hj,HR⟩
 simp only at hj HR
 refine aa ?_
 by_cases hlt:j<forms.length
 ·have g1:=ae (f:=lP) hlt
  have h2:=HR.out
  rw[F0 hlt]at h2
  clear HR
  generalize forms[j]=f at*
  obtain⟨K,l⟩:=f
  simp only[lP]at g1
  simp only at h2
  have HR:=Lib.hid h2
  clear h2
  repeat' first|simp(disch:=omega) only[go_sem, *,g1]|((with_reducible refine ab ?_ ?_)<;>intro h<;>try omega)
  refine Q3 15 fun hbl=> ?_
  have hll:l.length≤9223372036854775807:=by simpa[ay,ie,iz]using hbl
  clear hbl
  refine aj (fun s:Nat×List ByteArray=>⟨[(3,.c (.ref 0)),(8,d8 lP forms),(9,I forms.length),(10,I j),(15,.c (.pure (aE l))),(16,I l.length),(17,I s.1)], [(0,.arr 9 1 (cg s.2))],1,0⟩)
   (fun s=>s.1≤l.length∧Hid (R=s.2++((l.drop s.1).map (·.1)++bE (forms.drop (j+1))))) (fun s=>l.length-s.1) ⟨(0,acc), [],⟨Nat.zero_le _,HR⟩,by simp⟩ ?_
  clear HR
  rintro⟨k,acc⟩ ⟨hk,HR⟩
  simp only at hk HR
  refine aa ?_
  by_cases hlk:k<l.length
  ·have g2:=ae (f:=mP) hlk
   have h2:=HR.out
   rw[List.drop_eq_getElem_cons hlk]at h2
   clear HR
   generalize l[k]=m at*
   obtain⟨n,x⟩:=m
   simp only[mP]at g2
   have hacc:acc.length≤1000000000:=by rw[h2]at hl;simp at hl;omega
   have HR:Hid (R=(acc++ [n])++((l.drop (k+1)).map (·.1)++bE (forms.drop (j+1)))):=Lib.hid (by rw[h2];simp)
   clear h2
   repeat' first|simp(disch:=omega) only[go_sem, *,g2,wrap_i64]|((with_reducible refine ab ?_ ?_)<;>intro h<;>try omega)|(refine aN rfl (by intro h;cases h) (aI rfl) (by simp;omega) (by simp;omega) ?_)
   exact⟨(k+1,acc++ [n]), [(0,2)],⟨hlk,HR⟩,by show _-_<_-_;omega,by simp⟩
  ·have h2:=HR.out
   rw[List.drop_eq_nil_of_le (by omega)]at h2
   have HR:=Lib.hid h2
   clear h2
   repeat' first|simp(disch:=omega) only[go_sem, *,wrap_i64]|((with_reducible refine ab ?_ ?_)<;>intro h<;>try omega)
   exact⟨(j+1,acc), [],⟨hlt,HR⟩,by show _-_<_-_;omega,by simp⟩
 ·have h2:=HR.out
  rw[List.drop_eq_nil_of_le (by omega)]at h2
  have h3:R=acc:=by rw[h2];simp[bE]
  clear h2 HR
  subst h3
  repeat' first|simp(disch:=omega) only[go_sem, *]|((with_reducible refine ab ?_ ?_)<;>intro h<;>try omega)|(refine aq (WP rfl (by omega)) ?_)|(refine aq (Pk rfl) ?_)
set_option maxRecDepth 20000
theorem Oo: ∀{l m:List (List UInt8)},l.Pairwise (· < ·)→m.Pairwise (· < ·)→(∀x,x∈l↔x∈m)→l=m
 | [], [],_,_,_=>rfl
 | [],y::m,_,_,h=>by cases (h y).2 List.mem_cons_self
 |x::l, [],_,_,h=>by cases (h x).1 List.mem_cons_self
 |x::l,y::m,h1,h2,h=>by
  obtain⟨a1,a2⟩:=List.pairwise_cons.1 h1
  obtain⟨b1,b2⟩:=List.pairwise_cons.1 h2
  have e:x=y:=by
   rcases List.mem_cons.1 ((h x).1 List.mem_cons_self)with e|e
   ·exact e
   ·rcases List.mem_cons.1 ((h y).2 List.mem_cons_self)with e2|e2
    ·exact e2.symm
    ·exact absurd (b1 _ e) (List.lt_asymm (a1 _ e2))
  subst e
  refine congrArg _ (Oo a2 b2 fun z=>⟨fun hz=> ?_,fun hz=> ?_⟩)
  ·rcases List.mem_cons.1 ((h z).1 (List.mem_cons_of_mem _ hz))with rfl|e
   ·exact absurd (a1 _ hz) (List.lt_irrefl _)
   ·exact e
  ·rcases List.mem_cons.1 ((h z).2 (List.mem_cons_of_mem _ hz))with rfl|e
   ·exact absurd (b1 _ hz) (List.lt_irrefl _)
   ·exact e
def JD (s:List UInt8):List (List UInt8)→List (List UInt8)
 | []=> [s]
 |x::r=>if x<s then x::JD s r else if s<x then s::x::r else x::r
theorem EG {s z:List UInt8}: ∀{l:List (List UInt8)},z∈JD s l↔z=s∨z∈l
 | []=>by simp[JD]
 |x::r=>by
  rw[JD]
  split
  ·rw[List.mem_cons,EG,List.mem_cons]
   constructor
   ·rintro(h|h|h)
    ·exact .inr (.inl h)
    ·exact .inl h
    ·exact .inr (.inr h)
   ·rintro(h|h|h)
    ·exact .inr (.inl h)
    ·exact .inl h
    ·exact .inr (.inr h)
  ·split
   ·rw[List.mem_cons]
   ·rename_i h1 h2
    have e:x=s:=Std.le_antisymm (Std.not_lt.1 h2) (Std.not_lt.1 h1)
    subst e
    rw[List.mem_cons]
    constructor
    ·exact .inr
    ·rintro(h|h)
     ·exact .inl h
     ·exact h
theorem Mt {s:List UInt8}: ∀{l:List (List UInt8)},l.Pairwise (· < ·)→(JD s l).Pairwise (· < ·)
 | [],_=>by simp[JD]
 |x::r,h=>by
  obtain⟨h1,h2⟩:=List.pairwise_cons.1 h
  rw[JD]
  split
  ·rename_i hx
   refine List.pairwise_cons.2 ⟨fun z hz=> ?_,Mt h2⟩
   rcases EG.1 hz with rfl|hz
   ·exact hx
   ·exact h1 _ hz
  ·split
   ·rename_i hx
    refine List.pairwise_cons.2 ⟨fun z hz=> ?_,h⟩
    rcases List.mem_cons.1 hz with rfl|hz
    ·exact hx
    ·exact List.lt_trans hx (h1 _ hz)
   ·exact h
def Fb (l:List (List UInt8)):List (List UInt8):=l.foldr JD []
theorem Ep: ∀{l:List (List UInt8)},(Fb l).Pairwise (· < ·)
 | []=>List.Pairwise.nil
 |x::l=>Mt (Ep (l:=l))
theorem En {z:List UInt8}: ∀{l:List (List UInt8)},z∈Fb l↔z∈l
 | []=>Iff.rfl
 |x::l=>by
  show z∈JD x (Fb l)↔_
  rw[EG,En,List.mem_cons]
theorem EZ {l:List (List UInt8)} (h:l.Pairwise (· ≤ ·)): ∀m,m≤l.length→(Lib.compactUpTo l.toArray m).Pairwise (· < ·)∧(∀x∈Lib.compactUpTo l.toArray m,0<m∧x≤l.toArray[m-1]!)∧ ∀x,x∈Lib.compactUpTo l.toArray m↔x∈l.take m
 |0,_=>⟨List.Pairwise.nil,(fun x hx=>absurd hx List.not_mem_nil),fun x=>by simp[Lib.compactUpTo]⟩
 |m+1,hm=>by
  obtain⟨h1,h2,h3⟩:=EZ h m (by omega)
  have hlt:m<l.length:=by omega
  have em:l.toArray[m]! =l[m]:=by simp[hlt]
  rw[Lib.compactUpTo_succ,List.take_succ_eq_append_getElem hlt]
  have hle:0<m→l.toArray[m-1]! ≤l[m]:=fun h0=>by
   have e1:l.toArray[m-1]! =l[m-1]:=by simp[show m-1<l.length by omega]
   rw[e1]
   exact List.pairwise_iff_getElem.1 h (m-1) m (by omega) hlt (by omega)
  by_cases hk:Lib.keeps l.toArray m=true
  ·rw[if_pos hk,em]
   have hk':m=0∨l.toArray[m]! ≠l.toArray[m-1]! :=by simpa[Lib.keeps]using hk
   rw[em]at hk'
   refine⟨?_, ?_,fun x=>by rw[List.mem_append,List.mem_append,h3]⟩
   ·rw[List.pairwise_append]
    refine⟨h1,List.pairwise_singleton _ _,fun x hx y hy=> ?_⟩
    obtain rfl:=List.mem_singleton.1 hy
    obtain⟨h0,hx2⟩:=h2 x hx
    rcases hk' with hk'|hk'
    ·omega
    ·exact Std.lt_of_le_of_lt hx2 (Std.lt_of_le_of_ne (hle h0) fun e=>hk' e.symm)
   ·intro x hx
    refine⟨by omega, ?_⟩
    rw[Nat.add_sub_cancel,em]
    rcases List.mem_append.1 hx with hx|hx
    ·obtain⟨h0,hx2⟩:=h2 x hx
     exact Std.le_trans hx2 (hle h0)
    ·obtain rfl:=List.mem_singleton.1 hx
     exact List.le_refl _
  ·rw[if_neg hk,List.append_nil]
   have hk': ¬(m=0∨l.toArray[m]! ≠l.toArray[m-1]!):=by simpa[Lib.keeps]using hk
   have h0:m≠0:=fun e=>hk' (.inl e)
   have he:l.toArray[m]! =l.toArray[m-1]! :=Classical.not_not.1 fun e=>hk' (.inr e)
   refine⟨h1,fun x hx=>⟨by omega, ?_⟩,fun x=> ?_⟩
   ·rw[Nat.add_sub_cancel,he]
    exact(h2 x hx).2
   ·rw[List.mem_append,h3]
    constructor
    ·exact .inl
    ·rintro(hx|hx)
     ·exact hx
     ·obtain rfl:=List.mem_singleton.1 hx
      rw[←em,he]
      have e1:l.toArray[m-1]! =l[m-1]:=by simp[show m-1<l.length by omega]
      rw[e1,List.mem_take_iff_getElem]
      exact⟨m-1,by omega,rfl⟩
theorem Nm (l:List ByteArray):yU (BN l)=jX (Fb (bm l)):=by
 rw[yU,BN,Np]
 have hs:((bm l).mergeSort fun x y=>decide (x≤y)).Pairwise (· ≤ ·):=
  (List.pairwise_mergeSort (le:=fun x y:List UInt8=>decide (x≤y)) (fun a b c h1 h2=>decide_eq_true (Std.le_trans (of_decide_eq_true h1) (of_decide_eq_true h2))) (fun a b=>by
   rw[Bool.or_eq_true,decide_eq_true_iff,decide_eq_true_iff]
   exact List.le_total a b) (bm l)).imp fun h=>of_decide_eq_true h
 obtain⟨h1,_,h3⟩:=EZ hs _ (Nat.le_refl _)
 refine congrArg _ (Oo h1 Ep fun x=> ?_)
 rw[En,Lib.compact,h3 x,List.take_length,List.mem_mergeSort]
def NG:List PC→Option aP
 | [.val (.string s),.val (.int .i64 n)]=>some (s,n)
 |_=>none
def Kx {α:Type} (f:List PC→Option α):List (List PC)→Option (List α)
 | []=>some []
 |r::l=>match f r,Kx f l with
  |some x,some y=>some (x::y)
  |_,_=>none
def Qw:List PC→Option ca
 |[.val (.int .i64 k),.slice rows]=>match Kx NG rows with
  |some l=>some (k,l)
  |none=>none
 |_=>none
theorem FD {α:Type} {f:List PC→Option α} {g:α→List PC} (h: ∀r x,f r=some x→r=g x): ∀{l:List (List PC)} {y:List α},Kx f l=some y→l=y.map g
 | [],y,e=>by cases e;rfl
 |r::l,y,e=>by
  unfold Kx at e
  split at e
  ·rename_i x z e1 e2
   cases e
   rw[List.map_cons,←h _ _ e1,←FD h e2]
  ·cases e
theorem PL: ∀r x,NG r=some x→r=mP x:=fun r x e=>by
 unfold NG at e
 split at e
 ·cases e;rfl
 ·cases e
theorem QY: ∀r x,Qw r=some x→r=lP x:=fun r x e=>by
 unfold Qw at e
 split at e
 ·split at e
  ·rename_i e1
   cases e
   rw[FD PL e1]
   rfl
  ·cases e
 ·cases e
def M2 (xs:List AV):Option AV:=match xs with
 |[.c (.pure (.slice rows))]=>match Kx Qw rows with
  |some l=>match decide ((bE l).length≤1000000000)with
   |true=>some (pT (jX (Fb (bm (bE l)))))
   |false=>none
  |none=>none
 |_=>none
theorem Qi {xs:List AV} {r:AV} (h:M2 xs=some r):ac Tryz.prog kQ xs r:=by
 unfold M2 at h
 split at h
 ·split at h
  ·rename_i l e
   split at h
   ·rename_i e1
    cases h
    rw[FD QY e,←Nm]
    exact FX (of_decide_eq_true e1)
   ·cases h
  ·cases h
 ·cases h
def Jt (f:FuncId) (xs:List AV):Option AV:=match Nat.beq f kQ with
 |true=>M2 xs
 |false=>none
theorem NK: ∀f xs r,Jt f xs=some r→ac Tryz.prog f xs r:=fun f xs r h=>by
 unfold Jt at h
 split at h
 ·rename_i e
  obtain rfl:=Nat.eq_of_beq_eq_true e
  exact Qi h
 ·cases h
end Go.Proofs.YthkaaahphlneiaaGreatDoor
