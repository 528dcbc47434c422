import Derived.Test.YtjhkikmonejkjaaGreatDoorV07b
import Derived.Test.YtjhkikmonejkjaaGreatDoorVSort
set_option linter.unusedVariables false
set_option linter.unusedSimpArgs false
set_option maxRecDepth 20000
namespace Go.Proofs.YtjhkikmonejkjaaGreatDoor
open Go.Abs Go.RowKit
def yc (a:List ByteArray):Prop:=a.Pairwise λx y=>cH x y=true
def gA (a:List ByteArray) (s:ByteArray):List ByteArray:=if s∈a then a else a.filter (λx=>cH x s)++s::a.filter (λx=> !cH x s)
def ff (l:List ByteArray):List ByteArray:=l.foldl gA []
theorem Jl {a:List ByteArray} {s n:ByteArray}:n∈gA a s↔n∈a∨n=s:=by
 rw[gA]
 split
 ·rename_i h
  constructor
  ·exact .inl
  ·rintro(h1|rfl)
   ·exact h1
   ·exact h
 ·simp only[List.mem_append,List.mem_cons,List.mem_filter]
  constructor
  ·rintro(h|rfl|h)
   ·exact .inl h.1
   ·exact .inr rfl
   ·exact .inl h.1
  ·rintro(h|rfl)
   ·cases hx:cH n s with
    |true=>exact .inl ⟨h,rfl⟩
    |false=>exact .inr (.inr ⟨h,rfl⟩)
   ·exact .inr (.inl rfl)
theorem y0 {a:List ByteArray} {s:ByteArray} (h:yc a):yc (gA a s):=by
 rw[gA]
 split
 ·exact h
 ·rename_i hs
  unfold yc at h ⊢
  rw[List.pairwise_append,List.pairwise_cons]
  have b: ∀x∈a,(!cH x s)=true→cH s x=true:= λx hx hn=>by
   rcases Ge x s with h1|h1|h1
   ·rw[h1]at hn;cases hn
   ·exact absurd (h1▸hx) hs
   ·exact h1
  refine⟨h.filter _,⟨λx hx=> ?_,h.filter _⟩,λx hx y hy=> ?_⟩
  ·obtain⟨h1,h2⟩:=List.mem_filter.1 hx
   exact b x h1 h2
  ·obtain⟨h1,h2⟩:=List.mem_filter.1 hx
   rcases List.mem_cons.1 hy with rfl|hy
   ·exact h2
   ·obtain⟨h3,h4⟩:=List.mem_filter.1 hy
    exact m6 h2 (b y h3 h4)
theorem w5 {a:List ByteArray} {s:ByteArray}:(gA a s).length≤a.length+1:=by
 rw[gA]
 split
 ·omega
 ·rw[List.length_append,List.length_cons]
  have h: ∀l:List ByteArray,(l.filter λx=>cH x s).length+(l.filter λx=> !cH x s).length=l.length:= λl=>by
   induction l with
   |nil=>rfl
   |cons x l ih=>
    rw[List.filter_cons,List.filter_cons,List.length_cons]
    cases cH x s
    ·simp only[Bool.false_eq_true,if_false,Bool.not_false,if_true,List.length_cons];omega
    ·simp only[if_true,Bool.not_true,Bool.false_eq_true,if_false,List.length_cons];omega
  have:=h a
  omega
theorem LD {a:List ByteArray} {s:ByteArray} {p:Nat} (h:yc a) (hs: ¬s∈a) (h1: ∀x∈a.drop p,cH s x=true) (h2: ∀x∈a.take p,cH x s=true):gA a s=a.take p++s::a.drop p:=by
 have e1:a.filter (λx=>cH x s)=a.take p:=by
  conv=>lhs;rw[←List.take_append_drop p a]
  rw[List.filter_append,List.filter_eq_self.2 h2,List.filter_eq_nil_iff.2 (λx hx h=>by
   have:=tt (h1 x hx)
   rw[h]at this
   simp at this),List.append_nil]
 have e2:a.filter (λx=> !cH x s)=a.drop p:=by
  conv=>lhs;rw[←List.take_append_drop p a]
  rw[List.filter_append,List.filter_eq_nil_iff.2 (λx hx h=>by rw[h2 x hx]at h;cases h),List.nil_append,List.filter_eq_self.2 (λx hx=>by
   have:=tt (h1 x hx)
   simpa using this)]
 rw[gA,if_neg hs,e1,e2]
theorem Nj {a:List ByteArray} {s:ByteArray} {p:Nat} (h:yc a) (hp:p<a.length) (h2:cH a[p] s=true): ∀x∈a.take (p+1),cH x s=true:=by
 intro x hx
 obtain⟨i,hi,rfl⟩:=List.mem_iff_getElem.1 hx
 rw[List.length_take]at hi
 rw[List.getElem_take]
 by_cases e:i=p
 ·subst e;exact h2
 ·exact m6 (List.pairwise_iff_getElem.1 h i p (by omega) hp (by omega)) h2
theorem K8 (l:List (List UInt8)):a6 (jt l)=l:=by
 rw[jt,a6,List.map_map]
 exact(List.map_congr_left (λs _=>by simp)).trans (List.map_id l)
end Go.Proofs.YtjhkikmonejkjaaGreatDoor
