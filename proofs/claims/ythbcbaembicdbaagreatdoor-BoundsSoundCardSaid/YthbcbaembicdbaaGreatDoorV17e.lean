import Derived.Test.YthbcbaembicdbaaGreatDoorV17c
set_option linter.unusedVariables false
set_option linter.unusedSimpArgs false
set_option maxRecDepth 20000
namespace Go.Proofs.YthbcbaembicdbaaGreatDoor
open Go.Abs Go.RowKit
theorem yq (sizes:List ByteArray): ∀(l r:List dW) (taken:List ByteArray),cK sizes taken (l++r)=if cK sizes taken l≠0 then cK sizes taken l else cK sizes (taken++l.map (·.1)) r
 | [],r,taken=>by simp[cK]
 |a::l,r,taken=>by
  have ih:=yq sizes l r (taken++ [a.1])
  simp only[List.cons_append,cK,List.map_cons]
  rw[ih,List.append_assoc,List.singleton_append]
  by_cases h1:be taken a.1=0
  ·by_cases h2:cq sizes a.2=0
   ·simp only[h1,h2,ne_eq,not_true_eq_false,if_false]
   ·simp only[h1,h2,ne_eq,not_true_eq_false,if_false,not_false_eq_true,if_true]
  ·simp only[h1,ne_eq,not_false_eq_true,if_true]
theorem LM {sizes:List ByteArray} {l:List dW} {k:Nat} (h:k<l.length) (h0:cK sizes sizes (l.take k)=0) (h1:be (sizes++(l.take k).map (·.1)) l[k].1=0) (h2:cq sizes l[k].2=0):cK sizes sizes (l.take (k+1))=0:=by
 rw[List.take_succ_eq_append_getElem h,yq,if_neg (not_not_intro h0)]
 simp only[cK]
 rw[if_neg (not_not_intro h1),if_neg (not_not_intro h2)]
theorem zt {sizes:List ByteArray} {l:List dW} {k:Nat} (h:k<l.length) (h0:cK sizes sizes (l.take k)=0):cK sizes sizes l=cK sizes (sizes++(l.take k).map (·.1)) (l[k]::l.drop (k+1)):=by
 have:=yq sizes (l.take k) (l[k]::l.drop (k+1)) sizes
 rw[←List.drop_eq_getElem_cons h,List.take_append_drop,if_neg (not_not_intro h0)]at this
 rw[this,List.drop_eq_getElem_cons h]
theorem KO {sizes:List ByteArray} {l:List dW} {k:Nat} (h:k<l.length) (h0:cK sizes sizes (l.take k)=0) (h1:be (sizes++(l.take k).map (·.1)) l[k].1≠0):cK sizes sizes l=be (sizes++(l.take k).map (·.1)) l[k].1:=by
 rw[zt h h0,cK,if_pos h1]
theorem Mp {sizes:List ByteArray} {l:List dW} {k:Nat} (h:k<l.length) (h0:cK sizes sizes (l.take k)=0) (h1:be (sizes++(l.take k).map (·.1)) l[k].1=0) (h2:cq sizes l[k].2≠0):cK sizes sizes l=cq sizes l[k].2:=by
 rw[zt h h0,cK,if_neg (not_not_intro h1),if_pos h2]
end Go.Proofs.YthbcbaembicdbaaGreatDoor
