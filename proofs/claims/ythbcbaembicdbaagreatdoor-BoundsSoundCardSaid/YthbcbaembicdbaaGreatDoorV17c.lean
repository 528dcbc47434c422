import Derived.Test.YthbcbaembicdbaaGreatDoorV17a
set_option linter.unusedVariables false
set_option linter.unusedSimpArgs false
set_option maxRecDepth 20000
namespace Go.Proofs.YthbcbaembicdbaaGreatDoor
open Go.Abs Go.RowKit
abbrev bTy (t:Ty):aU:= .var [.pure (pI t.1),.pure (pI t.2.1),.pure (pI t.2.2.1),.pure (pI t.2.2.2.1),.pure (pI t.2.2.2.2)]
abbrev XP (x:Ty×Int):AV:= .tup [I0 x.1,I x.2]
theorem mT {p:bz} {vars:List ByteArray} {l:bU}:eH p vars [l]=if fU vars p.sizes l then 0 else 9:=by
 unfold eH
 simp only[List.mem_singleton,forall_eq]
theorem Qc {l:List Ix} {f:Ix→Int} {k:Nat} (h:k<l.length) (hf:dV ((l.map f).take k)=0) (hz:f l[k]=0):dV ((l.map f).take (k+1))=0:=by
 rw[ni (by simpa using h) hf,List.getElem_map,hz]
theorem Qs {l:List Ix} {f:Ix→Int} {k:Nat} (h:k<l.length) (hf:dV ((l.map f).take k)=0) (hz:f l[k]≠0):dV (l.map f)=f l[k]:=by
 have:=uL (l:=l.map f) (k:=k) (by simpa using h) hf (by simpa using hz)
 rw[this,List.getElem_map]
section
variable {p : bz} {vars : List ByteArray} {e : Ex} {t : Ty} {dims : List bU}
theorem Oi (h:dJ p e.name=none):jV p vars e=(pH,9):=by unfold jV;rw[h]
theorem Ql (h:dJ p e.name=some (t,dims)) (hl: ¬e.idx.length=dims.length):jV p vars e=(pH,11):=by
 unfold jV
 rw[h]
 exact if_pos hl
theorem RW (h:dJ p e.name=some (t,dims)) (hl:e.idx.length=dims.length) {x:Int} (he:dV (e.idx.map (jz p vars))=x) (hx:x≠0):jV p vars e=(pH,x):=by
 unfold jV
 rw[h]
 simp only[he]
 rw[if_neg (not_not_intro hl),if_pos hx]
theorem VS (h:dJ p e.name=some (t,dims)) (hl:e.idx.length=dims.length) (he:dV (e.idx.map (jz p vars))=0):jV p vars e=(t,0):=by
 unfold jV
 rw[h]
 simp only[he]
 rw[if_neg (not_not_intro hl),if_neg (by simp)]
theorem Rw {x:Ix} (h:x.2.1=⟨⟨[]⟩⟩):jz p vars x=if fU vars p.sizes x.1 then 0 else 9:=by
 unfold jz
 rw[if_pos h,mT]
theorem Nb {x:Ix} (h: ¬x.2.1=⟨⟨[]⟩⟩) (hf:dJ p x.2.1=none):jz p vars x=9:=by
 unfold jz
 rw[if_neg h,hf]
theorem Nx {x:Ix} (h: ¬x.2.1=⟨⟨[]⟩⟩) (hf:dJ p x.2.1=some (t,dims)):jz p vars x=if t.1≠3 then 10 else if x.2.2.length≠dims.length then 11 else eH p vars x.2.2:=by
 unfold jz
 rw[if_neg h,hf]
end
end Go.Proofs.YthbcbaembicdbaaGreatDoor
