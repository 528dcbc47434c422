import Derived.Test.YtjhkikmonejkjaaGreatDoorP17
set_option linter.unusedVariables false
set_option linter.unusedSimpArgs false
namespace Go.Proofs.YtjhkikmonejkjaaGreatDoor
open Go.Abs Go.RowKit
section
variable {p : be}
theorem bX (h:(aV p).2=0):iC p∧(∀s∈p.sizes,eI s)∧(∀j,j<p.params.length→xS p j=0)∧ ∀j,j<p.defs.length→xD p j=0:=by
 have h0:iC p:=Classical.byContradiction λhn=>by rw[wi hn]at h;cases h
 have h1:lF p=0:=Classical.byContradiction λhn=>by rw[zy h0 rfl hn]at h;exact hn h
 have h2:rE p=0:=Classical.byContradiction λhn=>by rw[zf h0 h1 rfl hn]at h;exact hn h
 have h3: ∀j,j<p.params.length→xS p j=0:=by
  intro j
  induction j using Nat.strongRecOn with
  |_ j ih=>
   intro hj
   refine Classical.byContradiction λhn=> ?_
   rw[wd h0 h1 h2 hj (λi hi=>ih i hi (by omega)) rfl hn]at h
   exact hn h
 have h4: ∀j,j<p.defs.length→xD p j=0:=by
  intro j
  induction j using Nat.strongRecOn with
  |_ j ih=>
   intro hj
   refine Classical.byContradiction λhn=> ?_
   rw[ww h0 h1 h2 h3 hj (λi hi=>ih i hi (by omega)) rfl hn]at h
   exact hn h
 refine⟨h0,λs hs=> ?_,h3,h4⟩
 obtain⟨j,hj,rfl⟩:=List.mem_iff_getElem.1 hs
 have h5:Pf p j=0:=nP h1 _ (List.mem_map.2 ⟨j,List.mem_range.2 hj,rfl⟩)
 rw[KZ hj]at h5
 unfold aE at h5
 exact Classical.byContradiction λhn=>by rw[if_pos hn]at h5;cases h5
theorem Gs {sizes:List ByteArray}: ∀{l:List eU} {taken:List ByteArray},aY sizes taken l=0→ ∀a∈l,eI a.1∧dZ a.2.2∧fe [] sizes a.2
 | [],_,_,a,ha=>by cases ha
 |x::r,taken,h,a,ha=>by
  unfold aY at h
  split at h
  ·rename_i hn;exact absurd h hn
  ·rename_i hn
   split at h
   ·rename_i hf;exact absurd h hf
   ·rename_i hf
    rcases List.mem_cons.1 ha with rfl|ha
    ·have hn:=Classical.not_not.1 hn
     have hf:=Classical.not_not.1 hf
     unfold aE at hn
     unfold bi at hf
     refine⟨Classical.byContradiction λh=>(by rw[if_pos h]at hn;cases hn),Classical.byContradiction λh=>(by rw[if_pos h]at hf;cases hf),Classical.byContradiction λh=> ?_⟩
     split at hf
     ·cases hf
     ·first|(cases hf;done)|(rw[if_pos h]at hf;cases hf)
    ·exact Gs h a ha
theorem Gi {k:Nat} (hk:k<p.defs.length) (h:xD p k=0):(∀a∈p.defs[k].dims++p.defs[k].red,eI a.1∧dZ a.2.2∧fe [] p.sizes a.2)∧(aT (bu p k) (ar p.defs[k]) p.defs[k].body).2=0:=by
 rw[w8 hk]at h
 unfold aR at h
 split at h
 ·contradiction
 ·split at h
  ·cases h
  ·split at h
   ·cases h
   ·split at h
    ·contradiction
    ·rename_i h1
     split at h
     ·contradiction
     ·split at h
      ·contradiction
      ·rename_i h2
       exact⟨Gs (Classical.not_not.1 h1),Classical.not_not.1 h2⟩
theorem GU {q:be} {vars:List ByteArray} {e:Ex} (h:(aT q vars e).2=0):gn e=0∧(dE q vars e).2=0:=by
 unfold aT at h
 split at h
 ·contradiction
 ·rename_i h1
  split at h
  ·cases h
  ·split at h
   ·contradiction
   ·rename_i h2
    exact⟨Classical.not_not.1 h1,Classical.not_not.1 h2⟩
theorem GN {q:be} {vars:List ByteArray}: ∀{l:List Ex} {ts:List Ty},cp q vars l= .inr ts→ ∀a∈l,(dE q vars a).2=0
 | [],_,_,a,ha=>by cases ha
 |e::l,ts,h,a,ha=>by
  simp only[cp]at h
  split at h
  ·cases h
  ·rename_i h1
   split at h
   ·cases h
   ·rename_i l' hl
    rcases List.mem_cons.1 ha with rfl|ha
    ·exact Classical.not_not.1 h1
    ·exact GN hl a ha
theorem MQ {q:be} {vars:List ByteArray} {e:Ex} (h:(dE q vars e).2=0):(∀a∈e.args,(dE q vars a).2=0)∧ ∃l,(aM q vars e l).2=0:=by
 rw[kY]at h
 split at h
 ·rename_i err hx
  exfalso
  have key: ∀{l:List Ex} {x:Int},cp q vars l= .inl x→x≠0:=by
   intro l
   induction l with
   |nil=>intro x h;cases h
   |cons e r ih=>
    intro x h
    simp only[cp]at h
    split at h
    ·rename_i h1;cases h;exact h1
    ·split at h
     ·rename_i h2;cases h;exact ih h2
     ·cases h
  exact key hx h
 ·rename_i l hx
  exact⟨GN hx,l,h⟩
theorem PI {q:be} {vars:List ByteArray} (e:Ex):(dE q vars e).2=0→ ∀a∈e.pre,a.op=3→(fm q vars a).2=0:=by
 refine Ex.ind (p:= λe=>(dE q vars e).2=0→ ∀a∈e.pre,a.op=3→(fm q vars a).2=0) (λe ih h a ha h3=> ?_) e
 obtain⟨h1,l,h2⟩:=MQ h
 rw[Ex.pre_eq]at ha
 rcases List.mem_cons.1 ha with rfl|ha
 ·unfold aM at h2
  rw[if_neg (by omega),if_neg (by omega),if_pos h3]at h2
  exact h2
 ·have key: ∀l:List Ex,a∈Ex.pres l→ ∃b∈l,a∈b.pre:=by
   intro l
   induction l with
   |nil=>intro h;simp[Ex.pres]at h
   |cons b r f=>
    intro h
    rw[Ex.pres]at h
    rcases List.mem_append.1 h with h|h
    ·exact⟨b,List.mem_cons_self,h⟩
    ·obtain⟨c,hc,h⟩:=f h
     exact⟨c,List.mem_cons_of_mem _ hc,h⟩
  obtain⟨b,hb,g⟩:=key _ ha
  exact ih b hb (h1 b hb) a g h3
theorem pM {p:be} {k:Nat} {s:ByteArray} {x:Ty×List fc} (h:aZ (bu p k) s=some x):aZ p s=some x:=by
 unfold aZ bu at*
 simp only at h
 split
 ·rename_i y hy
  rw[hy]at h
  exact h
 ·rename_i hy
  rw[hy]at h
  simp only at h
  split at h
  ·rename_i d hd
   have:p.defs.find? (λd=>decide (d.name=s))=some d:=by
    rw[←List.take_append_drop k p.defs,List.find?_append,hd]
    rfl
   rw[this]
   exact h
  ·cases h
end
end Go.Proofs.YtjhkikmonejkjaaGreatDoor
