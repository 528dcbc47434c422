import Derived.Test.YtigdjhnndaokjaaGreatDoorV04v
set_option linter.unusedVariables false
set_option linter.unusedSimpArgs false
namespace Go.Proofs.YtigdjhnndaokjaaGreatDoor
open Go.Abs Go.RowKit
section
variable {p : bu}
theorem gZ (h:(bA p).2=0):gE p∧(∀s∈p.sizes,oE s)∧(∀j,j<p.params.length→Dg p j=0)∧ ∀j,j<p.defs.length→Do p j=0:=by
 have h0:gE p:=zD5 λhn=>by rw[vg hn]at h;cases h
 have h1:ow p=0:=zD5 λhn=>by rw[Aa h0 rfl hn]at h;exact hn h
 have h2:yB p=0:=zD5 λhn=>by rw[zX h0 h1 rfl hn]at h;exact hn h
 have h3: ∀j,j<p.params.length→Dg p j=0:=by
  intro j
  induction j using Nat.strongRecOn with
  |_ j ih=>
   intro hj
   refine zD5 λhn=> ?_
   rw[Cb h0 h1 h2 hj (λi hi=>ih i hi zR5) rfl hn]at h
   exact hn h
 have h4: ∀j,j<p.defs.length→Do p j=0:=by
  intro j
  induction j using Nat.strongRecOn with
  |_ j ih=>
   intro hj
   refine zD5 λhn=> ?_
   rw[Ca h0 h1 h2 h3 hj (λi hi=>ih i hi zR5) rfl hn]at h
   exact hn h
 refine⟨h0,λs hs=> ?_,h3,h4⟩
 obtain⟨j,hj,rfl⟩:=zC2.1 hs
 have h5:YD p j=0:=zW h1 _ (zE0.2 ⟨j,zO3.2 hj,rfl⟩)
 rw[UF hj]at h5
 unfold aQ at h5
 exact zD5 λhn=>by rw[if_pos hn]at h5;cases h5
variable {vars:List ByteArray}
theorem Xh {q:bu} {e:Ex} (h:(be q vars e).2=0):hO e=0∧(fC q vars e).2=0:=by
 unfold be at h
 split at h
 ·contradiction
 ·rename_i h1
  split at h
  ·cases h
  ·split at h
   ·contradiction
   ·rename_i h2
    exact⟨zB9.1 h1,zB9.1 h2⟩
theorem ab9 {q:bu} {vars:List ByteArray}: ∀{l:List Ex} {ts:List Ty},eF q vars l= .inr ts→ ∀a∈l,(fC q vars a).2=0
 | [],_,_,a,ha=>by cases ha
 |e::l,ts,h,a,ha=>by
  simp only[eF]at h
  split at h
  ·cases h
  ·rename_i h1
   split at h
   ·cases h
   ·rename_i l' hl
    rcases zD7.1 ha with rfl|ha
    ·exact zB9.1 h1
    ·exact ab9 hl a ha
theorem abT {q:bu} {e:Ex} (h:(fC q vars e).2=0):(∀a∈e.args,(fC q vars a).2=0)∧ ∃l,(bh q vars e l).2=0:=by
 rw[zT]at h
 split at h
 ·rename_i err hx
  exfalso
  have key: ∀{l:List Ex} {x:Int},eF q vars l= .inl x→x≠0:=by
   intro l
   induction l with
   |nil=>intro x h;cases h
   |cons e r ih=>
    intro x h
    simp only[eF]at h
    split at h
    ·rename_i h1;cases h;exact h1
    ·split at h
     ·rename_i h2;cases h;exact ih h2
     ·cases h
  exact key hx h
 ·rename_i l hx
  exact⟨ab9 hx,l,h⟩
end
open Go.Abs Go.RowKit
variable {l:List Ex}
theorem agv (h:(l.length:Int)=1): ∃a,l= [a]:=by
 match l,h with
 | [a],_=>exact⟨a,rfl⟩
 | [],h=>simp at h
 |_::_::_,h=>simp at h;omega
theorem afU (h:(l.length:Int)=2): ∃a b,l= [a,b]:=by
 match l,h with
 | [a,b],_=>exact⟨a,b,rfl⟩
 | [],h=>simp at h
 | [_],h=>simp at h
 |_::_::_::_,h=>simp at h;omega
theorem agw (h:(l.length:Int)=3): ∃a b c,l= [a,b,c]:=by
 match l,h with
 | [a,b,c],_=>exact⟨a,b,c,rfl⟩
 | [],h=>simp at h
 | [_],h=>simp at h
 | [_,_],h=>simp at h
 |_::_::_::_::_,h=>simp at h;omega
section
variable {M A : List Nm} {env : List aG} {e a b c : Ex}
theorem XG (h:e.op=1):jr M A env e=((e.ty,(e.val,z1)),0):=by
 obtain⟨op,name,val,ty,lin,idx,args⟩:=e
 obtain rfl:op=1:=h
 rw[jr,if_pos rfl]
 rfl
theorem YH (h:e.op=2):jr M A env e=((ty3,(((io e.lin.1 e.lin.2 env).1,1),z1)),if(io e.lin.1 e.lin.2 env).2=0∧(2147483647<(io e.lin.1 e.lin.2 env).1∨(io e.lin.1 e.lin.2 env).1< -2147483647)then 3 else(io e.lin.1 e.lin.2 env).2):=by
 obtain⟨op,name,val,ty,lin,idx,args⟩:=e
 obtain rfl:op=2:=h
 rw[jr,if_neg zR9,if_pos rfl]
 rfl
theorem YG (h:e.op=3):jr M A env e=rdD M A env e.name e.idx:=by
 obtain⟨op,name,val,ty,lin,idx,args⟩:=e
 obtain rfl:op=3:=h
 rw[jr,if_neg zR9,if_neg zR9,if_pos rfl]
 rfl
theorem TZ (h:e.op=11) (ha:e.args= [c,a,b]):jr M A env e=if(Ar M A env c).2≠0 then(HU,(Ar M A env c).2)else if(Ar M A env c).1=true then jr M A env a else jr M A env b:=by
 obtain⟨op,name,val,ty,lin,idx,args⟩:=e
 obtain rfl:op=11:=h
 obtain rfl:args= [c,a,b]:=ha
 rw[jr,if_neg zR9,if_neg zR9,if_neg zR9,if_pos rfl]
 simp only[Tr,II,zB0,zB4,zA8]
theorem UH (h:e.op=12) (ha:e.args= [a]):jr M A env e=if(jr M A env a).2≠0 then(HU,(jr M A env a).2)else(Bi (jr M A env a).1 e.ty,0):=by
 obtain⟨op,name,val,ty,lin,idx,args⟩:=e
 obtain rfl:op=12:=h
 obtain rfl:args= [a]:=ha
 rw[jr,if_neg zR9,if_neg zR9,if_neg zR9,if_neg zR9]
 simp only[II,zB0,zA8,if_pos]
 rfl
theorem aag (h:e.op=8) (ha:e.args= [a]):jr M A env e=if(jr M A env a).2≠0 then(HU,(jr M A env a).2)else C6 8 (jr M A env a).1 (jr M A env a).1:=by
 obtain⟨op,name,val,ty,lin,idx,args⟩:=e
 obtain rfl:op=8:=h
 obtain rfl:args= [a]:=ha
 rw[jr,if_neg zR9,if_neg zR9,if_neg zR9,if_neg zR9]
 simp only[II,zB0,zA8,show ¬(8:Int)=12 by decide,if_false,if_true]
theorem Yb (h:(4≤e.op∧e.op≤10)∧e.op≠8) (ha:e.args= [a,b]):jr M A env e=if(jr M A env a).2≠0 then(HU,(jr M A env a).2)else if(jr M A env b).2≠0 then(HU,(jr M A env b).2)else C6 e.op (jr M A env a).1 (jr M A env b).1:=by
 obtain⟨op,name,val,ty,lin,idx,args⟩:=e
 obtain rfl:args= [a,b]:=ha
 simp only[Ex.op]at h ⊢
 rw[jr,if_neg zR5,if_neg zR5,if_neg zR5,if_neg zR5]
 simp only[II,zB0,zB4,zA8,show ¬op=12 by omega,h.2,if_false]
theorem ZT (h:e.op=18) (ha:e.args= [a]):Ar M A env e=(!(Ar M A env a).1,(Ar M A env a).2):=by
 obtain⟨op,name,val,ty,lin,idx,args⟩:=e
 obtain rfl:op=18:=h
 obtain rfl:args= [a]:=ha
 rw[Ar,if_pos rfl]
 simp only[Tr,zB0,zA8]
theorem acx (h:e.op=16∨e.op=17) (ha:e.args= [a,b]):Ar M A env e=if(Ar M A env a).2≠0 then(false,(Ar M A env a).2)else(if e.op=16 then(Ar M A env a).1&&(Ar M A env b).1 else(Ar M A env a).1||(Ar M A env b).1,(Ar M A env b).2):=by
 obtain⟨op,name,val,ty,lin,idx,args⟩:=e
 obtain rfl:args= [a,b]:=ha
 simp only[Ex.op]at h ⊢
 rw[Ar,if_neg zR5,if_pos h]
 simp only[Tr,zB0,zB4,zA8]
 rfl
theorem acg (h:13≤e.op∧e.op≤15) (ha:e.args= [a,b]):Ar M A env e=if(jr M A env a).2≠0 then(false,(jr M A env a).2)else if(jr M A env b).2≠0 then(false,(jr M A env b).2)else(Sy e.op (rL (jr M A env a).1.1 (jr M A env a).1.2.1 (jr M A env b).1.2.1),0):=by
 obtain⟨op,name,val,ty,lin,idx,args⟩:=e
 obtain rfl:args= [a,b]:=ha
 simp only[Ex.op]at h ⊢
 rw[Ar,if_neg zR5,if_neg zR5]
 simp only[II,zB0,zB4,zA8]
end
section
variable {p : bu} {vars : List ByteArray} {e a b c : Ex}
def W6 (p:bu) (vars:List ByteArray) (e:Ex):Prop:=(∀a∈e.pre,bo a=0)∧(fC p vars e).2=0
noncomputable abbrev tyE (p:bu) (vars:List ByteArray) (e:Ex):Ty:=(fC p vars e).1
theorem ZC (e:Ex):e∈e.pre:=by rw[Ex.pre_eq];exact zC5
theorem acb (ha:a∈e.args): ∀b∈a.pre,b∈e.pre:= λb hb=>by
 rw[Ex.pre_eq]
 refine zC3 _ ?_
 generalize e.args=l at ha
 induction l with
 |nil=>cases ha
 |cons x r C=>
  rw[Ex.pres]
  rcases zD7.1 ha with rfl|ha
  ·exact zF5 _ hb
  ·exact zE5 _ (C ha)
theorem W6.arg (h:W6 p vars e) (ha:a∈e.args):W6 p vars a:=⟨λb hb=>h.1 b (acb ha b hb),(abT h.2).1 a ha⟩
theorem W6.node (h:W6 p vars e):AH e∧AB e∧AM e∧tf e∧Ci e:=Ul (h.1 e (ZC e))
theorem acA: ∀{l:List Ex},(∀a∈l,(fC p vars a).2=0)→eF p vars l= .inr (l.map λa=>tyE p vars a)
 | [],_=>by rw[eF];rfl
 |e::r,h=>by
  rw[eF,if_neg (zA5 (h e zC5)),acA λa ha=>h a (zC3 _ ha)]
  rfl
theorem W6.ty (h:W6 p vars e):fC p vars e=bh p vars e (e.args.map λa=>tyE p vars a):=by rw[zT,acA (abT h.2).1]
theorem W6.kinds (h:W6 p vars e):((e.op=1∨e.op=2∨e.op=3)∧e.args= [])∨((e.op=8∨e.op=12∨e.op=18)∧ ∃a,e.args= [a])∨(e.op=11∧ ∃a b c,e.args= [a,b,c])∨((e.op=13∨e.op=14∨e.op=15)∧ ∃a b,e.args= [a,b])∨((e.op=16∨e.op=17)∧ ∃a b,e.args= [a,b])∨((4≤e.op∧e.op≤10∧e.op≠8)∧ ∃a b,e.args= [a,b]):=by
 obtain⟨h1,_,h3,_⟩:=h.node
 have hl:=h3.1
 rcases C0 h1.1.1 h1.1.2 with⟨g,h2⟩|⟨g,h2⟩|⟨g,h2⟩|⟨g,h2⟩|⟨g,h2⟩|⟨g,h2⟩<;>rw[h2]at hl
 ·exact .inl ⟨g,zG4 zR5⟩
 ·exact .inr (.inl ⟨g,agv hl⟩)
 ·exact .inr (.inr (.inl ⟨g,agw hl⟩))
 ·exact .inr (.inr (.inr (.inl ⟨g,afU hl⟩)))
 ·exact .inr (.inr (.inr (.inr (.inl ⟨g,afU hl⟩))))
 ·exact .inr (.inr (.inr (.inr (.inr ⟨g,afU hl⟩))))
theorem W6.same (h:W6 p vars e) (ho:(4≤e.op∧e.op≤10∧e.op≠8)∨(13≤e.op∧e.op≤15)) (ha:e.args= [a,b]):tyE p vars a=tyE p vars b∧(e.op≤10→tyE p vars e=tyE p vars a):=by
 have h2:=h.2
 have h1:=h.ty
 rw[h1]at h2
 rw[ha]at h1 h2
 unfold bh at h1 h2
 rw[if_neg zR5,if_neg zR5,if_neg zR5,if_neg zR5,if_neg zR5,if_neg zR5]at h1 h2
 rcases ho with ho|ho
 ·rw[if_neg zR5]at h1 h2
  simp only[zB8,zC9,zP8,zP9]at h1 h2
  split at h2
  ·exact⟨‹_›,λ_=>by unfold tyE;rw[h1]⟩
  ·cases h2
 ·rw[if_pos zR5]at h2
  simp only[zB8,zC9,zP8,zP9]at h2
  split at h2
  ·exact⟨‹_›,λ_=>by omega⟩
  ·cases h2
theorem W6.sameIf (h:W6 p vars e) (ho:e.op=11) (ha:e.args= [c,a,b]):tyE p vars a=tyE p vars b∧tyE p vars e=tyE p vars a:=by
 have h2:=h.2
 have h1:=h.ty
 rw[h1]at h2
 rw[ha]at h1 h2
 unfold bh at h1 h2
 rw[if_neg zR5,if_neg zR5,if_neg zR5,if_neg zR5,if_pos ho]at h1 h2
 simp only[zB8,zC9,zP8,zP9]at h1 h2
 split at h2
 ·exact⟨‹_›,by unfold tyE;rw[h1]⟩
 ·cases h2
theorem W6.ty1 (h:W6 p vars e) (ho:e.op=1∨e.op=12):tyE p vars e=e.ty:=by
 have h1:=h.ty
 unfold bh at h1
 rw[if_pos ho]at h1
 unfold tyE
 rw[h1]
theorem W6.ty2 (h:W6 p vars e) (ho:e.op=2):tyE p vars e=ty3:=by
 have h1:=h.ty
 unfold bh at h1
 rw[if_neg zR5,if_pos ho]at h1
 unfold tyE
 rw[h1]
theorem W6.ty8 (h:W6 p vars e) (ho:e.op=8) (ha:e.args= [a]):tyE p vars e=tyE p vars a:=by
 have h1:=h.ty
 rw[ha]at h1
 unfold bh at h1
 rw[if_neg zR5,if_neg zR5,if_neg zR5,if_pos ho]at h1
 unfold tyE
 rw[h1]
 rfl
theorem W6.rd (h:W6 p vars e) (ho:e.op=3): ∃ds,cY p e.name=some (tyE p vars e,ds)∧e.idx.length=ds.length∧ ∀x∈e.idx,jj p vars x=0:=by
 have h2:=h.2
 have h1:=h.ty
 rw[h1]at h2
 unfold bh at h1 h2
 rw[if_neg zR5,if_neg zR5,if_pos ho]at h1 h2
 unfold m6 at h1 h2
 cases hf:cY p e.name with
 |none=>rw[hf]at h2;cases h2
 |some r=>
  obtain⟨t,ds⟩:=r
  rw[hf]at h1 h2
  simp only at h1 h2
  by_cases hl:e.idx.length=ds.length
  ·rw[if_neg (zA5 hl)]at h1 h2
   by_cases hx:dz (e.idx.map (jj p vars))=0
   ·rw[if_neg (zA5 hx)]at h1
    refine⟨ds,by unfold tyE;rw[h1],hl,λx D=>zW hx _ (zI9 D)⟩
   ·rw[if_pos hx]at h2
    exact absurd h2 hx
  ·rw[if_pos hl]at h2
   cases h2
theorem Qv {x:Ix} (h:jj p vars x=0) (hn:x.2.1≠nul): ∃t ds,cY p x.2.1=some (t,ds)∧t.1=3∧x.2.2.length=ds.length:=by
 unfold jj at h
 rw[if_neg hn]at h
 split at h
 ·cases h
 ·rename_i t ds hf
  split at h
  ·cases h
  ·split at h
   ·cases h
   ·exact⟨t,ds,hf,zB9.1 ‹_›,zB9.1 ‹_›⟩
theorem W6.cond (h:W6 p vars e) {i:Nat} (hi:e.args[i]? =some a):aM a.op↔b6 e.op i:=by
 obtain⟨hl,rfl⟩:=zB7.1 hi
 exact h.node.2.2.2.1.2 i hl
end
def jZ (t:Ty) (v:Du):Prop:=cj t∧aK t v.1∧(t.1=1→aS v.2)∧(t.1≠1→v.2=z1)
variable {t:Ty}{v:Fr}
theorem zB (h:t.1=1):aK t v↔aS v:=by
 unfold aK
 rw[if_neg zR5,if_neg zR5]
theorem af4:bD z1:=⟨by unfold aH;simp,by unfold aH;simp⟩
theorem jZ.in {v:Du} (h:jZ t v):qJ v:=by
 refine⟨dt h.1 h.2.1, ?_⟩
 by_cases h1:t.1=1
 ·exact ff (h.2.2.1 h1)
 ·rw[h.2.2.2 h1]
  exact af4
theorem Va {v:Du} (ht:cj t) (h1:t.1=1) (h:lR v):jZ t v:=⟨ht,(zB h1).2 h.1,λ_=>h.2,λh=>absurd h1 h⟩
theorem Y5 (ht:cj t) (h:aK t v) (h1:t.1≠1):jZ t (v,z1):=⟨ht,h,λh=>absurd h h1,λ_=>rfl⟩
theorem Jh:aS z1:=by unfold aS;decide
theorem Qn (ht:cj t) (h:aK t v):jZ t (v,z1):=⟨ht,h,λ_=>Jh,λ_=>rfl⟩
variable {a b:Fr}
theorem SA (h:(jb a b).2=0):aS (jb a b).1:=by simpa[oA]using DE (op:=4) (a:=a) (b:=b) zV2
theorem Zz (h:(kf a b).2=0):aS (kf a b).1:=by simpa[oA]using DE (op:=5) (a:=a) (b:=b) zV2
theorem afe (h:(iU a b).2=0):aS (iU a b).1:=by simpa[oA]using DE (op:=6) (a:=a) (b:=b) zV2
theorem XJ (h:(kZ a b).2=0):aS (kZ a b).1:=by simpa[oA]using DE (op:=7) (a:=a) (b:=b) zV2
theorem YB (h:aS a):aS (fM a):=by
 unfold fM
 rw[if_pos h]
 exact RM h
theorem E5 {x:Fr×Int} {f:Fr→Fr×Int} (hf: ∀y,(f y).2=0→aS (f y).1) (h:(rv x f).2=0):aS (rv x f).1:=by
 unfold rv at*
 split at h
 ·contradiction
 ·rw[if_neg ‹_›]
  exact hf _ h
variable {op:Int}
theorem ae7 (h:(az op a b).2=0):aS (az op a b).1:=by
 unfold az at*
 split at h
 ·cases h
 ·rw[if_neg ‹_›]
  split at h
  ·cases h
  ·rename_i hv
   rw[if_neg hv]
   have ha:aS a:=zB9.1 λh=>hv (.inl h)
   have hb:op≠8→aS b:= λh8=>zB9.1 λh=>hv (.inr ⟨h8,h⟩)
   (repeat' split at h)<;>(repeat' split)<;>first|contradiction|exact SA h|exact Zz h|exact afe h|exact XJ h|exact YB ha|exact ha|exact hb zR5
theorem Ys {a b:Du} (ha:lR a) (hb:op≠8→lR b) (h:(cg op a b v).2=0):aS (cg op a b v).1:=by
 unfold cg at*
 split at h
 ·rw[if_pos ‹_›];exact SA h
 ·rw[if_neg ‹_›]
  split at h
  ·rw[if_pos ‹_›];exact Zz h
  ·rw[if_neg ‹_›]
   split at h
   ·rw[if_pos ‹_›];exact E5 (λy=>E5 λz=>SA) h
   ·rw[if_neg ‹_›]
    split at h
    ·rw[if_pos ‹_›];exact E5 (λy=>E5 λz=>XJ) h
    ·rw[if_neg ‹_›]
     split at h
     ·rw[if_pos ‹_›];exact YB ha.2
     ·rename_i h8
      rw[if_neg h8]
      split
      ·exact(hb h8).2
      ·exact ha.2
theorem Mq {a b:Du} (h:(bi op a b).2=0):lR (bi op a b).1:=by
 unfold bi at*
 split at h
 ·cases h
 ·rename_i h1
  rw[if_neg h1]
  split at h
  ·contradiction
  ·rename_i h2
   rw[if_neg h2]
   split at h
   ·contradiction
   ·rename_i h3
    rw[if_neg h3]
    have ha:lR a:=zB9.1 λh=>h1 (.inr (.inr (.inl h)))
    exact⟨ae7 (zB9.1 h2),Ys ha (λh8=>zB9.1 λh=>h1 (.inr (.inr (.inr ⟨h8,h⟩)))) (zB9.1 h3)⟩
theorem Vf {a b:Du} (ha:jZ t a) (hb:jZ t b) (h:(C6 op (t,a) (t,b)).2=0):(C6 op (t,a) (t,b)).1.1=t∧jZ t (C6 op (t,a) (t,b)).1.2:=by
 unfold C6 at*
 simp only at h ⊢
 by_cases h1:t.1=1
 ·rw[if_pos h1]at h ⊢
  exact⟨rfl,Va ha.1 h1 (Mq h)⟩
 ·rw[if_neg h1]at h ⊢
  exact⟨rfl,Y5 ha.1 (V9 ha.1 ha.2.1 hb.2.1 h) h1⟩
theorem adh {s:Ty} (hs:cj s) (ht:cj t) (h1:s.1=1) (h2:t.1=1):s=t:=by
 have e1:=hs.resolve_right λh=>by have:=h.1;omega
 have e2:=ht.resolve_right λh=>by have:=h.1;omega
 refine yK ⟨by omega, ?_, ?_, ?_, ?_⟩
 ·rw[e1.2.1,e2.2.1]
 ·rw[e1.2.2.1,e2.2.2.1]
 ·rw[e1.2.2.2.1,e2.2.2.2.1]
 ·rw[e1.2.2.2.2,e2.2.2.2.2]
theorem Zo {s:Ty} {a:Du} (ha:jZ s a) (ht:cj t):(Bi (s,a) t).1=t∧jZ t (Bi (s,a) t).2:=by
 unfold Bi
 simp only
 by_cases h:s.1=1∧t.1=1
 ·rw[if_pos h]
  have e:=adh ha.1 ht h.1 h.2
  subst e
  exact⟨rfl,ha⟩
 ·rw[if_neg h]
  exact⟨rfl,Qn ht (aad ha.1 ht ha.2.1)⟩
def wR (p:bu) (M A:List Nm):Prop:= ∀s t ds,cY p s=some (t,ds)→ ∃T,bm M s=some T∧T.1=t∧T.2.1.length=ds.length∧d9 T=0∧(t.1=1→ ∃U,bm A s=some U∧U.1=t∧U.2.1=T.2.1∧d9 U=0)∧(t.1≠1→bm A s=none)
theorem Pj (l:List Int):l.headD 0=l[0]?.getD 0:=by cases l<;>rfl
theorem aau (l:List Int) (k:Nat):l.tail[k]?.getD 0=l[k+1]?.getD 0:=by cases l<;>simp
theorem JP {M:List Nm} {env:List aG}: ∀{l:List Ix} {ds:List Int},(qS M env l ds).2=0→(qS M env l ds).1.length=l.length∧ ∀k,k<l.length→0≤(qS M env l ds).1[k]?.getD 0∧(qS M env l ds).1[k]?.getD 0<ds[k]?.getD 0
 | [],ds,h=>⟨rfl,λk hk=>absurd hk zR6⟩
 |f::r,ds,h=>by
  rw[qS]at h ⊢
  split at h
  ·contradiction
  ·rename_i h1
   rw[if_neg h1]
   split at h
   ·cases h
   ·rename_i h2
    rw[if_neg h2]
    split at h
    ·contradiction
    ·rename_i h3
     rw[if_neg h3]
     obtain⟨e1,e2⟩:=JP (zB9.1 h3)
     refine⟨by simp[e1],λk hk=> ?_⟩
     cases k with
     |zero=>
      have e:=Pj ds
      simp only[zB0,zA8]
      omega
     |succ k=>
      have:=e2 k zT7
      rw[aau]at this
      simpa using this
variable {ps:List Int}
theorem m5 {T:Tn} (hT:d9 T=0) (h:T3 T.2.1 ps): ∃h:(qD T.2.1 ps).toNat<T.2.2.length,((qD T.2.1 ps).toNat:Int)=qD T.2.1 ps:=by
 obtain⟨_,h2,h3,_⟩:=fY hT
 have hg:=b8 h2
 have hp: ∀x∈T.2.1,1≤x:= λx hx=>by
  obtain⟨i,hi,rfl⟩:=zC2.1 hx
  have:=(hg.get hi).1
  rwa [zA7 hi,zA8]at this
 have hb:=FZ (ps:=ps) hp T.2.1.length (zB2 _) h.2
 rw[zB6 (zB2 _)]at hb
 have e:qD T.2.1 ps=dR T.2.1 ps T.2.1.length:=rfl
 exact⟨by omega,by omega⟩
theorem RT {T:Tn} (hT:d9 T=0) (h:T3 T.2.1 ps):T.2.2[(qD T.2.1 ps).toNat]?.getD (0,0)∈T.2.2:=by
 obtain⟨h1,_⟩:=m5 hT h
 rw[zA7 h1,zA8]
 exact zA6 h1
section
variable {p : bu} {vars : List ByteArray} {M A : List Nm} {env : List aG}
theorem ado (hM:wR p M A) {s:ByteArray} {t:Ty} {ds:List iB} {idx:List Ix} (hf:cY p s=some (t,ds)) (hl:idx.length=ds.length) (h:(rdD M A env s idx).2=0):(rdD M A env s idx).1.1=t∧jZ t (rdD M A env s idx).1.2:=by
 obtain⟨T,h1,rfl,h3,h4,h5,h6⟩:=hM s t ds hf
 unfold rdD at h ⊢
 rw[h1,zA8]at h ⊢
 split at h
 ·contradiction
 ·rename_i h0
  rw[if_neg h0]
  have hI:=JP (zB9.1 h0)
  have o:T3 T.2.1 (qS M env idx T.2.1).1:=⟨by omega,λk hk=>hI.2 k zR5⟩
  obtain⟨t1,_,_,t4⟩:=fY h4
  refine⟨rfl,t1,t4 _ (RT h4 o),λhk=> ?_,λhk=> ?_⟩
  ·obtain⟨U,u1,u2,u3,u4⟩:=h5 hk
   simp only[u1]
   rw[←u3]at o ⊢
   have:=(fY u4).2.2.2 _ (RT u4 o)
   rw[u2]at this
   exact(zB hk).1 this
  ·simp only[h6 hk]
theorem JI (hM:wR p M A) (e:Ex):W6 p vars e→ ¬aM e.op→(jr M A env e).2=0→(jr M A env e).1.1=tyE p vars e∧jZ (tyE p vars e) (jr M A env e).1.2:=by
 refine Ex.ind (p:= λe=>W6 p vars e→ ¬aM e.op→(jr M A env e).2=0→(jr M A env e).1.1=tyE p vars e∧jZ (tyE p vars e) (jr M A env e).1.2) (λe ih hw hc h=> ?_) e
 have u:=hw.node
 rcases hw.kinds with⟨g|g|g,ha⟩|⟨g|g|g,a,ha⟩|⟨g,c,a,b,ha⟩|⟨g,a,b,ha⟩|⟨g,a,b,ha⟩|⟨g,a,b,ha⟩
 ·rw[XG g,hw.ty1 (.inl g)]
  exact⟨rfl,Qn (u.2.2.2.1.1 (.inl g)) (u.2.2.2.2.1 g)⟩
 ·rw[YH g]at h ⊢
  rw[hw.ty2 g]
  refine⟨rfl,Qn (.inl ⟨.inr rfl,rfl,rfl,rfl,rfl⟩) ?_⟩
  simp only at h
  split at h
  ·cases h
  ·rename_i hn
   show aK ty3 _
   unfold aK
   rw[if_neg zR9,if_pos rfl]
   refine⟨rfl, ?_, ?_⟩<;>simp only<;>omega
 ·obtain⟨ds,h1,h2,_⟩:=hw.rd g
  rw[YG g]at h ⊢
  exact ado hM h1 h2 h
 ·rw[aag g ha]at h ⊢
  rw[hw.ty8 g ha]
  have hm:a∈e.args:=by rw[ha];exact zC5
  have d: ¬aM a.op:= λhh=>by
   have:=(hw.cond (i:=0) zS3).1 hh
   unfold b6 at this
   omega
  split at h
  ·contradiction
  ·rename_i h0
   rw[if_neg h0]
   obtain⟨i1,i2⟩:=ih a hm (hw.arg hm) d (zB9.1 h0)
   generalize jr M A env a=x at*
   obtain⟨⟨t,v⟩,z⟩:=x
   simp only at i1 i2 h h0 ⊢
   subst i1
   exact Vf i2 i2 h
 ·rw[UH g ha]at h ⊢
  rw[hw.ty1 (.inr g)]
  have hm:a∈e.args:=by rw[ha];exact zC5
  have d: ¬aM a.op:= λhh=>by
   have:=(hw.cond (i:=0) zS3).1 hh
   unfold b6 at this
   omega
  split at h
  ·contradiction
  ·rename_i h0
   rw[if_neg h0]
   obtain⟨i1,i2⟩:=ih a hm (hw.arg hm) d (zB9.1 h0)
   generalize jr M A env a=x at*
   obtain⟨⟨t,v⟩,z⟩:=x
   simp only at i1 i2 h0 ⊢
   subst i1
   exact Zo i2 (u.2.2.2.1.1 (.inr g))
 ·exact absurd (show aM e.op by unfold aM;omega) hc
 ·rw[TZ g ha]at h ⊢
  obtain⟨s1,s2⟩:=hw.sameIf g ha
  have m:a∈e.args:=by rw[ha];simp
  have n:b∈e.args:=by rw[ha];simp
  have d: ¬aM a.op:= λhh=>by
   have:=(hw.cond (i:=1) zS3).1 hh
   unfold b6 at this
   omega
  have w: ¬aM b.op:= λhh=>by
   have:=(hw.cond (i:=2) zS3).1 hh
   unfold b6 at this
   omega
  rw[s2]
  split at h
  ·contradiction
  ·rename_i h0
   rw[if_neg h0]
   split at h
   ·rename_i h1
    rw[if_pos h1]
    exact ih a m (hw.arg m) d h
   ·rename_i h1
    rw[if_neg h1,s1]
    exact ih b n (hw.arg n) w h
 ·exact absurd (show aM e.op by unfold aM;omega) hc
 ·exact absurd (show aM e.op by unfold aM;omega) hc
 ·rw[Yb ⟨⟨g.1,g.2.1⟩,g.2.2⟩ ha]at h ⊢
  obtain⟨s1,s2⟩:=hw.same (.inl g) ha
  have m:a∈e.args:=by rw[ha];simp
  have n:b∈e.args:=by rw[ha];simp
  have d: ¬aM a.op:= λhh=>by
   have:=(hw.cond (i:=0) zS3).1 hh
   unfold b6 at this
   omega
  have w: ¬aM b.op:= λhh=>by
   have:=(hw.cond (i:=1) zS3).1 hh
   unfold b6 at this
   omega
  rw[s2 g.2.1]
  split at h
  ·contradiction
  ·rename_i h0
   rw[if_neg h0]
   split at h
   ·contradiction
   ·rename_i h1
    rw[if_neg h1]
    obtain⟨i1,i2⟩:=ih a m (hw.arg m) d (zB9.1 h0)
    obtain⟨j1,j2⟩:=ih b n (hw.arg n) w (zB9.1 h1)
    rw[←s1]at j1 j2
    generalize jr M A env a=x at*
    generalize jr M A env b=y at*
    obtain⟨⟨t,v⟩,z⟩:=x
    obtain⟨⟨t',v'⟩,z'⟩:=y
    simp only at i1 i2 j1 j2 h h0 h1 ⊢
    subst i1
    obtain rfl:=j1
    exact Vf i2 j2 h
end
open Go.Abs Go.RowKit
variable {s:ByteArray}
theorem MW {l:List ByteArray} (h:aQ l s=0):oE s∧s∉l:=by
 unfold aQ at h
 split at h
 ·cases h
 ·rename_i h1
  split at h
  ·cases h
  ·exact⟨zB9.1 h1,‹_›⟩
variable {p:bu}{j:Nat}
theorem Wg (h:(bA p).2=0) (hj:j<p.params.length):oE p.params[j].1∧p.params[j].1∉eD p j:=by
 have h1:=(gZ h).2.2.1 j hj
 rw[QY hj]at h1
 unfold dX at h1
 split at h1
 ·contradiction
 ·exact MW (zB9.1 ‹_›)
theorem FD (h:(bA p).2=0) (hj:j<p.defs.length):oE p.defs[j].name∧p.defs[j].name∉eh p j:=by
 have h1:=(gZ h).2.2.2 j hj
 rw[DD hj]at h1
 unfold bq at h1
 split at h1
 ·contradiction
 ·exact MW (zB9.1 ‹_›)
theorem ae2 (h:(bA p).2=0) (hj:j<p.params.length):cY p p.params[j].1=some p.params[j].2:=by
 refine Fn hj rfl λi hi he=>(Wg h hj).2 ?_
 rw[←he]
 exact zE5 _ (zE0.2 ⟨_,zN9.2 ⟨i,by omega,rfl⟩,rfl⟩)
theorem SK (h:(bA p).2=0) (hj:j<p.defs.length):cY p p.defs[j].name=some (p.defs[j].ty,p.defs[j].dims.map (·.2)):=by
 refine zP (λi hi he=>(FD h hj).2 ?_) hj rfl λi hi he=>(FD h hj).2 ?_
 ·rw[←he]
  exact zF5 _ (zE5 _ (zE0.2 ⟨_,zA6 hi,rfl⟩))
 ·rw[←he]
  exact zE5 _ (zE0.2 ⟨_,zN9.2 ⟨i,by omega,rfl⟩,rfl⟩)
def aaQ (p:bu) (k:Nat):List ByteArray:=p.params.map (·.1)++(p.defs.take k).map (·.name)
theorem ZU {k:Nat} (h:s∈aaQ p k):s∈eh p k:=by
 unfold aaQ at h
 unfold eh
 rw[zE4]
 exact zE5 _ h
theorem aek {k:Nat} (h:k<p.defs.length):aaQ p (k+1)=aaQ p k++ [p.defs[k].name]:=by
 unfold aaQ
 rw[zB5 h,zC8,←zE4]
 rfl
end Go.Proofs.YtigdjhnndaokjaaGreatDoor
