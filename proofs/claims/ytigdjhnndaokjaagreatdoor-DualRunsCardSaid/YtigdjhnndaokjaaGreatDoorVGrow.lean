import Derived.Test.YtigdjhnndaokjaaGreatDoorV01b
import Derived.Test.YtigdjhnndaokjaaGreatDoorAbs27
set_option linter.unusedVariables false
set_option linter.unusedSimpArgs false
set_option maxHeartbeats 4000000
set_option maxRecDepth 1000000
open Go.Proofs.Tryz renaming prog→Pa0
namespace Go.Proofs.YtigdjhnndaokjaaGreatDoor
open Go.Abs Go.RowKit
noncomputable section
abbrev Ty:=Int×Int×Int×Int×Int
abbrev tyP (t:Ty):List PC:= [pI t.1,pI t.2.1,pI t.2.2.1,pI t.2.2.2.1,pI t.2.2.2.2]
abbrev mj (t:Ty):AV:= .agg [.pure (pI t.1),.pure (pI t.2.1),.pure (pI t.2.2.1),.pure (pI t.2.2.2.1),.pure (pI t.2.2.2.2)]
def fc (b f r o:Int):Prop:=2≤b∧b≤31∧0≤f∧f≤30∧1≤r∧r≤4∧(o=1∨o=2)
def cj (t:Ty):Prop:=((t.1=1∨t.1=3)∧t.2.1=0∧t.2.2.1=0∧t.2.2.2.1=0∧t.2.2.2.2=0)∨(t.1=2∧fc t.2.1 t.2.2.1 t.2.2.2.1 t.2.2.2.2)
instance (b f r o:Int):Decidable (fc b f r o):=by unfold fc;infer_instance
instance (t:Ty):Decidable (cj t):=Classical.propDecidable _
def aB (b:Int):Int:=2^(b-1).toNat
def aK (t:Ty) (a:Fr):Prop:=if t.1=2 then a.2=1∧ -aB t.2.1≤a.1∧a.1<aB t.2.1 else if t.1=3 then a.2=1∧ -2147483647≤a.1∧a.1≤2147483647 else aS a
instance (t:Ty) (a:Fr):Decidable (aK t a):=Classical.propDecidable _
variable {b:Int}
theorem fi (h1:2≤b) (h2:b≤31):1≤aB b∧aB b≤1073741824:=by
 obtain⟨n,rfl⟩: ∃n:Nat,b=n:=⟨b.toNat,by omega⟩
 have h3:n≤31:=by omega
 have h4:2≤n:=by omega
 clear h1 h2
 have key: ∀m:Fin 32,2≤m.val→(1:Int)≤aB (m.val:Int)∧aB (m.val:Int)≤1073741824:=by decide+kernel
 exact key ⟨n,by omega⟩ h4
theorem Jd (h1:2≤b) (h2:b≤31):(2:Int)^(min (b-1).toNat 64)=aB b:=by
 rw[aB,zI8 zR5]
theorem MV (t:Ty):ac Pa0 mN [mj t] (Go.Abs.B (decide (t.2.1=0∧t.2.2.1=0∧t.2.2.2.1=0∧t.2.2.2.2=0))):=by
 refine ac.of xj zR6 λ_=>aa ?_
 conv in sr=>cbv
 repeat' first|simp(disch:=omega)only[go_sem, *]|apply ab<;>intro h<;>try omega
 refine congrArg (λb=>Go.Abs.B b) ?_
 rw[Bool.eq_iff_iff]
 simp[uM]
theorem eQ (t:Ty):ac Pa0 iC [mj t] (I (if t.1=2∧fc t.2.1 t.2.2.1 t.2.2.2.1 t.2.2.2.2 then 0 else 10)):=by
 refine ac.of xf zR6 λ_=>aa ?_
 conv in nq=>cbv
 obtain⟨k,b,f,r,o⟩:=t
 simp only
 repeat' first|simp(disch:=omega)only[go_sem, *]|apply ab<;>intro h<;>try omega
 all_goals first
  |(rw[if_neg];unfold fc;omega)
  |(rw[if_pos];unfold fc;omega)
  |(simp;done)
theorem bt (t:Ty):ac Pa0 fg [mj t] (I (if cj t then 0 else 10)):=by
 refine ac.of lF zR6 λ_=>aa ?_
 have p1:=MV t
 have p2:=eQ t
 obtain⟨k,b,f,r,o⟩:=t
 simp only at p1 p2
 conv in iw=>cbv
 by_cases g1:b=0∧f=0∧r=0∧o=0
 ·rw[zB1 g1]at p1
  by_cases g2:k=2∧fc b f r o
  ·exfalso;have:=g2.2.1;omega
  ·rw[if_neg g2]at p2
   by_cases g3:k=1∨k=3
   ·rw[if_pos (show cj (k,b,f,r,o)from .inl ⟨g3,g1⟩)]
    clear g1 g2
    rcases g3 with rfl|rfl
    ·exact zW2
    ·exact zW2
   ·rw[if_neg (show ¬cj (k,b,f,r,o)from λh=>h.elim (λh=>g3 h.1) g2)]
    clear g1 g2
    by_cases hk:k=2
    ·subst hk
     exact zW2
    ·repeat' first|simp(disch:=omega)only[go_sem, *,hk]|apply ab<;>intro h<;>try omega|refine ak p1 ?_|refine ak p2 ?_
 ·rw[zA9 g1]at p1
  by_cases g2:k=2∧fc b f r o
  ·rw[if_pos g2]at p2
   rw[if_pos (show cj (k,b,f,r,o)from .inr g2)]
   obtain⟨rfl,_⟩:=g2
   clear g1
   exact zW2
  ·rw[if_neg g2]at p2
   rw[if_neg (show ¬cj (k,b,f,r,o)from λh=>h.elim (λh=>g1 h.2) g2)]
   clear g1 g2
   by_cases hk:k=2
   ·subst hk
    exact zW2
   ·by_cases h1:k=1
    ·subst h1
     exact zW2
    ·by_cases h3:k=3
     ·subst h3
      exact zW2
     ·repeat' first|simp(disch:=omega)only[go_sem, *,hk,h1,h3]|apply ab<;>intro h<;>try omega|refine ak p1 ?_|refine ak p2 ?_
theorem aY (t:Ty):ac Pa0 ro [mj t] (Go.Abs.B (decide (cj t))):=by
 refine ac.of EV zR6 λ_=>aa ?_
 obtain⟨k,b,f,r,o⟩:=t
 conv in zu=>cbv
 by_cases h:cj (k,b,f,r,o)
 ·rw[zB1 h]
  rcases h with⟨h,rfl,rfl,rfl,rfl⟩|⟨h,g1,g2,g3,g4,g5,g6,g7⟩
  ·simp only at h
   rcases h with rfl|rfl
   ·exact zW0
   ·exact zW0
  ·simp only at h g1 g2 g3 g4 g5 g6 g7
   subst h
   rcases g7 with rfl|rfl
   ·exact zW0
   ·exact zW0
 ·rw[zA9 h]
  have h': ¬((k=1∨k=3)∧b=0∧f=0∧r=0∧o=0):= λg=>h (.inl g)
  have h2: ¬(k=2∧2≤b∧b≤31∧0≤f∧f≤30∧1≤r∧r≤4∧(o=1∨o=2)):= λg=>h (.inr g)
  clear h
  have H1:=Lib.hid h'
  have H2:=Lib.hid h2
  clear h' h2
  repeat' first|simp(disch:=omega)only[go_sem, *]|apply ab<;>intro h<;>try omega
  all_goals first
   |(refine congrArg (λb=>Go.Abs.B b) ?_;rw[zA9];have:=H1.out;have:=H2.out;omega)
   |(exfalso;have:=H1.out;have:=H2.out;omega)
theorem qb (h1:2≤b) (h2:b≤31):ac Pa0 rT [I b] (Go.Abs.B true):=by
 refine ac.of Jw zR6 λ_=>aa ?_
 conv in BH=>cbv
 exact zW0
theorem wx (h1:2≤b) (h2:b≤31):ac Pa0 pM [I b] (I (-aB b)):=by
 refine ac.of Iu zR6 λ_=>aa ?_
 have h3:=fi h1 h2
 have h4:=Jd h1 h2
 have hu:IntKind.wrap .u64 (b-1)=b-1:=by rw[IntKind.wrap_u64];omega
 have u:IntKind.wrap .i64 (b-1)=b-1:=wrap_i64 zR5
 have v1:IntKind.wrap .i64 (aB b)=aB b:=wrap_i64 zR5
 have v2:IntKind.wrap .i64 (0-aB b)= -aB b:=by rw[zG5];exact wrap_i64 zR5
 have v3:IntKind.wrap .i64 (aB b-1)=aB b-1:=wrap_i64 zR5
 conv in xv=>cbv
 exact yA4
theorem wI (h1:2≤b) (h2:b≤31):ac Pa0 pQ [I b] (I (aB b-1)):=by
 refine ac.of Hv zR6 λ_=>aa ?_
 have h3:=fi h1 h2
 have h4:=Jd h1 h2
 have hu:IntKind.wrap .u64 (b-1)=b-1:=by rw[IntKind.wrap_u64];omega
 have u:IntKind.wrap .i64 (b-1)=b-1:=wrap_i64 zR5
 have v1:IntKind.wrap .i64 (aB b)=aB b:=wrap_i64 zR5
 have v2:IntKind.wrap .i64 (0-aB b)= -aB b:=by rw[zG5];exact wrap_i64 zR5
 have v3:IntKind.wrap .i64 (aB b-1)=aB b-1:=wrap_i64 zR5
 conv in yN=>cbv
 exact yA4
variable {t:Ty}{a:Fr}
theorem xR (h0:t.1=2) (ht:fc t.2.1 t.2.2.1 t.2.2.2.1 t.2.2.2.2):ac Pa0 je [mj t,eX a] (Go.Abs.B (decide (a.2=1∧ -aB t.2.1≤a.1∧a.1<aB t.2.1))):=by
 refine ac.of LA zR6 λ_=>aa ?_
 have p1:=eQ t
 rw[if_pos ⟨h0,ht⟩]at p1
 have p2:=wx ht.1 ht.2.1
 have p3:=wI ht.1 ht.2.1
 obtain⟨k,b,f,r,o⟩:=t
 obtain⟨n,d⟩:=a
 simp only at h0 p1 p2 p3 ⊢
 clear ht
 conv in Bb=>cbv
 by_cases h:d=1∧ -aB b≤n∧n<aB b
 ·rw[zB1 h]
  obtain⟨rfl,g1,g2⟩:=h
  have g3:n≤aB b-1:=by omega
  clear g2
  repeat' first|simp(disch:=omega)only[go_sem]|((with_reducible refine ab ?_ ?_)<;>intro h<;>try first|omega|simp(disch:=omega)only[go_sem, *])|refine ak p1 ?_|refine ak p2 ?_|refine ak p3 ?_
  all_goals(simp[*];done)
 ·rw[zA9 h]
  have H:=Lib.hid h
  clear h
  repeat' first|simp(disch:=omega)only[go_sem]|((with_reducible refine ab ?_ ?_)<;>intro h<;>try first|omega|simp(disch:=omega)only[go_sem, *])|refine ak p1 ?_|refine ak p2 ?_|refine ak p3 ?_
  all_goals(refine congrArg (λb=>Go.Abs.B b) ?_;rw[zA9];have:=H.out;omega)
theorem zy (n:Int):ac Pa0 mX [I n] (Go.Abs.B (decide (-2147483647≤n∧n≤2147483647))):=by
 refine ac.of Mv zR6 λ_=>aa ?_
 conv in BM=>cbv
 repeat' first|simp(disch:=omega)only[go_sem, *]|apply ab<;>intro h<;>try omega
 all_goals(simp<;>omega)
theorem de (ht:cj t) (ha:bD a):ac Pa0 mH [mj t,eX a] (Go.Abs.B (decide (aK t a))):=by
 refine ac.of xX zR6 λ_=>aa ?_
 have p1:=bt t
 rw[if_pos ht]at p1
 have p2:=bn ha
 have p3:=zy a.1
 have p4:t.1=2→ac Pa0 je [mj t,eX a] (Go.Abs.B (decide (aK t a))):= λh=>by
  have:=xR (a:=a) h (ht.elim (λh'=>by omega) λh'=>h'.2)
  rwa [show decide (a.2=1∧ -aB t.2.1≤a.1∧a.1<aB t.2.1)=decide (aK t a)from zF2.2 (by unfold aK;rw[if_pos h])]at this
 have hk:t.1=1∨t.1=2∨t.1=3:=by rcases ht with⟨h,_⟩|⟨h,_⟩<;>omega
 obtain⟨k,b,f,r,o⟩:=t
 clear ht
 conv in sE=>cbv
 simp only at hk
 rcases hk with rfl|rfl|rfl
 ·rw[show decide (aK (1,b,f,r,o) a)=decide (aS a)from zF2.2 (by unfold aK;simp)]
  exact zW2
 ·have p4:=p4 rfl
  repeat' first|simp(disch:=omega)only[go_sem, *]|apply ab<;>intro h<;>try omega|refine ak p1 ?_|refine ak p4 ?_
 ·obtain⟨n,d⟩:=a
  simp only at p3
  rw[show decide (aK (3,b,f,r,o) (n,d))=decide (d=1∧ -2147483647≤n∧n≤2147483647)from zF2.2 (by unfold aK;simp)]
  clear p4 p2
  by_cases h:d=1
  ·subst h
   repeat' first|simp(disch:=omega)only[go_sem, *]|apply ab<;>intro h<;>try omega|refine ak p1 ?_|refine ak p3 ?_
   all_goals simp
  ·repeat' first|simp(disch:=omega)only[go_sem, *,h]|apply ab<;>intro h<;>try omega|refine ak p1 ?_|refine ak p3 ?_
   all_goals simp[h]
theorem eZ (ht:cj t) (ha:bD a):ac Pa0 vN [mj t,eX a] (Go.Abs.B (decide (aK t a))):=by
 refine ac.of G7 zR6 λ_=>aa ?_
 obtain⟨k,b,f,r,o⟩:=t
 obtain⟨n,d⟩:=a
 obtain⟨⟨J,L⟩,M,N⟩:=ha
 simp only at J L M N
 conv in B3=>cbv
 by_cases hk:k=2
 ·subst hk
  have q:fc b f r o:=ht.elim (λh'=>absurd h'.1 zR6) λh'=>h'.2
  have h3:=fi q.1 q.2.1
  have h4:=Jd q.1 q.2.1
  have V:=q.1
  have W:=q.2.1
  have u:IntKind.wrap .i64 (b-1)=b-1:=wrap_i64 zR5
  have D:IntKind.wrap .i64 (aB b)=aB b:=wrap_i64 zR5
  have E:IntKind.wrap .i64 (0-aB b)= -aB b:=by rw[zG5];exact wrap_i64 zR5
  clear ht q
  rw[show decide (aK (2,b,f,r,o) (n,d))=decide (d=1∧ -aB b≤n∧n<aB b)from zF2.2 (by unfold aK;simp)]
  by_cases h:d=1∧ -aB b≤n∧n<aB b
  ·rw[zB1 h]
   obtain⟨rfl,g1,g2⟩:=h
   repeat' first|simp(disch:=omega)only[go_sem, *,wrap_i64,h4,u,zJ0,D,E]|apply ab<;>intro h<;>try omega
  ·rw[zA9 h]
   have H:=Lib.hid h
   clear h
   repeat' first|simp(disch:=omega)only[go_sem, *,wrap_i64,h4,u,zJ0,D,E]|apply ab<;>intro h<;>try omega
   all_goals(refine congrArg (λb=>Go.Abs.B b) ?_;rw[zA9];have:=H.out;omega)
 ·have hv:aK (k,b,f,r,o) (n,d)↔(if k=3 then d=1∧ -2147483647≤n∧n≤2147483647 else aS (n,d)):=by unfold aK;simp only;rw[if_neg hk]
  by_cases h1:1≤d
  ·by_cases h2:d≤2147483647
   ·by_cases h3: -2147483647≤n∧n≤2147483647
    ·have e:max n (0-n)=(n.natAbs:Int):=by omega
     have e2:d=(d.natAbs:Int):=by omega
     have p2:=D0 n.natAbs d.natAbs
     rw[←e2]at p2
     clear e2
     by_cases A:k=3
     ·subst A
      rw[show decide (aK (3,b,f,r,o) (n,d))=decide (d=1)from zF2.2 (by rw[hv,if_pos rfl];simp[h3])]
      clear hv ht p2 e
      exact zY1
     ·rw[show decide (aK (k,b,f,r,o) (n,d))=decide (aS (n,d))from zF2.2 (by rw[hv,if_neg A])]
      clear hv ht
      repeat' first|simp(disch:=omega)only[go_sem, *,e,wrap_i64,hk,A,↓reduceIte]|apply ab<;>intro h<;>try omega|refine ak p2 ?_
      rw[show decide (((n.natAbs.gcd d.natAbs:Nat):Int)=1)=decide (aS (n,d)) by rw[zF2];simp only[aS];omega]
    ·rw[zA9 (show ¬aK (k,b,f,r,o) (n,d) by rw[hv];unfold aS;simp only;split<;>omega)]
     clear hv ht
     exact yA7
   ·rw[zA9 (show ¬aK (k,b,f,r,o) (n,d) by rw[hv];unfold aS;simp only;split<;>omega)]
    clear hv ht
    exact yA7
  ·rw[zA9 (show ¬aK (k,b,f,r,o) (n,d) by rw[hv];unfold aS;simp only;split<;>omega)]
   clear hv ht
   exact yA7
abbrev Ix:=iB×ByteArray×List iB
def bT (l:iB):List PC:= [pI l.1,bQ l.2]
def gS (x:Ix):List PC:= [pI x.1.1,bQ x.1.2,pS x.2.1,dp bT x.2.2]
abbrev aIx (x:Ix):AV:= .agg [.pure (pI x.1.1),.pure (bQ x.1.2),.pure (pS x.2.1),.pure (dp bT x.2.2)]
inductive Ex where
 |mk (op:Int) (name:ByteArray) (val:Fr) (ty:Ty) (lin:iB) (idx:List Ix) (args:List Ex)
namespace Ex
def op:Ex→Int| .mk o _ _ _ _ _ _=>o
def name:Ex→ByteArray| .mk _ s _ _ _ _ _=>s
def val:Ex→Fr| .mk _ _ v _ _ _ _=>v
def ty:Ex→Ty| .mk _ _ _ t _ _ _=>t
def lin:Ex→iB| .mk _ _ _ _ l _ _=>l
def idx:Ex→List Ix| .mk _ _ _ _ _ x _=>x
def args:Ex→List Ex| .mk _ _ _ _ _ _ a=>a
mutual
def row:Ex→List PC
 | .mk op name val ty lin idx args=> [pI op,pS name,pI val.1,pI val.2,pI ty.1,pI ty.2.1,pI ty.2.2.1,pI ty.2.2.2.1,pI ty.2.2.2.2,pI lin.1,bQ lin.2,dp gS idx,.slice (rows args)]
def rows:List Ex→List (List PC)
 | []=> []
 |e::r=>row e::rows r
end
theorem V3: ∀l:List Ex,rows l=l.map row
 | []=>by rw[rows];rfl
 |e::r=>by rw[rows,V3 r];rfl
theorem row_eq (e:Ex):e.row= [pI e.op,pS e.name,pI e.val.1,pI e.val.2,pI e.ty.1,pI e.ty.2.1,pI e.ty.2.2.1,pI e.ty.2.2.2.1,pI e.ty.2.2.2.2,pI e.lin.1,bQ e.lin.2,dp gS e.idx,.slice (e.args.map row)]:=by
 obtain⟨op,name,val,ty,lin,idx,args⟩:=e
 rw[row,V3]
 rfl
mutual
def dep:Ex→Nat
 | .mk _ _ _ _ _ _ args=>1+deps args
def deps:List Ex→Nat
 | []=>0
 |e::r=>max (dep e) (deps r)
end
mutual
def sz:Ex→Nat
 | .mk _ _ _ _ _ _ args=>1+szs args
def szs:List Ex→Nat
 | []=>0
 |e::r=>sz e+szs r
end
mutual
def pre:Ex→List Ex
 | .mk op name val ty lin idx args=> .mk op name val ty lin idx args::pres args
def pres:List Ex→List Ex
 | []=> []
 |e::r=>pre e++pres r
end
theorem dep_eq (e:Ex):e.dep=1+deps e.args:=by cases e;rw[dep];rfl
theorem sz_eq (e:Ex):e.sz=1+szs e.args:=by cases e;rw[sz];rfl
theorem pre_eq (e:Ex):e.pre=e::pres e.args:=by cases e;rw[pre];rfl
theorem Xq {e a:Ex} (h:a∈e.args):SizeOf.sizeOf a<SizeOf.sizeOf e:=by
 obtain⟨op,name,val,ty,lin,idx,args⟩:=e
 have:=List.sizeOf_lt_of_mem (show a∈args from h)
 simp only[mk.sizeOf_spec]
 omega
theorem ind {p:Ex→Prop} (h: ∀e:Ex,(∀a∈e.args,p a)→p e): ∀e:Ex,p e:=by
 have key: ∀(n:Nat) (e:Ex),SizeOf.sizeOf e<n→p e:=by
  intro n
  induction n with
  |zero=>intro e he;omega
  |succ n ih=>exact λe he=>h e λa ha=>ih a (by have:=Xq ha;omega)
 exact λe=>key _ e (zF6 _)
theorem dep_pos (e:Ex):1≤e.dep:=by rw[dep_eq];omega
theorem deps_take: ∀{l:List Ex} {k:Nat} (h:k<l.length),deps (l.take (k+1))=max (deps (l.take k)) (l[k].dep)
 |e::r,0,h=>by simp[deps]
 |e::r,k+1,h=>by
  have:=deps_take (l:=r) (k:=k) zS9
  simp only[zN5,deps,this,List.getElem_cons_succ]
  omega
theorem szs_append: ∀(l r:List Ex),szs (l++r)=szs l+szs r
 | [],r=>by simp[szs]
 |e::l,r=>by simp only[zD2,szs,szs_append l r];omega
variable {l:List Ex}
theorem szs_take {k:Nat} (h:k<l.length):szs (l.take (k+1))=szs (l.take k)+l[k].sz:=by
 rw[zB5 h,szs_append]
 simp[szs]
theorem pres_append: ∀(l r:List Ex),pres (l++r)=pres l++pres r
 | [],r=>by simp[pres]
 |e::l,r=>by simp only[zD2,pres,pres_append l r,zE4]
theorem pres_take {k:Nat} (h:k<l.length):pres (l.take (k+1))=pres (l.take k)++l[k].pre:=by
 rw[zB5 h,pres_append]
 simp[pres]
theorem pres_length: ∀{l:List Ex},(∀a∈l,a.pre.length=a.sz)→(pres l).length=szs l
 | [],_=>by simp[pres,szs]
 |e::r,h=>by rw[pres,szs,zE8,h e zC5,pres_length λa ha=>h a (zC3 _ ha)]
theorem pre_length (e:Ex):e.pre.length=e.sz:=by
 refine ind (p:= λe=>e.pre.length=e.sz) (λe ih=> ?_) e
 rw[pre_eq,sz_eq,zG2,pres_length ih]
 omega
end Ex
abbrev fp (e:Ex):AV:= .agg [.pure (pI e.op),.pure (pS e.name),.pure (pI e.val.1),.pure (pI e.val.2),.pure (pI e.ty.1),.pure (pI e.ty.2.1),.pure (pI e.ty.2.2.1),.pure (pI e.ty.2.2.2.1),.pure (pI e.ty.2.2.2.2),.pure (pI e.lin.1),.pure (bQ e.lin.2),.pure (dp gS e.idx),.pure (.slice (e.args.map Ex.row))]
variable {p:Prop}
theorem BD {b:Bool} [Decidable p] (h:b=true↔p):AV.c (.pure (.val (.bool b)))=Go.Abs.B (decide p):=by
 have:b=decide p:=by by_cases hp:p<;>simp_all
 rw[this]
theorem IE {a:Int} (h:a=b):AV.c (.pure (.val (.int .i64 a)))=I b:=by rw[h]
theorem H6:uM p=true↔p:=⟨λh=>zD5 (λhn=>(by rw[kn hn]at h;cases h)),ni⟩
theorem Hw:uM p=false↔ ¬p:=⟨λh hp=>(by rw[ni hp]at h;cases h),kn⟩
theorem BC {b:Bool} (h:b=true↔p):AV.c (.pure (.val (.bool b)))=Go.Abs.B (uM p):=by
 have:b=uM p:=by
  by_cases hp:p
  ·rw[ni hp,h.2 hp]
  ·rw[kn hp];exact Bool.eq_false_iff.2 λe=>hp (h.1 e)
 rw[this]
def aM (o:Int):Prop:=13≤o∧o≤18
instance (o:Int):Decidable (aM o):=inferInstanceAs (Decidable (_∧_))
def lv (o:Int):Int:=if o=1∨o=2∨o=3 then 0 else if o=8∨o=12∨o=18 then 1 else if o=11 then 3 else 2
def b6 (o:Int) (i:Nat):Prop:=o=16∨o=17∨o=18∨(o=11∧i=0)
instance (o:Int) (i:Nat):Decidable (b6 o i):=inferInstanceAs (Decidable (_∨_))
def NM (l:iB):Prop:=l.1=0∧l.2.length=0
instance (l:iB):Decidable (NM l):=inferInstanceAs (Decidable (_∧_))
def SR (x:Ix):Prop:=(x.2.1=⟨⟨[]⟩⟩→x.2.2.length=0)∧(x.2.1≠⟨⟨[]⟩⟩→NM x.1)
instance (x:Ix):Decidable (SR x):=Classical.propDecidable _
def AH (e:Ex):Prop:=(1≤e.op∧e.op≤18)∧(e.op≠1→e.val.1=0∧e.val.2=0)∧(e.op≠1→e.op≠12→e.ty.1=0∧e.ty.2.1=0∧e.ty.2.2.1=0∧e.ty.2.2.2.1=0∧e.ty.2.2.2.2=0)∧
 (e.op≠2→NM e.lin)∧(e.op≠3→e.name=⟨⟨[]⟩⟩∧e.idx.length=0)∧ ∀x∈e.idx,SR x
def AB (e:Ex):Prop:=(e.op=3→oE e.name)∧ ∀x∈e.idx,x.2.1≠⟨⟨[]⟩⟩→oE x.2.1
def AM (e:Ex):Prop:=(e.args.length:Int)=lv e.op∧e.idx.length≤6∧ ∀x∈e.idx,x.2.2.length≤6
def tf (e:Ex):Prop:=((e.op=1∨e.op=12)→cj e.ty)∧ ∀(i:Nat) (h:i<e.args.length),aM e.args[i].op↔b6 e.op i
def Ex.forms (e:Ex):List iB:=e.lin::e.idx.flatMap λx=>x.1::x.2.2
def Ci (e:Ex):Prop:=(e.op=1→aK e.ty e.val)∧ ∀l∈e.forms,gN l.2
instance (e:Ex):Decidable (AH e):=Classical.propDecidable _
instance (e:Ex):Decidable (AB e):=Classical.propDecidable _
instance (e:Ex):Decidable (AM e):=Classical.propDecidable _
instance (e:Ex):Decidable (tf e):=Classical.propDecidable _
instance (e:Ex):Decidable (Ci e):=Classical.propDecidable _
def bo (e:Ex):Int:=if ¬AH e then 5 else if ¬AB e then 7 else if ¬AM e then 11 else if ¬tf e then 10 else if ¬Ci e then 1 else 0
def dz:List Int→Int
 | []=>0
 |x::r=>if x≠0 then x else dz r
theorem nl: ∀(l r:List Int),dz (l++r)=if dz l≠0 then dz l else dz r
 | [],r=>by simp[dz]
 |x::l,r=>by
  simp only[zD2,dz,nl l r]
  by_cases h:x=0<;>simp[h]
variable {l:List Int}{k:Nat}
theorem jL (h:k<l.length) (hf:dz (l.take k)=0):dz (l.take (k+1))=l[k]:=by
 rw[zB5 h,nl,if_neg (by rw[hf];simp)]
 simp only[dz]
 split<;>simp_all
theorem qk (h:k<l.length) (hf:dz (l.take k)=0) (hp:l[k]≠0):dz l=l[k]:=by
 have key:dz (l.take (k+1)++l.drop (k+1))=l[k]:=by rw[nl,jL h hf,if_pos hp]
 rw[zF1]at key
 exact key
def jE (e:Ex):Int:=dz (e.pre.map bo)
def hO (e:Ex):Int:=if 40<e.dep then 13 else if 2000<e.sz then 2 else jE e
theorem J7 (e:Ex):jE e=if bo e≠0 then bo e else dz ((Ex.pres e.args).map bo):=by
 rw[jE,Ex.pre_eq,zB8,dz]
variable {e:Ex}
theorem Ul (h:bo e=0):AH e∧AB e∧AM e∧tf e∧Ci e:=by
 unfold bo at h
 repeat' split at h
 all_goals first
  |(simp at h;done)
  |simp_all
def oz {α:Type} (p:α→Prop) (xs:List α):Int:=match xs.findIdx? (λx=>uM (p x))with
 |some k=>k
 |none=> -1
variable {α:Type}
theorem yC {p:α→Prop} {xs:List α} (hk:k<xs.length) (h:p xs[k]) (hn: ∀j (hj:j<k),¬p (xs[j]' zR5)):oz p xs=k:=by
 have:xs.findIdx? (λx=>uM (p x))=some k:=by
  rw[zO7]
  exact⟨hk,ni h,λj hj=>by simp[kn (hn j hj)]⟩
 rw[oz,this]
theorem qy {p:α→Prop} {xs:List α} (hn: ∀j (hj:j<xs.length),¬p xs[j]):oz p xs= -1:=by
 have:xs.findIdx? (λx=>uM (p x))=none:=by
  rw[List.findIdx?_eq_none_iff]
  intro x hx
  obtain⟨j,hj,rfl⟩:=zC2.1 hx
  exact kn (hn j hj)
 rw[oz,this]
theorem rc (p:α→Prop) (xs:List α):(oz p xs= -1∧ ∀x∈xs,¬p x)∨ ∃k,∃h:k<xs.length,oz p xs=k∧p xs[k]∧ ∀j (hj:j<k),¬p (xs[j]' zR5):=by
 unfold oz
 cases e:xs.findIdx? (λx=>uM (p x))with
 |none=>
  rw[List.findIdx?_eq_none_iff]at e
  refine .inl ⟨rfl,λx hx h=> ?_⟩
  have:=e x hx
  rw[ni h]at this
  cases this
 |some k=>
  rw[zO7]at e
  obtain⟨hk,h1,h2⟩:=e
  refine .inr ⟨k,hk,rfl, ?_,λj hj h=> ?_⟩
  ·exact zD5 λhn=>by rw[kn hn]at h1;cases h1
  ·have:=h2 j hj
   rw[ni h]at this
   simp at this
theorem Sd {p:α→Prop} {xs:List α}:0≤oz p xs↔ ∃x∈xs,p x:=by
 rcases rc p xs with⟨h1,h2⟩|⟨k,hk,h1,h2,_⟩
 ·rw[h1]
  exact⟨λh=>by omega,λ⟨x,hx,h⟩=>absurd h (h2 x hx)⟩
 ·rw[h1]
  exact⟨λ_=>⟨_,zA6 hk,h2⟩,λ_=>by omega⟩
open Go.Abs Go.RowKit
abbrev iF:=ByteArray×iB
def gw (a:iF):List PC:= [pS a.1,pI a.2.1,bQ a.2.2]
abbrev gV:=ByteArray×Ty×List iB
def ef (x:gV):List PC:= [pS x.1,pI x.2.1.1,pI x.2.1.2.1,pI x.2.1.2.2.1,pI x.2.1.2.2.2.1,pI x.2.1.2.2.2.2,dp bT x.2.2]
structure lH where
 name:ByteArray
 ty:Ty
 dims:List iF
 red:List iF
 fold:Int
 body:Ex
def bU (d:lH):List PC:= [pS d.name,pI d.ty.1,pI d.ty.2.1,pI d.ty.2.2.1,pI d.ty.2.2.2.1,pI d.ty.2.2.2.2,dp gw d.dims,dp gw d.red,pI d.fold,pI d.body.op,pS d.body.name,pI d.body.val.1,pI d.body.val.2,pI d.body.ty.1,pI d.body.ty.2.1,pI d.body.ty.2.2.1,pI d.body.ty.2.2.2.1,pI d.body.ty.2.2.2.2,pI d.body.lin.1,bQ d.body.lin.2,dp gS d.body.idx,.slice (d.body.args.map Ex.row)]
structure bu where
 sizes:List ByteArray
 wher:List MZ
 params:List gV
 defs:List lH
 outs:List ByteArray
abbrev bj (l:List ByteArray):PC:=dp (λs=> [pS s]) l
abbrev fL (p:bu):AV:= .agg [.pure (bj p.sizes),.pure (dp cP p.wher),.pure (dp ef p.params),.pure (dp bU p.defs),.pure (bj p.outs)]
abbrev dK (p:bu):bP:= .var [.pure (bj p.sizes),.pure (dp cP p.wher),.pure (dp ef p.params),.pure (dp bU p.defs),.pure (bj p.outs)]
abbrev NC (d:lH):AV:= .agg [.pure (pS d.name),.pure (pI d.ty.1),.pure (pI d.ty.2.1),.pure (pI d.ty.2.2.1),.pure (pI d.ty.2.2.2.1),.pure (pI d.ty.2.2.2.2),.pure (dp gw d.dims),.pure (dp gw d.red),.pure (pI d.fold),.pure (pI d.body.op),.pure (pS d.body.name),.pure (pI d.body.val.1),.pure (pI d.body.val.2),.pure (pI d.body.ty.1),.pure (pI d.body.ty.2.1),.pure (pI d.body.ty.2.2.1),.pure (pI d.body.ty.2.2.2.1),.pure (pI d.body.ty.2.2.2.2),.pure (pI d.body.lin.1),.pure (bQ d.body.lin.2),.pure (dp gS d.body.idx),.pure (.slice (d.body.args.map Ex.row))]
abbrev Fu (d:lH):bP:= .var [.pure (pS d.name),.pure (pI d.ty.1),.pure (pI d.ty.2.1),.pure (pI d.ty.2.2.1),.pure (pI d.ty.2.2.2.1),.pure (pI d.ty.2.2.2.2),.pure (dp gw d.dims),.pure (dp gw d.red),.pure (pI d.fold),.pure (pI d.body.op),.pure (pS d.body.name),.pure (pI d.body.val.1),.pure (pI d.body.val.2),.pure (pI d.body.ty.1),.pure (pI d.body.ty.2.1),.pure (pI d.body.ty.2.2.1),.pure (pI d.body.ty.2.2.2.1),.pure (pI d.body.ty.2.2.2.2),.pure (pI d.body.lin.1),.pure (bQ d.body.lin.2),.pure (dp gS d.body.idx),.pure (.slice (d.body.args.map Ex.row))]
abbrev adK (x:gV):AV:= .agg [.pure (pS x.1),.pure (pI x.2.1.1),.pure (pI x.2.1.2.1),.pure (pI x.2.1.2.2.1),.pure (pI x.2.1.2.2.2.1),.pure (pI x.2.1.2.2.2.2),.pure (dp bT x.2.2)]
abbrev aae (x:gV):bP:= .var [.pure (pS x.1),.pure (pI x.2.1.1),.pure (pI x.2.1.2.1),.pure (pI x.2.1.2.2.1),.pure (pI x.2.1.2.2.2.1),.pure (pI x.2.1.2.2.2.2),.pure (dp bT x.2.2)]
abbrev qH (l:List iB):AV:= .c (.pure (dp bT l))
abbrev Hl (t:Ty):AV:= .agg [.pure (pI t.1),.pure (pI t.2.1),.pure (pI t.2.2.1),.pure (pI t.2.2.2.1),.pure (pI t.2.2.2.2)]
def cY (p:bu) (s:ByteArray):Option (Ty×List iB):=
 match p.params.find? (λx=>decide (x.1=s))with
 |some x=>some x.2
 |none=>match p.defs.find? (λd=>decide (d.name=s))with
  |some d=>some (d.ty,d.dims.map (·.2))
  |none=>none
def iD (p:bu):Prop:=(∀x∈p.params,x.2.2.length≤12∧ ∀l∈x.2.2,l.2.length≤20)∧ ∀d∈p.defs,d.dims.length≤12∧d.red.length≤12∧(∀a∈d.dims,a.2.2.length≤20)∧ ∀a∈d.red,a.2.2.length≤20
def aR (d:lH):List ByteArray:=(d.dims++d.red).map (·.1)
def j0 (vars sizes:List ByteArray) (l:iB):Prop:= ∀m∈l.2,m.1∈vars∨m.1∈sizes
instance (vars sizes:List ByteArray) (l:iB):Decidable (j0 vars sizes l):=Classical.propDecidable _
def fT (p:bu) (vars:List ByteArray) (l:List iB):Int:=if ∀x∈l,j0 vars p.sizes x then 0 else 9
def jK:Ty:=(0,0,0,0,0)
def jj (p:bu) (vars:List ByteArray) (x:Ix):Int:=
 if x.2.1=⟨⟨[]⟩⟩then fT p vars [x.1]
 else match cY p x.2.1 with
  |none=>9
  |some (t,dims)=>if t.1≠3 then 10 else if x.2.2.length≠dims.length then 11 else fT p vars x.2.2
def m6 (p:bu) (vars:List ByteArray) (e:Ex):Ty×Int:=
 match cY p e.name with
 |none=>(jK,9)
 |some (t,dims)=>if e.idx.length≠dims.length then(jK,11)else if dz (e.idx.map (jj p vars))≠0 then(jK,dz (e.idx.map (jj p vars)))else(t,0)
def bh (p:bu) (vars:List ByteArray) (e:Ex) (l:List Ty):Ty×Int:=
 if e.op=1∨e.op=12 then(e.ty,0)
 else if e.op=2 then((3,0,0,0,0),fT p vars [e.lin])
 else if e.op=3 then m6 p vars e
 else if e.op=8 then(l.getD 0 jK,0)
 else if e.op=11 then(l.getD 1 jK,if l.getD 1 jK=l.getD 2 jK then 0 else 10)
 else if 16≤e.op then(jK,0)
 else if 13≤e.op then(jK,if l.getD 0 jK=l.getD 1 jK then 0 else 10)
 else(l.getD 0 jK,if l.getD 0 jK=l.getD 1 jK then 0 else 10)
mutual
def fC (p:bu) (vars:List ByteArray):Ex→Ty×Int
 |.mk op name val ty lin idx args=>match eF p vars args with
  | .inl err=>(jK,err)
  | .inr l=>bh p vars (.mk op name val ty lin idx args) l
def eF (p:bu) (vars:List ByteArray):List Ex→Int⊕List Ty
 | []=> .inr []
 |e::r=>if(fC p vars e).2≠0 then .inl (fC p vars e).2 else match eF p vars r with
  | .inl err=> .inl err
  | .inr l=> .inr ((fC p vars e).1::l)
end
theorem zT (p:bu) (vars:List ByteArray) (e:Ex):fC p vars e=match eF p vars e.args with
  | .inl err=>(jK,err)
  | .inr l=>bh p vars e l:=by
 obtain⟨op,name,val,ty,lin,idx,args⟩:=e
 rw[fC]
 rfl
def be (p:bu) (vars:List ByteArray) (e:Ex):Ty×Int:=
 if hO e≠0 then(jK,hO e)else if aM e.op then(jK,10)else if(fC p vars e).2≠0 then(jK,(fC p vars e).2)else((fC p vars e).1,0)
def aQ (taken:List ByteArray) (s:ByteArray):Int:=if ¬oE s then 7 else if s∈taken then 8 else 0
def bL (sizes:List ByteArray) (l:iB):Int:=if ¬gN l.2 then 1 else if ¬j0 [] sizes l then 9 else 0
def dX (sizes taken:List ByteArray) (x:gV):Int:=
 if aQ taken x.1≠0 then aQ taken x.1 else if ¬cj x.2.1 then 10 else if 6<x.2.2.length then 11 else dz (x.2.2.map (bL sizes))
def bE (sizes:List ByteArray):List ByteArray→List iF→Int
 |_, []=>0
 |taken,a::r=>if aQ taken a.1≠0 then aQ taken a.1 else if bL sizes a.2≠0 then bL sizes a.2 else bE sizes (taken++ [a.1]) r
def iI (d:lH):Int:=if d.fold<0∨5<d.fold then 1 else if((d.fold=0∨d.fold=5)↔d.red.length=0)∧ ¬(d.fold=5∧d.dims.length=0)then 0 else 11
def bq (p:bu) (k:Nat) (taken:List ByteArray) (d:lH):Int:=
 if aQ taken d.name≠0 then aQ taken d.name else if ¬cj d.ty then 10 else if 6<d.dims.length∨6<d.red.length then 11
 else if bE p.sizes p.sizes (d.dims++d.red)≠0 then bE p.sizes p.sizes (d.dims++d.red)else if iI d≠0 then iI d
 else if(be {p with wher:= [],defs:=p.defs.take k,outs:= []} (aR d) d.body).2≠0 then(be {p with wher:= [],defs:=p.defs.take k,outs:= []} (aR d) d.body).2
 else if(be {p with wher:= [],defs:=p.defs.take k,outs:= []} (aR d) d.body).1≠d.ty then 10 else 0
section
variable {p : bu} {vars : List ByteArray}
theorem vf: ∀(l r:List Ex),eF p vars (l++r)=match eF p vars l with
  | .inl err=> .inl err
  |.inr a=>match eF p vars r with
   | .inl err=> .inl err
   | .inr b=> .inr (a++b)
 |[],r=>by
  simp only[zD4,eF]
  cases eF p vars r<;>rfl
 |e::l,r=>by
  simp only[zD2,eF]
  by_cases h:(fC p vars e).2=0
  ·rw[if_neg (zA5 h),if_neg (zA5 h),vf l r]
   cases eF p vars l with
   |inl x=>rfl
   |inr a=>cases eF p vars r<;>rfl
  ·rw[if_pos h,if_pos h]
variable {l:List Ex}{ts:List Ty}
theorem Lh {k:Nat} (h:k<l.length) (hk:eF p vars (l.take k)= .inr ts) (h0:(fC p vars l[k]).2=0):eF p vars (l.take (k+1))= .inr (ts++ [(fC p vars l[k]).1]):=by
 rw[zB5 h,vf,hk]
 simp only[eF]
 rw[if_neg (zA5 h0)]
theorem JM {k:Nat} (h:k<l.length) (hk:eF p vars (l.take k)= .inr ts) (h0:(fC p vars l[k]).2≠0):eF p vars l= .inl (fC p vars l[k]).2:=by
 have e:eF p vars (l.take k++(l[k]::l.drop (k+1)))= .inl (fC p vars l[k]).2:=by
  rw[vf,hk]
  simp only[eF]
  rw[if_pos h0]
 rw[←zC0 h,zF1]at e
 exact e
theorem ub: ∀{l:List Ex} {ts:List Ty},eF p vars l= .inr ts→ts.length=l.length
 | [],ts,h=>by cases h;rfl
 |e::l,ts,h=>by
  simp only[eF]at h
  split at h
  ·cases h
  ·split at h
   ·cases h
   ·rename_i l' hl
    cases h
    simp[ub hl]
def zE (op:Int) (r:Ty×Int):Ty×Int:=if r.2≠0∧op≠2 then(jK,r.2)else r
def j9 (p:bu) (vars:List ByteArray) (e:Ex):Ty×Int:=match eF p vars e.args with
  | .inl err=>(jK,err)
  | .inr l=>zE e.op (bh p vars e l)
theorem o5 (e:Ex):(j9 p vars e).2=(fC p vars e).2:=by
 rw[zT]
 unfold j9
 cases eF p vars e.args with
 |inl x=>rfl
 |inr l=>
  simp only[zE]
  split<;>rfl
theorem Tw {e:Ex} (h:(fC p vars e).2=0):(j9 p vars e).1=(fC p vars e).1:=by
 rw[zT]at h ⊢
 unfold j9
 cases hx:eF p vars e.args with
 |inl x=>rfl
 |inr l=>
  rw[hx]at h
  simp only[zE]at h ⊢
  rw[if_neg (λhh=>hh.1 h)]
end
theorem yK {a b:Ty} (h:a.1=b.1∧a.2.1=b.2.1∧a.2.2.1=b.2.2.1∧a.2.2.2.1=b.2.2.2.1∧a.2.2.2.2=b.2.2.2.2):a=b:=by
 obtain⟨a1,a2,a3,a4,a5⟩:=a
 obtain⟨b1,b2,b3,b4,b5⟩:=b
 simp_all
def jY (e:Ex):Prop:= ∀a∈e.pre,(a.args.length:Int)=lv a.op∧1≤a.op∧a.op≤18∧a.idx.length≤6∧ ∀x∈a.idx,x.2.2.length≤6
theorem zW: ∀{l:List Int},dz l=0→ ∀x∈l,x=0
 |y::r,h,x,hx=>by
  simp only[dz]at h
  split at h
  ·exact absurd h ‹_›
  ·rcases zD7.1 hx with rfl|hx
   ·exact zB9.1 ‹_›
   ·exact zW h x hx
theorem tL (h:hO e=0):jY e:=by
 unfold hO at h
 split at h
 ·cases h
 ·split at h
  ·cases h
  ·intro a ha
   have:=Ul (zW h _ (zI9 ha))
   exact⟨this.2.2.1.1,this.1.1.1,this.1.1.2,this.2.2.1.2.1,this.2.2.1.2.2⟩
theorem ei {a:Ex} (h:jY e) (ha:a∈e.args):jY a:= λb hb=>h b (by
 rw[Ex.pre_eq]
 refine zC3 _ ?_
 clear h
 generalize e.args=l at ha
 induction l with
 |nil=>cases ha
 |cons x r O=>
  rw[Ex.pres]
  rcases zD7.1 ha with rfl|ha
  ·exact zF5 _ hb
  ·exact zE5 _ (O ha))
theorem np (h:jY e):(e.args.length:Int)=lv e.op∧1≤e.op∧e.op≤18∧e.idx.length≤6∧ ∀x∈e.idx,x.2.2.length≤6:=h e (by rw[Ex.pre_eq];exact zC5)
theorem C0 {o:Int} (h1:1≤o) (h2:o≤18):((o=1∨o=2∨o=3)∧lv o=0)∨((o=8∨o=12∨o=18)∧lv o=1)∨(o=11∧lv o=3)∨((o=13∨o=14∨o=15)∧lv o=2)∨((o=16∨o=17)∧lv o=2)∨((4≤o∧o≤10∧o≠8)∧lv o=2):=by
 unfold lv
 have:o=1∨o=2∨o=3∨o=4∨o=5∨o=6∨o=7∨o=8∨o=9∨o=10∨o=11∨o=12∨o=13∨o=14∨o=15∨o=16∨o=17∨o=18:=by omega
 rcases this with rfl|rfl|rfl|rfl|rfl|rfl|rfl|rfl|rfl|rfl|rfl|rfl|rfl|rfl|rfl|rfl|rfl|rfl<;>simp
theorem aeI {l:List Ty} (h:l.length=1): ∃a,l= [a]:=by match l,h with| [a],_=>exact⟨a,rfl⟩
theorem abe {l:List Ty} (h:l.length=2): ∃a b,l= [a,b]:=by match l,h with| [a,b],_=>exact⟨a,b,rfl⟩
theorem ael {l:List Ty} (h:l.length=3): ∃a b c,l= [a,b,c]:=by match l,h with| [a,b,c],_=>exact⟨a,b,c,rfl⟩
def Ao:Int→List Int→Option (Int×Int)
 |_, []=>none
 |at',x::r=>if x≠0 then some (at',x)else Ao (at'+1) r
theorem Wr: ∀{a:Int},(∀x∈l,x=0)→Ao a l=none:=by
 induction l with
 |nil=>intro a _;rfl
 |cons x r ih=>
  intro a h
  rw[Ao,if_neg (zA5 (h x zC5))]
  exact ih λy hy=>h y (zC3 _ hy)
theorem abH: ∀{a:Int} {k:Nat} (hk:k<l.length),(∀j (h:j<k),l[j]' zR5=0)→l[k]≠0→Ao a l=some (a+k,l[k]):=by
 induction l with
 |nil=>intro a k hk;simp at hk
 |cons x r ih=>
  intro a k hk h1 h2
  cases k with
  |zero=>
   rw[Ao,if_pos zV5]
   simp
  |succ k=>
   rw[Ao,if_neg (zA5 (show x=0 from h1 0 zR5))]
   rw[ih (k:=k) zT7 (λj hj=>h1 (j+1) zR5) zV5]
   simp
   omega
variable {n:Nat}{f:Nat→Int}
theorem o7 (h:k<((List.range n).map f).length):((List.range n).map f)[k]=f k:=by simp
theorem jR {a:Int} (h: ∀j,j<n→f j=0):Ao a ((List.range n).map f)=none:=Wr λx hx=>by
 obtain⟨j,hj,rfl⟩:=zE0.1 hx
 exact h j (zO3.1 hj)
theorem oF {a:Int} (hk:k<n) (h: ∀j,j<k→f j=0) (h2:f k≠0):Ao a ((List.range n).map f)=some (a+k,f k):=by
 have:=abH (l:=(List.range n).map f) (a:=a) (k:=k) zT7 (λj hj=>by rw[o7];exact h j hj) (by rw[o7];exact h2)
 rw[this,o7]
def eD (p:bu) (k:Nat):List ByteArray:=p.sizes++(p.params.take k).map (·.1)
def eh (p:bu) (k:Nat):List ByteArray:=p.sizes++p.params.map (·.1)++(p.defs.take k).map (·.name)
def YD (p:bu) (k:Nat):Int:=match p.sizes[k]? with
 |some s=>aQ (p.sizes.take k) s
 |none=>0
def Dg (p:bu) (k:Nat):Int:=match p.params[k]? with
 |some x=>dX p.sizes (eD p k) x
 |none=>0
def Do (p:bu) (k:Nat):Int:=match p.defs[k]? with
 |some d=>bq p k (eh p k) d
 |none=>0
def Qh (p:bu) (k:Nat):Int:=match p.outs[k]? with
 |some s=>if cY p s=none then 9 else if s∈p.outs.take k then 8 else 0
 |none=>0
def gE (p:bu):Prop:=p.sizes.length≤64∧p.params.length≤64∧p.defs.length≤64∧p.outs.length≤64∧p.wher.length≤256
instance (p:bu):Decidable (gE p):=inferInstanceAs (Decidable (_∧_))
def ow (p:bu):Int:=dz ((List.range p.sizes.length).map (YD p))
def yB (p:bu):Int:=dz (p.wher.map λc=>bL p.sizes c.1)
def bA (p:bu):Int×Int:=
 if ¬gE p then(0,2)else if ow p≠0 then(0,ow p)else if yB p≠0 then(1,yB p)
 else match Ao 2 ((List.range p.params.length).map (Dg p))with
 |some r=>r
 |none=>match Ao (2+p.params.length) ((List.range p.defs.length).map (Do p))with
  |some r=>r
  |none=>match Ao (2+p.params.length+p.defs.length) ((List.range p.outs.length).map (Qh p))with
   |some r=>r
   |none=>(0,0)
section
variable {p : bu}
theorem vg (h: ¬gE p):bA p=(0,2):=if_pos h
variable {x:Int}
theorem Aa (h:gE p) (h1:ow p=x) (hx:x≠0):bA p=(0,x):=by
 unfold bA
 rw[if_neg (zA5 h),h1,if_pos hx]
theorem zX (h:gE p) (h1:ow p=0) (h2:yB p=x) (hx:x≠0):bA p=(1,x):=by
 unfold bA
 rw[if_neg (zA5 h),if_neg (zA5 h1),h2,if_pos hx]
variable {k:Nat}
theorem Cb (h:gE p) (h1:ow p=0) (h2:yB p=0) (hk:k<p.params.length) (h3: ∀j,j<k→Dg p j=0) (h4:Dg p k=x) (hx:x≠0):bA p=((2:Int)+k,x):=by
 unfold bA
 rw[if_neg (zA5 h),if_neg (zA5 h1),if_neg (zA5 h2),oF hk h3 (by rw[h4];exact hx),h4]
theorem Ca (h:gE p) (h1:ow p=0) (h2:yB p=0) (h3: ∀j,j<p.params.length→Dg p j=0) (hk:k<p.defs.length) (h4: ∀j,j<k→Do p j=0) (h5:Do p k=x) (hx:x≠0):bA p=((2:Int)+p.params.length+k,x):=by
 unfold bA
 rw[if_neg (zA5 h),if_neg (zA5 h1),if_neg (zA5 h2),jR h3]
 simp only
 rw[oF hk h4 (by rw[h5];exact hx),h5]
theorem pu (h:gE p) (h1:ow p=0) (h2:yB p=0) (h3: ∀j,j<p.params.length→Dg p j=0) (h4: ∀j,j<p.defs.length→Do p j=0) (hk:k<p.outs.length) (h5: ∀j,j<k→Qh p j=0) (h6:Qh p k=x) (hx:x≠0):
  bA p=((2:Int)+p.params.length+p.defs.length+k,x):=by
 unfold bA
 rw[if_neg (zA5 h),if_neg (zA5 h1),if_neg (zA5 h2),jR h3]
 simp only
 rw[jR h4]
 simp only
 rw[oF hk h5 (by rw[h6];exact hx),h6]
theorem Pa (h:gE p) (h1:ow p=0) (h2:yB p=0) (h3: ∀j,j<p.params.length→Dg p j=0) (h4: ∀j,j<p.defs.length→Do p j=0) (h5: ∀j,j<p.outs.length→Qh p j=0):bA p=(0,0):=by
 unfold bA
 rw[if_neg (zA5 h),if_neg (zA5 h1),if_neg (zA5 h2),jR h3]
 simp only
 rw[jR h4]
 simp only
 rw[jR h5]
theorem UF (h:k<p.sizes.length):YD p k=aQ (p.sizes.take k) p.sizes[k]:=by
 unfold YD
 rw[zA7 h]
theorem QY (h:k<p.params.length):Dg p k=dX p.sizes (eD p k) p.params[k]:=by
 unfold Dg
 rw[zA7 h]
theorem DD (h:k<p.defs.length):Do p k=bq p k (eh p k) p.defs[k]:=by
 unfold Do
 rw[zA7 h]
theorem Rb (h:k<p.outs.length):Qh p k=if cY p p.outs[k]=none then 9 else if p.outs[k]∈p.outs.take k then 8 else 0:=by
 unfold Qh
 rw[zA7 h]
theorem RO (h: ∀j,j<p.sizes.length→YD p j=0):ow p=0:=by
 have key: ∀l:List Int,(∀x∈l,x=0)→dz l=0:=by
  intro l
  induction l with
  |nil=>intro _;rfl
  |cons x r ih=>
   intro h
   rw[dz,if_neg (zA5 (h x zC5))]
   exact ih λy hy=>h y (zC3 _ hy)
 exact key _ λx hx=>by
  obtain⟨j,hj,rfl⟩:=zE0.1 hx
  exact h j (zO3.1 hj)
theorem Ss (hk:k<p.sizes.length) (h: ∀j,j<k→YD p j=0) (h2:YD p k=x) (hx:x≠0):ow p=x:=by
 have hl:k<((List.range p.sizes.length).map (YD p)).length:=by simpa using hk
 have h0:dz (((List.range p.sizes.length).map (YD p)).take k)=0:=by
  have key: ∀l:List Int,(∀x∈l,x=0)→dz l=0:=by
   intro l
   induction l with
   |nil=>intro _;rfl
   |cons x r ih=>
    intro h
    rw[dz,if_neg (zA5 (h x zC5))]
    exact ih λy hy=>h y (zC3 _ hy)
  refine key _ λx hx=> ?_
  obtain⟨j,hj,rfl⟩:=zC2.1 hx
  rw[List.getElem_take,o7]
  exact h j (by simp at hj;omega)
 have:=qk hl h0 (by rw[o7,h2];exact hx)
 unfold ow
 rw[this,o7,h2]
theorem RF (h:k<p.params.length):eD p (k+1)=eD p k++ [p.params[k].1]:=by
 unfold eD
 rw[zB5 h,zC8,zE4]
 rfl
theorem RJ:eD p p.params.length=p.sizes++p.params.map (·.1):=by
 unfold eD
 rw[zB6 (zB2 _)]
theorem Rw:eh p 0=p.sizes++p.params.map (·.1):=by simp[eh]
theorem Sf (h:k<p.defs.length):eh p (k+1)=eh p k++ [p.defs[k].name]:=by
 unfold eh
 rw[zB5 h,zC8,←zE4]
 rfl
theorem Pu (k:Nat) (h:gE p):(eD p k).length≤128∧(eh p k).length≤192:=by
 obtain⟨h1,h2,h3,_⟩:=h
 unfold eD eh
 simp
 omega
end
def cd (p:bu) (k:Nat):bu:={p with wher:= [],defs:=p.defs.take k,outs:= []}
theorem Hi {p:bu} (h:iD p) (k:Nat):iD (cd p k):=⟨h.1,λd hd=>h.2 d (List.mem_of_mem_take hd)⟩
def m9 (p:bu):Prop:= ∀d∈p.defs,∀a∈d.body.pre,bD a.val
abbrev KL:=List (ByteArray×Int)
def Kb (K:KL):List (MK×List PC):=K.map λx=>(MK.str x.1.data.toList, [pI x.2])
def lA (K:KL):List (MK×List AC):=K.map λx=>(MK.str x.1.data.toList, [.pure (pI x.2)])
def lh:KL→ByteArray→Option Int
 | [],_=>none
 |(a,k)::r,s=>if a=s then some k else lh r s
def CC:KL→ByteArray→Int→KL
 | [],s,k=> [(s,k)]
 |(a,j)::r,s,k=>if a=s then(s,k)::r else(a,j)::CC r s k
def xi (K:KL) (s:ByteArray):Int:=(lh K s).getD 0
variable {s:ByteArray}
theorem sm {a:ByteArray}:(MK.str a.data.toList=MK.str s.data.toList)↔a=s:=by
 constructor
 ·intro h
  have h1:a.data.toList=s.data.toList:=by injection h
  obtain⟨⟨a⟩⟩:=a
  obtain⟨⟨s⟩⟩:=s
  simp only at h1
  rw[h1]
 ·intro h;rw[h]
theorem LX (K:KL):qI (Kb K)=lA K:=by simp[qI,Kb,lA,zL1,zH3]
theorem vI (s:ByteArray): ∀K:KL,iv (lA K) (.str s.data.toList)=(lh K s).map λk=> [.pure (pI k)]
 | []=>rfl
 |(a,k)::r=>by
  have ih:=vI s r
  simp only[lA,zB8,iv,lh]at ih ⊢
  by_cases h:a=s
  ·rw[if_pos (sm.2 h),if_pos h];rfl
  ·rw[if_neg (λe=>h (sm.1 e)),if_neg h,ih]
theorem VF {mem:List (Nat×bP)}: ∀K:KL,lB mem none (lA K)=some (Kb K)
 | []=>rfl
 |x::r=>by
  have ih:=VF (mem:=mem) r
  simp only[lA,Kb,zB8,lB,pZ,co]at ih ⊢
  rw[ih]
theorem PZ (s:ByteArray) (k:Int): ∀K:KL,DS (lA K) (.str s.data.toList) [.pure (pI k)]=lA (CC K s k)
 | []=>rfl
 |(a,j)::r=>by
  have ih:=PZ s k r
  simp only[lA,zB8,DS,CC]at ih ⊢
  by_cases h:a=s
  ·rw[if_pos (sm.2 h),if_pos h];rfl
  ·rw[if_neg (λe=>h (sm.1 e)),if_neg h,ih];rfl
theorem WB (K:KL) (s s':ByteArray) (k:Int):lh (CC K s k) s'=if s=s' then some k else lh K s':=by
 induction K with
 |nil=>simp[CC,lh]
 |cons x r ih=>
  obtain⟨a,j⟩:=x
  simp only[CC]
  by_cases h:a=s
  ·subst h
   rw[if_pos rfl]
   simp only[lh]
   by_cases h2:a=s'<;>simp[h2]
  ·rw[if_neg h]
   simp only[lh,ih]
   by_cases h2:a=s'
   ·subst h2
    rw[if_pos rfl,if_neg (λe=>h e.symm),if_pos rfl]
   ·rw[if_neg h2,if_neg h2]
theorem Z0 (K:KL) (s s':ByteArray) (k:Int):xi (CC K s k) s'=if s=s' then k else xi K s':=by
 unfold xi
 rw[WB]
 split<;>rfl
theorem LK (s:ByteArray):xi [] s=0:=rfl
variable {K:KL}
theorem kj {k:Int} (h:lh K s=some k):xi K s=k:=by unfold xi;rw[h];rfl
theorem qM (h:lh K s=none):xi K s=0:=by unfold xi;rw[h];rfl
def na (K:KL) (k:Int):List ByteArray→KL
 | []=>K
 |s::r=>na (CC K s k) k r
theorem Mo (k:Int): ∀(l r:List ByteArray) (K:KL),na K k (l++r)=na (na K k l) k r
 | [],r,K=>rfl
 |s::l,r,K=>by
  simp only[zD2,na]
  exact Mo k l r _
theorem Fo {k:Int} {l:List ByteArray} {i:Nat} (h:i<l.length):na K k (l.take (i+1))=CC (na K k (l.take i)) l[i] k:=by
 rw[zB5 h,Mo]
 rfl
theorem uq {k:Int} (s:ByteArray): ∀(l:List ByteArray) (K:KL),xi (na K k l) s=if s∈l then k else xi K s
 | [],K=>by simp[na]
 |a::l,K=>by
  rw[na,uq s l,Z0]
  by_cases h:s∈l
  ·rw[if_pos h,if_pos (zC3 _ h)]
  ·rw[if_neg h]
   by_cases h2:a=s
   ·rw[if_pos h2,if_pos (by rw[h2];exact zC5)]
   ·rw[if_neg h2,if_neg]
    intro hm
    rcases zD7.1 hm with rfl|hm
    ·exact h2 rfl
    ·exact h hm
set_option maxRecDepth 20000
set_option maxRecDepth 1000000
open Go.Abs Go.RowKit
theorem YC (n:Nat) (hn:n≤1000000) (w:World):Calls Pa0 160 #[.slice none 0 0,.int .i64 n] w λen w'=>
  ∃v cells,en= .returned v∧w'.ownsRow w.heap.size 113 3 v 0 cells∧cells= []∧Below w.heap.size w w':=by
 have X:(n:Int)≤1000000:=by omega
 by_cases h0:n=0
 ·subst h0
  go_enter Tryz.func160,Tryz.ntmps160
  go_wp2
  go_ret
  exact⟨_, [],rfl,World.ownsRow_nil _ _ _ _,rfl,Below.refl _ _⟩
 ·have h1: ¬((n:Int)<0):=by omega
  have h2:(0:Int)<n:=by omega
  have F:Tryz.t113.bytes=48:=by kernel_rfl
  have T: ¬281474976710656<Builtin.nextslicecap n 0*Tryz.t113.bytes:=by
   have:=growslice_fits (need:=n) (old:=0) (bytes:=Tryz.t113.bytes) zR5 (by rw[F];omega)
   omega
  have P: ¬(281474976710656:Int)<(n:Int)*Tryz.t113.bytes:=by rw[F];omega
  have h3: ¬n*3=0:=by omega
  have h9:(n:Int)≤9223372036854775807:=by omega
  have h5:0<n:=by omega
  go_enter Tryz.func160,Tryz.ntmps160
  go_wp2
  go_ret
  have Y:n≤(Question.appendCap n 0 113).cut (w.tape w.drawn (Question.appendCap n 0 113)):=grownCap_ge w n 0 _
  have Q:(Question.appendCap n 0 113).cut (w.tape w.drawn (Question.appendCap n 0 113))≤maxLen:=grownCap_le_maxLen w n 0 _ (by unfold maxLen;omega)
  generalize (Question.appendCap n 0 113).cut (w.tape w.drawn (Question.appendCap n 0 113))=cap at*
  refine⟨_,rfl, [],⟨by simp,.inr ⟨w.heap.size,cap,_,rfl,zB2 _,World.alloc_heap_new w _,by omega,Q, ?_,by simp⟩⟩,rfl, ?_⟩
  ·simp[QI]
   omega
  ·exact((Below.refl _ w).alloc (zB2 _) _).drew
theorem XN (n:Nat) (hn:n≤1000000) (mem:List (Nat×bP)) (nx:Nat):bJ Pa0 160 [.c .nils,I n] mem nx (.c (.ref nx)) ((nx,.arr 113 3 [])::mem) (nx+1):=by
 refine⟨⟨_,Tryz.func160,rfl,by kernel_rfl⟩,λw0 U ι w vs hs hr=> ?_⟩
 have hB:=hs.below.size
 obtain⟨vs⟩:=vs
 cases hr with
 |cons h1 t=>cases t with
  |cons h2 t=>
   cases t
   have e1:=tX h1
   have e2:=(aU h2).1
   subst e1 e2
   refine(YC n hn w).mono ?_
   rintro en w' ⟨v,cells,rfl,z,rfl,G⟩
   obtain⟨ι',k1,k2,k3,k4⟩:=hs.newBox (pv:=v) (bx:= .arr 113 3 []) G (λb hb=>by
    rcases z.2 with⟨e,_⟩|⟨g,cap,cur,e,hg,_⟩
    ·rw[e]at hb;cases hb
    ·rw[e]at hb
     simp[fE]at hb
     omega) (λι' e1 e2 R=>⟨[],by decide,by rw[e2];exact Dq z hB,by simp,cZ.nil⟩)
   refine⟨v,ι',rfl,k1, ?_⟩
   rw[←k2]
   refine .c (.ref (zF6 _) ?_)
   rw[k2]
   rcases z.2 with⟨e,_⟩|⟨g,cap,cur,e,_⟩
   ·exact⟨_,_,_,e⟩
   ·exact⟨_,_,_,e⟩
theorem MF (a b:List iF) (ha:a.length≤1000) (Z:b.length≤1000):ac Pa0 du [.c (.pure (.slice [[dp gw a], [dp gw b]]))] (bF gw (a++b)):=by
 refine ac.of jM zR6 λhb=>aa ?_
 conv in eS=>cbv
 repeat' first|simp(disch:=omega)only[go_sem, *]|apply ab<;>intro h<;>try omega
 refine al (λk:Nat=>⟨[(11,I k),(10,I 2),(9,.c (.pure (.slice [[dp gw a], [dp gw b]]))),(3,I (if k=0 then 0 else if k=1 then a.length else a.length+b.length:Nat)),(0,.c (.pure (.slice [[dp gw a], [dp gw b]])))], [],0,0⟩) (λk=>k≤2) (λk=>2-k) ⟨0, [],by omega,by simp⟩ ?_
 intro k hk
 refine aa ?_
 have C:k=0∨k=1∨k=2:=by omega
 rcases C with rfl|rfl|rfl
 ·repeat' first|simp(disch:=omega)only[go_sem, *,wrap_i64]|apply ab<;>intro h<;>try omega
  exact⟨1, [],by omega,by omega,by simp⟩
 ·repeat' first|simp(disch:=omega)only[go_sem, *,wrap_i64]|apply ab<;>intro h<;>try omega
  exact⟨2, [],by omega,by omega,by simp⟩
 ·repeat' first|simp(disch:=omega)only[go_sem, *,wrap_i64]|apply ab<;>intro h<;>try omega|refine bN (XN (a.length+b.length) zR5 _ _) ?_
  refine al (λk:Nat=>⟨[(27,I k),(26,I 2),(25,.c (.pure (.slice [[dp gw a], [dp gw b]]))),(6,.c (.ref 0))], [(0,.arr 113 3 ((if k=0 then []else if k=1 then a else a++b).map gw))],1,0⟩) (λk=>k≤2) (λk=>2-k) ⟨0, [],by omega,by simp⟩ ?_
  intro k hk
  refine aa ?_
  have C:k=0∨k=1∨k=2:=by omega
  rcases C with rfl|rfl|rfl
  ·repeat' first|simp(disch:=omega)only[go_sem, *,wrap_i64]|apply ab<;>intro h<;>try omega|refine aP rfl zS0 (aD λx=>rfl) zR8 zR8 ?_
   exact⟨1, [(0,1)],by omega,by omega,by simp⟩
  ·repeat' first|simp(disch:=omega)only[go_sem, *,wrap_i64]|apply ab<;>intro h<;>try omega|refine aP rfl zS0 (aD λx=>rfl) zR8 zR8 ?_
   exact⟨2, [(0,1)],by omega,by omega,by simp⟩
  ·exact zY1
end
end Go.Proofs.YtigdjhnndaokjaaGreatDoor
