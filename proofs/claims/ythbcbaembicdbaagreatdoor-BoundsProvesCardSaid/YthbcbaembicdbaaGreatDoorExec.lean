import Derived.Test.YthbcbaembicdbaaGreatDoorAbsQ
set_option linter.unusedVariables false
set_option linter.unusedSimpArgs false
namespace Go.Abs
open Go.RowKit
noncomputable section
abbrev abA:=Bool→FuncId→List AV→Option AV
abbrev abn:=FuncId→List AV→List (Nat×bc)→Nat→Option (AV×List (Nat×bc)×Nat)
def rh {α:Type} (b:Bool) (r:Option α):Option α:=match b with
 |true=>r
 |false=>none
theorem aY {α:Type} {b:Bool} {r:Option α} {x:α}:rh b r=some x↔b=true∧r=some x:=by cases b<;>simp[rh]
theorem Tg {a b:Nat}:Nat.beq a b=decide (a=b):=by
 by_cases h:a=b
 ·rw[decide_eq_true h,h];exact Nat.beq_refl b
 ·rw[decide_eq_false h]
  cases e:Nat.beq a b
  ·rfl
  ·exact absurd (Nat.eq_of_beq_eq_true e) h
def uN (fr:List (Nat×AV)) (n:Nat):AV:=List.rec (motive:=fun _=>AV) .top (fun x _ ih=>Bool.rec ih x.2 (Nat.beq x.1 n)) fr
theorem nE {n:Nat}: ∀{fr:List (Nat×AV)},uN fr n=aN fr n
 | []=>rfl
 |(m,v)::r=>by
  refine(show uN ((m,v)::r) n=Bool.rec (motive:=fun _=>AV) (uN r n) v (Nat.beq m n)from rfl).trans ?_
  unfold aN
  rw[Tg,nE]
  by_cases e:m=n<;>simp[e]
def ml (fr:List (Nat×AV)):AX→AV
 | .t n=>uN fr n
 | .k v=>v
theorem nN {fr:List (Nat×AV)} {x:AX}:ml fr x=x.ev fr:=by
 cases x with
 |t n=>exact nE
 |k v=>rfl
def pz (mem:List (Nat×bc)) (n:Nat):Option bc:=List.rec (motive:=fun _=>Option bc) none (fun x _ ih=>Bool.rec ih (some x.2) (Nat.beq x.1 n)) mem
theorem iz {n:Nat}: ∀{mem:List (Nat×bc)},pz mem n=am mem n
 | []=>rfl
 |(m,v)::r=>by
  refine(show pz ((m,v)::r) n=Bool.rec (motive:=fun _=>Option bc) (pz r n) (some v) (Nat.beq m n)from rfl).trans ?_
  unfold am
  rw[Tg,iz]
  by_cases e:m=n<;>simp[e]
def SE (mem:List (Nat×bc)) (n:Nat) (c:bc):List (Nat×bc):=List.rec (motive:=fun _=>List (Nat×bc)) [] (fun x r ih=>Bool.rec (x::ih) ((x.1,c)::r) (Nat.beq x.1 n)) mem
theorem Sk {n:Nat} {c:bc}: ∀{mem:List (Nat×bc)},SE mem n c=dJ mem n c
 | []=>rfl
 |(m,v)::r=>by
  refine(show SE ((m,v)::r) n c=Bool.rec (motive:=fun _=>List (Nat×bc)) ((m,v)::SE r n c) ((m,c)::r) (Nat.beq m n)from rfl).trans ?_
  unfold dJ
  rw[Tg,Sk]
  by_cases e:m=n<;>simp[e]
def UV (mem:List (Nat×bc)) (n:Nat):List (Nat×bc):=List.rec (motive:=fun _=>List (Nat×bc)) [] (fun x _ ih=>Bool.rec (x::ih) ih (Nat.beq x.1 n)) mem
theorem L0 {n:Nat}: ∀{mem:List (Nat×bc)},UV mem n=mz mem n
 | []=>rfl
 |(m,v)::r=>by
  refine(show UV ((m,v)::r) n=Bool.rec (motive:=fun _=>List (Nat×bc)) ((m,v)::UV r n) (UV r n) (Nat.beq m n)from rfl).trans ?_
  unfold mz
  rw[Tg,L0]
  by_cases e:m=n<;>simp[e]
def Ru (mem:List (Nat×bc)):AC→Option (List AC)
 |.ptr nm off=>match pz mem nm with
  |some (.var xs)=>some (xs.drop off)
  |_=>none
 | .cptr cells=>some (cells.map .pure)
 |.eptr nm sz row off=>match pz mem nm with
  |some (.arr _ sz' rows)=>if sz=sz' then(rows[row]?).map fun r=>(r.drop off).map .pure else none
  |some (.arn _ sz' rows)=>if sz=sz' then(rows[row]?).map fun r=>r.drop off else none
  |_=>none
 |_=>none
theorem MG {mem:List (Nat×bc)} {q:AC}:Ru mem q=bR mem q:=by
 cases q<;>simp only[Ru,bR,iz]<;>rfl
def RP (mem:List (Nat×bc)):AV→Option (List (List PC))
 | .c (.pure (.slice rows))=>some rows
 | .c (.tsl rows)=>some rows
 | .c .nils=>some []
 |.c (.ref nm)=>match pz mem nm with
  |some (.arr _ _ rows)=>some rows
  |_=>none
 |_=>none
theorem t8 {mem:List (Nat×bc)} {v:AV}:RP mem v=fe mem v:=by
 unfold RP fe
 simp only[iz]
 rfl
def C4 (k:IntKind) (n:Int):Int:=match k,n with
 |.i64,.ofNat a=>match Nat.ble a 9223372036854775807 with
  |true=> .ofNat a
  |false=>IntKind.wrap .i64 (.ofNat a)
 |.i64,.negSucc a=>match Nat.ble a 9223372036854775807 with
  |true=> .negSucc a
  |false=>IntKind.wrap .i64 (.negSucc a)
 |.u64,.ofNat a=>match Nat.ble a 18446744073709551615 with
  |true=> .ofNat a
  |false=>IntKind.wrap .u64 (.ofNat a)
 |k,n=>k.wrap n
theorem E9 {k:IntKind} {n:Int}:C4 k n=k.wrap n:=by
 unfold C4
 split
 ·split
  ·rename_i a h
   have:=Nat.le_of_ble_eq_true h
   exact(wrap_i64 (by simp only[Int.ofNat_eq_natCast];omega)).symm
  ·rfl
 ·split
  ·rename_i a h
   have:=Nat.le_of_ble_eq_true h
   exact(wrap_i64 (by rw[Int.negSucc_eq];omega)).symm
  ·rfl
 ·split
  ·rename_i a h
   have:=Nat.le_of_ble_eq_true h
   exact(wrap_u64 (by simp only[Int.ofNat_eq_natCast];omega)).symm
  ·rfl
 ·rfl
def ZM:List UInt8→List UInt8→Bool
 | [], []=>true
 |x::xs,y::ys=>match Nat.beq x.toNat y.toNat with
  |true=>ZM xs ys
  |false=>false
 |_,_=>false
theorem Av: ∀{a b:List UInt8},ZM a b=true↔a=b
 | [], []=>by simp[ZM]
 | [],_::_=>by simp[ZM]
 |_::_, []=>by simp[ZM]
 |x::xs,y::ys=>by
  unfold ZM
  rw[Tg]
  by_cases e:x.toNat=y.toNat
  ·have e':x=y:=UInt8.toNat_inj.1 e
   simp[e',Av]
  ·have e': ¬x=y:=fun h=>e (by rw[h])
   simp[e,e']
def ktB:KT→KT→Bool
 | .int a,.int b=>decide (a=b)
 | .str,.str=>true
 | .bool,.bool=>true
 |_,_=>false
theorem Mb {a b:KT} (h:ktB a b=true):a=b:=by cases a<;>cases b<;>simp_all [ktB]
def Fk:List ET→List AC→List AC→Bool
 | [], [], []=>true
 | .int k::l,.pure (.val (.int k1 _))::xs,.pure (.val (.int k2 _))::ys=>decide (k1=k)&&decide (k2=k)&&Fk l xs ys
 | .str::l,.pure (.val (.string _))::xs,.pure (.val (.string _))::ys=>Fk l xs ys
 | .bool::l,.pure (.val (.bool _))::xs,.pure (.val (.bool _))::ys=>Fk l xs ys
 |_,_,_=>false
theorem Wb: ∀{l:List ET} {xs ys:List AC},Fk l xs ys=true→sr l xs ys:=by
 intro l xs ys
 induction l,xs,ys using Fk.induct<;>simp_all [Fk,sr]
def EU:List AC→List AC→Bool
 | .pure (.val (.int _ a))::xs,.pure (.val (.int _ b))::ys=>decide (a=b)&&EU xs ys
 | .pure (.val (.string a))::xs,.pure (.val (.string b))::ys=>ZM a.data.toList b.data.toList&&EU xs ys
 | .pure (.val (.bool a))::xs,.pure (.val (.bool b))::ys=>(a==b)&&EU xs ys
 |_,_=>true
theorem O0: ∀{xs ys:List AC},EU xs ys=true↔Dw xs ys:=by
 intro xs ys
 induction xs,ys using EU.induct with
 |case1 a xs b ys ih=>simp_all [EU,Dw]
 |case2 a xs b ys ih=>
  obtain⟨a⟩:=a
  obtain⟨b⟩:=b
  simp_all [EU,Dw,Array.toList_inj,Av]
 |case3 a xs b ys ih=>simp_all [EU,Dw]
 |case4 xs ys h1 h2 h3=>
  unfold EU Dw
  split
  ·exact absurd rfl (h1 _ _ _ _ _ _ rfl)
  ·exact absurd rfl (h2 _ _ _ _ rfl)
  ·exact absurd rfl (h3 _ _ _ _ rfl)
  ·simp
theorem Wi {xs ys:List AC}:BI (Dw xs ys)=EU xs ys:=by
 unfold BI
 cases h:EU xs ys
 ·simp[←O0,h]
 ·simp[←O0,h]
def wj (a b:ByteArray):Bool:=ZM a.data.toList b.data.toList
theorem Q8 {a b:ByteArray}:(a.toList==b.toList)=wj a b:=by
 rw[ByteArray.toList_eq,ByteArray.toList_eq]
 by_cases h:a.data.toList=b.data.toList
 ·rw[wj,Av.2 h,beq_iff_eq];exact h
 ·rw[wj,Bool.eq_false_iff.2 fun e=>h (Av.1 e),beq_eq_false_iff_ne];exact h
def Zn (op:BinOp) (k:IntKind) (a b:Int):Option Value:=match op with
 | .add=>some (.int k (C4 k (a+b)))
 | .sub=>some (.int k (C4 k (a-b)))
 | .mul=>some (.int k (C4 k (a*b)))
 | .quo=>rh (decide (b≠0)) (some (.int k (C4 k (a.tdiv b))))
 | .rem=>rh (decide (b≠0)) (some (.int k (a.tmod b)))
 | .and=>some (.int k (k.wrap (BitVec.ofInt k.bits a&&&BitVec.ofInt k.bits b).toNat))
 | .or=>some (.int k (k.wrap (BitVec.ofInt k.bits a|||BitVec.ofInt k.bits b).toNat))
 | .eql=>some (.bool (a==b))
 | .neq=>some (.bool (a !=b))
 | .lss=>some (.bool (decide (a<b)))
 | .leq=>some (.bool (decide (a≤b)))
 | .gtr=>some (.bool (decide (a>b)))
 | .geq=>some (.bool (decide (a≥b)))
 |_=>none
def Zo (op:BinOp) (a b:ByteArray):Option Value:=match op with
 | .add=>rh (decide (a.size+b.size≤9223372036854775807)) (some (.string (a++b)))
 | .eql=>some (.bool (wj a b))
 | .neq=>some (.bool (!wj a b))
 | .lss=>some (.bool (Op.bytesLess a.data.toList b.data.toList))
 | .leq=>some (.bool (Op.bytesLess a.data.toList b.data.toList||wj a b))
 | .gtr=>some (.bool (!(Op.bytesLess a.data.toList b.data.toList||wj a b)))
 | .geq=>some (.bool (!(Op.bytesLess a.data.toList b.data.toList)))
 |_=>none
def aaP (op:BinOp):Value→Value→Option Value
 | .int k a,.int k' b=>rh (decide (k=k')) (Zn op k a b)
 | .string a,.string b=>Zo op a b
 |_,_=>none
def aam (op:BinOp):Value→Value→Option Value
 |.int k a,.int _ b=>rh (decide (0≤b)) (match op with
  | .shl=>some (.int k (k.wrap (a*2^(min b.toNat k.bits))))
  | .shr=>some (.int k (a.fdiv (2^(min b.toNat k.bits))))
  |_=>none)
 |_,_=>none
theorem HX {op:BinOp} {x y r:Value} {K:Value→Prop} (h:aam op x y=some r) (hk:K r):nS op x y K:=by
 unfold aam at h
 split at h
 ·replace h:=aY.1 h;obtain⟨h1,h⟩:=h
  refine⟨of_decide_eq_true h1, ?_⟩
  cases op<;>cases h<;>exact hk
 ·cases h
theorem Qu {op:BinOp} {x y r:Value} {K:Value→Prop} (h:aaP op x y=some r) (hk:K r):CK op x y K:=by
 unfold aaP at h
 simp only[Zn,Zo]at h
 split at h
 ·replace h:=aY.1 h;obtain⟨h1,h⟩:=h
  refine⟨of_decide_eq_true h1, ?_⟩
  cases op<;>simp only[aY,Option.some.injEq,reduceCtorEq,decide_eq_true_iff]at h
  case quo=>obtain⟨h1,rfl⟩:=h;exact⟨h1,by rw[E9]at hk;exact hk⟩
  case rem=>obtain⟨h1,rfl⟩:=h;exact⟨h1,hk⟩
  all_goals(subst h;first|exact hk|(rw[E9]at hk;exact hk))
 ·cases op<;>simp only[aY,Option.some.injEq,reduceCtorEq,decide_eq_true_iff]at h
  case add=>obtain⟨h1,rfl⟩:=h;exact⟨h1,hk⟩
  all_goals(subst h;simp only[←Q8,←ByteArray.toList_eq]at hk;exact hk)
 ·cases h
def L4 (σ:St):List (Nat×Nat×AX)→List AC→Option (List AC)
 | [],acc=>some acc
 |(off,n,x)::r,acc=>match (ml σ.fr x).cells with
  |some ys=>rh (decide (ys.length=n)&&decide (off+n≤acc.length)) (L4 σ r (over acc off ys))
  |none=>none
theorem AE {σ:St} {K:List AC→Prop}: ∀{ps:List (Nat×Nat×AX)} {acc xs:List AC},L4 σ ps acc=some xs→K xs→bD.buildW σ ps acc K
 | [],acc,xs,h,hk=>by cases h;exact hk
 |(off,n,x)::r,acc,xs,h,hk=>by
  unfold L4 at h
  simp only[nN]at h
  unfold bD.buildW
  split at h
  ·rename_i ys e
   replace h:=aY.1 h;obtain⟨h1,h⟩:=h
   rw[e]
   simp only[Bool.and_eq_true,decide_eq_true_iff]at h1
   exact⟨h1,AE h hk⟩
  ·cases h
def XR (σ:St) (sz:Nat):List AX→List (List PC)→Option (List (List PC))
 | [],acc=>some acc
 |x::r,acc=>match (ml σ.fr x).cells with
  |some ys=>match IY ys with
   |some zs=>rh (decide (ys.length=sz)) (XR σ sz r (acc++ [zs]))
   |none=>none
  |none=>none
theorem G8 {σ:St} {sz:Nat} {K:List (List PC)→Prop}: ∀{l:List AX} {acc xs:List (List PC)},XR σ sz l acc=some xs→K xs→bD.bsliceW σ sz l acc K
 | [],acc,xs,h,hk=>by cases h;exact hk
 |x::r,acc,xs,h,hk=>by
  unfold XR at h
  simp only[nN]at h
  unfold bD.bsliceW
  split at h
  ·rename_i ys e
   split at h
   ·rename_i zs e2
    replace h:=aY.1 h;obtain⟨h1,h⟩:=h
    rw[e]
    exact⟨zs,e2,of_decide_eq_true h1,G8 h hk⟩
   ·cases h
  ·cases h
def Sr (σ:St) (sz:Nat):List AX→List (Nat×bc)→List (List PC)→Option (List (List PC)×List (Nat×bc))
 | [],mem,acc=>some (acc,mem)
 |x::r,mem,acc=>match (ml σ.fr x).cells with
  |some ys=>match FS mem ys with
   |some z=>rh (decide (ys.length=sz)) (Sr σ sz r z.2 (acc++ [z.1]))
   |none=>none
  |none=>none
theorem Dr {σ:St} {sz:Nat} {K:List (List PC)→List (Nat×bc)→Prop}: ∀{l:List AX} {mem:List (Nat×bc)} {acc:List (List PC)} {xs:List (List PC)×List (Nat×bc)},Sr σ sz l mem acc=some xs→K xs.1 xs.2→bD.bsliceFW σ sz l mem acc K
 | [],mem,acc,xs,h,hk=>by cases h;exact hk
 |x::r,mem,acc,xs,h,hk=>by
  unfold Sr at h
  simp only[nN]at h
  unfold bD.bsliceFW
  split at h
  ·rename_i ys e
   split at h
   ·rename_i zs e2
    replace h:=aY.1 h;obtain⟨h1,h⟩:=h
    rw[e]
    exact⟨zs,e2,of_decide_eq_true h1,Dr h hk⟩
   ·cases h
  ·cases h
def So (σ:St):List AX→List AC→Option (List AC)
 | [],acc=>some acc
 |x::r,acc=>match ml σ.fr x with
  | .c y=>So σ r (acc++ [y])
  |_=>none
theorem DE {σ:St} {K:List AC→Prop}: ∀{l:List AX} {acc xs:List AC},So σ l acc=some xs→K xs→bD.mkfnW σ l acc K
 | [],acc,xs,h,hk=>by cases h;exact hk
 |x::r,acc,xs,h,hk=>by
  unfold So at h
  simp only[nN]at h
  unfold bD.mkfnW
  split at h
  ·rename_i y e
   rw[e]
   exact DE h hk
  ·cases h
def M2 (sz:Nat) (rows:List (List PC)):Bool:=rows.all fun r=>r.length==sz
theorem A0 {sz:Nat} {rows:List (List PC)} (h:M2 sz rows=true):bl sz rows:=fun r hr=>by
 have:=List.all_eq_true.1 h r hr
 simpa using this
def To (bytes n:Nat):Bool:=decide (n*bytes≤140737488355328)&&decide (n≤140737488355328)
def Zc (e sz bytes:Nat) (x y:AV) (ys:List (List PC)) (σ:St):Option (AV×St):=
 rh (M2 sz ys) (match x with
 |.c (.ref nm)=>match pz σ.mem nm with
  |some (.arr e' sz' rows)=>rh (decide (e'=e)&&decide (sz'=sz)&&To bytes (rows.length+ys.length)&&(match y with| .c (.ref m)=>decide (m≠nm)|_=>true))
   (some (.c (.ref σ.nx),{σ with mem:=(σ.nx,.arr e sz (rows++ys))::UV σ.mem nm,nx:=σ.nx+1}))
  |_=>none
 | .c .nils=>rh (To bytes (([]:List (List PC)).length+ys.length)) (some (.c (.ref σ.nx),{σ with mem:=(σ.nx,.arr e sz ([]++ys))::σ.mem,nx:=σ.nx+1}))
 |.c (.tsl rows)=>match ys with
  | []=>rh (M2 sz rows) (some (.c (.tsl rows),σ))
  |_=>rh (M2 sz rows&&To bytes (rows.length+ys.length)) (some (.c (.ref σ.nx),{σ with mem:=(σ.nx,.arr e sz (rows++ys))::σ.mem,nx:=σ.nx+1}))
 |_=>none)
theorem QF {e sz bytes:Nat} {x y:AV} {ys:List (List PC)} {σ σ':St} {v:AV} {K:nR (AV→St→Prop)} (h:Zc e sz bytes x y ys σ=some (v,σ')) (hk:K.out v σ'): @Eb e sz bytes x y ys σ K:=by
 unfold Zc at h
 simp only[iz,L0]at h
 replace h:=aY.1 h;obtain⟨h0,h⟩:=h
 refine⟨A0 h0, ?_⟩
 split at h
 ·rename_i nm
  split at h
  ·rename_i e' sz' rows ef
   replace h:=aY.1 h;obtain⟨h1,h⟩:=h
   simp only[Bool.and_eq_true,decide_eq_true_iff,To]at h1
   obtain⟨⟨⟨rfl,rfl⟩,h2,h3⟩,h4⟩:=h1
   cases h
   refine .inl ⟨nm,rfl, ?_,rows,ef,h2,h3,hk⟩
   rintro rfl
   simp at h4
  ·cases h
 ·replace h:=aY.1 h;obtain⟨h1,h⟩:=h
  simp only[Bool.and_eq_true,decide_eq_true_iff,To]at h1
  cases h
  exact .inr (.inl ⟨rfl,.inl ⟨h1.1,h1.2,hk⟩⟩)
 ·rename_i rows
  split at h
  ·replace h:=aY.1 h;obtain⟨h1,h⟩:=h
   cases h
   exact .inr (.inr ⟨rows,rfl,A0 h1,.inr (.inr ⟨rfl,hk⟩)⟩)
  ·rename_i hne
   replace h:=aY.1 h;obtain⟨h1,h⟩:=h
   simp only[Bool.and_eq_true,decide_eq_true_iff,To]at h1
   cases h
   exact .inr (.inr ⟨rows,rfl,A0 h1.1,.inl ⟨fun e=>hne e,h1.2.1,h1.2.2,hk⟩⟩)
 ·cases h
structure dL where
 p:abA
 i:abn
 nz:FuncId→Bool
def abZ (n:Nat) (l:List Nat):List Nat:=if l.contains n then l else l++ [n]
def ZQ (l:List Nat):AC→List Nat
 | .ref n=>abZ n l
 |_=>l
def RY:List AV→List Nat→List Nat
 | [],l=>l
 | .c x::r,l=>RY r (ZQ l x)
 | .agg xs::r,l=>RY r (xs.foldl ZQ l)
 |_::r,l=>RY r l
def Vb (E:dL) (z:Bool) (f:FuncId) (σ:St) (args:List AV):List Nat:=match z with
 |true=>match E.nz f with
  |true=> []
  |false=>RY args []
 |false=> []
def Zy (E:dL) (g:Bool) (f:FuncId) (args:List AV) (σ:St):Option AV:=
 match bG σ.mem args with
 |some ps=>match E.p g f ps with
  |some r=>match oS r||args.all fS with
   |true=>some r
   |false=>none
  |none=>none
 |none=>none
def VR (E:dL) (g z:Bool) (f:FuncId) (args:List AV) (σ:St):Option (AV×St):=
 match aR (Vb E z f σ args) σ args with
 |(σ,args)=>match Zy E (g&&(E.nz f|| !args.all fS)) f args σ with
  |some r=>some (r,σ)
  |none=>match g with
   |true=>match E.i f args σ.mem σ.nx with
    |some (r,m,n)=>some (r,{σ with mem:=m,nx:=n})
    |none=>none
   |false=>none
theorem OB {P:Program} {E:dL} (hP: ∀g f as r,E.p g f as=some r→ac P f as r) (hI: ∀f as m n r m' n',E.i f as m n=some (r,m',n')→au P f as m n r m' n')
  {g z:Bool} {f:FuncId} {args:List AV} {σ σ':St} {v:AV} {K:nR (AV→St→Prop)} (h:VR E g z f args σ=some (v,σ')) (hk:K.out v σ'): @sU P g z f args σ K:=by
 unfold VR at h
 split at h
 rename_i σ1 J0 e0
 refine⟨Vb E z f σ args,σ1,J0, ?_,e0, ?_⟩
 ·unfold Vb
  split
  ·exact .inr rfl
  ·exact .inl rfl
 split at h
 ·rename_i r e
  cases h
  unfold Zy at e
  split at e
  ·rename_i ps e2
   split at e
   ·rename_i r' e3
    split at e
    ·rename_i e4
     cases e
     refine .inl ⟨ps,e2,_,.inl ⟨hP _ _ _ _ e3, ?_⟩,hk⟩
     simpa using e4
    ·cases e
   ·cases e
  ·cases e
 ·split at h
  ·split at h
   ·rename_i r m n e
    cases h
    exact .inr ⟨rfl,_,_,_,hI _ _ _ _ _ _ _ e,hk⟩
   ·cases h
  ·cases h
def abi (E:dL) (σ:St) (x:AX):Option (AV×St):=some (ml σ.fr x,σ)
def U3 (E:dL) (σ:St) (c a b:AX):Option (AV×St):=match ml σ.fr c with
 | .c (.pure (.val (.bool true)))=>some (ml σ.fr a,σ)
 | .c (.pure (.val (.bool false)))=>some (ml σ.fr b,σ)
 |_=>none
def KN (E:dL) (σ:St) (x:AX):Option (AV×St):=match (ml σ.fr x).cells with
 |some xs=>some (.c (.ptr σ.nx 0),{σ with mem:=(σ.nx,.var xs)::σ.mem,nx:=σ.nx+1})
 |none=>none
def UW (E:dL) (σ:St) (n:Option Nat) (p:AX):Option (AV×St):=match ml σ.fr p with
 |.c q=>match Ru σ.mem q with
  |some xs=>match n with
   |none=>match xs with
    |x::_=>some (.c x,σ)
    | []=>none
   |some n=>rh (decide (n≤xs.length)) (some (.agg (xs.take n),σ))
  |none=>none
 |_=>none
def Sj (E:dL) (σ:St) (n:Nat) (p v:AX):Option (AV×St):=match (ml σ.fr v).cells with
 |some ys=>match ml σ.fr p with
  |.c (.ptr nm off)=>match pz σ.mem nm with
   |some (.var xs)=>rh (decide (ys.length=n)&&decide (off+n≤xs.length)) (some (.tup [],{σ with mem:=SE σ.mem nm (.var (over xs off ys))}))
   |_=>none
  |.c (.eptr nm sz row off)=>match pz σ.mem nm with
   |some (.arr e sz' rows)=>rh (decide (sz=sz')&&decide (ys.length=n)&&decide (off+n≤sz)) (match IY ys,rows[row]? with
    |some zs,some r=>some (.tup [],{σ with mem:=SE σ.mem nm (.arr e sz (rows.set row (over r off zs)))})
    |_,_=>none)
   |_=>none
  |_=>none
 |none=>none
def ZI (E:dL) (σ:St) (op:BinOp) (x y:AX):Option (AV×St):=match ml σ.fr x,ml σ.fr y with
 |.c (.pure (.val a)),.c (.pure (.val b))=>match (match op with
  | .shl| .shr=>aam op a b
  |_=>aaP op a b)with
  |some r=>some (.c (.pure (.val r)),σ)
  |none=>none
 |_,_=>none
def Zw (E:dL) (σ:St) (neg:Bool) (x y:AX):Option (AV×St):=match ml σ.fr x,ml σ.fr y with
 | .c (.pure (.val (.bool a))),.c (.pure (.val (.bool b)))=>some (.c (.pure (.val (.bool ((a==b) !=neg)))),σ)
 |_,_=>none
def Zu (E:dL) (σ:St) (neg:Bool) (l:List ET) (x y:AX):Option (AV×St):=match ml σ.fr x,ml σ.fr y with
 | .agg xs,.agg ys=>rh (Fk l xs ys) (some (.c (.pure (.val (.bool (EU xs ys !=neg)))),σ))
 |_,_=>none
def abP (E:dL) (σ:St) (op:UnOp) (x:AX):Option (AV×St):=match op,ml σ.fr x with
 | .not,.c (.pure (.val (.bool b)))=>some (.c (.pure (.val (.bool (!b)))),σ)
 | .neg,.c (.pure (.val (.int k n)))=>some (.c (.pure (.val (.int k (C4 k (0-n))))),σ)
 |_,_=>none
def VK (E:dL) (σ:St) (k:IntKind) (x:AX):Option (AV×St):=match ml σ.fr x with
 | .c (.pure (.val (.int _ n)))=>some (.c (.pure (.val (.int k (C4 k n)))),σ)
 |_=>none
def Ov (E:dL) (σ:St) (off:Nat) (p:AX):Option (AV×St):=match ml σ.fr p with
 | .c (.ptr nm o)=>some (.c (.ptr nm (o+off)),σ)
 | .c (.cptr cells)=>some (.c (.cptr (cells.drop off)),σ)
 | .c (.eptr nm sz row o)=>some (.c (.eptr nm sz row (o+off)),σ)
 |_=>none
def RJ (E:dL) (σ:St) (off:Nat) (n:Option Nat) (x:AX):Option (AV×St):=match ml σ.fr x with
 |.agg xs=>match n with
  |none=>match xs.drop off with
   |x::_=>some (.c x,σ)
   | []=>none
  |some n=>rh (decide (off+n≤xs.length)) (some (.agg ((xs.drop off).take n),σ))
 |_=>none
def UJ (E:dL) (σ:St) (sz:Nat) (x i:AX):Option (AV×St):=match ml σ.fr i with
 |.c (.pure (.val (.int _ i)))=>match ml σ.fr x with
  |.c (.pure (.slice rows))| .c (.tsl rows)=>match rows[i.toNat]? with
   |some r=>rh (decide (0≤i)&&decide (r.length=sz)&&decide (0<sz)) (some (.c (.cptr r),σ))
   |none=>none
  |.c (.ref nm)=>match pz σ.mem nm with
   |some (.arr _ sz' rows)=>rh (decide (sz'=sz)&&decide (0<sz)&&decide (0≤i)&&decide (i<rows.length)) (some (.c (.eptr nm sz i.toNat 0),σ))
   |_=>none
  |_=>none
 |_=>none
def Xb (E:dL) (σ:St) (len sz:Nat) (x i:AX):Option (AV×St):=match ml σ.fr x,ml σ.fr i with
 | .c (.ptr nm o),.c (.pure (.val (.int _ i)))=>rh (decide (0≤i)&&decide (i<len)) (some (.c (.ptr nm (o+i.toNat*sz)),σ))
 | .c (.cptr cells),.c (.pure (.val (.int _ i)))=>rh (decide (0≤i)&&decide (i<len)) (some (.c (.cptr (cells.drop (i.toNat*sz))),σ))
 |_,_=>none
def Vx (E:dL) (σ:St) (x:AX):Option (AV×St):=match ml σ.fr x with
 | .c (.ptr nm o)=>some (.c (.ptr nm o),σ)
 | .c (.cptr cells)=>some (.c (.cptr cells),σ)
 | .c (.eptr nm sz row o)=>some (.c (.eptr nm sz row o),σ)
 | .c (.clo f caps)=>some (.c (.clo f caps),σ)
 |_=>none
def Xs (E:dL) (σ:St) (x i:AX):Option (AV×St):=match ml σ.fr x,ml σ.fr i with
 |.c (.pure (.val (.string s))),.c (.pure (.val (.int _ i)))=>match s[i.toNat]? with
  |some b=>rh (decide (0≤i)) (some (.c (.pure (.val (.int .u8 b.toNat))),σ))
  |none=>none
 |_,_=>none
def RR (E:dL) (σ:St) (zero:List AC) (parts:List (Nat×Nat×AX)):Option (AV×St):=match L4 σ parts zero with
 |some xs=>some (.agg xs,σ)
 |none=>none
def Of (E:dL) (σ:St) (sz:Nat) (rows:List AX):Option (AV×St):=match XR σ sz rows []with
 |some rs=>some (.c (.tsl rs),σ)
 |none=>none
def no (E:dL) (σ:St) (e sz bytes:Nat) (zero:List PC) (l:AX):Option (AV×St):=match ml σ.fr l with
 | .c (.pure (.val (.int .i64 n)))=>rh (decide (0≤n)&&decide (n≤281474976710656)&&decide (bytes*n≤281474976710656))
   (some (.c (.ref σ.nx),{σ with mem:=(σ.nx,.arr e sz (List.replicate n.toNat zero))::σ.mem,nx:=σ.nx+1}))
 |_=>none
def ZC (E:dL) (σ:St) (sz:Nat) (x:AX) (lo hi mx:Option AX):Option (AV×St):=match ml σ.fr x with
 | .c (.ref _)=>none
 |v=>match RP σ.mem v,bD.boundOf σ lo,bD.boundOf σ hi,bD.boundOf σ mx with
  |some rows,some lo,some hi,some mx=>rh (M2 sz rows&&decide (0≤lo.getD 0)&&decide (lo.getD 0≤hi.getD rows.length)&&decide (hi.getD rows.length≤mx.getD rows.length)&&decide (mx.getD rows.length≤rows.length))
   (some (.c (if mx.isSome=true∧mx=hi then .tsl ((rows.take (hi.getD rows.length).toNat).drop (lo.getD 0).toNat)else .pure (.slice ((rows.take (hi.getD rows.length).toNat).drop (lo.getD 0).toNat))),σ))
  |_,_,_,_=>none
def Ww (E:dL) (σ:St) (x:AX) (lo hi:Option AX):Option (AV×St):=match ml σ.fr x,bD.boundOf σ lo,bD.boundOf σ hi with
 |.c (.pure (.val (.string s))),some lo,some hi=>rh (decide (0≤lo.getD 0)&&decide (lo.getD 0≤hi.getD s.size)&&decide (hi.getD s.size≤s.size))
  (some (.c (.pure (.val (.string (s.extract (lo.getD 0).toNat (hi.getD s.size).toNat)))),σ))
 |_,_,_=>none
def ZR (E:dL) (σ:St) (x:AX) (i:Nat):Option (AV×St):=match ml σ.fr x with
 |.tup vs=>match vs[i]? with
  |some v=>some (v,σ)
  |none=>none
 |_=>none
def Zt (E:dL) (σ:St) (x:AX):Option (AV×St):=match ml σ.fr x with
 | .c (.pure (.slice rows))| .c (.tsl rows)=>some (.c (.pure (.val (.int .i64 rows.length))),σ)
 | .c .nils=>some (.c (.pure (.val (.int .i64 0))),σ)
 |.c (.ref nm)=>match pz σ.mem nm with
  |some (.arr _ _ rows)=>some (.c (.pure (.val (.int .i64 rows.length))),σ)
  |_=>none
 |_=>none
def Xl (E:dL) (σ:St) (x:AX):Option (AV×St):=match ml σ.fr x with
 | .c (.pure (.val (.string s)))=>some (.c (.pure (.val (.int .i64 s.size))),σ)
 |_=>none
def abH (E:dL) (σ:St) (mx:Bool) (x y:AX):Option (AV×St):=match ml σ.fr x,ml σ.fr y with
 | .c (.pure (.val (.int k a))),.c (.pure (.val (.int _ b)))=>some (.c (.pure (.val (.int k (if mx=true then max a b else min a b)))),σ)
 |_,_=>none
def VG (E:dL) (σ:St) (neg:Bool) (x:AX):Option (AV×St):=match ml σ.fr x with
 | .c .nils=>some (.c (.pure (.val (.bool (!neg)))),σ)
 | .c (.pure (.slice rows))| .c (.tsl rows)=>rh (rows.any fun r=> !r.isEmpty) (some (.c (.pure (.val (.bool neg))),σ))
 |.c (.ref nm)=>match pz σ.mem nm with
  |some (.arr _ _ rows)=>rh (rows.any fun r=> !r.isEmpty) (some (.c (.pure (.val (.bool neg))),σ))
  |_=>none
 |_=>none
def KQ (E:dL) (σ:St) (e sz bytes:Nat) (x y:AX):Option (AV×St):=match RP σ.mem (ml σ.fr y)with
 |some ys=>Zc e sz bytes (ml σ.fr x) (ml σ.fr y) ys σ
 |none=>none
def UT (E:dL) (σ:St) (f:FuncId) (caps:List AX):Option (AV×St):=match So σ caps []with
 |some xs=>some (.c (.clo f xs),σ)
 |none=>none
def Wm (E:dL) (σ:St) (g z:Bool) (f:AX) (args:List AX):Option (AV×St):=match ml σ.fr f with
 | .c (.clo f caps)=>VR E g z f ((args.map fun x=>ml σ.fr x)++caps.map .c) σ
 |_=>none
def KA (E:dL) (σ:St) (sz:Nat) (rows:List AX):Option (AV×St):=match Sr σ sz rows σ.mem []with
 |some (rs,mem)=>some (.c (.tsl rs),{σ with mem:=mem})
 |none=>none
def wC (E:dL) (σ:St) (kt:KT) (n:Option Nat):Option (AV×St):=some (.c (.mref σ.nx),{σ with mem:=(σ.nx,.map kt n [])::σ.mem,nx:=σ.nx+1})
def Xi (E:dL) (σ:St) (kt:KT) (n:Option Nat) (zero:List AC) (ok:Bool) (m k:AX):Option (AV×St):=match ml σ.fr k with
 |.c (.pure (.val kv))=>match IN kt kv with
  |some mk=>match ml σ.fr m with
   |.c (.mref nm)=>match pz σ.mem nm with
    |some (.map kt' n' ents)=>rh (ktB kt' kt&&decide (n'=n)) (match iD ents mk with
     |some ps=>some (if ok=true then .tup [ft n ps,.c (.pure (.val (.bool true)))]else ft n ps,σ)
     |none=>some (if ok=true then .tup [ft n zero,.c (.pure (.val (.bool false)))]else ft n zero,σ))
    |_=>none
   | .c (.pure (.fmap kt' n' es))=>rh (ktB kt' kt&&decide (n'=n)) (match iD (qi es) mk with
     |some ps=>some (if ok=true then .tup [ft n ps,.c (.pure (.val (.bool true)))]else ft n ps,σ)
     |none=>some (if ok=true then .tup [ft n zero,.c (.pure (.val (.bool false)))]else ft n zero,σ))
   |_=>none
  |none=>none
 |_=>none
def Xx (E:dL) (σ:St) (kt:KT) (n:Option Nat) (m k v:AX):Option (AV×St):=match ml σ.fr k with
 |.c (.pure (.val kv))=>match IN kt kv with
  |some mk=>match ml σ.fr m with
   |.c (.mref nm)=>match CE n (ml σ.fr v)with
    |some ys=>match pz σ.mem nm with
     |some (.map kt' n' ents)=>rh (ktB kt' kt&&decide (n'=n)) (some (.tup [],{σ with mem:=SE σ.mem nm (.map kt n (Ct ents mk ys))}))
     |_=>none
    |none=>none
   |_=>none
  |none=>none
 |_=>none
def Ui (E:dL) (o:fc) (σ:St):Option (AV×St):=
 match o with
 | .mv x=>abi E σ x
 | .pick c a b=>U3 E σ c a b
 | .box x=>KN E σ x
 | .load n p=>UW E σ n p
 | .store n p v=>Sj E σ n p v
 | .bin op x y=>ZI E σ op x y
 | .eqb neg x y=>Zw E σ neg x y
 | .eqs neg l x y=>Zu E σ neg l x y
 | .un op x=>abP E σ op x
 | .conv k x=>VK E σ k x
 | .fieldA off p=>Ov E σ off p
 | .field off n x=>RJ E σ off n x
 | .idxA sz x i=>UJ E σ sz x i
 | .idxR len sz x i=>Xb E σ len sz x i
 | .nilc x=>Vx E σ x
 | .idxS x i=>Xs E σ x i
 | .build zero parts=>RR E σ zero parts
 | .bslice sz rows=>Of E σ sz rows
 | .mkslice e sz bytes zero l=>no E σ e sz bytes zero l
 | .slc sz x lo hi mx=>ZC E σ sz x lo hi mx
 | .slcS x lo hi=>Ww E σ x lo hi
 | .ext x i=>ZR E σ x i
 | .len x=>Zt E σ x
 | .lenS x=>Xl E σ x
 | .mm mx x y=>abH E σ mx x y
 | .snil neg x=>VG E σ neg x
 | .app e sz bytes x y=>KQ E σ e sz bytes x y
 | .mkfn f caps=>UT E σ f caps
 | .call g z f args=>Wm E σ g z f args
 | .bsliceF sz rows=>KA E σ sz rows
 | .mkmap kt n=>wC E σ kt n
 | .mget kt n zero ok m k=>Xi E σ kt n zero ok m k
 | .mput kt n m k v=>Xx E σ kt n m k v
 |_=>none
theorem Gd {rows:List (List PC)} {A B:nR Prop} (h:(rows.any fun r=> !r.isEmpty)=true) (hb:B.out): @IP rows A B:=by
 refine⟨fun h0=> ?_,hb⟩
 obtain⟨r,hr,e⟩:=List.any_eq_true.1 h
 rw[h0 r hr]at e
 cases e
section
variable {P : Program} {E : dL} (hP : ∀ g f as r, E.p g f as = some r → ac P f as r) (hI : ∀ f as m n r m' n', E.i f as m n = some (r, m', n') → au P f as m n r m' n')
include hP hI
theorem BQ {o:fc} {σ σ':St} {v:AV} {K:AV→St→Prop} (h:Ui E o σ=some (v,σ')) (hk:K v σ'):bD P o σ K:=by
 cases o<;>simp only[Ui,abi,U3,KN,UW,Sj,ZI,Zw,Zu,abP,VK,Ov,RJ,UJ,Xb,Vx,Xs,RR,Of,no,ZC,Ww,ZR,Zt,Xl,abH,VG,KQ,UT,Wm,KA,wC,Xi,Xx,nN,iz,Sk,MG,t8,E9]at h<;>simp only[bD]
 case mv x=>cases h;exact hk
 case pick c a b=>
  split at h
  ·rename_i e
   cases h
   rw[e]
   exact⟨fun _=>hk,fun e=>by cases e⟩
  ·rename_i e
   cases h
   rw[e]
   exact⟨(fun e=>by cases e),fun _=>hk⟩
  ·cases h
 case box x=>split at h<;>cases h;rename_i e;rw[e];exact hk
 case load n p=>
  split at h
  ·rename_i q e
   rw[e]
   dsimp only
   split at h
   ·rename_i xs e2
    rw[e2]
    dsimp only
    split at h
    ·split at h<;>cases h
     exact hk
    ·replace h:=aY.1 h;obtain⟨h1,h⟩:=h
     cases h
     exact⟨of_decide_eq_true h1,hk⟩
   ·cases h
  ·cases h
 case store n p w=>
  split at h
  ·rename_i ys e
   rw[e]
   split at h
   ·rename_i nm off e2
    rw[e2]
    dsimp only
    split at h
    ·rename_i xs e3
     rw[e3]
     replace h:=aY.1 h;obtain⟨h1,h⟩:=h
     simp only[Bool.and_eq_true,decide_eq_true_iff]at h1
     cases h
     exact⟨h1,hk⟩
    ·cases h
   ·rename_i nm sz row off e2
    rw[e2]
    dsimp only
    split at h
    ·rename_i e0 sz' rows e3
     rw[e3]
     replace h:=aY.1 h;obtain⟨h1,h⟩:=h
     simp only[Bool.and_eq_true,decide_eq_true_iff]at h1
     split at h
     ·rename_i zs r e4 e5
      cases h
      exact⟨⟨h1.1.1,h1.1.2,h1.2⟩,zs,e4,r,e5,hk⟩
     ·cases h
    ·cases h
   ·cases h
  ·cases h
 case bin op x y=>
  split at h
  ·rename_i a b e1 e2
   rw[e1,e2]
   dsimp only
   split at h
   ·rename_i r e
    cases h
    cases op
    case shl=>exact HX e hk
    case shr=>exact HX e hk
    all_goals exact Qu e hk
   ·cases h
  ·cases h
 case eqb neg x y=>split at h<;>cases h;rename_i e1 e2;rw[e1,e2];exact hk
 case eqs neg l x y=>
  split at h
  ·rename_i e1 e2
   rw[e1,e2]
   replace h:=aY.1 h;obtain⟨h1,h⟩:=h
   cases h
   refine⟨Wb h1, ?_⟩
   show K _ _
   rw[Wi]
   exact hk
  ·cases h
 case un op x=>split at h<;>cases h<;>(rename_i e;rw[e];exact hk)
 case conv k x=>split at h<;>cases h;rename_i e;rw[e];exact hk
 case fieldA off p=>split at h<;>cases h<;>(rename_i e;rw[e];exact hk)
 case field off n x=>
  split at h
  ·rename_i xs e
   rw[e]
   dsimp only
   split at h
   ·split at h<;>cases h
    rename_i e2
    dsimp only
    rw[e2]
    exact hk
   ·replace h:=aY.1 h;obtain⟨h1,h⟩:=h
    cases h
    exact⟨of_decide_eq_true h1,hk⟩
  ·cases h
 case idxA sz x i=>
  split at h
  ·rename_i e1
   rw[e1]
   split at h
   ·rename_i rows e2
    rw[e2]
    split at h
    ·rename_i r e3
     replace h:=aY.1 h;obtain⟨h1,h⟩:=h
     simp only[Bool.and_eq_true,decide_eq_true_iff]at h1
     cases h
     exact⟨h1.1.1,r,e3,⟨h1.1.2,h1.2⟩,hk⟩
    ·cases h
   ·rename_i rows e2
    rw[e2]
    split at h
    ·rename_i r e3
     replace h:=aY.1 h;obtain⟨h1,h⟩:=h
     simp only[Bool.and_eq_true,decide_eq_true_iff]at h1
     cases h
     exact⟨h1.1.1,r,e3,⟨h1.1.2,h1.2⟩,hk⟩
    ·cases h
   ·rename_i nm e2
    rw[e2]
    dsimp only
    split at h
    ·rename_i e3
     rw[e3]
     replace h:=aY.1 h;obtain⟨h1,h⟩:=h
     simp only[Bool.and_eq_true,decide_eq_true_iff]at h1
     cases h
     exact⟨⟨h1.1.1.1,h1.1.1.2,h1.1.2,h1.2⟩,hk⟩
    ·cases h
   ·cases h
  ·cases h
 case idxR len sz x i=>
  split at h
  ·rename_i e1 e2
   rw[e1,e2]
   replace h:=aY.1 h;obtain⟨h1,h⟩:=h
   simp only[Bool.and_eq_true,decide_eq_true_iff]at h1
   cases h
   exact⟨h1,hk⟩
  ·rename_i e1 e2
   rw[e1,e2]
   replace h:=aY.1 h;obtain⟨h1,h⟩:=h
   simp only[Bool.and_eq_true,decide_eq_true_iff]at h1
   cases h
   exact⟨h1,hk⟩
  ·cases h
 case nilc x=>split at h<;>cases h<;>(rename_i e;rw[e];exact hk)
 case idxS x i=>
  split at h
  ·rename_i e1 e2
   rw[e1,e2]
   split at h
   ·rename_i b e3
    replace h:=aY.1 h;obtain⟨h1,h⟩:=h
    cases h
    exact⟨of_decide_eq_true h1,b,e3,hk⟩
   ·cases h
  ·cases h
 case build z ps=>split at h<;>cases h;rename_i e;exact AE e hk
 case bslice sz rows=>split at h<;>cases h;rename_i e;exact G8 e hk
 case mkslice e0 sz bytes z l=>
  split at h
  ·rename_i e
   rw[e]
   replace h:=aY.1 h;obtain⟨h1,h⟩:=h
   simp only[Bool.and_eq_true,decide_eq_true_iff]at h1
   cases h
   exact⟨⟨h1.1.1,h1.1.2,h1.2⟩,hk⟩
  ·cases h
 case slc sz x lo hi mx=>
  split at h
  ·cases h
  ·rename_i hn
   split at h
   ·rename_i rows l1 h1 m1 e1 e2 e3 e4
    replace h:=aY.1 h;obtain⟨hc,h⟩:=h
    simp only[Bool.and_eq_true,decide_eq_true_iff]at hc
    cases h
    split
    ·rename_i nm e
     exact absurd e (hn nm)
    ·exact⟨rows,e1,l1,e2,h1,e3,m1,e4,⟨A0 hc.1.1.1.1,hc.1.1.1.2,hc.1.1.2,hc.1.2,hc.2⟩,hk⟩
   ·cases h
 case slcS x lo hi=>
  split at h
  ·rename_i e1 e2 e3
   rw[e1,e2,e3]
   replace h:=aY.1 h;obtain⟨h1,h⟩:=h
   simp only[Bool.and_eq_true,decide_eq_true_iff]at h1
   cases h
   exact⟨⟨h1.1.1,h1.1.2,h1.2⟩,hk⟩
  ·cases h
 case ext x i=>
  split at h
  ·rename_i e
   rw[e]
   split at h
   ·rename_i v' e2
    cases h
    exact⟨_,e2,hk⟩
   ·cases h
  ·cases h
 case len x=>
  split at h
  ·rename_i e;cases h;rw[e];exact hk
  ·rename_i e;cases h;rw[e];exact hk
  ·rename_i e;cases h;rw[e];exact hk
  ·rename_i e
   rw[e]
   dsimp only
   split at h<;>cases h
   rename_i e2
   rw[e2]
   exact hk
  ·cases h
 case lenS x=>split at h<;>cases h;rename_i e;rw[e];exact hk
 case mm mx x y=>split at h<;>cases h;rename_i e1 e2;rw[e1,e2];exact hk
 case mm4=>cases h
 case dead=>cases h
 case fnil=>cases h
 case snil neg x=>
  split at h
  ·rename_i e;cases h;rw[e];exact hk
  ·rename_i e
   replace h:=aY.1 h;obtain⟨h1,h⟩:=h
   cases h;rw[e];exact Gd h1 hk
  ·rename_i e
   replace h:=aY.1 h;obtain⟨h1,h⟩:=h
   cases h;rw[e];exact Gd h1 hk
  ·rename_i e
   rw[e]
   dsimp only
   split at h
   ·rename_i e2
    replace h:=aY.1 h;obtain⟨h1,h⟩:=h
    cases h;rw[e2];exact Gd h1 hk
   ·cases h
  ·cases h
 case app e0 sz bytes x y=>
  split at h
  ·rename_i ys e
   exact⟨ys,e,QF h hk⟩
  ·cases h
 case mkfn f caps=>split at h<;>cases h;rename_i e;exact DE e hk
 case call g z f args=>
  split at h
  ·rename_i f caps e
   rw[e]
   exact OB hP hI h hk
  ·cases h
 case bsliceF sz rows=>split at h<;>cases h;rename_i e;exact Dr e hk
 case mkmap kt n=>cases h;exact hk
 case mget kt n z ok m k=>
  split at h
  ·rename_i e
   rw[e]
   split at h
   ·rename_i mk e1
    refine⟨mk,e1, ?_⟩
    dsimp only
    split at h
    ·rename_i nm e2
     rw[e2]
     dsimp only
     split at h
     ·rename_i kt' n' ents e3
      rw[e3]
      replace h:=aY.1 h;obtain⟨h1,h⟩:=h
      simp only[Bool.and_eq_true,decide_eq_true_iff]at h1
      refine⟨⟨Mb h1.1,h1.2⟩, ?_⟩
      dsimp only
      split at h
      ·rename_i ps e4
       cases h
       rw[e4]
       exact px (fun x e=>by cases e;exact hk) (fun e=>by cases e)
      ·rename_i e4
       cases h
       rw[e4]
       exact px (fun x e=>by cases e) (fun _=>hk)
     ·cases h
    ·rename_i kt' n' es e2
     rw[e2]
     replace h:=aY.1 h;obtain⟨h1,h⟩:=h
     simp only[Bool.and_eq_true,decide_eq_true_iff]at h1
     refine⟨⟨Mb h1.1,h1.2⟩, ?_⟩
     dsimp only
     split at h
     ·rename_i ps e4
      cases h
      rw[e4]
      exact px (fun x e=>by cases e;exact hk) (fun e=>by cases e)
     ·rename_i e4
      cases h
      rw[e4]
      exact px (fun x e=>by cases e) (fun _=>hk)
    ·cases h
   ·cases h
  ·cases h
 case mput kt n m k w=>
  split at h
  ·rename_i e
   rw[e]
   split at h
   ·rename_i mk e1
    refine⟨mk,e1, ?_⟩
    dsimp only
    split at h
    ·rename_i nm e2
     rw[e2]
     split at h
     ·rename_i ys e3
      refine⟨ys,e3, ?_⟩
      dsimp only
      split at h
      ·rename_i kt' n' ents e4
       rw[e4]
       replace h:=aY.1 h;obtain⟨h1,h⟩:=h
       simp only[Bool.and_eq_true,decide_eq_true_iff]at h1
       cases h
       exact⟨⟨Mb h1.1,h1.2⟩,hk⟩
      ·cases h
     ·cases h
    ·cases h
   ·cases h
  ·cases h
end
def MN (σ:St):fc→Bool
 | .box _| .mkslice .. | .mkmap .. =>true
 |.app _ _ _ x _=>match ml σ.fr x with
  | .c (.ref _)=>false
  |_=>true
 |_=>false
def Rt:Option bc→Bool
 |none=>true
 |some _=>false
theorem TO {E:dL} {o:fc} {σ σ':St} {v:AV} (h:Ui E o σ=some (v,σ')) (hk:MN σ o=true) (hn:Rt (am σ.mem σ.nx)=true):Mk σ.mem σ'.mem:=by
 have hn:am σ.mem σ.nx=none:=by cases e:am σ.mem σ.nx with|none=>rfl|some b=>rw[e]at hn;cases hn
 cases o<;>simp only[MN,nN,reduceCtorEq,Bool.false_eq_true]at hk
 case box x=>simp only[Ui,KN,no,wC,KQ,nN,iz,t8]at h;split at h<;>cases h;exact .inr ⟨_,_,rfl,hn⟩
 case mkslice e0 sz bytes z l=>
  simp only[Ui,KN,no,wC,KQ,nN,iz,t8]at h
  split at h
  ·replace h:=aY.1 h;obtain⟨h1,h⟩:=h
   cases h
   exact .inr ⟨_,_,rfl,hn⟩
  ·cases h
 case mkmap kt n=>simp only[Ui,KN,no,wC,KQ,nN,iz,t8]at h;cases h;exact .inr ⟨_,_,rfl,hn⟩
 case app e0 sz bytes x y=>
  simp only[Ui,KN,no,wC,KQ,nN,iz,t8]at h
  split at h
  ·unfold Zc at h
   simp only[iz,L0]at h
   replace h:=aY.1 h;obtain⟨h0,h⟩:=h
   split at h
   ·rename_i e;rw[e]at hk;cases hk
   ·replace h:=aY.1 h;obtain⟨h1,h⟩:=h
    cases h
    exact .inr ⟨_,_,rfl,hn⟩
   ·split at h
    ·replace h:=aY.1 h;obtain⟨h1,h⟩:=h
     cases h
     exact .inl rfl
    ·replace h:=aY.1 h;obtain⟨h1,h⟩:=h
     cases h
     exact .inr ⟨_,_,rfl,hn⟩
   ·cases h
  ·cases h
def BM (σ:St) (g:AG):Option Bool:=match g.guard with
 |none=>some true
 |some (t,want)=>match uN σ.fr t with
  | .c (.pure (.val (.bool b)))=>some (b==want)
  | .tup []=>some false
  |_=>none
def Ti (E:dL) (gs:List AG):St→Option St:=List.rec (motive:=fun _=>St→Option St) (fun σ=>some σ) (fun g _ ih σ=>match BM σ g with
  |some true=>match Ui E g.op σ with
   |some (v,σ')=>ih (σ'.put g.dst v)
   |none=>none
  |some false=>ih (σ.put g.dst (.tup []))
  |none=>none) gs
theorem SW {E:dL} {g:AG} {r:List AG} {σ:St}:Ti E (g::r) σ=match BM σ g with
  |some true=>match Ui E g.op σ with
   |some (v,σ')=>Ti E r (σ'.put g.dst v)
   |none=>none
  |some false=>Ti E r (σ.put g.dst (.tup []))
  |none=>none:=rfl
def Hy (E:dL) (gs:List (Bool×AG)):St→Option St:=List.rec (motive:=fun _=>St→Option St) (fun σ=>some σ) (fun x _ ih σ=>match BM σ x.2 with
  |some true=>match Ui E x.2.op σ with
   |some (v,σ')=>rh (!x.1||(MN σ x.2.op&&Rt (am σ.mem σ.nx))) (ih (σ'.put x.2.dst v))
   |none=>none
  |some false=>ih (σ.put x.2.dst (.tup []))
  |none=>none) gs
theorem Qt {E:dL} {x:Bool} {g:AG} {r:List (Bool×AG)} {σ:St}:Hy E ((x,g)::r) σ=match BM σ g with
  |some true=>match Ui E g.op σ with
   |some (v,σ')=>rh (!x||(MN σ g.op&&Rt (am σ.mem σ.nx))) (Hy E r (σ'.put g.dst v))
   |none=>none
  |some false=>Hy E r (σ.put g.dst (.tup []))
  |none=>none:=rfl
section
variable {P : Program} {E : dL} (hP : ∀ g f as r, E.p g f as = some r → ac P f as r) (hI : ∀ f as m n r m' n', E.i f as m n = some (r, m', n') → au P f as m n r m' n')
include hP hI
theorem kE: ∀{gs:List AG} {σ σ':St} {K:St→Prop},Ti E gs σ=some σ'→K σ'→my P gs σ K
 | [],σ,σ',K,h,hk=>by cases h;exact hk
 |g::r,σ,σ',K,h,hk=>by
  rw[SW]at h
  simp only[BM,nE]at h
  unfold my
  cases hg:g.guard with
  |none=>
   rw[hg]at h
   dsimp only at h ⊢
   split at h
   ·rename_i v σ1 e
    exact BQ hP hI e (kE h hk)
   ·cases h
  |some tw=>
   obtain⟨t,want⟩:=tw
   rw[hg]at h
   dsimp only at h ⊢
   split
   ·rename_i b e
    rw[e]at h
    dsimp only at h
    refine⟨fun e2=> ?_,fun e2=> ?_⟩
    ·rw[e2]at h
     dsimp only at h ⊢
     split at h
     ·rename_i v σ1 e3
      exact BQ hP hI e3 (kE h hk)
     ·cases h
    ·rw[e2]at h
     exact kE h hk
   ·rename_i e
    rw[e]at h
    exact kE h hk
   ·rename_i h1 h2
    split at h
    ·rename_i e2
     split at e2
     ·rename_i b e3;exact(h1 b e3).elim
     ·rename_i e3;exact(h2 e3).elim
     ·cases e2
    ·rename_i e2
     split at e2
     ·rename_i b e3;exact(h1 b e3).elim
     ·rename_i e3;exact(h2 e3).elim
     ·cases e2
    ·cases h
theorem lW: ∀{gs:List (Bool×AG)} {σ σ':St} {K:St→Prop},Hy E gs σ=some σ'→K σ'→jy P gs σ K
 | [],σ,σ',K,h,hk=>by cases h;exact hk
 |(x,g)::r,σ,σ',K,h,hk=>by
  have one: ∀{v σ1},Ui E g.op σ=some (v,σ1)→rh (!x||(MN σ g.op&&Rt (am σ.mem σ.nx))) (Hy E r (σ1.put g.dst v))=some σ'→bD P g.op σ fun v σ'=>c7 (x=true→Mk σ.mem σ'.mem) (K:=⟨jy P r (σ'.put g.dst v) K⟩):=by
   intro v σ1 e h
   replace h:=aY.1 h;obtain⟨h1,h⟩:=h
   refine BQ hP hI e ⟨fun hx=> ?_,lW h hk⟩
   simp only[hx,Bool.not_true,Bool.false_or,Bool.and_eq_true]at h1
   exact TO e h1.1 h1.2
  rw[Qt]at h
  simp only[BM,nE]at h
  unfold jy
  cases hg:g.guard with
  |none=>
   rw[hg]at h
   dsimp only at h ⊢
   split at h
   ·rename_i v σ1 e
    exact one e h
   ·cases h
  |some tw=>
   obtain⟨t,want⟩:=tw
   rw[hg]at h
   dsimp only at h ⊢
   split
   ·rename_i b e
    rw[e]at h
    dsimp only at h
    refine⟨fun e2=> ?_,fun e2=> ?_⟩
    ·rw[e2]at h
     dsimp only at h ⊢
     split at h
     ·rename_i v σ1 e3
      exact one e3 h
     ·cases h
    ·rw[e2]at h
     exact lW h hk
   ·rename_i e
    rw[e]at h
    exact lW h hk
   ·rename_i h1 h2
    split at h
    ·rename_i e2
     split at e2
     ·rename_i b e3;exact(h1 b e3).elim
     ·rename_i e3;exact(h2 e3).elim
     ·cases e2
    ·rename_i e2
     split at e2
     ·rename_i b e3;exact(h1 b e3).elim
     ·rename_i e3;exact(h2 e3).elim
     ·cases e2
    ·cases h
end
def M3 (t:Nat) (l:List (Nat×AV)):Bool:=List.rec (motive:=fun _=>Bool) false (fun x _ ih=>Bool.rec ih true (Nat.beq x.1 t)) l
theorem TF {t k:Nat} {v:AV} {r:List (Nat×AV)}:M3 t ((k,v)::r)=Bool.rec (M3 t r) true (Nat.beq k t):=rfl
theorem Wq {t:Nat}:M3 t []=false:=rfl
def qK (acc l:List (Nat×AV)):List (Nat×AV):=List.rec (motive:=fun _=>List (Nat×AV)→List (Nat×AV)) (fun acc=>acc) (fun x _ ih acc=>Bool.rec (ih (acc++ [x])) (ih acc) (M3 x.1 acc)) l acc
theorem Qk {acc r:List (Nat×AV)} {x:Nat×AV}:qK acc (x::r)=Bool.rec (qK (acc++ [x]) r) (qK acc r) (M3 x.1 acc):=rfl
theorem Ir {t:Nat} {b:List (Nat×AV)}: ∀{a:List (Nat×AV)},aN (a++b) t=if M3 t a=true then aN a t else aN b t
 | []=>by simp[Wq]
 |(k,v)::a=>by
  simp only[List.cons_append,aN,TF,Tg]
  by_cases e:k=t
  ·simp[e]
  ·simp only[e,if_false,decide_false]
   exact Ir
theorem rT {t:Nat}: ∀{l acc:List (Nat×AV)},aN (qK acc l) t=aN (acc++l) t
 | [],acc=>by rw[List.append_nil];rfl
 |(k,v)::r,acc=>by
  rw[Qk]
  cases h:M3 k acc
  ·show aN (qK (acc++ [(k,v)]) r) t=_
   rw[rT]
   simp
  ·show aN (qK acc r) t=_
   rw[rT,Ir,Ir]
   by_cases e:M3 t acc=true
   ·simp[e]
   ·have hne: ¬k=t:=fun e2=>e (e2▸h)
    simp[e,aN,hne]
section
variable {P : Program} {nt : Nat} {σ : St} {Q : bk → St → Prop}
theorem ZB {c:ak} {fr:List (Nat×AV)} (h: ∀t,aN fr t=aN σ.fr t) (hA:AW P nt c {σ with fr:=fr} Q):AW P nt c σ Q:=
 fun c' hc w0 U rd ds ι a w hr hs hz=>hA c' hc w0 U rd ds ι a w hr ⟨fun t=>by rw[h];exact hs.val t,hs.defers,hs.names,hs.box,hs.apart,hs.below,hs.keep,hs.base⟩ hz
def Oy (f:St→Option (bk×St)):Nat→St→Option (bk×St)
 |0,_=>none
 |n+1,σ=>match f {σ with fr:=qK [] σ.fr}with
  |some (.normal,σ')=>Oy f n σ'
  |r=>r
theorem Yq {f:St→Option (bk×St)} {x:ak} (hf: ∀σ e σ' (Q:bk→St→Prop),f σ=some (e,σ')→Q e σ'→AW P nt x σ Q) {n:Nat} {e:bk} {σ':St} (h:Oy f n σ=some (e,σ')) (hk:Q e σ'):AW P nt (.loop x) σ Q:=by
 intro c' hc w0 U rd ds ι a w hrd hs hz
 cases c'<;>simp[ed]at hc
 all_goals(try(split at hc<;>simp at hc))
 rename_i c1
 refine wpIn_loop_rounds n ?_
 have key: ∀n σ U1 ds1 ι a w,MC w0.heap.size rd U ds U1 ds1→Oy f n σ=some (e,σ')→bP w0 U1 σ ι a w→a.tmps.size=nt→Code.roundsIn (FR rd) 0 P c1 (zh w0 U rd ds nt Q) n (sh ds1 a) w:=by
  intro n
  induction n with
  |zero=>intro σ U1 ds1 ι a w hx h;cases h
  |succ n ih=>
   intro σ U1 ds1 ι a w hx h hs hz
   rw[roundsIn_succ]
   unfold Oy at h
   cases hr:f {σ with fr:=qK [] σ.fr}with
   |none=>rw[hr]at h;cases h
   |some r=>
    obtain⟨e1,σ1⟩:=r
    rw[hr]at h
    refine wpIn_mono (ZB (fr:=qK [] σ.fr) (fun t=>rT) (hf _ _ _ (fun e σ=>e=e1∧σ=σ1) hr ⟨rfl,rfl⟩) _ hc w0 U1 rd ds1 ι a w (hrd.ext hx) hs hz) ?_
    rintro e a1 w1 ⟨e',σ',ι',U',ds',a0,rfl,⟨rfl,rfl⟩,hs',hz',rfl,hx'⟩
    cases e' with
    |normal=>exact ih _ _ _ _ a0 w1 (hx.trans hx') h hs' hz'
    |exit i=>cases h;exact⟨.exit i,_,ι',U',ds',a0,rfl,hk,hs',hz',rfl,hx.trans hx'⟩
    |ret=>cases h;exact⟨.ret,_,ι',U',ds',a0,rfl,hk,hs',hz',rfl,hx.trans hx'⟩
 exact key _ _ _ _ _ a w .refl h hs hz
end
def jt {α:Type} (f:α→α→Bool):List α→List α→Bool
 | [], []=>true
 |x::xs,y::ys=>f x y&&jt f xs ys
 |_,_=>false
theorem ei {α:Type} {f:α→α→Bool} (h: ∀x y,f x y=true→x=y): ∀{l m:List α},jt f l m=true→l=m
 | [], [],_=>rfl
 | [],_::_,e=>by cases e
 |_::_, [],e=>by cases e
 |x::xs,y::ys,e=>by
  simp only[jt,Bool.and_eq_true]at e
  rw[h _ _ e.1,ei h e.2]
def SG:Value→Value→Bool
 | .int k a,.int l b=>decide (k=l)&&decide (a=b)
 | .bool a,.bool b=>a==b
 | .string a,.string b=>wj a b
 | .nilFunc,.nilFunc=>true
 |_,_=>false
theorem YT: ∀{x y:Value},SG x y=true→x=y:=by
 intro x y h
 unfold SG at h
 split at h
 ·simp only[Bool.and_eq_true,decide_eq_true_iff]at h;rw[h.1,h.2]
 ·rw[eq_of_beq h]
 ·rename_i a b
  obtain⟨⟨a⟩⟩:=a
  obtain⟨⟨b⟩⟩:=b
  have h:=Av.1 h
  simp only at h
  rw[h]
 ·rfl
 ·cases h
def Zk:Nat→PC→PC→Bool
 |_+1,.val a,.val b=>SG a b
 |n+1,.slice r,.slice s=>jt (jt (Zk n)) r s
 |_,_,_=>false
theorem FZ: ∀{n:Nat} {x y:PC},Zk n x y=true→x=y
 |0,x,y,h=>by unfold Zk at h;cases h
 |n+1,x,y,h=>by
  unfold Zk at h
  split at h
  ·rw[YT h]
  ·rw[ei (fun _ _ h=>ei (fun _ _ h=>FZ h) h) h]
  ·cases h
def ZN (d:Nat):Nat→AC→AC→Bool
 |_+1,.pure a,.pure b=>Zk d a b
 |_+1,.nils,.nils=>true
 |_+1,.top,.top=>true
 |_+1,.tsl r,.tsl s=>jt (jt (Zk d)) r s
 |_+1,.cptr r,.cptr s=>jt (Zk d) r s
 |_+1,.ptr a b,.ptr a' b'=>decide (a=a')&&decide (b=b')
 |_+1,.ref a,.ref b=>decide (a=b)
 |_+1,.mref a,.mref b=>decide (a=b)
 |_+1,.eptr a b c e,.eptr a' b' c' e'=>decide (a=a')&&decide (b=b')&&decide (c=c')&&decide (e=e')
 |n+1,.clo f r,.clo g s=>decide (f=g)&&jt (ZN d n) r s
 |_,_,_=>false
theorem FP {d:Nat}: ∀{n:Nat} {x y:AC},ZN d n x y=true→x=y
 |0,x,y,h=>by unfold ZN at h;cases h
 |n+1,x,y,h=>by
  unfold ZN at h
  split at h
  ·rw[FZ h]
  ·rfl
  ·rfl
  ·rw[ei (fun _ _ h=>ei (fun _ _ h=>FZ h) h) h]
  ·rw[ei (fun _ _ h=>FZ h) h]
  ·simp only[Bool.and_eq_true,decide_eq_true_iff]at h;rw[h.1,h.2]
  ·rw[of_decide_eq_true h]
  ·rw[of_decide_eq_true h]
  ·simp only[Bool.and_eq_true,decide_eq_true_iff]at h;rw[h.1.1.1,h.1.1.2,h.1.2,h.2]
  ·simp only[Bool.and_eq_true,decide_eq_true_iff]at h;rw[h.1,ei (fun _ _ h=>FP h) h.2]
  ·cases h
def XJ:Nat→AV→AV→Bool
 |_+1,.c a,.c b=>ZN 12 4 a b
 |_+1,.agg r,.agg s=>jt (ZN 12 4) r s
 |n+1,.tup r,.tup s=>jt (XJ n) r s
 |_+1,.top,.top=>true
 |_,_,_=>false
theorem FT: ∀{n:Nat} {x y:AV},XJ n x y=true→x=y
 |0,x,y,h=>by unfold XJ at h;cases h
 |n+1,x,y,h=>by
  unfold XJ at h
  split at h
  ·rw[FP h]
  ·rw[ei (fun _ _ h=>FP h) h]
  ·rw[ei (fun _ _ h=>FT h) h]
  ·rfl
  ·cases h
def aaK:Nat×bc→Nat×bc→Bool
 |(a,.var xs),(b,.var ys)=>decide (a=b)&&jt (ZN 12 4) xs ys
 |(a,.arr e s xs),(b,.arr e' s' ys)=>decide (a=b)&&decide (e=e')&&decide (s=s')&&jt (jt (Zk 12)) xs ys
 |(a,.map k n xs),(b,.map k' n' ys)=>decide (a=b)&&ktB k k'&&decide (n=n')&&jt (fun x y=>decide (x.1=y.1)&&jt (ZN 12 4) x.2 y.2) xs ys
 |_,_=>false
theorem Y5: ∀(x y:Nat×bc),aaK x y=true→x=y:=by
 rintro⟨a,x⟩ ⟨b,y⟩ h
 unfold aaK at h
 split at h
 ·rename_i e1 e2
  cases e1;cases e2
  simp only[Bool.and_eq_true,decide_eq_true_iff]at h;rw[h.1,ei (fun _ _ h=>FP h) h.2]
 ·rename_i e1 e2
  cases e1;cases e2
  simp only[Bool.and_eq_true,decide_eq_true_iff]at h;rw[h.1.1.1,h.1.1.2,h.1.2,ei (fun _ _ h=>ei (fun _ _ h=>FZ h) h) h.2]
 ·rename_i e1 e2
  cases e1;cases e2
  simp only[Bool.and_eq_true,decide_eq_true_iff]at h
  rw[h.1.1.1,Mb h.1.1.2,h.1.2,ei (fun x y h=>by
   simp only[Bool.and_eq_true,decide_eq_true_iff]at h
   exact Prod.ext h.1 (ei (fun _ _ h=>FP h) h.2)) h.2]
 ·cases h
def frB (a b:List (Nat×AV)):Bool:=(a.all fun x=>XJ 4 (uN a x.1) (uN b x.1))&&b.all fun x=>XJ 4 (uN a x.1) (uN b x.1)
theorem BR {t:Nat}: ∀{a:List (Nat×AV)},(∀x∈a,x.1≠t)→aN a t= .top
 | [],_=>rfl
 |(k,v)::a,h=>by
  rw[aN,if_neg (h _ List.mem_cons_self)]
  exact BR fun x hx=>h x (List.mem_cons_of_mem _ hx)
theorem aaL {a b:List (Nat×AV)} (h:frB a b=true) (t:Nat):aN a t=aN b t:=by
 simp only[frB,Bool.and_eq_true,List.all_eq_true,nE]at h
 by_cases ha: ∃x∈a,x.1=t
 ·obtain⟨x,hx,rfl⟩:=ha
  exact FT (h.1 x hx)
 ·by_cases hb: ∃x∈b,x.1=t
  ·obtain⟨x,hx,rfl⟩:=hb
   exact FT (h.2 x hx)
  ·rw[BR fun x hx e=>ha ⟨x,hx,e⟩,BR fun x hx e=>hb ⟨x,hx,e⟩]
def stB (a b:St):Bool:=frB a.fr b.fr&&jt aaK a.mem b.mem&&decide (a.nx=b.nx)&&decide (a.base=b.base)
theorem SR {P:Program} {nt:Nat} {c:ak} {σ:St} {Q:bk→St→Prop} (h:AW P nt c σ fun e τ=> ∃fr,(∀t,aN fr t=aN τ.fr t)∧Q e {τ with fr:=fr}):AW P nt c σ Q:=
 fun c' hc w0 U rd ds ι a w hr hs hz=>wpIn_mono (h c' hc w0 U rd ds ι a w hr hs hz) fun e a w ⟨e',σ',ι',U',ds',a0,h1,⟨fr,h2,h3⟩,h4,h5⟩=>
  ⟨e',{σ' with fr:=fr},ι',U',ds',a0,h1,h3,⟨fun t=>by rw[h2];exact h4.val t,h4.defers,h4.names,h4.box,h4.apart,h4.below,h4.keep,h4.base⟩,h5⟩
def Ll (E:dL) (σ r:St):List (List (Bool×AG))→Bool
 | []=>true
 |gs::gss=>match Hy E gs σ with
  |some τ=>stB r τ&&Ll E σ r gss
  |none=>false
theorem AA {P:Program} {E:dL} (hP: ∀g f as r,E.p g f as=some r→ac P f as r) (hI: ∀f as m n r m' n',E.i f as m n=some (r,m',n')→au P f as m n r m' n') {σ r:St} {K:St→Prop} (hk:K r): ∀{gss:List (List (Bool×AG))},Ll E σ r gss=true→xY P gss σ fun τ=> ∃fr,(∀t,aN fr t=aN τ.fr t)∧K {τ with fr:=fr}
 | [],h=>trivial
 |gs::gss,h=>by
  unfold Ll at h
  have one: ∀{τ:St},stB r τ=true→ ∃fr,(∀t,aN fr t=aN τ.fr t)∧K {τ with fr:=fr}:=by
   intro τ h
   simp only[stB,Bool.and_eq_true,decide_eq_true_iff]at h
   refine⟨r.fr,fun t=>aaL h.1.1.1 t, ?_⟩
   rw[←h.2,←h.1.2,←ei Y5 h.1.1.2]
   exact hk
  split at h
  ·rename_i τ e
   simp only[Bool.and_eq_true]at h
   cases gss with
   |nil=>exact lW hP hI e (one h.1)
   |cons gs' gss=>exact⟨lW hP hI e (one h.1),AA hP hI hk h.2⟩
  ·cases h
def RV (E:dL) (gss:List (List (Bool×AG))) (σ:St):Option St:=match gss with
 | []=>none
 |gs::r=>match Hy E gs σ with
  |some σ'=>rh (Ll E σ σ' (gs::r)) (some σ')
  |none=>none
def aag (σ:St):List Nat:=σ.mem.filterMap fun x=>match x.2 with
 | .arr .. =>if σ.base≤x.1 then some x.1 else none
 |_=>none
def abW (E:dL) (gs:List AG) (σ:St):Option (bk×St):=match Ti E gs σ with
 |some σ'=>some (.normal,σ')
 |none=>match Ti E gs (aR (aag σ) σ []).1 with
  |some σ'=>some (.normal,σ')
  |none=>none
def abC (E:dL) (gss:List (List (Bool×AG))) (σ:St):Option (bk×St):=match RV E gss {σ with fr:=qK [] σ.fr}with
 |some σ'=>some (.normal,σ')
 |none=>match RV E gss (aR (aag {σ with fr:=qK [] σ.fr}) {σ with fr:=qK [] σ.fr} []).1 with
  |some σ'=>some (.normal,σ')
  |none=>none
def II (E:dL) (n:Nat):ak→St→Option (bk×St)
 | .skip,σ=>some (.normal,σ)
 | .region gs false,σ=>abW E gs σ
 | .draw gss,σ=>abC E gss σ
 |.seq a b,σ=>match II E n a σ with
  |some (.normal,σ')=>II E n b σ'
  |r=>r
 |.cond c a b,σ=>match ml σ.fr c with
  | .c (.pure (.val (.bool true)))=>II E n a σ
  | .c (.pure (.val (.bool false)))=>II E n b σ
  |_=>none
 |.block id a,σ=>match II E n a σ with
  |some (.exit i,σ')=>if i=id then some (.normal,σ')else some (.exit i,σ')
  |r=>r
 | .loop a,σ=>Oy (II E n a) n σ
 | .exit i,σ=>some (.exit i,σ)
 | .ret,σ=>some (.ret,σ)
 |_,_=>none
section
variable {P : Program} {E : dL} (hP : ∀ g f as r, E.p g f as = some r → ac P f as r) (hI : ∀ f as m n r m' n', E.i f as m n = some (r, m', n') → au P f as m n r m' n')
include hP hI
theorem Ks {nt n:Nat}: ∀{c:ak} {σ σ':St} {e:bk} {Q:bk→St→Prop},II E n c σ=some (e,σ')→Q e σ'→AW P nt c σ Q:=by
 intro c
 induction c with
 |skip=>intro σ σ' e Q h hk;unfold II at h;cases h;exact kU hk
 |exit i=>intro σ σ' e Q h hk;unfold II at h;cases h;exact R4 hk
 |ret=>intro σ σ' e Q h hk;unfold II at h;cases h;exact mj hk
 |rangeF=>intro σ σ' e Q h hk;unfold II at h;cases h
 |region gs d=>
  intro σ σ' e Q h hk
  cases d with
  |true=>unfold II at h;cases h
  |false=>
   unfold II abW at h
   split at h
   ·rename_i e1
    cases h
    exact CS (kE hP hI e1 hk)
   ·split at h<;>cases h
    rename_i e1
    exact sB (aag σ) (CS (kE hP hI e1 hk))
 |draw gss=>
  intro σ σ' e Q h hk
  have one: ∀{τ:St},RV E gss τ=some σ'→Q .normal σ'→AW P nt (.draw gss) τ Q:=by
   intro τ h hk
   unfold RV at h
   split at h
   ·cases h
   ·split at h
    ·replace h:=aY.1 h;obtain⟨h1,h⟩:=h
     cases h
     exact SR (Sh (AA hP hI hk h1))
    ·cases h
  unfold II abC at h
  refine ZB (fr:=qK [] σ.fr) (fun t=>rT) ?_
  split at h
  ·rename_i e1
   cases h
   exact one e1 hk
  ·split at h<;>cases h
   rename_i e1
   exact sB _ (one e1 hk)
 |seq a b iha ihb=>
  intro σ σ' e Q h hk
  unfold II at h
  cases hr:II E n a σ with
  |none=>rw[hr]at h;cases h
  |some r=>
   obtain⟨e1,σ1⟩:=r
   rw[hr]at h
   refine bN (iha hr ?_)
   cases e1 with
   |normal=>exact ihb h hk
   |exit i=>cases h;exact hk
   |ret=>cases h;exact hk
 |cond c a b iha ihb=>
  intro σ σ' e Q h hk
  unfold II at h
  simp only[nN]at h
  split at h
  ·rename_i e1;exact eR e1 (fun _=>iha h hk) (fun e=>by cases e)
  ·rename_i e1;exact eR e1 (fun e=>by cases e) (fun _=>ihb h hk)
  ·cases h
 |block id a iha=>
  intro σ σ' e Q h hk
  unfold II at h
  cases hr:II E n a σ with
  |none=>rw[hr]at h;cases h
  |some r=>
   obtain⟨e1,σ1⟩:=r
   rw[hr]at h
   refine uy (iha hr ?_)
   cases e1 with
   |normal=>cases h;exact hk
   |exit i=>
    dsimp only at h
    show if i=id then Q .normal σ1 else Q (.exit i) σ1
    split at h<;>cases h
    ·rw[if_pos ‹_›];exact hk
    ·rw[if_neg ‹_›];exact hk
   |ret=>cases h;exact hk
 |loop a iha=>
  intro σ σ' e Q h hk
  unfold II at h
  exact Yq (fun σ e σ' Q h1 h2=>iha h1 h2) h hk
end
def E8 (σ:St):AR→Option AV
 | .t n=>some (uN σ.fr n)
 |.cell n a=>match uN σ.fr a with
  |.c q=>match Ru σ.mem q with
   |some xs=>match n with
    |none=>match xs with
     |x::_=>some (.c x)
     | []=>none
    |some n=>rh (decide (n≤xs.length)) (some (.agg (xs.take n)))
   |none=>none
  |_=>none
def YZ (σ:St):List AR→List AV→Option (List AV)
 | [],acc=>some acc
 |r::rs,acc=>match E8 σ r with
  |some v=>YZ σ rs (acc++ [v])
  |none=>none
theorem Jr {σ:St} {r:AR} {v:AV} {K:AV→Prop} (h:E8 σ r=some v) (hk:K v):zr σ r K:=by
 cases r with
 |t n=>simp only[E8,nE]at h;cases h;exact hk
 |cell n a=>
  simp only[E8,nE,MG]at h
  simp only[zr]
  split at h
  ·rename_i q e
   rw[e]
   dsimp only
   split at h
   ·rename_i xs e1
    rw[e1]
    unfold GE
    dsimp only
    split at h
    ·split at h<;>cases h
     exact hk
    ·replace h:=aY.1 h;obtain⟨h1,h⟩:=h
     cases h
     exact⟨of_decide_eq_true h1,hk⟩
   ·cases h
  ·cases h
theorem nI {σ:St} {K:List AV→Prop}: ∀{rs:List AR} {acc vs:List AV},YZ σ rs acc=some vs→K vs→kA σ rs acc K
 | [],acc,vs,h,hk=>by cases h;exact hk
 |r::rs,acc,vs,h,hk=>by
  unfold YZ at h
  split at h
  ·rename_i v e
   exact Jr (K:=fun v=>kA σ rs (acc++ [v]) K) e (nI h hk)
  ·cases h
def ab4 (σ:St) (rs:List AR):bk→Option (List AV)
 | .exit _=>none
 |_=>YZ σ rs []
def abl (P:Program) (E:dL) (L:Nat):abn:=fun f args mem nx=>match KU P f with
 |some (nt,c,rs)=>rh (decide (args.length≤nt)) (match II E L c ⟨bo args 0,mem,nx,nx⟩with
  |some (e,σ)=>match ab4 σ rs e with
   |some vs=>rh (decide (σ.base=nx)) (some (eF vs,σ.mem,σ.nx))
   |none=>none
  |none=>none)
 |none=>none
def abY (P:Program) (E:dL) (L:Nat) (f:FuncId) (args:List AV):Option AV:=match KU P f with
 |some (nt,c,rs)=>rh (decide (args.length≤nt)) (match II E L c ⟨bo args 0, [],0,0⟩with
  |some (e,σ)=>match ab4 σ rs e with
   |some vs=>O1 σ.mem (eF vs)
   |none=>none
  |none=>none)
 |none=>none
def ZV (P:Program) (O:FuncId→List AV→Option AV) (nz:FuncId→Bool) (L:Nat):Nat→dL
 |0=>⟨fun _ f as=>O f as,fun _ _ _ _=>none,nz⟩
 |d+1=>⟨fun g f as=>match O f as with
   |some r=>some r
   |none=>match g with
    |true=>none
    |false=>abY P (ZV P O nz L d) L f as,abl P (ZV P O nz L d) L,nz⟩
theorem Ko {P:Program} {O:FuncId→List AV→Option AV} {nz:FuncId→Bool} {L:Nat} (hO: ∀f as r,O f as=some r→ac P f as r): ∀d,(∀g f as r,(ZV P O nz L d).p g f as=some r→ac P f as r)∧ ∀f as m n r m' n',(ZV P O nz L d).i f as m n=some (r,m',n')→au P f as m n r m' n'
 |0=>⟨fun _ f as r h=>hO f as r h,fun _ _ _ _ _ _ _ h=>by cases h⟩
 |d+1=>by
  obtain⟨hP,hI⟩:=Ko (nz:=nz) (L:=L) hO d
  refine⟨fun g f as r h=> ?_,fun f as m n r m' n' h=> ?_⟩
  ·unfold ZV at h
   dsimp only at h
   split at h
   ·rename_i r' e
    cases h
    exact hO _ _ _ e
   ·split at h
    ·cases h
    ·unfold abY at h
     split at h
     ·rename_i nt c rs e1
      replace h:=aY.1 h;obtain⟨h1,h⟩:=h
      split at h
      ·rename_i e σ e2
       split at h
       ·rename_i vs e3
        refine ac.of (ai e1) (of_decide_eq_true h1) fun _=>Ks hP hI e2 ?_
        cases e with
        |exit i=>cases e3
        |normal=>exact nI e3 h
        |ret=>exact nI e3 h
       ·cases h
      ·cases h
     ·cases h
  ·unfold ZV at h
   dsimp only at h
   unfold abl at h
   split at h
   ·rename_i nt c rs e1
    replace h:=aY.1 h;obtain⟨h1,h⟩:=h
    split at h
    ·rename_i e σ e2
     split at h
     ·rename_i vs e3
      replace h:=aY.1 h;obtain⟨h4,h⟩:=h
      cases h
      refine au.of (ai e1) (of_decide_eq_true h1) fun _=>Ks hP hI e2 ?_
      cases e with
      |exit i=>cases e3
      |normal=>exact nI e3 ⟨rfl,rfl,rfl,of_decide_eq_true h4⟩
      |ret=>exact nI e3 ⟨rfl,rfl,rfl,of_decide_eq_true h4⟩
     ·cases h
    ·cases h
   ·cases h
theorem ac.run {P:Program} (O:FuncId→List AV→Option AV) (nz:FuncId→Bool) (L d:Nat) {f:FuncId} {args:List AV} {res:AV} (hO: ∀f as r,O f as=some r→ac P f as r) (h:(ZV P O nz L d).p false f args=some res):ac P f args res:=
 (Ko hO d).1 _ _ _ _ h
end
end Go.Abs
