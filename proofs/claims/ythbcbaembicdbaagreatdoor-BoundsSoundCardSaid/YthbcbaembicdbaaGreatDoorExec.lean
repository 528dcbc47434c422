import Derived.Test.YthbcbaembicdbaaGreatDoorAbsQ
set_option linter.unusedVariables false
set_option linter.unusedSimpArgs false
namespace Go.Abs
open Go.RowKit
noncomputable section
abbrev aaN:=Bool→FuncId→List AV→Option AV
abbrev aaW:=FuncId→List AV→List (Nat×aU)→Nat→Option (AV×List (Nat×aU)×Nat)
def qS {α:Type} (b:Bool) (r:Option α):Option α:=match b with
 |true=>r
 |false=>none
theorem aS {α:Type} {b:Bool} {r:Option α} {x:α}:qS b r=some x↔b=true∧r=some x:=by cases b<;>simp[qS]
theorem Rj {a b:Nat}:Nat.beq a b=decide (a=b):=by
 by_cases h:a=b
 ·rw[decide_eq_true h,h];exact Nat.beq_refl b
 ·rw[decide_eq_false h]
  cases e:Nat.beq a b
  ·rfl
  ·exact absurd (Nat.eq_of_beq_eq_true e) h
def tI (fr:List (Nat×AV)) (n:Nat):AV:=List.rec (motive:= λ_=>AV) .top (λx _ ih=>Bool.rec ih x.2 (Nat.beq x.1 n)) fr
theorem nS {n:Nat}: ∀{fr:List (Nat×AV)},tI fr n=aI fr n
 | []=>rfl
 |(m,v)::r=>by
  refine(show tI ((m,v)::r) n=Bool.rec (motive:= λ_=>AV) (tI r n) v (Nat.beq m n)from rfl).trans ?_
  unfold aI
  rw[Rj,nS]
  by_cases e:m=n<;>simp[e]
def mf (fr:List (Nat×AV)):AX→AV
 | .t n=>tI fr n
 | .k v=>v
theorem no {fr:List (Nat×AV)} {x:AX}:mf fr x=x.ev fr:=by
 cases x with
 |t n=>exact nS
 |k v=>rfl
def oX (mem:List (Nat×aU)) (n:Nat):Option aU:=List.rec (motive:= λ_=>Option aU) none (λx _ ih=>Bool.rec ih (some x.2) (Nat.beq x.1 n)) mem
theorem iu {n:Nat}: ∀{mem:List (Nat×aU)},oX mem n=al mem n
 | []=>rfl
 |(m,v)::r=>by
  refine(show oX ((m,v)::r) n=Bool.rec (motive:= λ_=>Option aU) (oX r n) (some v) (Nat.beq m n)from rfl).trans ?_
  unfold al
  rw[Rj,iu]
  by_cases e:m=n<;>simp[e]
def QC (mem:List (Nat×aU)) (n:Nat) (c:aU):List (Nat×aU):=List.rec (motive:= λ_=>List (Nat×aU)) [] (λx r ih=>Bool.rec (x::ih) ((x.1,c)::r) (Nat.beq x.1 n)) mem
theorem PT {n:Nat} {c:aU}: ∀{mem:List (Nat×aU)},QC mem n c=cm mem n c
 | []=>rfl
 |(m,v)::r=>by
  refine(show QC ((m,v)::r) n c=Bool.rec (motive:= λ_=>List (Nat×aU)) ((m,v)::QC r n c) ((m,c)::r) (Nat.beq m n)from rfl).trans ?_
  unfold cm
  rw[Rj,PT]
  by_cases e:m=n<;>simp[e]
def VR (mem:List (Nat×aU)) (n:Nat):List (Nat×aU):=List.rec (motive:= λ_=>List (Nat×aU)) [] (λx _ ih=>Bool.rec (x::ih) ih (Nat.beq x.1 n)) mem
theorem JZ {n:Nat}: ∀{mem:List (Nat×aU)},VR mem n=oc mem n
 | []=>rfl
 |(m,v)::r=>by
  refine(show VR ((m,v)::r) n=Bool.rec (motive:= λ_=>List (Nat×aU)) ((m,v)::VR r n) (VR r n) (Nat.beq m n)from rfl).trans ?_
  unfold oc
  rw[Rj,JZ]
  by_cases e:m=n<;>simp[e]
def OC (mem:List (Nat×aU)):AC→Option (List AC)
 |.ptr nm off=>match oX mem nm with
  |some (.var xs)=>some (xs.drop off)
  |_=>none
 | .cptr cells=>some (cells.map .pure)
 |.eptr nm sz row off=>match oX mem nm with
  |some (.arr _ sz' rows)=>if sz=sz' then(rows[row]?).map λr=>(r.drop off).map .pure else none
  |some (.arn _ sz' rows)=>if sz=sz' then(rows[row]?).map λr=>r.drop off else none
  |_=>none
 |_=>none
theorem KF {mem:List (Nat×aU)} {q:AC}:OC mem q=bE mem q:=by
 cases q<;>simp only[OC,bE,iu]<;>rfl
def O9 (mem:List (Nat×aU)):AV→Option (List (List PC))
 | .c (.pure (.slice rows))=>some rows
 | .c (.tsl rows)=>some rows
 | .c .nils=>some []
 |.c (.ref nm)=>match oX mem nm with
  |some (.arr _ _ rows)=>some rows
  |_=>none
 |_=>none
theorem tK {mem:List (Nat×aU)} {v:AV}:O9 mem v=eQ mem v:=by
 unfold O9 eQ
 simp only[iu]
 rfl
def BA (k:IntKind) (n:Int):Int:=match k,n with
 |.i64,.ofNat a=>match Nat.ble a 9223372036854775807 with
  |true=> .ofNat a
  |false=>IntKind.wrap .i64 (.ofNat a)
 |.i64,.negSucc a=>match Nat.ble a 9223372036854775807 with
  |true=> .negSucc a
  |false=>IntKind.wrap .i64 (.negSucc a)
 |.u64,.ofNat a=>match Nat.ble a 18446744073709551615 with
  |true=> .ofNat a
  |false=>IntKind.wrap .u64 (.ofNat a)
 |k,n=>k.wrap n
theorem EZ {k:IntKind} {n:Int}:BA k n=k.wrap n:=by
 unfold BA
 split
 ·split
  ·rename_i a h
   have:=Nat.le_of_ble_eq_true h
   exact(wrap_i64 (by simp only[Int.ofNat_eq_natCast];omega)).symm
  ·rfl
 ·split
  ·rename_i a h
   have:=Nat.le_of_ble_eq_true h
   exact(wrap_i64 (by rw[Int.negSucc_eq];omega)).symm
  ·rfl
 ·split
  ·rename_i a h
   have:=Nat.le_of_ble_eq_true h
   exact(wrap_u64 (by simp only[Int.ofNat_eq_natCast];omega)).symm
  ·rfl
 ·rfl
def Yo:List UInt8→List UInt8→Bool
 | [], []=>true
 |x::xs,y::ys=>match Nat.beq x.toNat y.toNat with
  |true=>Yo xs ys
  |false=>false
 |_,_=>false
theorem y9: ∀{a b:List UInt8},Yo a b=true↔a=b
 | [], []=>by simp[Yo]
 | [],_::_=>by simp[Yo]
 |_::_, []=>by simp[Yo]
 |x::xs,y::ys=>by
  unfold Yo
  rw[Rj]
  by_cases e:x.toNat=y.toNat
  ·have e':x=y:=UInt8.toNat_inj.1 e
   simp[e',y9]
  ·have e': ¬x=y:= λh=>e (by rw[h])
   simp[e,e']
def ZU:KT→KT→Bool
 | .int a,.int b=>decide (a=b)
 | .str,.str=>true
 | .bool,.bool=>true
 |_,_=>false
theorem II {a b:KT} (h:ZU a b=true):a=b:=by cases a<;>cases b<;>simp_all [ZU]
def aap:List ET→List AC→List AC→Bool
 | [], [], []=>true
 | .int k::l,.pure (.val (.int k1 _))::xs,.pure (.val (.int k2 _))::ys=>decide (k1=k)&&decide (k2=k)&&aap l xs ys
 | .str::l,.pure (.val (.string _))::xs,.pure (.val (.string _))::ys=>aap l xs ys
 | .bool::l,.pure (.val (.bool _))::xs,.pure (.val (.bool _))::ys=>aap l xs ys
 |_,_,_=>false
theorem TC: ∀{l:List ET} {xs ys:List AC},aap l xs ys=true→yt l xs ys:=by
 intro l xs ys
 induction l,xs,ys using aap.induct<;>simp_all [aap,yt]
def CH:List AC→List AC→Bool
 | .pure (.val (.int _ a))::xs,.pure (.val (.int _ b))::ys=>decide (a=b)&&CH xs ys
 | .pure (.val (.string a))::xs,.pure (.val (.string b))::ys=>Yo a.data.toList b.data.toList&&CH xs ys
 | .pure (.val (.bool a))::xs,.pure (.val (.bool b))::ys=>(a==b)&&CH xs ys
 |_,_=>true
theorem Mo: ∀{xs ys:List AC},CH xs ys=true↔Ga xs ys:=by
 intro xs ys
 induction xs,ys using CH.induct with
 |case1 a xs b ys ih=>simp_all [CH,Ga]
 |case2 a xs b ys ih=>
  obtain⟨a⟩:=a
  obtain⟨b⟩:=b
  simp_all [CH,Ga,Array.toList_inj,y9]
 |case3 a xs b ys ih=>simp_all [CH,Ga]
 |case4 xs ys h1 h2 h3=>
  unfold CH Ga
  split
  ·exact absurd rfl (h1 _ _ _ _ _ _ rfl)
  ·exact absurd rfl (h2 _ _ _ _ rfl)
  ·exact absurd rfl (h3 _ _ _ _ rfl)
  ·simp
theorem Th {xs ys:List AC}:re (Ga xs ys)=CH xs ys:=by
 unfold re
 cases h:CH xs ys
 ·simp[←Mo,h]
 ·simp[←Mo,h]
def tU (a b:ByteArray):Bool:=Yo a.data.toList b.data.toList
theorem Nq {a b:ByteArray}:(a.toList==b.toList)=tU a b:=by
 rw[ByteArray.toList_eq,ByteArray.toList_eq]
 by_cases h:a.data.toList=b.data.toList
 ·rw[tU,y9.2 h,beq_iff_eq];exact h
 ·rw[tU,Bool.eq_false_iff.2 λe=>h (y9.1 e),beq_eq_false_iff_ne];exact h
def XY (op:BinOp) (k:IntKind) (a b:Int):Option Value:=match op with
 | .add=>some (.int k (BA k (a+b)))
 | .sub=>some (.int k (BA k (a-b)))
 | .mul=>some (.int k (BA k (a*b)))
 | .quo=>qS (decide (b≠0)) (some (.int k (BA k (a.tdiv b))))
 | .rem=>qS (decide (b≠0)) (some (.int k (a.tmod b)))
 | .and=>some (.int k (k.wrap (BitVec.ofInt k.bits a&&&BitVec.ofInt k.bits b).toNat))
 | .or=>some (.int k (k.wrap (BitVec.ofInt k.bits a|||BitVec.ofInt k.bits b).toNat))
 | .eql=>some (.bool (a==b))
 | .neq=>some (.bool (a !=b))
 | .lss=>some (.bool (decide (a<b)))
 | .leq=>some (.bool (decide (a≤b)))
 | .gtr=>some (.bool (decide (a>b)))
 | .geq=>some (.bool (decide (a≥b)))
 |_=>none
def XZ (op:BinOp) (a b:ByteArray):Option Value:=match op with
 | .add=>qS (decide (a.size+b.size≤9223372036854775807)) (some (.string (a++b)))
 | .eql=>some (.bool (tU a b))
 | .neq=>some (.bool (!tU a b))
 | .lss=>some (.bool (Op.bytesLess a.data.toList b.data.toList))
 | .leq=>some (.bool (Op.bytesLess a.data.toList b.data.toList||tU a b))
 | .gtr=>some (.bool (!(Op.bytesLess a.data.toList b.data.toList||tU a b)))
 | .geq=>some (.bool (!(Op.bytesLess a.data.toList b.data.toList)))
 |_=>none
def Zp (op:BinOp):Value→Value→Option Value
 | .int k a,.int k' b=>qS (decide (k=k')) (XY op k a b)
 | .string a,.string b=>XZ op a b
 |_,_=>none
def Zk (op:BinOp):Value→Value→Option Value
 |.int k a,.int _ b=>qS (decide (0≤b)) (match op with
  | .shl=>some (.int k (k.wrap (a*2^(min b.toNat k.bits))))
  | .shr=>some (.int k (a.fdiv (2^(min b.toNat k.bits))))
  |_=>none)
 |_,_=>none
theorem EV {op:BinOp} {x y r:Value} {K:Value→Prop} (h:Zk op x y=some r) (hk:K r):nK op x y K:=by
 unfold Zk at h
 split at h
 ·replace h:=aS.1 h;obtain⟨h1,h⟩:=h
  refine⟨of_decide_eq_true h1, ?_⟩
  cases op<;>cases h<;>exact hk
 ·cases h
theorem MW {op:BinOp} {x y r:Value} {K:Value→Prop} (h:Zp op x y=some r) (hk:K r):Bd op x y K:=by
 unfold Zp at h
 simp only[XY,XZ]at h
 split at h
 ·replace h:=aS.1 h;obtain⟨h1,h⟩:=h
  refine⟨of_decide_eq_true h1, ?_⟩
  cases op<;>simp only[aS,Option.some.injEq,reduceCtorEq,decide_eq_true_iff]at h
  case quo=>obtain⟨h1,rfl⟩:=h;exact⟨h1,by rw[EZ]at hk;exact hk⟩
  case rem=>obtain⟨h1,rfl⟩:=h;exact⟨h1,hk⟩
  all_goals(subst h;first|exact hk|(rw[EZ]at hk;exact hk))
 ·cases op<;>simp only[aS,Option.some.injEq,reduceCtorEq,decide_eq_true_iff]at h
  case add=>obtain⟨h1,rfl⟩:=h;exact⟨h1,hk⟩
  all_goals(subst h;simp only[←Nq,←ByteArray.toList_eq]at hk;exact hk)
 ·cases h
def Jn (σ:St):List (Nat×Nat×AX)→List AC→Option (List AC)
 | [],acc=>some acc
 |(off,n,x)::r,acc=>match (mf σ.fr x).cells with
  |some ys=>qS (decide (ys.length=n)&&decide (off+n≤acc.length)) (Jn σ r (over acc off ys))
  |none=>none
theorem zX {σ:St} {K:List AC→Prop}: ∀{ps:List (Nat×Nat×AX)} {acc xs:List AC},Jn σ ps acc=some xs→K xs→bq.buildW σ ps acc K
 | [],acc,xs,h,hk=>by cases h;exact hk
 |(off,n,x)::r,acc,xs,h,hk=>by
  unfold Jn at h
  simp only[no]at h
  unfold bq.buildW
  split at h
  ·rename_i ys e
   replace h:=aS.1 h;obtain⟨h1,h⟩:=h
   rw[e]
   simp only[Bool.and_eq_true,decide_eq_true_iff]at h1
   exact⟨h1,zX h hk⟩
  ·cases h
def Wb (σ:St) (sz:Nat):List AX→List (List PC)→Option (List (List PC))
 | [],acc=>some acc
 |x::r,acc=>match (mf σ.fr x).cells with
  |some ys=>match GG ys with
   |some zs=>qS (decide (ys.length=sz)) (Wb σ sz r (acc++ [zs]))
   |none=>none
  |none=>none
theorem Dj {σ:St} {sz:Nat} {K:List (List PC)→Prop}: ∀{l:List AX} {acc xs:List (List PC)},Wb σ sz l acc=some xs→K xs→bq.bsliceW σ sz l acc K
 | [],acc,xs,h,hk=>by cases h;exact hk
 |x::r,acc,xs,h,hk=>by
  unfold Wb at h
  simp only[no]at h
  unfold bq.bsliceW
  split at h
  ·rename_i ys e
   split at h
   ·rename_i zs e2
    replace h:=aS.1 h;obtain⟨h1,h⟩:=h
    rw[e]
    exact⟨zs,e2,of_decide_eq_true h1,Dj h hk⟩
   ·cases h
  ·cases h
def P3 (σ:St) (sz:Nat):List AX→List (Nat×aU)→List (List PC)→Option (List (List PC)×List (Nat×aU))
 | [],mem,acc=>some (acc,mem)
 |x::r,mem,acc=>match (mf σ.fr x).cells with
  |some ys=>match D1 mem ys with
   |some z=>qS (decide (ys.length=sz)) (P3 σ sz r z.2 (acc++ [z.1]))
   |none=>none
  |none=>none
theorem Cj {σ:St} {sz:Nat} {K:List (List PC)→List (Nat×aU)→Prop}: ∀{l:List AX} {mem:List (Nat×aU)} {acc:List (List PC)} {xs:List (List PC)×List (Nat×aU)},P3 σ sz l mem acc=some xs→K xs.1 xs.2→bq.bsliceFW σ sz l mem acc K
 | [],mem,acc,xs,h,hk=>by cases h;exact hk
 |x::r,mem,acc,xs,h,hk=>by
  unfold P3 at h
  simp only[no]at h
  unfold bq.bsliceFW
  split at h
  ·rename_i ys e
   split at h
   ·rename_i zs e2
    replace h:=aS.1 h;obtain⟨h1,h⟩:=h
    rw[e]
    exact⟨zs,e2,of_decide_eq_true h1,Cj h hk⟩
   ·cases h
  ·cases h
def Ov (σ:St):List AX→List AC→Option (List AC)
 | [],acc=>some acc
 |x::r,acc=>match mf σ.fr x with
  | .c y=>Ov σ r (acc++ [y])
  |_=>none
theorem Bx {σ:St} {K:List AC→Prop}: ∀{l:List AX} {acc xs:List AC},Ov σ l acc=some xs→K xs→bq.mkfnW σ l acc K
 | [],acc,xs,h,hk=>by cases h;exact hk
 |x::r,acc,xs,h,hk=>by
  unfold Ov at h
  simp only[no]at h
  unfold bq.mkfnW
  split at h
  ·rename_i y e
   rw[e]
   exact Bx h hk
  ·cases h
def J5 (sz:Nat) (rows:List (List PC)):Bool:=rows.all λr=>r.length==sz
theorem zw {sz:Nat} {rows:List (List PC)} (h:J5 sz rows=true):bC sz rows:= λr hr=>by
 have:=List.all_eq_true.1 h r hr
 simpa using this
def RK (bytes n:Nat):Bool:=decide (n*bytes≤140737488355328)&&decide (n≤140737488355328)
def Xt (e sz bytes:Nat) (x y:AV) (ys:List (List PC)) (σ:St):Option (AV×St):=
 qS (J5 sz ys) (match x with
 |.c (.ref nm)=>match oX σ.mem nm with
  |some (.arr e' sz' rows)=>qS (decide (e'=e)&&decide (sz'=sz)&&RK bytes (rows.length+ys.length)&&(match y with| .c (.ref m)=>decide (m≠nm)|_=>true))
   (some (.c (.ref σ.nx),{σ with mem:=(σ.nx,.arr e sz (rows++ys))::VR σ.mem nm,nx:=σ.nx+1}))
  |_=>none
 | .c .nils=>qS (RK bytes (([]:List (List PC)).length+ys.length)) (some (.c (.ref σ.nx),{σ with mem:=(σ.nx,.arr e sz ([]++ys))::σ.mem,nx:=σ.nx+1}))
 |.c (.tsl rows)=>match ys with
  | []=>qS (J5 sz rows) (some (.c (.tsl rows),σ))
  |_=>qS (J5 sz rows&&RK bytes (rows.length+ys.length)) (some (.c (.ref σ.nx),{σ with mem:=(σ.nx,.arr e sz (rows++ys))::σ.mem,nx:=σ.nx+1}))
 |_=>none)
theorem M3 {e sz bytes:Nat} {x y:AV} {ys:List (List PC)} {σ σ':St} {v:AV} {K:nV (AV→St→Prop)} (h:Xt e sz bytes x y ys σ=some (v,σ')) (hk:K.out v σ'): @Fy e sz bytes x y ys σ K:=by
 unfold Xt at h
 simp only[iu,JZ]at h
 replace h:=aS.1 h;obtain⟨h0,h⟩:=h
 refine⟨zw h0, ?_⟩
 split at h
 ·rename_i nm
  split at h
  ·rename_i e' sz' rows ef
   replace h:=aS.1 h;obtain⟨h1,h⟩:=h
   simp only[Bool.and_eq_true,decide_eq_true_iff,RK]at h1
   obtain⟨⟨⟨rfl,rfl⟩,h2,h3⟩,h4⟩:=h1
   cases h
   refine .inl ⟨nm,rfl, ?_,rows,ef,h2,h3,hk⟩
   rintro rfl
   simp at h4
  ·cases h
 ·replace h:=aS.1 h;obtain⟨h1,h⟩:=h
  simp only[Bool.and_eq_true,decide_eq_true_iff,RK]at h1
  cases h
  exact .inr (.inl ⟨rfl,.inl ⟨h1.1,h1.2,hk⟩⟩)
 ·rename_i rows
  split at h
  ·replace h:=aS.1 h;obtain⟨h1,h⟩:=h
   cases h
   exact .inr (.inr ⟨rows,rfl,zw h1,.inr (.inr ⟨rfl,hk⟩)⟩)
  ·rename_i hne
   replace h:=aS.1 h;obtain⟨h1,h⟩:=h
   simp only[Bool.and_eq_true,decide_eq_true_iff,RK]at h1
   cases h
   exact .inr (.inr ⟨rows,rfl,zw h1.1,.inl ⟨λe=>hne e,h1.2.1,h1.2.2,hk⟩⟩)
 ·cases h
structure dA where
 p:aaN
 i:aaW
 nz:FuncId→Bool
def CA (n:Nat) (l:List Nat):List Nat:=if l.contains n then l else l++ [n]
def Yv (l:List Nat):AC→List Nat
 | .ref n=>CA n l
 |_=>l
def O6:List AV→List Nat→List Nat
 | [],l=>l
 | .c x::r,l=>O6 r (Yv l x)
 | .agg xs::r,l=>O6 r (xs.foldl Yv l)
 |_::r,l=>O6 r l
def Su (E:dA) (z:Bool) (f:FuncId) (σ:St) (args:List AV):List Nat:=match z with
 |true=>match E.nz f with
  |true=> []
  |false=>O6 args []
 |false=> []
def Ys (E:dA) (g:Bool) (f:FuncId) (args:List AV) (σ:St):Option AV:=
 match aV σ.mem args with
 |some ps=>match E.p g f ps with
  |some r=>match oZ r||args.all fh with
   |true=>some r
   |false=>none
  |none=>none
 |none=>none
def Sa (E:dA) (g z:Bool) (f:FuncId) (args:List AV) (σ:St):Option (AV×St):=
 match aP (Su E z f σ args) σ args with
 |(σ,args)=>match Ys E (g&&(E.nz f|| !args.all fh)) f args σ with
  |some r=>some (r,σ)
  |none=>match g with
   |true=>match E.i f args σ.mem σ.nx with
    |some (r,m,n)=>some (r,{σ with mem:=m,nx:=n})
    |none=>none
   |false=>none
theorem L0 {P:Program} {E:dA} (hP: ∀g f as r,E.p g f as=some r→af P f as r) (hI: ∀f as m n r m' n',E.i f as m n=some (r,m',n')→aq P f as m n r m' n')
  {g z:Bool} {f:FuncId} {args:List AV} {σ σ':St} {v:AV} {K:nV (AV→St→Prop)} (h:Sa E g z f args σ=some (v,σ')) (hk:K.out v σ'): @sG P g z f args σ K:=by
 unfold Sa at h
 split at h
 rename_i σ1 Pb e0
 refine⟨Su E z f σ args,σ1,Pb, ?_,e0, ?_⟩
 ·unfold Su
  split
  ·exact .inr rfl
  ·exact .inl rfl
 split at h
 ·rename_i r e
  cases h
  unfold Ys at e
  split at e
  ·rename_i ps e2
   split at e
   ·rename_i r' e3
    split at e
    ·rename_i e4
     cases e
     refine .inl ⟨ps,e2,_,.inl ⟨hP _ _ _ _ e3, ?_⟩,hk⟩
     simpa using e4
    ·cases e
   ·cases e
  ·cases e
 ·split at h
  ·split at h
   ·rename_i r m n e
    cases h
    exact .inr ⟨rfl,_,_,_,hI _ _ _ _ _ _ _ e,hk⟩
   ·cases h
  ·cases h
def aaw (E:dA) (σ:St) (x:AX):Option (AV×St):=some (mf σ.fr x,σ)
def Se (E:dA) (σ:St) (c a b:AX):Option (AV×St):=match mf σ.fr c with
 | .c (.pure (.val (.bool true)))=>some (mf σ.fr a,σ)
 | .c (.pure (.val (.bool false)))=>some (mf σ.fr b,σ)
 |_=>none
def G5 (E:dA) (σ:St) (x:AX):Option (AV×St):=match (mf σ.fr x).cells with
 |some xs=>some (.c (.ptr σ.nx 0),{σ with mem:=(σ.nx,.var xs)::σ.mem,nx:=σ.nx+1})
 |none=>none
def SU (E:dA) (σ:St) (n:Option Nat) (p:AX):Option (AV×St):=match mf σ.fr p with
 |.c q=>match OC σ.mem q with
  |some xs=>match n with
   |none=>match xs with
    |x::_=>some (.c x,σ)
    | []=>none
   |some n=>qS (decide (n≤xs.length)) (some (.agg (xs.take n),σ))
  |none=>none
 |_=>none
def On (E:dA) (σ:St) (n:Nat) (p v:AX):Option (AV×St):=match (mf σ.fr v).cells with
 |some ys=>match mf σ.fr p with
  |.c (.ptr nm off)=>match oX σ.mem nm with
   |some (.var xs)=>qS (decide (ys.length=n)&&decide (off+n≤xs.length)) (some (.tup [],{σ with mem:=QC σ.mem nm (.var (over xs off ys))}))
   |_=>none
  |.c (.eptr nm sz row off)=>match oX σ.mem nm with
   |some (.arr e sz' rows)=>qS (decide (sz=sz')&&decide (ys.length=n)&&decide (off+n≤sz)) (match GG ys,rows[row]? with
    |some zs,some r=>some (.tup [],{σ with mem:=QC σ.mem nm (.arr e sz (rows.set row (over r off zs)))})
    |_,_=>none)
   |_=>none
  |_=>none
 |none=>none
def XW (E:dA) (σ:St) (op:BinOp) (x y:AX):Option (AV×St):=match mf σ.fr x,mf σ.fr y with
 |.c (.pure (.val a)),.c (.pure (.val b))=>match (match op with
  | .shl| .shr=>Zk op a b
  |_=>Zp op a b)with
  |some r=>some (.c (.pure (.val r)),σ)
  |none=>none
 |_,_=>none
def Yp (E:dA) (σ:St) (neg:Bool) (x y:AX):Option (AV×St):=match mf σ.fr x,mf σ.fr y with
 | .c (.pure (.val (.bool a))),.c (.pure (.val (.bool b)))=>some (.c (.pure (.val (.bool ((a==b) !=neg)))),σ)
 |_,_=>none
def Ye (E:dA) (σ:St) (neg:Bool) (l:List ET) (x y:AX):Option (AV×St):=match mf σ.fr x,mf σ.fr y with
 | .agg xs,.agg ys=>qS (aap l xs ys) (some (.c (.pure (.val (.bool (CH xs ys !=neg)))),σ))
 |_,_=>none
def aal (E:dA) (σ:St) (op:UnOp) (x:AX):Option (AV×St):=match op,mf σ.fr x with
 | .not,.c (.pure (.val (.bool b)))=>some (.c (.pure (.val (.bool (!b)))),σ)
 | .neg,.c (.pure (.val (.int k n)))=>some (.c (.pure (.val (.int k (BA k (0-n))))),σ)
 |_,_=>none
def TP (E:dA) (σ:St) (k:IntKind) (x:AX):Option (AV×St):=match mf σ.fr x with
 | .c (.pure (.val (.int _ n)))=>some (.c (.pure (.val (.int k (BA k n)))),σ)
 |_=>none
def KB (E:dA) (σ:St) (off:Nat) (p:AX):Option (AV×St):=match mf σ.fr p with
 | .c (.ptr nm o)=>some (.c (.ptr nm (o+off)),σ)
 | .c (.cptr cells)=>some (.c (.cptr (cells.drop off)),σ)
 | .c (.eptr nm sz row o)=>some (.c (.eptr nm sz row (o+off)),σ)
 |_=>none
def PV (E:dA) (σ:St) (off:Nat) (n:Option Nat) (x:AX):Option (AV×St):=match mf σ.fr x with
 |.agg xs=>match n with
  |none=>match xs.drop off with
   |x::_=>some (.c x,σ)
   | []=>none
  |some n=>qS (decide (off+n≤xs.length)) (some (.agg ((xs.drop off).take n),σ))
 |_=>none
def Sh (E:dA) (σ:St) (sz:Nat) (x i:AX):Option (AV×St):=match mf σ.fr i with
 |.c (.pure (.val (.int _ i)))=>match mf σ.fr x with
  |.c (.pure (.slice rows))| .c (.tsl rows)=>match rows[i.toNat]? with
   |some r=>qS (decide (0≤i)&&decide (r.length=sz)&&decide (0<sz)) (some (.c (.cptr r),σ))
   |none=>none
  |.c (.ref nm)=>match oX σ.mem nm with
   |some (.arr _ sz' rows)=>qS (decide (sz'=sz)&&decide (0<sz)&&decide (0≤i)&&decide (i<rows.length)) (some (.c (.eptr nm sz i.toNat 0),σ))
   |_=>none
  |_=>none
 |_=>none
def SH (E:dA) (σ:St) (len sz:Nat) (x i:AX):Option (AV×St):=match mf σ.fr x,mf σ.fr i with
 | .c (.ptr nm o),.c (.pure (.val (.int _ i)))=>qS (decide (0≤i)&&decide (i<len)) (some (.c (.ptr nm (o+i.toNat*sz)),σ))
 | .c (.cptr cells),.c (.pure (.val (.int _ i)))=>qS (decide (0≤i)&&decide (i<len)) (some (.c (.cptr (cells.drop (i.toNat*sz))),σ))
 |_,_=>none
def Ss (E:dA) (σ:St) (x:AX):Option (AV×St):=match mf σ.fr x with
 | .c (.ptr nm o)=>some (.c (.ptr nm o),σ)
 | .c (.cptr cells)=>some (.c (.cptr cells),σ)
 | .c (.eptr nm sz row o)=>some (.c (.eptr nm sz row o),σ)
 | .c (.clo f caps)=>some (.c (.clo f caps),σ)
 |_=>none
def TF (E:dA) (σ:St) (x i:AX):Option (AV×St):=match mf σ.fr x,mf σ.fr i with
 |.c (.pure (.val (.string s))),.c (.pure (.val (.int _ i)))=>match s[i.toNat]? with
  |some b=>qS (decide (0≤i)) (some (.c (.pure (.val (.int .u8 b.toNat))),σ))
  |none=>none
 |_,_=>none
def Pm (E:dA) (σ:St) (zero:List AC) (parts:List (Nat×Nat×AX)):Option (AV×St):=match Jn σ parts zero with
 |some xs=>some (.agg xs,σ)
 |none=>none
def K4 (E:dA) (σ:St) (sz:Nat) (rows:List AX):Option (AV×St):=match Wb σ sz rows []with
 |some rs=>some (.c (.tsl rs),σ)
 |none=>none
def mZ (E:dA) (σ:St) (e sz bytes:Nat) (zero:List PC) (l:AX):Option (AV×St):=match mf σ.fr l with
 | .c (.pure (.val (.int .i64 n)))=>qS (decide (0≤n)&&decide (n≤281474976710656)&&decide (bytes*n≤281474976710656))
   (some (.c (.ref σ.nx),{σ with mem:=(σ.nx,.arr e sz (List.replicate n.toNat zero))::σ.mem,nx:=σ.nx+1}))
 |_=>none
def Yf (E:dA) (σ:St) (sz:Nat) (x:AX) (lo hi mx:Option AX):Option (AV×St):=match mf σ.fr x with
 | .c (.ref _)=>none
 |v=>match O9 σ.mem v,bq.boundOf σ lo,bq.boundOf σ hi,bq.boundOf σ mx with
  |some rows,some lo,some hi,some mx=>qS (J5 sz rows&&decide (0≤lo.getD 0)&&decide (lo.getD 0≤hi.getD rows.length)&&decide (hi.getD rows.length≤mx.getD rows.length)&&decide (mx.getD rows.length≤rows.length))
   (some (.c (if mx.isSome=true∧mx=hi then .tsl ((rows.take (hi.getD rows.length).toNat).drop (lo.getD 0).toNat)else .pure (.slice ((rows.take (hi.getD rows.length).toNat).drop (lo.getD 0).toNat))),σ))
  |_,_,_,_=>none
def T6 (E:dA) (σ:St) (x:AX) (lo hi:Option AX):Option (AV×St):=match mf σ.fr x,bq.boundOf σ lo,bq.boundOf σ hi with
 |.c (.pure (.val (.string s))),some lo,some hi=>qS (decide (0≤lo.getD 0)&&decide (lo.getD 0≤hi.getD s.size)&&decide (hi.getD s.size≤s.size))
  (some (.c (.pure (.val (.string (s.extract (lo.getD 0).toNat (hi.getD s.size).toNat)))),σ))
 |_,_,_=>none
def XV (E:dA) (σ:St) (x:AX) (i:Nat):Option (AV×St):=match mf σ.fr x with
 |.tup vs=>match vs[i]? with
  |some v=>some (v,σ)
  |none=>none
 |_=>none
def Yr (E:dA) (σ:St) (x:AX):Option (AV×St):=match mf σ.fr x with
 | .c (.pure (.slice rows))| .c (.tsl rows)=>some (.c (.pure (.val (.int .i64 rows.length))),σ)
 | .c .nils=>some (.c (.pure (.val (.int .i64 0))),σ)
 |.c (.ref nm)=>match oX σ.mem nm with
  |some (.arr _ _ rows)=>some (.c (.pure (.val (.int .i64 rows.length))),σ)
  |_=>none
 |_=>none
def Va (E:dA) (σ:St) (x:AX):Option (AV×St):=match mf σ.fr x with
 | .c (.pure (.val (.string s)))=>some (.c (.pure (.val (.int .i64 s.size))),σ)
 |_=>none
def aaa (E:dA) (σ:St) (mx:Bool) (x y:AX):Option (AV×St):=match mf σ.fr x,mf σ.fr y with
 | .c (.pure (.val (.int k a))),.c (.pure (.val (.int _ b)))=>some (.c (.pure (.val (.int k (if mx=true then max a b else min a b)))),σ)
 |_,_=>none
def R7 (E:dA) (σ:St) (neg:Bool) (x:AX):Option (AV×St):=match mf σ.fr x with
 | .c .nils=>some (.c (.pure (.val (.bool (!neg)))),σ)
 | .c (.pure (.slice rows))| .c (.tsl rows)=>qS (rows.any λr=> !r.isEmpty) (some (.c (.pure (.val (.bool neg))),σ))
 |.c (.ref nm)=>match oX σ.mem nm with
  |some (.arr _ _ rows)=>qS (rows.any λr=> !r.isEmpty) (some (.c (.pure (.val (.bool neg))),σ))
  |_=>none
 |_=>none
def If (E:dA) (σ:St) (e sz bytes:Nat) (x y:AX):Option (AV×St):=match O9 σ.mem (mf σ.fr y)with
 |some ys=>Xt e sz bytes (mf σ.fr x) (mf σ.fr y) ys σ
 |none=>none
def Sl (E:dA) (σ:St) (f:FuncId) (caps:List AX):Option (AV×St):=match Ov σ caps []with
 |some xs=>some (.c (.clo f xs),σ)
 |none=>none
def UN (E:dA) (σ:St) (g z:Bool) (f:AX) (args:List AX):Option (AV×St):=match mf σ.fr f with
 | .c (.clo f caps)=>Sa E g z f ((args.map λx=>mf σ.fr x)++caps.map .c) σ
 |_=>none
def Ip (E:dA) (σ:St) (sz:Nat) (rows:List AX):Option (AV×St):=match P3 σ sz rows σ.mem []with
 |some (rs,mem)=>some (.c (.tsl rs),{σ with mem:=mem})
 |none=>none
def v7 (E:dA) (σ:St) (kt:KT) (n:Option Nat):Option (AV×St):=some (.c (.mref σ.nx),{σ with mem:=(σ.nx,.map kt n [])::σ.mem,nx:=σ.nx+1})
def VO (E:dA) (σ:St) (kt:KT) (n:Option Nat) (zero:List AC) (ok:Bool) (m k:AX):Option (AV×St):=match mf σ.fr k with
 |.c (.pure (.val kv))=>match GD kt kv with
  |some mk=>match mf σ.fr m with
   |.c (.mref nm)=>match oX σ.mem nm with
    |some (.map kt' n' ents)=>qS (ZU kt' kt&&decide (n'=n)) (match iy ents mk with
     |some ps=>some (if ok=true then .tup [eT n ps,.c (.pure (.val (.bool true)))]else eT n ps,σ)
     |none=>some (if ok=true then .tup [eT n zero,.c (.pure (.val (.bool false)))]else eT n zero,σ))
    |_=>none
   | .c (.pure (.fmap kt' n' es))=>qS (ZU kt' kt&&decide (n'=n)) (match iy (pE es) mk with
     |some ps=>some (if ok=true then .tup [eT n ps,.c (.pure (.val (.bool true)))]else eT n ps,σ)
     |none=>some (if ok=true then .tup [eT n zero,.c (.pure (.val (.bool false)))]else eT n zero,σ))
   |_=>none
  |none=>none
 |_=>none
def U0 (E:dA) (σ:St) (kt:KT) (n:Option Nat) (m k v:AX):Option (AV×St):=match mf σ.fr k with
 |.c (.pure (.val kv))=>match GD kt kv with
  |some mk=>match mf σ.fr m with
   |.c (.mref nm)=>match AB n (mf σ.fr v)with
    |some ys=>match oX σ.mem nm with
     |some (.map kt' n' ents)=>qS (ZU kt' kt&&decide (n'=n)) (some (.tup [],{σ with mem:=QC σ.mem nm (.map kt n (Bk ents mk ys))}))
     |_=>none
    |none=>none
   |_=>none
  |none=>none
 |_=>none
def R4 (E:dA) (o:eL) (σ:St):Option (AV×St):=
 match o with
 | .mv x=>aaw E σ x
 | .pick c a b=>Se E σ c a b
 | .box x=>G5 E σ x
 | .load n p=>SU E σ n p
 | .store n p v=>On E σ n p v
 | .bin op x y=>XW E σ op x y
 | .eqb neg x y=>Yp E σ neg x y
 | .eqs neg l x y=>Ye E σ neg l x y
 | .un op x=>aal E σ op x
 | .conv k x=>TP E σ k x
 | .fieldA off p=>KB E σ off p
 | .field off n x=>PV E σ off n x
 | .idxA sz x i=>Sh E σ sz x i
 | .idxR len sz x i=>SH E σ len sz x i
 | .nilc x=>Ss E σ x
 | .idxS x i=>TF E σ x i
 | .build zero parts=>Pm E σ zero parts
 | .bslice sz rows=>K4 E σ sz rows
 | .mkslice e sz bytes zero l=>mZ E σ e sz bytes zero l
 | .slc sz x lo hi mx=>Yf E σ sz x lo hi mx
 | .slcS x lo hi=>T6 E σ x lo hi
 | .ext x i=>XV E σ x i
 | .len x=>Yr E σ x
 | .lenS x=>Va E σ x
 | .mm mx x y=>aaa E σ mx x y
 | .snil neg x=>R7 E σ neg x
 | .app e sz bytes x y=>If E σ e sz bytes x y
 | .mkfn f caps=>Sl E σ f caps
 | .call g z f args=>UN E σ g z f args
 | .bsliceF sz rows=>Ip E σ sz rows
 | .mkmap kt n=>v7 E σ kt n
 | .mget kt n zero ok m k=>VO E σ kt n zero ok m k
 | .mput kt n m k v=>U0 E σ kt n m k v
 |_=>none
theorem Ej {rows:List (List PC)} {A B:nV Prop} (h:(rows.any λr=> !r.isEmpty)=true) (hb:B.out): @GQ rows A B:=by
 refine⟨λh0=> ?_,hb⟩
 obtain⟨r,hr,e⟩:=List.any_eq_true.1 h
 rw[h0 r hr]at e
 cases e
section
variable {P : Program} {E : dA} (hP : ∀ g f as r, E.p g f as = some r → af P f as r) (hI : ∀ f as m n r m' n', E.i f as m n = some (r, m', n') → aq P f as m n r m' n')
include hP hI
theorem AT {o:eL} {σ σ':St} {v:AV} {K:AV→St→Prop} (h:R4 E o σ=some (v,σ')) (hk:K v σ'):bq P o σ K:=by
 cases o<;>simp only[R4,aaw,Se,G5,SU,On,XW,Yp,Ye,aal,TP,KB,PV,Sh,SH,Ss,TF,Pm,K4,mZ,Yf,T6,XV,Yr,Va,aaa,R7,If,Sl,UN,Ip,v7,VO,U0,no,iu,PT,KF,tK,EZ]at h<;>simp only[bq]
 case mv x=>cases h;exact hk
 case pick c a b=>
  split at h
  ·rename_i e
   cases h
   rw[e]
   exact⟨λ_=>hk,λe=>by cases e⟩
  ·rename_i e
   cases h
   rw[e]
   exact⟨(λe=>by cases e),λ_=>hk⟩
  ·cases h
 case box x=>split at h<;>cases h;rename_i e;rw[e];exact hk
 case load n p=>
  split at h
  ·rename_i q e
   rw[e]
   dsimp only
   split at h
   ·rename_i xs e2
    rw[e2]
    dsimp only
    split at h
    ·split at h<;>cases h
     exact hk
    ·replace h:=aS.1 h;obtain⟨h1,h⟩:=h
     cases h
     exact⟨of_decide_eq_true h1,hk⟩
   ·cases h
  ·cases h
 case store n p w=>
  split at h
  ·rename_i ys e
   rw[e]
   split at h
   ·rename_i nm off e2
    rw[e2]
    dsimp only
    split at h
    ·rename_i xs e3
     rw[e3]
     replace h:=aS.1 h;obtain⟨h1,h⟩:=h
     simp only[Bool.and_eq_true,decide_eq_true_iff]at h1
     cases h
     exact⟨h1,hk⟩
    ·cases h
   ·rename_i nm sz row off e2
    rw[e2]
    dsimp only
    split at h
    ·rename_i e0 sz' rows e3
     rw[e3]
     replace h:=aS.1 h;obtain⟨h1,h⟩:=h
     simp only[Bool.and_eq_true,decide_eq_true_iff]at h1
     split at h
     ·rename_i zs r e4 e5
      cases h
      exact⟨⟨h1.1.1,h1.1.2,h1.2⟩,zs,e4,r,e5,hk⟩
     ·cases h
    ·cases h
   ·cases h
  ·cases h
 case bin op x y=>
  split at h
  ·rename_i a b e1 e2
   rw[e1,e2]
   dsimp only
   split at h
   ·rename_i r e
    cases h
    cases op
    case shl=>exact EV e hk
    case shr=>exact EV e hk
    all_goals exact MW e hk
   ·cases h
  ·cases h
 case eqb neg x y=>split at h<;>cases h;rename_i e1 e2;rw[e1,e2];exact hk
 case eqs neg l x y=>
  split at h
  ·rename_i e1 e2
   rw[e1,e2]
   replace h:=aS.1 h;obtain⟨h1,h⟩:=h
   cases h
   refine⟨TC h1, ?_⟩
   show K _ _
   rw[Th]
   exact hk
  ·cases h
 case un op x=>split at h<;>cases h<;>(rename_i e;rw[e];exact hk)
 case conv k x=>split at h<;>cases h;rename_i e;rw[e];exact hk
 case fieldA off p=>split at h<;>cases h<;>(rename_i e;rw[e];exact hk)
 case field off n x=>
  split at h
  ·rename_i xs e
   rw[e]
   dsimp only
   split at h
   ·split at h<;>cases h
    rename_i e2
    dsimp only
    rw[e2]
    exact hk
   ·replace h:=aS.1 h;obtain⟨h1,h⟩:=h
    cases h
    exact⟨of_decide_eq_true h1,hk⟩
  ·cases h
 case idxA sz x i=>
  split at h
  ·rename_i e1
   rw[e1]
   split at h
   ·rename_i rows e2
    rw[e2]
    split at h
    ·rename_i r e3
     replace h:=aS.1 h;obtain⟨h1,h⟩:=h
     simp only[Bool.and_eq_true,decide_eq_true_iff]at h1
     cases h
     exact⟨h1.1.1,r,e3,⟨h1.1.2,h1.2⟩,hk⟩
    ·cases h
   ·rename_i rows e2
    rw[e2]
    split at h
    ·rename_i r e3
     replace h:=aS.1 h;obtain⟨h1,h⟩:=h
     simp only[Bool.and_eq_true,decide_eq_true_iff]at h1
     cases h
     exact⟨h1.1.1,r,e3,⟨h1.1.2,h1.2⟩,hk⟩
    ·cases h
   ·rename_i nm e2
    rw[e2]
    dsimp only
    split at h
    ·rename_i e3
     rw[e3]
     replace h:=aS.1 h;obtain⟨h1,h⟩:=h
     simp only[Bool.and_eq_true,decide_eq_true_iff]at h1
     cases h
     exact⟨⟨h1.1.1.1,h1.1.1.2,h1.1.2,h1.2⟩,hk⟩
    ·cases h
   ·cases h
  ·cases h
 case idxR len sz x i=>
  split at h
  ·rename_i e1 e2
   rw[e1,e2]
   replace h:=aS.1 h;obtain⟨h1,h⟩:=h
   simp only[Bool.and_eq_true,decide_eq_true_iff]at h1
   cases h
   exact⟨h1,hk⟩
  ·rename_i e1 e2
   rw[e1,e2]
   replace h:=aS.1 h;obtain⟨h1,h⟩:=h
   simp only[Bool.and_eq_true,decide_eq_true_iff]at h1
   cases h
   exact⟨h1,hk⟩
  ·cases h
 case nilc x=>split at h<;>cases h<;>(rename_i e;rw[e];exact hk)
 case idxS x i=>
  split at h
  ·rename_i e1 e2
   rw[e1,e2]
   split at h
   ·rename_i b e3
    replace h:=aS.1 h;obtain⟨h1,h⟩:=h
    cases h
    exact⟨of_decide_eq_true h1,b,e3,hk⟩
   ·cases h
  ·cases h
 case build z ps=>split at h<;>cases h;rename_i e;exact zX e hk
 case bslice sz rows=>split at h<;>cases h;rename_i e;exact Dj e hk
 case mkslice e0 sz bytes z l=>
  split at h
  ·rename_i e
   rw[e]
   replace h:=aS.1 h;obtain⟨h1,h⟩:=h
   simp only[Bool.and_eq_true,decide_eq_true_iff]at h1
   cases h
   exact⟨⟨h1.1.1,h1.1.2,h1.2⟩,hk⟩
  ·cases h
 case slc sz x lo hi mx=>
  split at h
  ·cases h
  ·rename_i hn
   split at h
   ·rename_i rows l1 h1 m1 e1 e2 e3 e4
    replace h:=aS.1 h;obtain⟨hc,h⟩:=h
    simp only[Bool.and_eq_true,decide_eq_true_iff]at hc
    cases h
    split
    ·rename_i nm e
     exact absurd e (hn nm)
    ·exact⟨rows,e1,l1,e2,h1,e3,m1,e4,⟨zw hc.1.1.1.1,hc.1.1.1.2,hc.1.1.2,hc.1.2,hc.2⟩,hk⟩
   ·cases h
 case slcS x lo hi=>
  split at h
  ·rename_i e1 e2 e3
   rw[e1,e2,e3]
   replace h:=aS.1 h;obtain⟨h1,h⟩:=h
   simp only[Bool.and_eq_true,decide_eq_true_iff]at h1
   cases h
   exact⟨⟨h1.1.1,h1.1.2,h1.2⟩,hk⟩
  ·cases h
 case ext x i=>
  split at h
  ·rename_i e
   rw[e]
   split at h
   ·rename_i v' e2
    cases h
    exact⟨_,e2,hk⟩
   ·cases h
  ·cases h
 case len x=>
  split at h
  ·rename_i e;cases h;rw[e];exact hk
  ·rename_i e;cases h;rw[e];exact hk
  ·rename_i e;cases h;rw[e];exact hk
  ·rename_i e
   rw[e]
   dsimp only
   split at h<;>cases h
   rename_i e2
   rw[e2]
   exact hk
  ·cases h
 case lenS x=>split at h<;>cases h;rename_i e;rw[e];exact hk
 case mm mx x y=>split at h<;>cases h;rename_i e1 e2;rw[e1,e2];exact hk
 case mm4=>cases h
 case dead=>cases h
 case fnil=>cases h
 case snil neg x=>
  split at h
  ·rename_i e;cases h;rw[e];exact hk
  ·rename_i e
   replace h:=aS.1 h;obtain⟨h1,h⟩:=h
   cases h;rw[e];exact Ej h1 hk
  ·rename_i e
   replace h:=aS.1 h;obtain⟨h1,h⟩:=h
   cases h;rw[e];exact Ej h1 hk
  ·rename_i e
   rw[e]
   dsimp only
   split at h
   ·rename_i e2
    replace h:=aS.1 h;obtain⟨h1,h⟩:=h
    cases h;rw[e2];exact Ej h1 hk
   ·cases h
  ·cases h
 case app e0 sz bytes x y=>
  split at h
  ·rename_i ys e
   exact⟨ys,e,M3 h hk⟩
  ·cases h
 case mkfn f caps=>split at h<;>cases h;rename_i e;exact Bx e hk
 case call g z f args=>
  split at h
  ·rename_i f caps e
   rw[e]
   exact L0 hP hI h hk
  ·cases h
 case bsliceF sz rows=>split at h<;>cases h;rename_i e;exact Cj e hk
 case mkmap kt n=>cases h;exact hk
 case mget kt n z ok m k=>
  split at h
  ·rename_i e
   rw[e]
   split at h
   ·rename_i mk e1
    refine⟨mk,e1, ?_⟩
    dsimp only
    split at h
    ·rename_i nm e2
     rw[e2]
     dsimp only
     split at h
     ·rename_i kt' n' ents e3
      rw[e3]
      replace h:=aS.1 h;obtain⟨h1,h⟩:=h
      simp only[Bool.and_eq_true,decide_eq_true_iff]at h1
      refine⟨⟨II h1.1,h1.2⟩, ?_⟩
      dsimp only
      split at h
      ·rename_i ps e4
       cases h
       rw[e4]
       exact oL (λx e=>by cases e;exact hk) (λe=>by cases e)
      ·rename_i e4
       cases h
       rw[e4]
       exact oL (λx e=>by cases e) (λ_=>hk)
     ·cases h
    ·rename_i kt' n' es e2
     rw[e2]
     replace h:=aS.1 h;obtain⟨h1,h⟩:=h
     simp only[Bool.and_eq_true,decide_eq_true_iff]at h1
     refine⟨⟨II h1.1,h1.2⟩, ?_⟩
     dsimp only
     split at h
     ·rename_i ps e4
      cases h
      rw[e4]
      exact oL (λx e=>by cases e;exact hk) (λe=>by cases e)
     ·rename_i e4
      cases h
      rw[e4]
      exact oL (λx e=>by cases e) (λ_=>hk)
    ·cases h
   ·cases h
  ·cases h
 case mput kt n m k w=>
  split at h
  ·rename_i e
   rw[e]
   split at h
   ·rename_i mk e1
    refine⟨mk,e1, ?_⟩
    dsimp only
    split at h
    ·rename_i nm e2
     rw[e2]
     split at h
     ·rename_i ys e3
      refine⟨ys,e3, ?_⟩
      dsimp only
      split at h
      ·rename_i kt' n' ents e4
       rw[e4]
       replace h:=aS.1 h;obtain⟨h1,h⟩:=h
       simp only[Bool.and_eq_true,decide_eq_true_iff]at h1
       cases h
       exact⟨⟨II h1.1,h1.2⟩,hk⟩
      ·cases h
     ·cases h
    ·cases h
   ·cases h
  ·cases h
end
def Lr (σ:St):eL→Bool
 | .box _| .mkslice .. | .mkmap .. =>true
 |.app _ _ _ x _=>match mf σ.fr x with
  | .c (.ref _)=>false
  |_=>true
 |_=>false
def PO:Option aU→Bool
 |none=>true
 |some _=>false
theorem Rf {E:dA} {o:eL} {σ σ':St} {v:AV} (h:R4 E o σ=some (v,σ')) (hk:Lr σ o=true) (hn:PO (al σ.mem σ.nx)=true):Jb σ.mem σ'.mem:=by
 have hn:al σ.mem σ.nx=none:=by cases e:al σ.mem σ.nx with|none=>rfl|some b=>rw[e]at hn;cases hn
 cases o<;>simp only[Lr,no,reduceCtorEq,Bool.false_eq_true]at hk
 case box x=>simp only[R4,G5,mZ,v7,If,no,iu,tK]at h;split at h<;>cases h;exact .inr ⟨_,_,rfl,hn⟩
 case mkslice e0 sz bytes z l=>
  simp only[R4,G5,mZ,v7,If,no,iu,tK]at h
  split at h
  ·replace h:=aS.1 h;obtain⟨h1,h⟩:=h
   cases h
   exact .inr ⟨_,_,rfl,hn⟩
  ·cases h
 case mkmap kt n=>simp only[R4,G5,mZ,v7,If,no,iu,tK]at h;cases h;exact .inr ⟨_,_,rfl,hn⟩
 case app e0 sz bytes x y=>
  simp only[R4,G5,mZ,v7,If,no,iu,tK]at h
  split at h
  ·unfold Xt at h
   simp only[iu,JZ]at h
   replace h:=aS.1 h;obtain⟨h0,h⟩:=h
   split at h
   ·rename_i e;rw[e]at hk;cases hk
   ·replace h:=aS.1 h;obtain⟨h1,h⟩:=h
    cases h
    exact .inr ⟨_,_,rfl,hn⟩
   ·split at h
    ·replace h:=aS.1 h;obtain⟨h1,h⟩:=h
     cases h
     exact .inl rfl
    ·replace h:=aS.1 h;obtain⟨h1,h⟩:=h
     cases h
     exact .inr ⟨_,_,rfl,hn⟩
   ·cases h
  ·cases h
def AD (σ:St) (g:AG):Option Bool:=match g.guard with
 |none=>some true
 |some (t,want)=>match tI σ.fr t with
  | .c (.pure (.val (.bool b)))=>some (b==want)
  | .tup []=>some false
  |_=>none
def Rg (E:dA) (gs:List AG):St→Option St:=List.rec (motive:= λ_=>St→Option St) (λσ=>some σ) (λg _ ih σ=>match AD σ g with
  |some true=>match R4 E g.op σ with
   |some (v,σ')=>ih (σ'.put g.dst v)
   |none=>none
  |some false=>ih (σ.put g.dst (.tup []))
  |none=>none) gs
theorem Rv {E:dA} {g:AG} {r:List AG} {σ:St}:Rg E (g::r) σ=match AD σ g with
  |some true=>match R4 E g.op σ with
   |some (v,σ')=>Rg E r (σ'.put g.dst v)
   |none=>none
  |some false=>Rg E r (σ.put g.dst (.tup []))
  |none=>none:=rfl
def EC (E:dA) (gs:List (Bool×AG)):St→Option St:=List.rec (motive:= λ_=>St→Option St) (λσ=>some σ) (λx _ ih σ=>match AD σ x.2 with
  |some true=>match R4 E x.2.op σ with
   |some (v,σ')=>qS (!x.1||(Lr σ x.2.op&&PO (al σ.mem σ.nx))) (ih (σ'.put x.2.dst v))
   |none=>none
  |some false=>ih (σ.put x.2.dst (.tup []))
  |none=>none) gs
theorem N8 {E:dA} {x:Bool} {g:AG} {r:List (Bool×AG)} {σ:St}:EC E ((x,g)::r) σ=match AD σ g with
  |some true=>match R4 E g.op σ with
   |some (v,σ')=>qS (!x||(Lr σ g.op&&PO (al σ.mem σ.nx))) (EC E r (σ'.put g.dst v))
   |none=>none
  |some false=>EC E r (σ.put g.dst (.tup []))
  |none=>none:=rfl
section
variable {P : Program} {E : dA} (hP : ∀ g f as r, E.p g f as = some r → af P f as r) (hI : ∀ f as m n r m' n', E.i f as m n = some (r, m', n') → aq P f as m n r m' n')
include hP hI
theorem kJ: ∀{gs:List AG} {σ σ':St} {K:St→Prop},Rg E gs σ=some σ'→K σ'→jG P gs σ K
 | [],σ,σ',K,h,hk=>by cases h;exact hk
 |g::r,σ,σ',K,h,hk=>by
  rw[Rv]at h
  simp only[AD,nS]at h
  unfold jG
  cases hg:g.guard with
  |none=>
   rw[hg]at h
   dsimp only at h ⊢
   split at h
   ·rename_i v σ1 e
    exact AT hP hI e (kJ h hk)
   ·cases h
  |some tw=>
   obtain⟨t,want⟩:=tw
   rw[hg]at h
   dsimp only at h ⊢
   split
   ·rename_i b e
    rw[e]at h
    dsimp only at h
    refine⟨λe2=> ?_,λe2=> ?_⟩
    ·rw[e2]at h
     dsimp only at h ⊢
     split at h
     ·rename_i v σ1 e3
      exact AT hP hI e3 (kJ h hk)
     ·cases h
    ·rw[e2]at h
     exact kJ h hk
   ·rename_i e
    rw[e]at h
    exact kJ h hk
   ·rename_i h1 h2
    split at h
    ·rename_i e2
     split at e2
     ·rename_i b e3;exact(h1 b e3).elim
     ·rename_i e3;exact(h2 e3).elim
     ·cases e2
    ·rename_i e2
     split at e2
     ·rename_i b e3;exact(h1 b e3).elim
     ·rename_i e3;exact(h2 e3).elim
     ·cases e2
    ·cases h
theorem lg: ∀{gs:List (Bool×AG)} {σ σ':St} {K:St→Prop},EC E gs σ=some σ'→K σ'→jm P gs σ K
 | [],σ,σ',K,h,hk=>by cases h;exact hk
 |(x,g)::r,σ,σ',K,h,hk=>by
  have one: ∀{v σ1},R4 E g.op σ=some (v,σ1)→qS (!x||(Lr σ g.op&&PO (al σ.mem σ.nx))) (EC E r (σ1.put g.dst v))=some σ'→bq P g.op σ λv σ'=>cN (x=true→Jb σ.mem σ'.mem) (K:=⟨jm P r (σ'.put g.dst v) K⟩):=by
   intro v σ1 e h
   replace h:=aS.1 h;obtain⟨h1,h⟩:=h
   refine AT hP hI e ⟨λhx=> ?_,lg h hk⟩
   simp only[hx,Bool.not_true,Bool.false_or,Bool.and_eq_true]at h1
   exact Rf e h1.1 h1.2
  rw[N8]at h
  simp only[AD,nS]at h
  unfold jm
  cases hg:g.guard with
  |none=>
   rw[hg]at h
   dsimp only at h ⊢
   split at h
   ·rename_i v σ1 e
    exact one e h
   ·cases h
  |some tw=>
   obtain⟨t,want⟩:=tw
   rw[hg]at h
   dsimp only at h ⊢
   split
   ·rename_i b e
    rw[e]at h
    dsimp only at h
    refine⟨λe2=> ?_,λe2=> ?_⟩
    ·rw[e2]at h
     dsimp only at h ⊢
     split at h
     ·rename_i v σ1 e3
      exact one e3 h
     ·cases h
    ·rw[e2]at h
     exact lg h hk
   ·rename_i e
    rw[e]at h
    exact lg h hk
   ·rename_i h1 h2
    split at h
    ·rename_i e2
     split at e2
     ·rename_i b e3;exact(h1 b e3).elim
     ·rename_i e3;exact(h2 e3).elim
     ·cases e2
    ·rename_i e2
     split at e2
     ·rename_i b e3;exact(h1 b e3).elim
     ·rename_i e3;exact(h2 e3).elim
     ·cases e2
    ·cases h
end
def LN (t:Nat) (l:List (Nat×AV)):Bool:=List.rec (motive:= λ_=>Bool) false (λx _ ih=>Bool.rec ih true (Nat.beq x.1 t)) l
theorem Q6 {t k:Nat} {v:AV} {r:List (Nat×AV)}:LN t ((k,v)::r)=Bool.rec (LN t r) true (Nat.beq k t):=rfl
theorem SD {t:Nat}:LN t []=false:=rfl
def qD (acc l:List (Nat×AV)):List (Nat×AV):=List.rec (motive:= λ_=>List (Nat×AV)→List (Nat×AV)) (λacc=>acc) (λx _ ih acc=>Bool.rec (ih (acc++ [x])) (ih acc) (LN x.1 acc)) l acc
theorem MV {acc r:List (Nat×AV)} {x:Nat×AV}:qD acc (x::r)=Bool.rec (qD (acc++ [x]) r) (qD acc r) (LN x.1 acc):=rfl
theorem Dy {t:Nat} {b:List (Nat×AV)}: ∀{a:List (Nat×AV)},aI (a++b) t=if LN t a=true then aI a t else aI b t
 | []=>by simp[SD]
 |(k,v)::a=>by
  simp only[List.cons_append,aI,Q6,Rj]
  by_cases e:k=t
  ·simp[e]
  ·simp only[e,if_false,decide_false]
   exact Dy
theorem rU {t:Nat}: ∀{l acc:List (Nat×AV)},aI (qD acc l) t=aI (acc++l) t
 | [],acc=>by rw[List.append_nil];rfl
 |(k,v)::r,acc=>by
  rw[MV]
  cases h:LN k acc
  ·show aI (qD (acc++ [(k,v)]) r) t=_
   rw[rU]
   simp
  ·show aI (qD acc r) t=_
   rw[rU,Dy,Dy]
   by_cases e:LN t acc=true
   ·simp[e]
   ·have hne: ¬k=t:= λe2=>e (e2▸h)
    simp[e,aI,hne]
section
variable {P : Program} {nt : Nat} {σ : St} {Q : bc → St → Prop}
theorem X8 {c:ak} {fr:List (Nat×AV)} (h: ∀t,aI fr t=aI σ.fr t) (hA:AW P nt c {σ with fr:=fr} Q):AW P nt c σ Q:=
 λc' hc w0 U rd ds ι a w hr hs hz=>hA c' hc w0 U rd ds ι a w hr ⟨λt=>by rw[h];exact hs.val t,hs.defers,hs.names,hs.box,hs.apart,hs.below,hs.keep,hs.base⟩ hz
def KU (f:St→Option (bc×St)):Nat→St→Option (bc×St)
 |0,_=>none
 |n+1,σ=>match f {σ with fr:=qD [] σ.fr}with
  |some (.normal,σ')=>KU f n σ'
  |r=>r
theorem WQ {f:St→Option (bc×St)} {x:ak} (hf: ∀σ e σ' (Q:bc→St→Prop),f σ=some (e,σ')→Q e σ'→AW P nt x σ Q) {n:Nat} {e:bc} {σ':St} (h:KU f n σ=some (e,σ')) (hk:Q e σ'):AW P nt (.loop x) σ Q:=by
 intro c' hc w0 U rd ds ι a w hrd hs hz
 cases c'<;>simp[cQ]at hc
 all_goals(try(split at hc<;>simp at hc))
 rename_i c1
 refine wpIn_loop_rounds n ?_
 have key: ∀n σ U1 ds1 ι a w,J2 w0.heap.size rd U ds U1 ds1→KU f n σ=some (e,σ')→bD w0 U1 σ ι a w→a.tmps.size=nt→Code.roundsIn (FR rd) 0 P c1 (xM w0 U rd ds nt Q) n (sh ds1 a) w:=by
  intro n
  induction n with
  |zero=>intro σ U1 ds1 ι a w hx h;cases h
  |succ n ih=>
   intro σ U1 ds1 ι a w hx h hs hz
   rw[roundsIn_succ]
   unfold KU at h
   cases hr:f {σ with fr:=qD [] σ.fr}with
   |none=>rw[hr]at h;cases h
   |some r=>
    obtain⟨e1,σ1⟩:=r
    rw[hr]at h
    refine wpIn_mono (X8 (fr:=qD [] σ.fr) (λt=>rU) (hf _ _ _ (λe σ=>e=e1∧σ=σ1) hr ⟨rfl,rfl⟩) _ hc w0 U1 rd ds1 ι a w (hrd.ext hx) hs hz) ?_
    rintro e a1 w1 ⟨e',σ',ι',U',ds',a0,rfl,⟨rfl,rfl⟩,hs',hz',rfl,hx'⟩
    cases e' with
    |normal=>exact ih _ _ _ _ a0 w1 (hx.trans hx') h hs' hz'
    |exit i=>cases h;exact⟨.exit i,_,ι',U',ds',a0,rfl,hk,hs',hz',rfl,hx.trans hx'⟩
    |ret=>cases h;exact⟨.ret,_,ι',U',ds',a0,rfl,hk,hs',hz',rfl,hx.trans hx'⟩
 exact key _ _ _ _ _ a w .refl h hs hz
end
def je {α:Type} (f:α→α→Bool):List α→List α→Bool
 | [], []=>true
 |x::xs,y::ys=>f x y&&je f xs ys
 |_,_=>false
theorem dQ {α:Type} {f:α→α→Bool} (h: ∀x y,f x y=true→x=y): ∀{l m:List α},je f l m=true→l=m
 | [], [],_=>rfl
 | [],_::_,e=>by cases e
 |_::_, [],e=>by cases e
 |x::xs,y::ys,e=>by
  simp only[je,Bool.and_eq_true]at e
  rw[h _ _ e.1,dQ h e.2]
def CY:Value→Value→Bool
 | .int k a,.int l b=>decide (k=l)&&decide (a=b)
 | .bool a,.bool b=>a==b
 | .string a,.string b=>tU a b
 | .nilFunc,.nilFunc=>true
 |_,_=>false
theorem WW: ∀{x y:Value},CY x y=true→x=y:=by
 intro x y h
 unfold CY at h
 split at h
 ·simp only[Bool.and_eq_true,decide_eq_true_iff]at h;rw[h.1,h.2]
 ·rw[eq_of_beq h]
 ·rename_i a b
  obtain⟨⟨a⟩⟩:=a
  obtain⟨⟨b⟩⟩:=b
  have h:=y9.1 h
  simp only at h
  rw[h]
 ·rfl
 ·cases h
def XU:Nat→PC→PC→Bool
 |_+1,.val a,.val b=>CY a b
 |n+1,.slice r,.slice s=>je (je (XU n)) r s
 |_,_,_=>false
theorem D4: ∀{n:Nat} {x y:PC},XU n x y=true→x=y
 |0,x,y,h=>by unfold XU at h;cases h
 |n+1,x,y,h=>by
  unfold XU at h
  split at h
  ·rw[WW h]
  ·rw[dQ (λ_ _ h=>dQ (λ_ _ h=>D4 h) h) h]
  ·cases h
def X2 (d:Nat):Nat→AC→AC→Bool
 |_+1,.pure a,.pure b=>XU d a b
 |_+1,.nils,.nils=>true
 |_+1,.top,.top=>true
 |_+1,.tsl r,.tsl s=>je (je (XU d)) r s
 |_+1,.cptr r,.cptr s=>je (XU d) r s
 |_+1,.ptr a b,.ptr a' b'=>decide (a=a')&&decide (b=b')
 |_+1,.ref a,.ref b=>decide (a=b)
 |_+1,.mref a,.mref b=>decide (a=b)
 |_+1,.eptr a b c e,.eptr a' b' c' e'=>decide (a=a')&&decide (b=b')&&decide (c=c')&&decide (e=e')
 |n+1,.clo f r,.clo g s=>decide (f=g)&&je (X2 d n) r s
 |_,_,_=>false
theorem Fc {d:Nat}: ∀{n:Nat} {x y:AC},X2 d n x y=true→x=y
 |0,x,y,h=>by unfold X2 at h;cases h
 |n+1,x,y,h=>by
  unfold X2 at h
  split at h
  ·rw[D4 h]
  ·rfl
  ·rfl
  ·rw[dQ (λ_ _ h=>dQ (λ_ _ h=>D4 h) h) h]
  ·rw[dQ (λ_ _ h=>D4 h) h]
  ·simp only[Bool.and_eq_true,decide_eq_true_iff]at h;rw[h.1,h.2]
  ·rw[of_decide_eq_true h]
  ·rw[of_decide_eq_true h]
  ·simp only[Bool.and_eq_true,decide_eq_true_iff]at h;rw[h.1.1.1,h.1.1.2,h.1.2,h.2]
  ·simp only[Bool.and_eq_true,decide_eq_true_iff]at h;rw[h.1,dQ (λ_ _ h=>Fc h) h.2]
  ·cases h
def V7:Nat→AV→AV→Bool
 |_+1,.c a,.c b=>X2 12 4 a b
 |_+1,.agg r,.agg s=>je (X2 12 4) r s
 |n+1,.tup r,.tup s=>je (V7 n) r s
 |_+1,.top,.top=>true
 |_,_,_=>false
theorem DN: ∀{n:Nat} {x y:AV},V7 n x y=true→x=y
 |0,x,y,h=>by unfold V7 at h;cases h
 |n+1,x,y,h=>by
  unfold V7 at h
  split at h
  ·rw[Fc h]
  ·rw[dQ (λ_ _ h=>Fc h) h]
  ·rw[dQ (λ_ _ h=>DN h) h]
  ·rfl
  ·cases h
def Zs:Nat×aU→Nat×aU→Bool
 |(a,.var xs),(b,.var ys)=>decide (a=b)&&je (X2 12 4) xs ys
 |(a,.arr e s xs),(b,.arr e' s' ys)=>decide (a=b)&&decide (e=e')&&decide (s=s')&&je (je (XU 12)) xs ys
 |(a,.map k n xs),(b,.map k' n' ys)=>decide (a=b)&&ZU k k'&&decide (n=n')&&je (λx y=>decide (x.1=y.1)&&je (X2 12 4) x.2 y.2) xs ys
 |_,_=>false
theorem Wh: ∀(x y:Nat×aU),Zs x y=true→x=y:=by
 rintro⟨a,x⟩ ⟨b,y⟩ h
 unfold Zs at h
 split at h
 ·rename_i e1 e2
  cases e1;cases e2
  simp only[Bool.and_eq_true,decide_eq_true_iff]at h;rw[h.1,dQ (λ_ _ h=>Fc h) h.2]
 ·rename_i e1 e2
  cases e1;cases e2
  simp only[Bool.and_eq_true,decide_eq_true_iff]at h;rw[h.1.1.1,h.1.1.2,h.1.2,dQ (λ_ _ h=>dQ (λ_ _ h=>D4 h) h) h.2]
 ·rename_i e1 e2
  cases e1;cases e2
  simp only[Bool.and_eq_true,decide_eq_true_iff]at h
  rw[h.1.1.1,II h.1.1.2,h.1.2,dQ (λx y h=>by
   simp only[Bool.and_eq_true,decide_eq_true_iff]at h
   exact Prod.ext h.1 (dQ (λ_ _ h=>Fc h) h.2)) h.2]
 ·cases h
def frB (a b:List (Nat×AV)):Bool:=(a.all λx=>V7 4 (tI a x.1) (tI b x.1))&&b.all λx=>V7 4 (tI a x.1) (tI b x.1)
theorem AP {t:Nat}: ∀{a:List (Nat×AV)},(∀x∈a,x.1≠t)→aI a t= .top
 | [],_=>rfl
 |(k,v)::a,h=>by
  rw[aI,if_neg (h _ List.mem_cons_self)]
  exact AP λx hx=>h x (List.mem_cons_of_mem _ hx)
theorem Zw {a b:List (Nat×AV)} (h:frB a b=true) (t:Nat):aI a t=aI b t:=by
 simp only[frB,Bool.and_eq_true,List.all_eq_true,nS]at h
 by_cases ha: ∃x∈a,x.1=t
 ·obtain⟨x,hx,rfl⟩:=ha
  exact DN (h.1 x hx)
 ·by_cases hb: ∃x∈b,x.1=t
  ·obtain⟨x,hx,rfl⟩:=hb
   exact DN (h.2 x hx)
  ·rw[AP λx hx e=>ha ⟨x,hx,e⟩,AP λx hx e=>hb ⟨x,hx,e⟩]
def stB (a b:St):Bool:=frB a.fr b.fr&&je Zs a.mem b.mem&&decide (a.nx=b.nx)&&decide (a.base=b.base)
theorem P5 {P:Program} {nt:Nat} {c:ak} {σ:St} {Q:bc→St→Prop} (h:AW P nt c σ λe τ=> ∃fr,(∀t,aI fr t=aI τ.fr t)∧Q e {τ with fr:=fr}):AW P nt c σ Q:=
 λc' hc w0 U rd ds ι a w hr hs hz=>wpIn_mono (h c' hc w0 U rd ds ι a w hr hs hz) λe a w ⟨e',σ',ι',U',ds',a0,h1,⟨fr,h2,h3⟩,h4,h5⟩=>
  ⟨e',{σ' with fr:=fr},ι',U',ds',a0,h1,h3,⟨λt=>by rw[h2];exact h4.val t,h4.defers,h4.names,h4.box,h4.apart,h4.below,h4.keep,h4.base⟩,h5⟩
def JK (E:dA) (σ r:St):List (List (Bool×AG))→Bool
 | []=>true
 |gs::gss=>match EC E gs σ with
  |some τ=>stB r τ&&JK E σ r gss
  |none=>false
theorem zO {P:Program} {E:dA} (hP: ∀g f as r,E.p g f as=some r→af P f as r) (hI: ∀f as m n r m' n',E.i f as m n=some (r,m',n')→aq P f as m n r m' n') {σ r:St} {K:St→Prop} (hk:K r): ∀{gss:List (List (Bool×AG))},JK E σ r gss=true→xw P gss σ λτ=> ∃fr,(∀t,aI fr t=aI τ.fr t)∧K {τ with fr:=fr}
 | [],h=>trivial
 |gs::gss,h=>by
  unfold JK at h
  have one: ∀{τ:St},stB r τ=true→ ∃fr,(∀t,aI fr t=aI τ.fr t)∧K {τ with fr:=fr}:=by
   intro τ h
   simp only[stB,Bool.and_eq_true,decide_eq_true_iff]at h
   refine⟨r.fr,λt=>Zw h.1.1.1 t, ?_⟩
   rw[←h.2,←h.1.2,←dQ Wh h.1.1.2]
   exact hk
  split at h
  ·rename_i τ e
   simp only[Bool.and_eq_true]at h
   cases gss with
   |nil=>exact lg hP hI e (one h.1)
   |cons gs' gss=>exact⟨lg hP hI e (one h.1),zO hP hI hk h.2⟩
  ·cases h
def Pw (E:dA) (gss:List (List (Bool×AG))) (σ:St):Option St:=match gss with
 | []=>none
 |gs::r=>match EC E gs σ with
  |some σ'=>qS (JK E σ σ' (gs::r)) (some σ')
  |none=>none
def Zi (σ:St):List Nat:=σ.mem.filterMap λx=>match x.2 with
 | .arr .. =>if σ.base≤x.1 then some x.1 else none
 |_=>none
def aa8 (E:dA) (gs:List AG) (σ:St):Option (bc×St):=match Rg E gs σ with
 |some σ'=>some (.normal,σ')
 |none=>match Rg E gs (aP (Zi σ) σ []).1 with
  |some σ'=>some (.normal,σ')
  |none=>none
def aah (E:dA) (gss:List (List (Bool×AG))) (σ:St):Option (bc×St):=match Pw E gss {σ with fr:=qD [] σ.fr}with
 |some σ'=>some (.normal,σ')
 |none=>match Pw E gss (aP (Zi {σ with fr:=qD [] σ.fr}) {σ with fr:=qD [] σ.fr} []).1 with
  |some σ'=>some (.normal,σ')
  |none=>none
def Gb (E:dA) (n:Nat):ak→St→Option (bc×St)
 | .skip,σ=>some (.normal,σ)
 | .region gs false,σ=>aa8 E gs σ
 | .draw gss,σ=>aah E gss σ
 |.seq a b,σ=>match Gb E n a σ with
  |some (.normal,σ')=>Gb E n b σ'
  |r=>r
 |.cond c a b,σ=>match mf σ.fr c with
  | .c (.pure (.val (.bool true)))=>Gb E n a σ
  | .c (.pure (.val (.bool false)))=>Gb E n b σ
  |_=>none
 |.block id a,σ=>match Gb E n a σ with
  |some (.exit i,σ')=>if i=id then some (.normal,σ')else some (.exit i,σ')
  |r=>r
 | .loop a,σ=>KU (Gb E n a) n σ
 | .exit i,σ=>some (.exit i,σ)
 | .ret,σ=>some (.ret,σ)
 |_,_=>none
section
variable {P : Program} {E : dA} (hP : ∀ g f as r, E.p g f as = some r → af P f as r) (hI : ∀ f as m n r m' n', E.i f as m n = some (r, m', n') → aq P f as m n r m' n')
include hP hI
theorem Ib {nt n:Nat}: ∀{c:ak} {σ σ':St} {e:bc} {Q:bc→St→Prop},Gb E n c σ=some (e,σ')→Q e σ'→AW P nt c σ Q:=by
 intro c
 induction c with
 |skip=>intro σ σ' e Q h hk;unfold Gb at h;cases h;exact oM hk
 |exit i=>intro σ σ' e Q h hk;unfold Gb at h;cases h;exact Ou hk
 |ret=>intro σ σ' e Q h hk;unfold Gb at h;cases h;exact lZ hk
 |rangeF=>intro σ σ' e Q h hk;unfold Gb at h;cases h
 |region gs d=>
  intro σ σ' e Q h hk
  cases d with
  |true=>unfold Gb at h;cases h
  |false=>
   unfold Gb aa8 at h
   split at h
   ·rename_i e1
    cases h
    exact Be (kJ hP hI e1 hk)
   ·split at h<;>cases h
    rename_i e1
    exact rV (Zi σ) (Be (kJ hP hI e1 hk))
 |draw gss=>
  intro σ σ' e Q h hk
  have one: ∀{τ:St},Pw E gss τ=some σ'→Q .normal σ'→AW P nt (.draw gss) τ Q:=by
   intro τ h hk
   unfold Pw at h
   split at h
   ·cases h
   ·split at h
    ·replace h:=aS.1 h;obtain⟨h1,h⟩:=h
     cases h
     exact P5 (OE (zO hP hI hk h1))
    ·cases h
  unfold Gb aah at h
  refine X8 (fr:=qD [] σ.fr) (λt=>rU) ?_
  split at h
  ·rename_i e1
   cases h
   exact one e1 hk
  ·split at h<;>cases h
   rename_i e1
   exact rV _ (one e1 hk)
 |seq a b iha ihb=>
  intro σ σ' e Q h hk
  unfold Gb at h
  cases hr:Gb E n a σ with
  |none=>rw[hr]at h;cases h
  |some r=>
   obtain⟨e1,σ1⟩:=r
   rw[hr]at h
   refine cZ (iha hr ?_)
   cases e1 with
   |normal=>exact ihb h hk
   |exit i=>cases h;exact hk
   |ret=>cases h;exact hk
 |cond c a b iha ihb=>
  intro σ σ' e Q h hk
  unfold Gb at h
  simp only[no]at h
  split at h
  ·rename_i e1;exact f7 e1 (λ_=>iha h hk) (λe=>by cases e)
  ·rename_i e1;exact f7 e1 (λe=>by cases e) (λ_=>ihb h hk)
  ·cases h
 |block id a iha=>
  intro σ σ' e Q h hk
  unfold Gb at h
  cases hr:Gb E n a σ with
  |none=>rw[hr]at h;cases h
  |some r=>
   obtain⟨e1,σ1⟩:=r
   rw[hr]at h
   refine EE (iha hr ?_)
   cases e1 with
   |normal=>cases h;exact hk
   |exit i=>
    dsimp only at h
    show if i=id then Q .normal σ1 else Q (.exit i) σ1
    split at h<;>cases h
    ·rw[if_pos ‹_›];exact hk
    ·rw[if_neg ‹_›];exact hk
   |ret=>cases h;exact hk
 |loop a iha=>
  intro σ σ' e Q h hk
  unfold Gb at h
  exact WQ (λσ e σ' Q h1 h2=>iha h1 h2) h hk
end
def Dc (σ:St):AR→Option AV
 | .t n=>some (tI σ.fr n)
 |.cell n a=>match tI σ.fr a with
  |.c q=>match OC σ.mem q with
   |some xs=>match n with
    |none=>match xs with
     |x::_=>some (.c x)
     | []=>none
    |some n=>qS (decide (n≤xs.length)) (some (.agg (xs.take n)))
   |none=>none
  |_=>none
def Wt (σ:St):List AR→List AV→Option (List AV)
 | [],acc=>some acc
 |r::rs,acc=>match Dc σ r with
  |some v=>Wt σ rs (acc++ [v])
  |none=>none
theorem GK {σ:St} {r:AR} {v:AV} {K:AV→Prop} (h:Dc σ r=some v) (hk:K v):xN σ r K:=by
 cases r with
 |t n=>simp only[Dc,nS]at h;cases h;exact hk
 |cell n a=>
  simp only[Dc,nS,KF]at h
  simp only[xN]
  split at h
  ·rename_i q e
   rw[e]
   dsimp only
   split at h
   ·rename_i xs e1
    rw[e1]
    unfold F3
    dsimp only
    split at h
    ·split at h<;>cases h
     exact hk
    ·replace h:=aS.1 h;obtain⟨h1,h⟩:=h
     cases h
     exact⟨of_decide_eq_true h1,hk⟩
   ·cases h
  ·cases h
theorem nb {σ:St} {K:List AV→Prop}: ∀{rs:List AR} {acc vs:List AV},Wt σ rs acc=some vs→K vs→jU σ rs acc K
 | [],acc,vs,h,hk=>by cases h;exact hk
 |r::rs,acc,vs,h,hk=>by
  unfold Wt at h
  split at h
  ·rename_i v e
   exact GK (K:= λv=>jU σ rs (acc++ [v]) K) e (nb h hk)
  ·cases h
def aay (σ:St) (rs:List AR):bc→Option (List AV)
 | .exit _=>none
 |_=>Wt σ rs []
def abm (P:Program) (E:dA) (L:Nat):aaW:= λf args mem nx=>match Id P f with
 |some (nt,c,rs)=>qS (decide (args.length≤nt)) (match Gb E L c ⟨aW args 0,mem,nx,nx⟩with
  |some (e,σ)=>match aay σ rs e with
   |some vs=>qS (decide (σ.base=nx)) (some (eo vs,σ.mem,σ.nx))
   |none=>none
  |none=>none)
 |none=>none
def aaA (P:Program) (E:dA) (L:Nat) (f:FuncId) (args:List AV):Option AV:=match Id P f with
 |some (nt,c,rs)=>qS (decide (args.length≤nt)) (match Gb E L c ⟨aW args 0, [],0,0⟩with
  |some (e,σ)=>match aay σ rs e with
   |some vs=>K0 σ.mem (eo vs)
   |none=>none
  |none=>none)
 |none=>none
def Yc (P:Program) (O:FuncId→List AV→Option AV) (nz:FuncId→Bool) (L:Nat):Nat→dA
 |0=>⟨λ_ f as=>O f as,λ_ _ _ _=>none,nz⟩
 |d+1=>⟨λg f as=>match O f as with
   |some r=>some r
   |none=>match g with
    |true=>none
    |false=>aaA P (Yc P O nz L d) L f as,abm P (Yc P O nz L d) L,nz⟩
theorem Hs {P:Program} {O:FuncId→List AV→Option AV} {nz:FuncId→Bool} {L:Nat} (hO: ∀f as r,O f as=some r→af P f as r): ∀d,(∀g f as r,(Yc P O nz L d).p g f as=some r→af P f as r)∧ ∀f as m n r m' n',(Yc P O nz L d).i f as m n=some (r,m',n')→aq P f as m n r m' n'
 |0=>⟨λ_ f as r h=>hO f as r h,λ_ _ _ _ _ _ _ h=>by cases h⟩
 |d+1=>by
  obtain⟨hP,hI⟩:=Hs (nz:=nz) (L:=L) hO d
  refine⟨λg f as r h=> ?_,λf as m n r m' n' h=> ?_⟩
  ·unfold Yc at h
   dsimp only at h
   split at h
   ·rename_i r' e
    cases h
    exact hO _ _ _ e
   ·split at h
    ·cases h
    ·unfold aaA at h
     split at h
     ·rename_i nt c rs e1
      replace h:=aS.1 h;obtain⟨h1,h⟩:=h
      split at h
      ·rename_i e σ e2
       split at h
       ·rename_i vs e3
        refine af.of (ag e1) (of_decide_eq_true h1) λ_=>Ib hP hI e2 ?_
        cases e with
        |exit i=>cases e3
        |normal=>exact nb e3 h
        |ret=>exact nb e3 h
       ·cases h
      ·cases h
     ·cases h
  ·unfold Yc at h
   dsimp only at h
   unfold abm at h
   split at h
   ·rename_i nt c rs e1
    replace h:=aS.1 h;obtain⟨h1,h⟩:=h
    split at h
    ·rename_i e σ e2
     split at h
     ·rename_i vs e3
      replace h:=aS.1 h;obtain⟨h4,h⟩:=h
      cases h
      refine aq.of (ag e1) (of_decide_eq_true h1) λ_=>Ib hP hI e2 ?_
      cases e with
      |exit i=>cases e3
      |normal=>exact nb e3 ⟨rfl,rfl,rfl,of_decide_eq_true h4⟩
      |ret=>exact nb e3 ⟨rfl,rfl,rfl,of_decide_eq_true h4⟩
     ·cases h
    ·cases h
   ·cases h
theorem af.run {P:Program} (O:FuncId→List AV→Option AV) (nz:FuncId→Bool) (L d:Nat) {f:FuncId} {args:List AV} {res:AV} (hO: ∀f as r,O f as=some r→af P f as r) (h:(Yc P O nz L d).p false f args=some res):af P f args res:=
 (Hs hO d).1 _ _ _ _ h
end
end Go.Abs
