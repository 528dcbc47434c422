import Derived.Test.YthkaaahphlneiaaGreatDoorAbsQ
set_option linter.unusedVariables false
set_option linter.unusedSimpArgs false
namespace Go.Abs
open Go.RowKit
abbrev Yq:=Bool→FuncId→List AV→Option AV
abbrev Yi:=FuncId→List AV→List (Nat×aS)→Nat→Option (AV×List (Nat×aS)×Nat)
def qm {α:Type} (b:Bool) (r:Option α):Option α:=match b with
 |true=>r
 |false=>none
theorem aQ {α:Type} {b:Bool} {r:Option α} {x:α}:qm b r=some x↔b=true∧r=some x:=by cases b<;>simp[qm]
theorem P0 {a b:Nat}:Nat.beq a b=decide (a=b):=by
 by_cases h:a=b
 ·rw[decide_eq_true h,h];exact Nat.beq_refl b
 ·rw[decide_eq_false h]
  cases e:Nat.beq a b
  ·rfl
  ·exact absurd (Nat.eq_of_beq_eq_true e) h
noncomputable def uY (fr:List (Nat×AV)) (n:Nat):AV:=List.rec (motive:=fun _=>AV) .top (fun x _ ih=>Bool.rec ih x.2 (Nat.beq x.1 n)) fr
theorem nl {n:Nat}: ∀{fr:List (Nat×AV)},uY fr n=aH fr n
 | []=>rfl
 |(m,v)::r=>by
  refine(show uY ((m,v)::r) n=Bool.rec (motive:=fun _=>AV) (uY r n) v (Nat.beq m n)from rfl).trans ?_
  unfold aH
  rw[P0,nl]
  by_cases e:m=n<;>simp[e]
noncomputable def lH (fr:List (Nat×AV)):AX→AV
 | .t n=>uY fr n
 | .k v=>v
theorem m6 {fr:List (Nat×AV)} {x:AX}:lH fr x=x.ev fr:=by
 cases x with
 |t n=>exact nl
 |k v=>rfl
noncomputable def nS (mem:List (Nat×aS)) (n:Nat):Option aS:=List.rec (motive:=fun _=>Option aS) none (fun x _ ih=>Bool.rec ih (some x.2) (Nat.beq x.1 n)) mem
theorem ic {n:Nat}: ∀{mem:List (Nat×aS)},nS mem n=ak mem n
 | []=>rfl
 |(m,v)::r=>by
  refine(show nS ((m,v)::r) n=Bool.rec (motive:=fun _=>Option aS) (nS r n) (some v) (Nat.beq m n)from rfl).trans ?_
  unfold ak
  rw[P0,ic]
  by_cases e:m=n<;>simp[e]
noncomputable def PT (mem:List (Nat×aS)) (n:Nat) (c:aS):List (Nat×aS):=List.rec (motive:=fun _=>List (Nat×aS)) [] (fun x r ih=>Bool.rec (x::ih) ((x.1,c)::r) (Nat.beq x.1 n)) mem
theorem NN {n:Nat} {c:aS}: ∀{mem:List (Nat×aS)},PT mem n c=cE mem n c
 | []=>rfl
 |(m,v)::r=>by
  refine(show PT ((m,v)::r) n c=Bool.rec (motive:=fun _=>List (Nat×aS)) ((m,v)::PT r n c) ((m,c)::r) (Nat.beq m n)from rfl).trans ?_
  unfold cE
  rw[P0,NN]
  by_cases e:m=n<;>simp[e]
noncomputable def SG (mem:List (Nat×aS)) (n:Nat):List (Nat×aS):=List.rec (motive:=fun _=>List (Nat×aS)) [] (fun x _ ih=>Bool.rec (x::ih) ih (Nat.beq x.1 n)) mem
theorem IU {n:Nat}: ∀{mem:List (Nat×aS)},SG mem n=lJ mem n
 | []=>rfl
 |(m,v)::r=>by
  refine(show SG ((m,v)::r) n=Bool.rec (motive:=fun _=>List (Nat×aS)) ((m,v)::SG r n) (SG r n) (Nat.beq m n)from rfl).trans ?_
  unfold lJ
  rw[P0,IU]
  by_cases e:m=n<;>simp[e]
noncomputable def OP (mem:List (Nat×aS)):AC→Option (List AC)
 |.ptr nm off=>match nS mem nm with
  |some (.var xs)=>some (xs.drop off)
  |_=>none
 | .cptr cells=>some (cells.map .pure)
 |.eptr nm sz row off=>match nS mem nm with
  |some (.arr _ sz' rows)=>if sz=sz' then(rows[row]?).map fun r=>(r.drop off).map .pure else none
  |some (.arn _ sz' rows)=>if sz=sz' then(rows[row]?).map fun r=>r.drop off else none
  |_=>none
 |_=>none
theorem L0 {mem:List (Nat×aS)} {q:AC}:OP mem q=bC mem q:=by
 cases q<;>simp only[OP,bC,ic]<;>rfl
noncomputable def Oe (mem:List (Nat×aS)):AV→Option (List (List PC))
 | .c (.pure (.slice rows))=>some rows
 | .c (.tsl rows)=>some rows
 | .c .nils=>some []
 |.c (.ref nm)=>match nS mem nm with
  |some (.arr _ _ rows)=>some rows
  |_=>none
 |_=>none
theorem uE {mem:List (Nat×aS)} {v:AV}:Oe mem v=eS mem v:=by
 unfold Oe eS
 simp only[ic]
 rfl
def Bl (k:IntKind) (n:Int):Int:=match k,n with
 |.i64,.ofNat a=>match Nat.ble a 9223372036854775807 with
  |true=> .ofNat a
  |false=>IntKind.wrap .i64 (.ofNat a)
 |.i64,.negSucc a=>match Nat.ble a 9223372036854775807 with
  |true=> .negSucc a
  |false=>IntKind.wrap .i64 (.negSucc a)
 |.u64,.ofNat a=>match Nat.ble a 18446744073709551615 with
  |true=> .ofNat a
  |false=>IntKind.wrap .u64 (.ofNat a)
 |k,n=>k.wrap n
theorem Fh {k:IntKind} {n:Int}:Bl k n=k.wrap n:=by
 unfold Bl
 split
 ·split
  ·rename_i a h
   have:=Nat.le_of_ble_eq_true h
   exact(wrap_i64 (by simp only[Int.ofNat_eq_natCast];omega)).symm
  ·rfl
 ·split
  ·rename_i a h
   have:=Nat.le_of_ble_eq_true h
   exact(wrap_i64 (by rw[Int.negSucc_eq];omega)).symm
  ·rfl
 ·split
  ·rename_i a h
   have:=Nat.le_of_ble_eq_true h
   exact(wrap_u64 (by simp only[Int.ofNat_eq_natCast];omega)).symm
  ·rfl
 ·rfl
def VS:List UInt8→List UInt8→Bool
 | [], []=>true
 |x::xs,y::ys=>match Nat.beq x.toNat y.toNat with
  |true=>VS xs ys
  |false=>false
 |_,_=>false
theorem yg: ∀{a b:List UInt8},VS a b=true↔a=b
 | [], []=>by simp[VS]
 | [],_::_=>by simp[VS]
 |_::_, []=>by simp[VS]
 |x::xs,y::ys=>by
  unfold VS
  rw[P0]
  by_cases e:x.toNat=y.toNat
  ·have e':x=y:=UInt8.toNat_inj.1 e
   simp[e',yg]
  ·have e': ¬x=y:=fun h=>e (by rw[h])
   simp[e,e']
def Xb:KT→KT→Bool
 | .int a,.int b=>decide (a=b)
 | .str,.str=>true
 | .bool,.bool=>true
 |_,_=>false
theorem IR {a b:KT} (h:Xb a b=true):a=b:=by cases a<;>cases b<;>simp_all [Xb]
def EH:List ET→List AC→List AC→Bool
 | [], [], []=>true
 | .int k::l,.pure (.val (.int k1 _))::xs,.pure (.val (.int k2 _))::ys=>decide (k1=k)&&decide (k2=k)&&EH l xs ys
 | .str::l,.pure (.val (.string _))::xs,.pure (.val (.string _))::ys=>EH l xs ys
 | .bool::l,.pure (.val (.bool _))::xs,.pure (.val (.bool _))::ys=>EH l xs ys
 |_,_,_=>false
theorem RU: ∀{l:List ET} {xs ys:List AC},EH l xs ys=true→Fe l xs ys:=by
 intro l xs ys
 induction l,xs,ys using EH.induct<;>simp_all [EH,Fe]
def Cy:List AC→List AC→Bool
 | .pure (.val (.int _ a))::xs,.pure (.val (.int _ b))::ys=>decide (a=b)&&Cy xs ys
 | .pure (.val (.string a))::xs,.pure (.val (.string b))::ys=>VS a.data.toList b.data.toList&&Cy xs ys
 | .pure (.val (.bool a))::xs,.pure (.val (.bool b))::ys=>(a==b)&&Cy xs ys
 |_,_=>true
theorem Lj: ∀{xs ys:List AC},Cy xs ys=true↔J3 xs ys:=by
 intro xs ys
 induction xs,ys using Cy.induct with
 |case1 a xs b ys ih=>simp_all [Cy,J3]
 |case2 a xs b ys ih=>
  obtain⟨a⟩:=a
  obtain⟨b⟩:=b
  simp_all [Cy,J3,Array.toList_inj,yg]
 |case3 a xs b ys ih=>simp_all [Cy,J3]
 |case4 xs ys h1 h2 h3=>
  unfold Cy J3
  split
  ·exact absurd rfl (h1 _ _ _ _ _ _ rfl)
  ·exact absurd rfl (h2 _ _ _ _ rfl)
  ·exact absurd rfl (h3 _ _ _ _ rfl)
  ·simp
theorem QX {xs ys:List AC}:qD (J3 xs ys)=Cy xs ys:=by
 unfold qD
 cases h:Cy xs ys
 ·simp[←Lj,h]
 ·simp[←Lj,h]
def s9 (a b:ByteArray):Bool:=VS a.data.toList b.data.toList
theorem MU {a b:ByteArray}:(a.toList==b.toList)=s9 a b:=by
 rw[ByteArray.toList_eq,ByteArray.toList_eq]
 by_cases h:a.data.toList=b.data.toList
 ·rw[s9,yg.2 h,beq_iff_eq];exact h
 ·rw[s9,Bool.eq_false_iff.2 fun e=>h (yg.1 e),beq_eq_false_iff_ne];exact h
def VE (op:BinOp) (k:IntKind) (a b:Int):Option Value:=match op with
 | .add=>some (.int k (Bl k (a+b)))
 | .sub=>some (.int k (Bl k (a-b)))
 | .mul=>some (.int k (Bl k (a*b)))
 | .quo=>qm (decide (b≠0)) (some (.int k (Bl k (a.tdiv b))))
 | .rem=>qm (decide (b≠0)) (some (.int k (a.tmod b)))
 | .and=>some (.int k (k.wrap (BitVec.ofInt k.bits a&&&BitVec.ofInt k.bits b).toNat))
 | .or=>some (.int k (k.wrap (BitVec.ofInt k.bits a|||BitVec.ofInt k.bits b).toNat))
 | .eql=>some (.bool (a==b))
 | .neq=>some (.bool (a !=b))
 | .lss=>some (.bool (decide (a<b)))
 | .leq=>some (.bool (decide (a≤b)))
 | .gtr=>some (.bool (decide (a>b)))
 | .geq=>some (.bool (decide (a≥b)))
 |_=>none
def VT (op:BinOp) (a b:ByteArray):Option Value:=match op with
 | .add=>qm (decide (a.size+b.size≤9223372036854775807)) (some (.string (a++b)))
 | .eql=>some (.bool (s9 a b))
 | .neq=>some (.bool (!s9 a b))
 | .lss=>some (.bool (Op.bytesLess a.data.toList b.data.toList))
 | .leq=>some (.bool (Op.bytesLess a.data.toList b.data.toList||s9 a b))
 | .gtr=>some (.bool (!(Op.bytesLess a.data.toList b.data.toList||s9 a b)))
 | .geq=>some (.bool (!(Op.bytesLess a.data.toList b.data.toList)))
 |_=>none
def V9 (op:BinOp):Value→Value→Option Value
 | .int k a,.int k' b=>qm (decide (k=k')) (VE op k a b)
 | .string a,.string b=>VT op a b
 |_,_=>none
def Wg (op:BinOp):Value→Value→Option Value
 |.int k a,.int _ b=>qm (decide (0≤b)) (match op with
  | .shl=>some (.int k (k.wrap (a*2^(min b.toNat k.bits))))
  | .shr=>some (.int k (a.fdiv (2^(min b.toNat k.bits))))
  |_=>none)
 |_,_=>none
theorem C3 {op:BinOp} {x y r:Value} {K:Value→Prop} (h:Wg op x y=some r) (hk:K r):nh op x y K:=by
 unfold Wg at h
 split at h
 ·replace h:=aQ.1 h;obtain⟨h1,h⟩:=h
  refine⟨of_decide_eq_true h1, ?_⟩
  cases op<;>cases h<;>exact hk
 ·cases h
theorem M3 {op:BinOp} {x y r:Value} {K:Value→Prop} (h:V9 op x y=some r) (hk:K r):Af op x y K:=by
 unfold V9 at h
 simp only[VE,VT]at h
 split at h
 ·replace h:=aQ.1 h;obtain⟨h1,h⟩:=h
  refine⟨of_decide_eq_true h1, ?_⟩
  cases op<;>simp only[aQ,Option.some.injEq,reduceCtorEq,decide_eq_true_iff]at h
  case quo=>obtain⟨h1,rfl⟩:=h;exact⟨h1,by rw[Fh]at hk;exact hk⟩
  case rem=>obtain⟨h1,rfl⟩:=h;exact⟨h1,hk⟩
  all_goals(subst h;first|exact hk|(rw[Fh]at hk;exact hk))
 ·cases op<;>simp only[aQ,Option.some.injEq,reduceCtorEq,decide_eq_true_iff]at h
  case add=>obtain⟨h1,rfl⟩:=h;exact⟨h1,hk⟩
  all_goals(subst h;simp only[←MU,←ByteArray.toList_eq]at hk;exact hk)
 ·cases h
noncomputable def JG (σ:St):List (Nat×Nat×AX)→List AC→Option (List AC)
 | [],acc=>some acc
 |(off,n,x)::r,acc=>match (lH σ.fr x).cells with
  |some ys=>qm (decide (ys.length=n)&&decide (off+n≤acc.length)) (JG σ r (over acc off ys))
  |none=>none
theorem yH {σ:St} {K:List AC→Prop}: ∀{ps:List (Nat×Nat×AX)} {acc xs:List AC},JG σ ps acc=some xs→K xs→bn.buildW σ ps acc K
 | [],acc,xs,h,hk=>by cases h;exact hk
 |(off,n,x)::r,acc,xs,h,hk=>by
  unfold JG at h
  simp only[m6]at h
  unfold bn.buildW
  split at h
  ·rename_i ys e
   replace h:=aQ.1 h;obtain⟨h1,h⟩:=h
   rw[e]
   simp only[Bool.and_eq_true,decide_eq_true_iff]at h1
   exact⟨h1,yH h hk⟩
  ·cases h
noncomputable def UZ (σ:St) (sz:Nat):List AX→List (List PC)→Option (List (List PC))
 | [],acc=>some acc
 |x::r,acc=>match (lH σ.fr x).cells with
  |some ys=>match GJ ys with
   |some zs=>qm (decide (ys.length=sz)) (UZ σ sz r (acc++ [zs]))
   |none=>none
  |none=>none
theorem Fw {σ:St} {sz:Nat} {K:List (List PC)→Prop}: ∀{l:List AX} {acc xs:List (List PC)},UZ σ sz l acc=some xs→K xs→bn.bsliceW σ sz l acc K
 | [],acc,xs,h,hk=>by cases h;exact hk
 |x::r,acc,xs,h,hk=>by
  unfold UZ at h
  simp only[m6]at h
  unfold bn.bsliceW
  split at h
  ·rename_i ys e
   split at h
   ·rename_i zs e2
    replace h:=aQ.1 h;obtain⟨h1,h⟩:=h
    rw[e]
    exact⟨zs,e2,of_decide_eq_true h1,Fw h hk⟩
   ·cases h
  ·cases h
noncomputable def O4 (σ:St) (sz:Nat):List AX→List (Nat×aS)→List (List PC)→Option (List (List PC)×List (Nat×aS))
 | [],mem,acc=>some (acc,mem)
 |x::r,mem,acc=>match (lH σ.fr x).cells with
  |some ys=>match Fi mem ys with
   |some z=>qm (decide (ys.length=sz)) (O4 σ sz r z.2 (acc++ [z.1]))
   |none=>none
  |none=>none
theorem Bm {σ:St} {sz:Nat} {K:List (List PC)→List (Nat×aS)→Prop}: ∀{l:List AX} {mem:List (Nat×aS)} {acc:List (List PC)} {xs:List (List PC)×List (Nat×aS)},O4 σ sz l mem acc=some xs→K xs.1 xs.2→bn.bsliceFW σ sz l mem acc K
 | [],mem,acc,xs,h,hk=>by cases h;exact hk
 |x::r,mem,acc,xs,h,hk=>by
  unfold O4 at h
  simp only[m6]at h
  unfold bn.bsliceFW
  split at h
  ·rename_i ys e
   split at h
   ·rename_i zs e2
    replace h:=aQ.1 h;obtain⟨h1,h⟩:=h
    rw[e]
    exact⟨zs,e2,of_decide_eq_true h1,Bm h hk⟩
   ·cases h
  ·cases h
noncomputable def Oa (σ:St):List AX→List AC→Option (List AC)
 | [],acc=>some acc
 |x::r,acc=>match lH σ.fr x with
  | .c y=>Oa σ r (acc++ [y])
  |_=>none
theorem Ba {σ:St} {K:List AC→Prop}: ∀{l:List AX} {acc xs:List AC},Oa σ l acc=some xs→K xs→bn.mkfnW σ l acc K
 | [],acc,xs,h,hk=>by cases h;exact hk
 |x::r,acc,xs,h,hk=>by
  unfold Oa at h
  simp only[m6]at h
  unfold bn.mkfnW
  split at h
  ·rename_i y e
   rw[e]
   exact Ba h hk
  ·cases h
def LY (sz:Nat) (rows:List (List PC)):Bool:=rows.all fun r=>r.length==sz
theorem za {sz:Nat} {rows:List (List PC)} (h:LY sz rows=true):bl sz rows:=fun r hr=>by
 have:=List.all_eq_true.1 h r hr
 simpa using this
def Pd (bytes n:Nat):Bool:=decide (n*bytes≤140737488355328)&&decide (n≤140737488355328)
noncomputable def Ua (e sz bytes:Nat) (x y:AV) (ys:List (List PC)) (σ:St):Option (AV×St):=
 qm (LY sz ys) (match x with
 |.c (.ref nm)=>match nS σ.mem nm with
  |some (.arr e' sz' rows)=>qm (decide (e'=e)&&decide (sz'=sz)&&Pd bytes (rows.length+ys.length)&&(match y with| .c (.ref m)=>decide (m≠nm)|_=>true))
   (some (.c (.ref σ.nx),{σ with mem:=(σ.nx,.arr e sz (rows++ys))::SG σ.mem nm,nx:=σ.nx+1}))
  |_=>none
 | .c .nils=>qm (Pd bytes (([]:List (List PC)).length+ys.length)) (some (.c (.ref σ.nx),{σ with mem:=(σ.nx,.arr e sz ([]++ys))::σ.mem,nx:=σ.nx+1}))
 |.c (.tsl rows)=>match ys with
  | []=>qm (LY sz rows) (some (.c (.tsl rows),σ))
  |_=>qm (LY sz rows&&Pd bytes (rows.length+ys.length)) (some (.c (.ref σ.nx),{σ with mem:=(σ.nx,.arr e sz (rows++ys))::σ.mem,nx:=σ.nx+1}))
 |_=>none)
theorem MT {e sz bytes:Nat} {x y:AV} {ys:List (List PC)} {σ σ':St} {v:AV} {K:nF (AV→St→Prop)} (h:Ua e sz bytes x y ys σ=some (v,σ')) (hk:K.out v σ'): @Cp e sz bytes x y ys σ K:=by
 unfold Ua at h
 simp only[ic,IU]at h
 replace h:=aQ.1 h;obtain⟨h0,h⟩:=h
 refine⟨za h0, ?_⟩
 split at h
 ·rename_i nm
  split at h
  ·rename_i e' sz' rows ef
   replace h:=aQ.1 h;obtain⟨h1,h⟩:=h
   simp only[Bool.and_eq_true,decide_eq_true_iff,Pd]at h1
   obtain⟨⟨⟨rfl,rfl⟩,h2,h3⟩,h4⟩:=h1
   cases h
   refine .inl ⟨nm,rfl, ?_,rows,ef,h2,h3,hk⟩
   rintro rfl
   simp at h4
  ·cases h
 ·replace h:=aQ.1 h;obtain⟨h1,h⟩:=h
  simp only[Bool.and_eq_true,decide_eq_true_iff,Pd]at h1
  cases h
  exact .inr (.inl ⟨rfl,.inl ⟨h1.1,h1.2,hk⟩⟩)
 ·rename_i rows
  split at h
  ·replace h:=aQ.1 h;obtain⟨h1,h⟩:=h
   cases h
   exact .inr (.inr ⟨rows,rfl,za h1,.inr (.inr ⟨rfl,hk⟩)⟩)
  ·rename_i hne
   replace h:=aQ.1 h;obtain⟨h1,h⟩:=h
   simp only[Bool.and_eq_true,decide_eq_true_iff,Pd]at h1
   cases h
   exact .inr (.inr ⟨rows,rfl,za h1.1,.inl ⟨fun e=>hne e,h1.2.1,h1.2.2,hk⟩⟩)
 ·cases h
structure dw where
 p:Yq
 i:Yi
 nz:FuncId→Bool
def CC (n:Nat) (l:List Nat):List Nat:=if l.contains n then l else l++ [n]
def VO (l:List Nat):AC→List Nat
 | .ref n=>CC n l
 |_=>l
def O3:List AV→List Nat→List Nat
 | [],l=>l
 | .c x::r,l=>O3 r (VO l x)
 | .agg xs::r,l=>O3 r (xs.foldl VO l)
 |_::r,l=>O3 r l
def Sl (E:dw) (z:Bool) (f:FuncId) (σ:St) (args:List AV):List Nat:=match z with
 |true=>match E.nz f with
  |true=> []
  |false=>O3 args []
 |false=> []
def Vh (E:dw) (g:Bool) (f:FuncId) (args:List AV) (σ:St):Option AV:=
 match aZ σ.mem args with
 |some ps=>match E.p g f ps with
  |some r=>match od r||args.all fY with
   |true=>some r
   |false=>none
  |none=>none
 |none=>none
noncomputable def SE (E:dw) (g z:Bool) (f:FuncId) (args:List AV) (σ:St):Option (AV×St):=
 match bo (Sl E z f σ args) σ args with
 |(σ,args)=>match Vh E (g&&(E.nz f|| !args.all fY)) f args σ with
  |some r=>some (r,σ)
  |none=>match g with
   |true=>match E.i f args σ.mem σ.nx with
    |some (r,m,n)=>some (r,{σ with mem:=m,nx:=n})
    |none=>none
   |false=>none
theorem J6 {P:Program} {E:dw} (hP: ∀g f as r,E.p g f as=some r→ac P f as r) (hI: ∀f as m n r m' n',E.i f as m n=some (r,m',n')→am P f as m n r m' n')
  {g z:Bool} {f:FuncId} {args:List AV} {σ σ':St} {v:AV} {K:nF (AV→St→Prop)} (h:SE E g z f args σ=some (v,σ')) (hk:K.out v σ'): @wV P g z f args σ K:=by
 unfold SE at h
 split at h
 rename_i σ1 GW e0
 refine⟨Sl E z f σ args,σ1,GW, ?_,e0, ?_⟩
 ·unfold Sl
  split
  ·exact .inr rfl
  ·exact .inl rfl
 split at h
 ·rename_i r e
  cases h
  unfold Vh at e
  split at e
  ·rename_i ps e2
   split at e
   ·rename_i r' e3
    split at e
    ·rename_i e4
     cases e
     refine .inl ⟨ps,e2,_,.inl ⟨hP _ _ _ _ e3, ?_⟩,hk⟩
     simpa using e4
    ·cases e
   ·cases e
  ·cases e
 ·split at h
  ·split at h
   ·rename_i r m n e
    cases h
    exact .inr ⟨rfl,_,_,_,hI _ _ _ _ _ _ _ e,hk⟩
   ·cases h
  ·cases h
noncomputable def X8 (E:dw) (σ:St) (x:AX):Option (AV×St):=some (lH σ.fr x,σ)
noncomputable def Tb (E:dw) (σ:St) (c a b:AX):Option (AV×St):=match lH σ.fr c with
 | .c (.pure (.val (.bool true)))=>some (lH σ.fr a,σ)
 | .c (.pure (.val (.bool false)))=>some (lH σ.fr b,σ)
 |_=>none
noncomputable def G9 (E:dw) (σ:St) (x:AX):Option (AV×St):=match (lH σ.fr x).cells with
 |some xs=>some (.c (.ptr σ.nx 0),{σ with mem:=(σ.nx,.var xs)::σ.mem,nx:=σ.nx+1})
 |none=>none
noncomputable def Qs (E:dw) (σ:St) (n:Option Nat) (p:AX):Option (AV×St):=match lH σ.fr p with
 |.c q=>match OP σ.mem q with
  |some xs=>match n with
   |none=>match xs with
    |x::_=>some (.c x,σ)
    | []=>none
   |some n=>qm (decide (n≤xs.length)) (some (.agg (xs.take n),σ))
  |none=>none
 |_=>none
noncomputable def Of (E:dw) (σ:St) (n:Nat) (p v:AX):Option (AV×St):=match (lH σ.fr v).cells with
 |some ys=>match lH σ.fr p with
  |.c (.ptr nm off)=>match nS σ.mem nm with
   |some (.var xs)=>qm (decide (ys.length=n)&&decide (off+n≤xs.length)) (some (.tup [],{σ with mem:=PT σ.mem nm (.var (over xs off ys))}))
   |_=>none
  |.c (.eptr nm sz row off)=>match nS σ.mem nm with
   |some (.arr e sz' rows)=>qm (decide (sz=sz')&&decide (ys.length=n)&&decide (off+n≤sz)) (match GJ ys,rows[row]? with
    |some zs,some r=>some (.tup [],{σ with mem:=PT σ.mem nm (.arr e sz (rows.set row (over r off zs)))})
    |_,_=>none)
   |_=>none
  |_=>none
 |none=>none
noncomputable def Vr (E:dw) (σ:St) (op:BinOp) (x y:AX):Option (AV×St):=match lH σ.fr x,lH σ.fr y with
 |.c (.pure (.val a)),.c (.pure (.val b))=>match (match op with
  | .shl| .shr=>Wg op a b
  |_=>V9 op a b)with
  |some r=>some (.c (.pure (.val r)),σ)
  |none=>none
 |_,_=>none
noncomputable def VU (E:dw) (σ:St) (neg:Bool) (x y:AX):Option (AV×St):=match lH σ.fr x,lH σ.fr y with
 | .c (.pure (.val (.bool a))),.c (.pure (.val (.bool b)))=>some (.c (.pure (.val (.bool ((a==b) !=neg)))),σ)
 |_,_=>none
noncomputable def VH (E:dw) (σ:St) (neg:Bool) (l:List ET) (x y:AX):Option (AV×St):=match lH σ.fr x,lH σ.fr y with
 | .agg xs,.agg ys=>qm (EH l xs ys) (some (.c (.pure (.val (.bool (Cy xs ys !=neg)))),σ))
 |_,_=>none
noncomputable def XF (E:dw) (σ:St) (op:UnOp) (x:AX):Option (AV×St):=match op,lH σ.fr x with
 | .not,.c (.pure (.val (.bool b)))=>some (.c (.pure (.val (.bool (!b)))),σ)
 | .neg,.c (.pure (.val (.int k n)))=>some (.c (.pure (.val (.int k (Bl k (0-n))))),σ)
 |_,_=>none
noncomputable def Si (E:dw) (σ:St) (k:IntKind) (x:AX):Option (AV×St):=match lH σ.fr x with
 | .c (.pure (.val (.int _ n)))=>some (.c (.pure (.val (.int k (Bl k n)))),σ)
 |_=>none
noncomputable def KN (E:dw) (σ:St) (off:Nat) (p:AX):Option (AV×St):=match lH σ.fr p with
 | .c (.ptr nm o)=>some (.c (.ptr nm (o+off)),σ)
 | .c (.cptr cells)=>some (.c (.cptr (cells.drop off)),σ)
 | .c (.eptr nm sz row o)=>some (.c (.eptr nm sz row (o+off)),σ)
 |_=>none
noncomputable def OY (E:dw) (σ:St) (off:Nat) (n:Option Nat) (x:AX):Option (AV×St):=match lH σ.fr x with
 |.agg xs=>match n with
  |none=>match xs.drop off with
   |x::_=>some (.c x,σ)
   | []=>none
  |some n=>qm (decide (off+n≤xs.length)) (some (.agg ((xs.drop off).take n),σ))
 |_=>none
noncomputable def Q2 (E:dw) (σ:St) (sz:Nat) (x i:AX):Option (AV×St):=match lH σ.fr i with
 |.c (.pure (.val (.int _ i)))=>match lH σ.fr x with
  |.c (.pure (.slice rows))| .c (.tsl rows)=>match rows[i.toNat]? with
   |some r=>qm (decide (0≤i)&&decide (r.length=sz)&&decide (0<sz)) (some (.c (.cptr r),σ))
   |none=>none
  |.c (.ref nm)=>match nS σ.mem nm with
   |some (.arr _ sz' rows)=>qm (decide (sz'=sz)&&decide (0<sz)&&decide (0≤i)&&decide (i<rows.length)) (some (.c (.eptr nm sz i.toNat 0),σ))
   |_=>none
  |_=>none
 |_=>none
noncomputable def Q5 (E:dw) (σ:St) (len sz:Nat) (x i:AX):Option (AV×St):=match lH σ.fr x,lH σ.fr i with
 | .c (.ptr nm o),.c (.pure (.val (.int _ i)))=>qm (decide (0≤i)&&decide (i<len)) (some (.c (.ptr nm (o+i.toNat*sz)),σ))
 | .c (.cptr cells),.c (.pure (.val (.int _ i)))=>qm (decide (0≤i)&&decide (i<len)) (some (.c (.cptr (cells.drop (i.toNat*sz))),σ))
 |_,_=>none
noncomputable def TD (E:dw) (σ:St) (x:AX):Option (AV×St):=match lH σ.fr x with
 | .c (.ptr nm o)=>some (.c (.ptr nm o),σ)
 | .c (.cptr cells)=>some (.c (.cptr cells),σ)
 | .c (.eptr nm sz row o)=>some (.c (.eptr nm sz row o),σ)
 | .c (.clo f caps)=>some (.c (.clo f caps),σ)
 |_=>none
noncomputable def Tc (E:dw) (σ:St) (x i:AX):Option (AV×St):=match lH σ.fr x,lH σ.fr i with
 |.c (.pure (.val (.string s))),.c (.pure (.val (.int _ i)))=>match s[i.toNat]? with
  |some b=>qm (decide (0≤i)) (some (.c (.pure (.val (.int .u8 b.toNat))),σ))
  |none=>none
 |_,_=>none
noncomputable def OA (E:dw) (σ:St) (zero:List AC) (parts:List (Nat×Nat×AX)):Option (AV×St):=match JG σ parts zero with
 |some xs=>some (.agg xs,σ)
 |none=>none
noncomputable def Mm (E:dw) (σ:St) (sz:Nat) (rows:List AX):Option (AV×St):=match UZ σ sz rows []with
 |some rs=>some (.c (.tsl rs),σ)
 |none=>none
noncomputable def mz (E:dw) (σ:St) (e sz bytes:Nat) (zero:List PC) (l:AX):Option (AV×St):=match lH σ.fr l with
 | .c (.pure (.val (.int .i64 n)))=>qm (decide (0≤n)&&decide (n≤281474976710656)&&decide (bytes*n≤281474976710656))
   (some (.c (.ref σ.nx),{σ with mem:=(σ.nx,.arr e sz (List.replicate n.toNat zero))::σ.mem,nx:=σ.nx+1}))
 |_=>none
noncomputable def VL (E:dw) (σ:St) (sz:Nat) (x:AX) (lo hi mx:Option AX):Option (AV×St):=match lH σ.fr x with
 | .c (.ref _)=>none
 |v=>match Oe σ.mem v,bn.boundOf σ lo,bn.boundOf σ hi,bn.boundOf σ mx with
  |some rows,some lo,some hi,some mx=>qm (LY sz rows&&decide (0≤lo.getD 0)&&decide (lo.getD 0≤hi.getD rows.length)&&decide (hi.getD rows.length≤mx.getD rows.length)&&decide (mx.getD rows.length≤rows.length))
   (some (.c (if mx.isSome=true∧mx=hi then .tsl ((rows.take (hi.getD rows.length).toNat).drop (lo.getD 0).toNat)else .pure (.slice ((rows.take (hi.getD rows.length).toNat).drop (lo.getD 0).toNat))),σ))
  |_,_,_,_=>none
noncomputable def QK (E:dw) (σ:St) (x:AX) (lo hi:Option AX):Option (AV×St):=match lH σ.fr x,bn.boundOf σ lo,bn.boundOf σ hi with
 |.c (.pure (.val (.string s))),some lo,some hi=>qm (decide (0≤lo.getD 0)&&decide (lo.getD 0≤hi.getD s.size)&&decide (hi.getD s.size≤s.size))
  (some (.c (.pure (.val (.string (s.extract (lo.getD 0).toNat (hi.getD s.size).toNat)))),σ))
 |_,_,_=>none
noncomputable def VI (E:dw) (σ:St) (x:AX) (i:Nat):Option (AV×St):=match lH σ.fr x with
 |.tup vs=>match vs[i]? with
  |some v=>some (v,σ)
  |none=>none
 |_=>none
noncomputable def VD (E:dw) (σ:St) (x:AX):Option (AV×St):=match lH σ.fr x with
 | .c (.pure (.slice rows))| .c (.tsl rows)=>some (.c (.pure (.val (.int .i64 rows.length))),σ)
 | .c .nils=>some (.c (.pure (.val (.int .i64 0))),σ)
 |.c (.ref nm)=>match nS σ.mem nm with
  |some (.arr _ _ rows)=>some (.c (.pure (.val (.int .i64 rows.length))),σ)
  |_=>none
 |_=>none
noncomputable def Sp (E:dw) (σ:St) (x:AX):Option (AV×St):=match lH σ.fr x with
 | .c (.pure (.val (.string s)))=>some (.c (.pure (.val (.int .i64 s.size))),σ)
 |_=>none
noncomputable def XH (E:dw) (σ:St) (mx:Bool) (x y:AX):Option (AV×St):=match lH σ.fr x,lH σ.fr y with
 | .c (.pure (.val (.int k a))),.c (.pure (.val (.int _ b)))=>some (.c (.pure (.val (.int k (if mx=true then max a b else min a b)))),σ)
 |_,_=>none
noncomputable def Ti (E:dw) (σ:St) (neg:Bool) (x:AX):Option (AV×St):=match lH σ.fr x with
 | .c .nils=>some (.c (.pure (.val (.bool (!neg)))),σ)
 | .c (.pure (.slice rows))| .c (.tsl rows)=>qm (rows.any fun r=> !r.isEmpty) (some (.c (.pure (.val (.bool neg))),σ))
 |.c (.ref nm)=>match nS σ.mem nm with
  |some (.arr _ _ rows)=>qm (rows.any fun r=> !r.isEmpty) (some (.c (.pure (.val (.bool neg))),σ))
  |_=>none
 |_=>none
noncomputable def GS (E:dw) (σ:St) (e sz bytes:Nat) (x y:AX):Option (AV×St):=match Oe σ.mem (lH σ.fr y)with
 |some ys=>Ua e sz bytes (lH σ.fr x) (lH σ.fr y) ys σ
 |none=>none
noncomputable def Rs (E:dw) (σ:St) (f:FuncId) (caps:List AX):Option (AV×St):=match Oa σ caps []with
 |some xs=>some (.c (.clo f xs),σ)
 |none=>none
noncomputable def Rh (E:dw) (σ:St) (g z:Bool) (f:AX) (args:List AX):Option (AV×St):=match lH σ.fr f with
 | .c (.clo f caps)=>SE E g z f ((args.map fun x=>lH σ.fr x)++caps.map .c) σ
 |_=>none
noncomputable def Hr (E:dw) (σ:St) (sz:Nat) (rows:List AX):Option (AV×St):=match O4 σ sz rows σ.mem []with
 |some (rs,mem)=>some (.c (.tsl rs),{σ with mem:=mem})
 |none=>none
noncomputable def vl (E:dw) (σ:St) (kt:KT) (n:Option Nat):Option (AV×St):=some (.c (.mref σ.nx),{σ with mem:=(σ.nx,.map kt n [])::σ.mem,nx:=σ.nx+1})
noncomputable def RV (E:dw) (σ:St) (kt:KT) (n:Option Nat) (zero:List AC) (ok:Bool) (m k:AX):Option (AV×St):=match lH σ.fr k with
 |.c (.pure (.val kv))=>match Gw kt kv with
  |some mk=>match lH σ.fr m with
   |.c (.mref nm)=>match nS σ.mem nm with
    |some (.map kt' n' ents)=>qm (Xb kt' kt&&decide (n'=n)) (match ij ents mk with
     |some ps=>some (if ok=true then .tup [eV n ps,.c (.pure (.val (.bool true)))]else eV n ps,σ)
     |none=>some (if ok=true then .tup [eV n zero,.c (.pure (.val (.bool false)))]else eV n zero,σ))
    |_=>none
   | .c (.pure (.fmap kt' n' es))=>qm (Xb kt' kt&&decide (n'=n)) (match ij (oT es) mk with
     |some ps=>some (if ok=true then .tup [eV n ps,.c (.pure (.val (.bool true)))]else eV n ps,σ)
     |none=>some (if ok=true then .tup [eV n zero,.c (.pure (.val (.bool false)))]else eV n zero,σ))
   |_=>none
  |none=>none
 |_=>none
noncomputable def Rb (E:dw) (σ:St) (kt:KT) (n:Option Nat) (m k v:AX):Option (AV×St):=match lH σ.fr k with
 |.c (.pure (.val kv))=>match Gw kt kv with
  |some mk=>match lH σ.fr m with
   |.c (.mref nm)=>match AO n (lH σ.fr v)with
    |some ys=>match nS σ.mem nm with
     |some (.map kt' n' ents)=>qm (Xb kt' kt&&decide (n'=n)) (some (.tup [],{σ with mem:=PT σ.mem nm (.map kt n (zX ents mk ys))}))
     |_=>none
    |none=>none
   |_=>none
  |none=>none
 |_=>none
noncomputable def Ql (E:dw) (o:eL) (σ:St):Option (AV×St):=
 match o with
 | .mv x=>X8 E σ x
 | .pick c a b=>Tb E σ c a b
 | .box x=>G9 E σ x
 | .load n p=>Qs E σ n p
 | .store n p v=>Of E σ n p v
 | .bin op x y=>Vr E σ op x y
 | .eqb neg x y=>VU E σ neg x y
 | .eqs neg l x y=>VH E σ neg l x y
 | .un op x=>XF E σ op x
 | .conv k x=>Si E σ k x
 | .fieldA off p=>KN E σ off p
 | .field off n x=>OY E σ off n x
 | .idxA sz x i=>Q2 E σ sz x i
 | .idxR len sz x i=>Q5 E σ len sz x i
 | .nilc x=>TD E σ x
 | .idxS x i=>Tc E σ x i
 | .build zero parts=>OA E σ zero parts
 | .bslice sz rows=>Mm E σ sz rows
 | .mkslice e sz bytes zero l=>mz E σ e sz bytes zero l
 | .slc sz x lo hi mx=>VL E σ sz x lo hi mx
 | .slcS x lo hi=>QK E σ x lo hi
 | .ext x i=>VI E σ x i
 | .len x=>VD E σ x
 | .lenS x=>Sp E σ x
 | .mm mx x y=>XH E σ mx x y
 | .snil neg x=>Ti E σ neg x
 | .app e sz bytes x y=>GS E σ e sz bytes x y
 | .mkfn f caps=>Rs E σ f caps
 | .call g z f args=>Rh E σ g z f args
 | .bsliceF sz rows=>Hr E σ sz rows
 | .mkmap kt n=>vl E σ kt n
 | .mget kt n zero ok m k=>RV E σ kt n zero ok m k
 | .mput kt n m k v=>Rb E σ kt n m k v
 |_=>none
theorem DQ {rows:List (List PC)} {A B:nF Prop} (h:(rows.any fun r=> !r.isEmpty)=true) (hb:B.out): @Gt rows A B:=by
 refine⟨fun h0=> ?_,hb⟩
 obtain⟨r,hr,e⟩:=List.any_eq_true.1 h
 rw[h0 r hr]at e
 cases e
section
variable {P : Program} {E : dw} (hP : ∀ g f as r, E.p g f as = some r → ac P f as r) (hI : ∀ f as m n r m' n', E.i f as m n = some (r, m', n') → am P f as m n r m' n')
include hP hI
theorem zV {o:eL} {σ σ':St} {v:AV} {K:AV→St→Prop} (h:Ql E o σ=some (v,σ')) (hk:K v σ'):bn P o σ K:=by
 cases o<;>simp only[Ql,X8,Tb,G9,Qs,Of,Vr,VU,VH,XF,Si,KN,OY,Q2,Q5,TD,Tc,OA,Mm,mz,VL,QK,VI,VD,Sp,XH,Ti,GS,Rs,Rh,Hr,vl,RV,Rb,m6,ic,NN,L0,uE,Fh]at h<;>simp only[bn]
 case mv x=>cases h;exact hk
 case pick c a b=>
  split at h
  ·rename_i e
   cases h
   rw[e]
   exact⟨fun _=>hk,fun e=>by cases e⟩
  ·rename_i e
   cases h
   rw[e]
   exact⟨(fun e=>by cases e),fun _=>hk⟩
  ·cases h
 case box x=>split at h<;>cases h;rename_i e;rw[e];exact hk
 case load n p=>
  split at h
  ·rename_i q e
   rw[e]
   dsimp only
   split at h
   ·rename_i xs e2
    rw[e2]
    dsimp only
    split at h
    ·split at h<;>cases h
     exact hk
    ·replace h:=aQ.1 h;obtain⟨h1,h⟩:=h
     cases h
     exact⟨of_decide_eq_true h1,hk⟩
   ·cases h
  ·cases h
 case store n p w=>
  split at h
  ·rename_i ys e
   rw[e]
   split at h
   ·rename_i nm off e2
    rw[e2]
    dsimp only
    split at h
    ·rename_i xs e3
     rw[e3]
     replace h:=aQ.1 h;obtain⟨h1,h⟩:=h
     simp only[Bool.and_eq_true,decide_eq_true_iff]at h1
     cases h
     exact⟨h1,hk⟩
    ·cases h
   ·rename_i nm sz row off e2
    rw[e2]
    dsimp only
    split at h
    ·rename_i e0 sz' rows e3
     rw[e3]
     replace h:=aQ.1 h;obtain⟨h1,h⟩:=h
     simp only[Bool.and_eq_true,decide_eq_true_iff]at h1
     split at h
     ·rename_i zs r e4 e5
      cases h
      exact⟨⟨h1.1.1,h1.1.2,h1.2⟩,zs,e4,r,e5,hk⟩
     ·cases h
    ·cases h
   ·cases h
  ·cases h
 case bin op x y=>
  split at h
  ·rename_i a b e1 e2
   rw[e1,e2]
   dsimp only
   split at h
   ·rename_i r e
    cases h
    cases op
    case shl=>exact C3 e hk
    case shr=>exact C3 e hk
    all_goals exact M3 e hk
   ·cases h
  ·cases h
 case eqb neg x y=>split at h<;>cases h;rename_i e1 e2;rw[e1,e2];exact hk
 case eqs neg l x y=>
  split at h
  ·rename_i e1 e2
   rw[e1,e2]
   replace h:=aQ.1 h;obtain⟨h1,h⟩:=h
   cases h
   refine⟨RU h1, ?_⟩
   show K _ _
   rw[QX]
   exact hk
  ·cases h
 case un op x=>split at h<;>cases h<;>(rename_i e;rw[e];exact hk)
 case conv k x=>split at h<;>cases h;rename_i e;rw[e];exact hk
 case fieldA off p=>split at h<;>cases h<;>(rename_i e;rw[e];exact hk)
 case field off n x=>
  split at h
  ·rename_i xs e
   rw[e]
   dsimp only
   split at h
   ·split at h<;>cases h
    rename_i e2
    dsimp only
    rw[e2]
    exact hk
   ·replace h:=aQ.1 h;obtain⟨h1,h⟩:=h
    cases h
    exact⟨of_decide_eq_true h1,hk⟩
  ·cases h
 case idxA sz x i=>
  split at h
  ·rename_i e1
   rw[e1]
   split at h
   ·rename_i rows e2
    rw[e2]
    split at h
    ·rename_i r e3
     replace h:=aQ.1 h;obtain⟨h1,h⟩:=h
     simp only[Bool.and_eq_true,decide_eq_true_iff]at h1
     cases h
     exact⟨h1.1.1,r,e3,⟨h1.1.2,h1.2⟩,hk⟩
    ·cases h
   ·rename_i rows e2
    rw[e2]
    split at h
    ·rename_i r e3
     replace h:=aQ.1 h;obtain⟨h1,h⟩:=h
     simp only[Bool.and_eq_true,decide_eq_true_iff]at h1
     cases h
     exact⟨h1.1.1,r,e3,⟨h1.1.2,h1.2⟩,hk⟩
    ·cases h
   ·rename_i nm e2
    rw[e2]
    dsimp only
    split at h
    ·rename_i e3
     rw[e3]
     replace h:=aQ.1 h;obtain⟨h1,h⟩:=h
     simp only[Bool.and_eq_true,decide_eq_true_iff]at h1
     cases h
     exact⟨⟨h1.1.1.1,h1.1.1.2,h1.1.2,h1.2⟩,hk⟩
    ·cases h
   ·cases h
  ·cases h
 case idxR len sz x i=>
  split at h
  ·rename_i e1 e2
   rw[e1,e2]
   replace h:=aQ.1 h;obtain⟨h1,h⟩:=h
   simp only[Bool.and_eq_true,decide_eq_true_iff]at h1
   cases h
   exact⟨h1,hk⟩
  ·rename_i e1 e2
   rw[e1,e2]
   replace h:=aQ.1 h;obtain⟨h1,h⟩:=h
   simp only[Bool.and_eq_true,decide_eq_true_iff]at h1
   cases h
   exact⟨h1,hk⟩
  ·cases h
 case nilc x=>split at h<;>cases h<;>(rename_i e;rw[e];exact hk)
 case idxS x i=>
  split at h
  ·rename_i e1 e2
   rw[e1,e2]
   split at h
   ·rename_i b e3
    replace h:=aQ.1 h;obtain⟨h1,h⟩:=h
    cases h
    exact⟨of_decide_eq_true h1,b,e3,hk⟩
   ·cases h
  ·cases h
 case build z ps=>split at h<;>cases h;rename_i e;exact yH e hk
 case bslice sz rows=>split at h<;>cases h;rename_i e;exact Fw e hk
 case mkslice e0 sz bytes z l=>
  split at h
  ·rename_i e
   rw[e]
   replace h:=aQ.1 h;obtain⟨h1,h⟩:=h
   simp only[Bool.and_eq_true,decide_eq_true_iff]at h1
   cases h
   exact⟨⟨h1.1.1,h1.1.2,h1.2⟩,hk⟩
  ·cases h
 case slc sz x lo hi mx=>
  split at h
  ·cases h
  ·rename_i hn
   split at h
   ·rename_i rows l1 h1 m1 e1 e2 e3 e4
    replace h:=aQ.1 h;obtain⟨hc,h⟩:=h
    simp only[Bool.and_eq_true,decide_eq_true_iff]at hc
    cases h
    split
    ·rename_i nm e
     exact absurd e (hn nm)
    ·exact⟨rows,e1,l1,e2,h1,e3,m1,e4,⟨za hc.1.1.1.1,hc.1.1.1.2,hc.1.1.2,hc.1.2,hc.2⟩,hk⟩
   ·cases h
 case slcS x lo hi=>
  split at h
  ·rename_i e1 e2 e3
   rw[e1,e2,e3]
   replace h:=aQ.1 h;obtain⟨h1,h⟩:=h
   simp only[Bool.and_eq_true,decide_eq_true_iff]at h1
   cases h
   exact⟨⟨h1.1.1,h1.1.2,h1.2⟩,hk⟩
  ·cases h
 case ext x i=>
  split at h
  ·rename_i e
   rw[e]
   split at h
   ·rename_i v' e2
    cases h
    exact⟨_,e2,hk⟩
   ·cases h
  ·cases h
 case len x=>
  split at h
  ·rename_i e;cases h;rw[e];exact hk
  ·rename_i e;cases h;rw[e];exact hk
  ·rename_i e;cases h;rw[e];exact hk
  ·rename_i e
   rw[e]
   dsimp only
   split at h<;>cases h
   rename_i e2
   rw[e2]
   exact hk
  ·cases h
 case lenS x=>split at h<;>cases h;rename_i e;rw[e];exact hk
 case mm mx x y=>split at h<;>cases h;rename_i e1 e2;rw[e1,e2];exact hk
 case mm4=>cases h
 case dead=>cases h
 case fnil=>cases h
 case snil neg x=>
  split at h
  ·rename_i e;cases h;rw[e];exact hk
  ·rename_i e
   replace h:=aQ.1 h;obtain⟨h1,h⟩:=h
   cases h;rw[e];exact DQ h1 hk
  ·rename_i e
   replace h:=aQ.1 h;obtain⟨h1,h⟩:=h
   cases h;rw[e];exact DQ h1 hk
  ·rename_i e
   rw[e]
   dsimp only
   split at h
   ·rename_i e2
    replace h:=aQ.1 h;obtain⟨h1,h⟩:=h
    cases h;rw[e2];exact DQ h1 hk
   ·cases h
  ·cases h
 case app e0 sz bytes x y=>
  split at h
  ·rename_i ys e
   exact⟨ys,e,MT h hk⟩
  ·cases h
 case mkfn f caps=>split at h<;>cases h;rename_i e;exact Ba e hk
 case call g z f args=>
  split at h
  ·rename_i f caps e
   rw[e]
   exact J6 hP hI h hk
  ·cases h
 case bsliceF sz rows=>split at h<;>cases h;rename_i e;exact Bm e hk
 case mkmap kt n=>cases h;exact hk
 case mget kt n z ok m k=>
  split at h
  ·rename_i e
   rw[e]
   split at h
   ·rename_i mk e1
    refine⟨mk,e1, ?_⟩
    dsimp only
    split at h
    ·rename_i nm e2
     rw[e2]
     dsimp only
     split at h
     ·rename_i kt' n' ents e3
      rw[e3]
      replace h:=aQ.1 h;obtain⟨h1,h⟩:=h
      simp only[Bool.and_eq_true,decide_eq_true_iff]at h1
      refine⟨⟨IR h1.1,h1.2⟩, ?_⟩
      dsimp only
      split at h
      ·rename_i ps e4
       cases h
       rw[e4]
       exact nQ (fun x e=>by cases e;exact hk) (fun e=>by cases e)
      ·rename_i e4
       cases h
       rw[e4]
       exact nQ (fun x e=>by cases e) (fun _=>hk)
     ·cases h
    ·rename_i kt' n' es e2
     rw[e2]
     replace h:=aQ.1 h;obtain⟨h1,h⟩:=h
     simp only[Bool.and_eq_true,decide_eq_true_iff]at h1
     refine⟨⟨IR h1.1,h1.2⟩, ?_⟩
     dsimp only
     split at h
     ·rename_i ps e4
      cases h
      rw[e4]
      exact nQ (fun x e=>by cases e;exact hk) (fun e=>by cases e)
     ·rename_i e4
      cases h
      rw[e4]
      exact nQ (fun x e=>by cases e) (fun _=>hk)
    ·cases h
   ·cases h
  ·cases h
 case mput kt n m k w=>
  split at h
  ·rename_i e
   rw[e]
   split at h
   ·rename_i mk e1
    refine⟨mk,e1, ?_⟩
    dsimp only
    split at h
    ·rename_i nm e2
     rw[e2]
     split at h
     ·rename_i ys e3
      refine⟨ys,e3, ?_⟩
      dsimp only
      split at h
      ·rename_i kt' n' ents e4
       rw[e4]
       replace h:=aQ.1 h;obtain⟨h1,h⟩:=h
       simp only[Bool.and_eq_true,decide_eq_true_iff]at h1
       cases h
       exact⟨⟨IR h1.1,h1.2⟩,hk⟩
      ·cases h
     ·cases h
    ·cases h
   ·cases h
  ·cases h
end
noncomputable def L5 (σ:St):eL→Bool
 | .box _| .mkslice .. | .mkmap .. =>true
 |.app _ _ _ x _=>match lH σ.fr x with
  | .c (.ref _)=>false
  |_=>true
 |_=>false
def OR:Option aS→Bool
 |none=>true
 |some _=>false
theorem Qc {E:dw} {o:eL} {σ σ':St} {v:AV} (h:Ql E o σ=some (v,σ')) (hk:L5 σ o=true) (hn:OR (ak σ.mem σ.nx)=true):I1 σ.mem σ'.mem:=by
 have hn:ak σ.mem σ.nx=none:=by cases e:ak σ.mem σ.nx with|none=>rfl|some b=>rw[e]at hn;cases hn
 cases o<;>simp only[L5,m6,reduceCtorEq,Bool.false_eq_true]at hk
 case box x=>simp only[Ql,G9,mz,vl,GS,m6,ic,uE]at h;split at h<;>cases h;exact .inr ⟨_,_,rfl,hn⟩
 case mkslice e0 sz bytes z l=>
  simp only[Ql,G9,mz,vl,GS,m6,ic,uE]at h
  split at h
  ·replace h:=aQ.1 h;obtain⟨h1,h⟩:=h
   cases h
   exact .inr ⟨_,_,rfl,hn⟩
  ·cases h
 case mkmap kt n=>simp only[Ql,G9,mz,vl,GS,m6,ic,uE]at h;cases h;exact .inr ⟨_,_,rfl,hn⟩
 case app e0 sz bytes x y=>
  simp only[Ql,G9,mz,vl,GS,m6,ic,uE]at h
  split at h
  ·unfold Ua at h
   simp only[ic,IU]at h
   replace h:=aQ.1 h;obtain⟨h0,h⟩:=h
   split at h
   ·rename_i e;rw[e]at hk;cases hk
   ·replace h:=aQ.1 h;obtain⟨h1,h⟩:=h
    cases h
    exact .inr ⟨_,_,rfl,hn⟩
   ·split at h
    ·replace h:=aQ.1 h;obtain⟨h1,h⟩:=h
     cases h
     exact .inl rfl
    ·replace h:=aQ.1 h;obtain⟨h1,h⟩:=h
     cases h
     exact .inr ⟨_,_,rfl,hn⟩
   ·cases h
  ·cases h
noncomputable def zL (σ:St) (g:AG):Option Bool:=match g.guard with
 |none=>some true
 |some (t,want)=>match uY σ.fr t with
  | .c (.pure (.val (.bool b)))=>some (b==want)
  | .tup []=>some false
  |_=>none
noncomputable def Qj (E:dw) (gs:List AG):St→Option St:=List.rec (motive:=fun _=>St→Option St) (fun σ=>some σ) (fun g _ ih σ=>match zL σ g with
  |some true=>match Ql E g.op σ with
   |some (v,σ')=>ih (σ'.put g.dst v)
   |none=>none
  |some false=>ih (σ.put g.dst (.tup []))
  |none=>none) gs
theorem Pt {E:dw} {g:AG} {r:List AG} {σ:St}:Qj E (g::r) σ=match zL σ g with
  |some true=>match Ql E g.op σ with
   |some (v,σ')=>Qj E r (σ'.put g.dst v)
   |none=>none
  |some false=>Qj E r (σ.put g.dst (.tup []))
  |none=>none:=rfl
noncomputable def DB (E:dw) (gs:List (Bool×AG)):St→Option St:=List.rec (motive:=fun _=>St→Option St) (fun σ=>some σ) (fun x _ ih σ=>match zL σ x.2 with
  |some true=>match Ql E x.2.op σ with
   |some (v,σ')=>qm (!x.1||(L5 σ x.2.op&&OR (ak σ.mem σ.nx))) (ih (σ'.put x.2.dst v))
   |none=>none
  |some false=>ih (σ.put x.2.dst (.tup []))
  |none=>none) gs
theorem MZ {E:dw} {x:Bool} {g:AG} {r:List (Bool×AG)} {σ:St}:DB E ((x,g)::r) σ=match zL σ g with
  |some true=>match Ql E g.op σ with
   |some (v,σ')=>qm (!x||(L5 σ g.op&&OR (ak σ.mem σ.nx))) (DB E r (σ'.put g.dst v))
   |none=>none
  |some false=>DB E r (σ.put g.dst (.tup []))
  |none=>none:=rfl
section
variable {P : Program} {E : dw} (hP : ∀ g f as r, E.p g f as = some r → ac P f as r) (hI : ∀ f as m n r m' n', E.i f as m n = some (r, m', n') → am P f as m n r m' n')
include hP hI
theorem j5: ∀{gs:List AG} {σ σ':St} {K:St→Prop},Qj E gs σ=some σ'→K σ'→jq P gs σ K
 | [],σ,σ',K,h,hk=>by cases h;exact hk
 |g::r,σ,σ',K,h,hk=>by
  rw[Pt]at h
  simp only[zL,nl]at h
  unfold jq
  cases hg:g.guard with
  |none=>
   rw[hg]at h
   dsimp only at h ⊢
   split at h
   ·rename_i v σ1 e
    exact zV hP hI e (j5 h hk)
   ·cases h
  |some tw=>
   obtain⟨t,want⟩:=tw
   rw[hg]at h
   dsimp only at h ⊢
   split
   ·rename_i b e
    rw[e]at h
    dsimp only at h
    refine⟨fun e2=> ?_,fun e2=> ?_⟩
    ·rw[e2]at h
     dsimp only at h ⊢
     split at h
     ·rename_i v σ1 e3
      exact zV hP hI e3 (j5 h hk)
     ·cases h
    ·rw[e2]at h
     exact j5 h hk
   ·rename_i e
    rw[e]at h
    exact j5 h hk
   ·rename_i h1 h2
    split at h
    ·rename_i e2
     split at e2
     ·rename_i b e3;exact(h1 b e3).elim
     ·rename_i e3;exact(h2 e3).elim
     ·cases e2
    ·rename_i e2
     split at e2
     ·rename_i b e3;exact(h1 b e3).elim
     ·rename_i e3;exact(h2 e3).elim
     ·cases e2
    ·cases h
theorem kK: ∀{gs:List (Bool×AG)} {σ σ':St} {K:St→Prop},DB E gs σ=some σ'→K σ'→je P gs σ K
 | [],σ,σ',K,h,hk=>by cases h;exact hk
 |(x,g)::r,σ,σ',K,h,hk=>by
  have one: ∀{v σ1},Ql E g.op σ=some (v,σ1)→qm (!x||(L5 σ g.op&&OR (ak σ.mem σ.nx))) (DB E r (σ1.put g.dst v))=some σ'→bn P g.op σ fun v σ'=>cw (x=true→I1 σ.mem σ'.mem) (K:=⟨je P r (σ'.put g.dst v) K⟩):=by
   intro v σ1 e h
   replace h:=aQ.1 h;obtain⟨h1,h⟩:=h
   refine zV hP hI e ⟨fun hx=> ?_,kK h hk⟩
   simp only[hx,Bool.not_true,Bool.false_or,Bool.and_eq_true]at h1
   exact Qc e h1.1 h1.2
  rw[MZ]at h
  simp only[zL,nl]at h
  unfold je
  cases hg:g.guard with
  |none=>
   rw[hg]at h
   dsimp only at h ⊢
   split at h
   ·rename_i v σ1 e
    exact one e h
   ·cases h
  |some tw=>
   obtain⟨t,want⟩:=tw
   rw[hg]at h
   dsimp only at h ⊢
   split
   ·rename_i b e
    rw[e]at h
    dsimp only at h
    refine⟨fun e2=> ?_,fun e2=> ?_⟩
    ·rw[e2]at h
     dsimp only at h ⊢
     split at h
     ·rename_i v σ1 e3
      exact one e3 h
     ·cases h
    ·rw[e2]at h
     exact kK h hk
   ·rename_i e
    rw[e]at h
    exact kK h hk
   ·rename_i h1 h2
    split at h
    ·rename_i e2
     split at e2
     ·rename_i b e3;exact(h1 b e3).elim
     ·rename_i e3;exact(h2 e3).elim
     ·cases e2
    ·rename_i e2
     split at e2
     ·rename_i b e3;exact(h1 b e3).elim
     ·rename_i e3;exact(h2 e3).elim
     ·cases e2
    ·cases h
end
noncomputable def Kr (t:Nat) (l:List (Nat×AV)):Bool:=List.rec (motive:=fun _=>Bool) false (fun x _ ih=>Bool.rec ih true (Nat.beq x.1 t)) l
theorem P3 {t k:Nat} {v:AV} {r:List (Nat×AV)}:Kr t ((k,v)::r)=Bool.rec (Kr t r) true (Nat.beq k t):=rfl
theorem SB {t:Nat}:Kr t []=false:=rfl
noncomputable def pX (acc l:List (Nat×AV)):List (Nat×AV):=List.rec (motive:=fun _=>List (Nat×AV)→List (Nat×AV)) (fun acc=>acc) (fun x _ ih acc=>Bool.rec (ih (acc++ [x])) (ih acc) (Kr x.1 acc)) l acc
theorem Nc {acc r:List (Nat×AV)} {x:Nat×AV}:pX acc (x::r)=Bool.rec (pX (acc++ [x]) r) (pX acc r) (Kr x.1 acc):=rfl
theorem C9 {t:Nat} {b:List (Nat×AV)}: ∀{a:List (Nat×AV)},aH (a++b) t=if Kr t a=true then aH a t else aH b t
 | []=>by simp[SB]
 |(k,v)::a=>by
  simp only[List.cons_append,aH,P3,P0]
  by_cases e:k=t
  ·simp[e]
  ·simp only[e,if_false,decide_false]
   exact C9
theorem qJ {t:Nat}: ∀{l acc:List (Nat×AV)},aH (pX acc l) t=aH (acc++l) t
 | [],acc=>by rw[List.append_nil];rfl
 |(k,v)::r,acc=>by
  rw[Nc]
  cases h:Kr k acc
  ·show aH (pX (acc++ [(k,v)]) r) t=_
   rw[qJ]
   simp
  ·show aH (pX acc r) t=_
   rw[qJ,C9,C9]
   by_cases e:Kr t acc=true
   ·simp[e]
   ·have hne: ¬k=t:=fun e2=>e (e2▸h)
    simp[e,aH,hne]
section
variable {P : Program} {nt : Nat} {σ : St} {Q : be → St → Prop}
theorem Vq {c:ai} {fr:List (Nat×AV)} (h: ∀t,aH fr t=aH σ.fr t) (hA:AW P nt c {σ with fr:=fr} Q):AW P nt c σ Q:=
 fun c' hc w0 U rd ds ι a w hr hs hz=>hA c' hc w0 U rd ds ι a w hr ⟨fun t=>by rw[h];exact hs.val t,hs.defers,hs.names,hs.box,hs.apart,hs.below,hs.keep,hs.base⟩ hz
noncomputable def LC (f:St→Option (be×St)):Nat→St→Option (be×St)
 |0,_=>none
 |n+1,σ=>match f {σ with fr:=pX [] σ.fr}with
  |some (.normal,σ')=>LC f n σ'
  |r=>r
theorem UQ {f:St→Option (be×St)} {x:ai} (hf: ∀σ e σ' (Q:be→St→Prop),f σ=some (e,σ')→Q e σ'→AW P nt x σ Q) {n:Nat} {e:be} {σ':St} (h:LC f n σ=some (e,σ')) (hk:Q e σ'):AW P nt (.loop x) σ Q:=by
 intro c' hc w0 U rd ds ι a w hrd hs hz
 cases c'<;>simp[cG]at hc
 all_goals(try(split at hc<;>simp at hc))
 rename_i c1
 refine wpIn_loop_rounds n ?_
 have key: ∀n σ U1 ds1 ι a w,J2 w0.heap.size rd U ds U1 ds1→LC f n σ=some (e,σ')→bA w0 U1 σ ι a w→a.tmps.size=nt→Code.roundsIn (FR rd) 0 P c1 (xH w0 U rd ds nt Q) n (sh ds1 a) w:=by
  intro n
  induction n with
  |zero=>intro σ U1 ds1 ι a w hx h;cases h
  |succ n ih=>
   intro σ U1 ds1 ι a w hx h hs hz
   rw[roundsIn_succ]
   unfold LC at h
   cases hr:f {σ with fr:=pX [] σ.fr}with
   |none=>rw[hr]at h;cases h
   |some r=>
    obtain⟨e1,σ1⟩:=r
    rw[hr]at h
    refine wpIn_mono (Vq (fr:=pX [] σ.fr) (fun t=>qJ) (hf _ _ _ (fun e σ=>e=e1∧σ=σ1) hr ⟨rfl,rfl⟩) _ hc w0 U1 rd ds1 ι a w (hrd.ext hx) hs hz) ?_
    rintro e a1 w1 ⟨e',σ',ι',U',ds',a0,rfl,⟨rfl,rfl⟩,hs',hz',rfl,hx'⟩
    cases e' with
    |normal=>exact ih _ _ _ _ a0 w1 (hx.trans hx') h hs' hz'
    |exit i=>cases h;exact⟨.exit i,_,ι',U',ds',a0,rfl,hk,hs',hz',rfl,hx.trans hx'⟩
    |ret=>cases h;exact⟨.ret,_,ι',U',ds',a0,rfl,hk,hs',hz',rfl,hx.trans hx'⟩
 exact key _ _ _ _ _ a w .refl h hs hz
end
def jb {α:Type} (f:α→α→Bool):List α→List α→Bool
 | [], []=>true
 |x::xs,y::ys=>f x y&&jb f xs ys
 |_,_=>false
theorem dY {α:Type} {f:α→α→Bool} (h: ∀x y,f x y=true→x=y): ∀{l m:List α},jb f l m=true→l=m
 | [], [],_=>rfl
 | [],_::_,e=>by cases e
 |_::_, [],e=>by cases e
 |x::xs,y::ys,e=>by
  simp only[jb,Bool.and_eq_true]at e
  rw[h _ _ e.1,dY h e.2]
def xv:Value→Value→Bool
 | .int k a,.int l b=>decide (k=l)&&decide (a=b)
 | .bool a,.bool b=>a==b
 | .string a,.string b=>s9 a b
 | .nilFunc,.nilFunc=>true
 |_,_=>false
theorem T9: ∀{x y:Value},xv x y=true→x=y:=by
 intro x y h
 unfold xv at h
 split at h
 ·simp only[Bool.and_eq_true,decide_eq_true_iff]at h;rw[h.1,h.2]
 ·rw[eq_of_beq h]
 ·rename_i a b
  obtain⟨⟨a⟩⟩:=a
  obtain⟨⟨b⟩⟩:=b
  have h:=yg.1 h
  simp only at h
  rw[h]
 ·rfl
 ·cases h
def Vn:Nat→PC→PC→Bool
 |_+1,.val a,.val b=>xv a b
 |n+1,.slice r,.slice s=>jb (jb (Vn n)) r s
 |_,_,_=>false
theorem EP: ∀{n:Nat} {x y:PC},Vn n x y=true→x=y
 |0,x,y,h=>by unfold Vn at h;cases h
 |n+1,x,y,h=>by
  unfold Vn at h
  split at h
  ·rw[T9 h]
  ·rw[dY (fun _ _ h=>dY (fun _ _ h=>EP h) h) h]
  ·cases h
def Vp (d:Nat):Nat→AC→AC→Bool
 |_+1,.pure a,.pure b=>Vn d a b
 |_+1,.nils,.nils=>true
 |_+1,.top,.top=>true
 |_+1,.tsl r,.tsl s=>jb (jb (Vn d)) r s
 |_+1,.cptr r,.cptr s=>jb (Vn d) r s
 |_+1,.ptr a b,.ptr a' b'=>decide (a=a')&&decide (b=b')
 |_+1,.ref a,.ref b=>decide (a=b)
 |_+1,.mref a,.mref b=>decide (a=b)
 |_+1,.eptr a b c e,.eptr a' b' c' e'=>decide (a=a')&&decide (b=b')&&decide (c=c')&&decide (e=e')
 |n+1,.clo f r,.clo g s=>decide (f=g)&&jb (Vp d n) r s
 |_,_,_=>false
theorem Eh {d:Nat}: ∀{n:Nat} {x y:AC},Vp d n x y=true→x=y
 |0,x,y,h=>by unfold Vp at h;cases h
 |n+1,x,y,h=>by
  unfold Vp at h
  split at h
  ·rw[EP h]
  ·rfl
  ·rfl
  ·rw[dY (fun _ _ h=>dY (fun _ _ h=>EP h) h) h]
  ·rw[dY (fun _ _ h=>EP h) h]
  ·simp only[Bool.and_eq_true,decide_eq_true_iff]at h;rw[h.1,h.2]
  ·rw[of_decide_eq_true h]
  ·rw[of_decide_eq_true h]
  ·simp only[Bool.and_eq_true,decide_eq_true_iff]at h;rw[h.1.1.1,h.1.1.2,h.1.2,h.2]
  ·simp only[Bool.and_eq_true,decide_eq_true_iff]at h;rw[h.1,dY (fun _ _ h=>Eh h) h.2]
  ·cases h
def TM:Nat→AV→AV→Bool
 |_+1,.c a,.c b=>Vp 12 4 a b
 |_+1,.agg r,.agg s=>jb (Vp 12 4) r s
 |n+1,.tup r,.tup s=>jb (TM n) r s
 |_+1,.top,.top=>true
 |_,_,_=>false
theorem DC: ∀{n:Nat} {x y:AV},TM n x y=true→x=y
 |0,x,y,h=>by unfold TM at h;cases h
 |n+1,x,y,h=>by
  unfold TM at h
  split at h
  ·rw[Eh h]
  ·rw[dY (fun _ _ h=>Eh h) h]
  ·rw[dY (fun _ _ h=>DC h) h]
  ·rfl
  ·cases h
def WF:Nat×aS→Nat×aS→Bool
 |(a,.var xs),(b,.var ys)=>decide (a=b)&&jb (Vp 12 4) xs ys
 |(a,.arr e s xs),(b,.arr e' s' ys)=>decide (a=b)&&decide (e=e')&&decide (s=s')&&jb (jb (Vn 12)) xs ys
 |(a,.map k n xs),(b,.map k' n' ys)=>decide (a=b)&&Xb k k'&&decide (n=n')&&jb (fun x y=>decide (x.1=y.1)&&jb (Vp 12 4) x.2 y.2) xs ys
 |_,_=>false
theorem T7: ∀(x y:Nat×aS),WF x y=true→x=y:=by
 rintro⟨a,x⟩ ⟨b,y⟩ h
 unfold WF at h
 split at h
 ·rename_i e1 e2
  cases e1;cases e2
  simp only[Bool.and_eq_true,decide_eq_true_iff]at h;rw[h.1,dY (fun _ _ h=>Eh h) h.2]
 ·rename_i e1 e2
  cases e1;cases e2
  simp only[Bool.and_eq_true,decide_eq_true_iff]at h;rw[h.1.1.1,h.1.1.2,h.1.2,dY (fun _ _ h=>dY (fun _ _ h=>EP h) h) h.2]
 ·rename_i e1 e2
  cases e1;cases e2
  simp only[Bool.and_eq_true,decide_eq_true_iff]at h
  rw[h.1.1.1,IR h.1.1.2,h.1.2,dY (fun x y h=>by
   simp only[Bool.and_eq_true,decide_eq_true_iff]at h
   exact Prod.ext h.1 (dY (fun _ _ h=>Eh h) h.2)) h.2]
 ·cases h
noncomputable def YM (a b:List (Nat×AV)):Bool:=(a.all fun x=>TM 4 (uY a x.1) (uY b x.1))&&b.all fun x=>TM 4 (uY a x.1) (uY b x.1)
theorem AD {t:Nat}: ∀{a:List (Nat×AV)},(∀x∈a,x.1≠t)→aH a t= .top
 | [],_=>rfl
 |(k,v)::a,h=>by
  rw[aH,if_neg (h _ List.mem_cons_self)]
  exact AD fun x hx=>h x (List.mem_cons_of_mem _ hx)
theorem WD {a b:List (Nat×AV)} (h:YM a b=true) (t:Nat):aH a t=aH b t:=by
 simp only[YM,Bool.and_eq_true,List.all_eq_true,nl]at h
 by_cases ha: ∃x∈a,x.1=t
 ·obtain⟨x,hx,rfl⟩:=ha
  exact DC (h.1 x hx)
 ·by_cases hb: ∃x∈b,x.1=t
  ·obtain⟨x,hx,rfl⟩:=hb
   exact DC (h.2 x hx)
  ·rw[AD fun x hx e=>ha ⟨x,hx,e⟩,AD fun x hx e=>hb ⟨x,hx,e⟩]
noncomputable def YV (a b:St):Bool:=YM a.fr b.fr&&jb WF a.mem b.mem&&decide (a.nx=b.nx)&&decide (a.base=b.base)
theorem PQ {P:Program} {nt:Nat} {c:ai} {σ:St} {Q:be→St→Prop} (h:AW P nt c σ fun e τ=> ∃fr,(∀t,aH fr t=aH τ.fr t)∧Q e {τ with fr:=fr}):AW P nt c σ Q:=
 fun c' hc w0 U rd ds ι a w hr hs hz=>wpIn_mono (h c' hc w0 U rd ds ι a w hr hs hz) fun e a w ⟨e',σ',ι',U',ds',a0,h1,⟨fr,h2,h3⟩,h4,h5⟩=>
  ⟨e',{σ' with fr:=fr},ι',U',ds',a0,h1,h3,⟨fun t=>by rw[h2];exact h4.val t,h4.defers,h4.names,h4.box,h4.apart,h4.below,h4.keep,h4.base⟩,h5⟩
noncomputable def JR (E:dw) (σ r:St):List (List (Bool×AG))→Bool
 | []=>true
 |gs::gss=>match DB E gs σ with
  |some τ=>YV r τ&&JR E σ r gss
  |none=>false
theorem yh {P:Program} {E:dw} (hP: ∀g f as r,E.p g f as=some r→ac P f as r) (hI: ∀f as m n r m' n',E.i f as m n=some (r,m',n')→am P f as m n r m' n') {σ r:St} {K:St→Prop} (hk:K r): ∀{gss:List (List (Bool×AG))},JR E σ r gss=true→wG P gss σ fun τ=> ∃fr,(∀t,aH fr t=aH τ.fr t)∧K {τ with fr:=fr}
 | [],h=>trivial
 |gs::gss,h=>by
  unfold JR at h
  have one: ∀{τ:St},YV r τ=true→ ∃fr,(∀t,aH fr t=aH τ.fr t)∧K {τ with fr:=fr}:=by
   intro τ h
   simp only[YV,Bool.and_eq_true,decide_eq_true_iff]at h
   refine⟨r.fr,fun t=>WD h.1.1.1 t, ?_⟩
   rw[←h.2,←h.1.2,←dY T7 h.1.1.2]
   exact hk
  split at h
  ·rename_i τ e
   simp only[Bool.and_eq_true]at h
   cases gss with
   |nil=>exact kK hP hI e (one h.1)
   |cons gs' gss=>exact⟨kK hP hI e (one h.1),yh hP hI hk h.2⟩
  ·cases h
noncomputable def Oj (E:dw) (gss:List (List (Bool×AG))) (σ:St):Option St:=match gss with
 | []=>none
 |gs::r=>match DB E gs σ with
  |some σ'=>qm (JR E σ σ' (gs::r)) (some σ')
  |none=>none
def VW (σ:St):List Nat:=σ.mem.filterMap fun x=>match x.2 with
 | .arr .. =>if σ.base≤x.1 then some x.1 else none
 |_=>none
noncomputable def XT (E:dw) (gs:List AG) (σ:St):Option (be×St):=match Qj E gs σ with
 |some σ'=>some (.normal,σ')
 |none=>match Qj E gs (bo (VW σ) σ []).1 with
  |some σ'=>some (.normal,σ')
  |none=>none
noncomputable def XB (E:dw) (gss:List (List (Bool×AG))) (σ:St):Option (be×St):=match Oj E gss {σ with fr:=pX [] σ.fr}with
 |some σ'=>some (.normal,σ')
 |none=>match Oj E gss (bo (VW {σ with fr:=pX [] σ.fr}) {σ with fr:=pX [] σ.fr} []).1 with
  |some σ'=>some (.normal,σ')
  |none=>none
noncomputable def FN (E:dw) (n:Nat):ai→St→Option (be×St)
 | .skip,σ=>some (.normal,σ)
 | .region gs false,σ=>XT E gs σ
 | .draw gss,σ=>XB E gss σ
 |.seq a b,σ=>match FN E n a σ with
  |some (.normal,σ')=>FN E n b σ'
  |r=>r
 |.cond c a b,σ=>match lH σ.fr c with
  | .c (.pure (.val (.bool true)))=>FN E n a σ
  | .c (.pure (.val (.bool false)))=>FN E n b σ
  |_=>none
 |.block id a,σ=>match FN E n a σ with
  |some (.exit i,σ')=>if i=id then some (.normal,σ')else some (.exit i,σ')
  |r=>r
 | .loop a,σ=>LC (FN E n a) n σ
 | .exit i,σ=>some (.exit i,σ)
 | .ret,σ=>some (.ret,σ)
 |_,_=>none
section
variable {P : Program} {E : dw} (hP : ∀ g f as r, E.p g f as = some r → ac P f as r) (hI : ∀ f as m n r m' n', E.i f as m n = some (r, m', n') → am P f as m n r m' n')
include hP hI
theorem Hh {nt n:Nat}: ∀{c:ai} {σ σ':St} {e:be} {Q:be→St→Prop},FN E n c σ=some (e,σ')→Q e σ'→AW P nt c σ Q:=by
 intro c
 induction c with
 |skip=>intro σ σ' e Q h hk;unfold FN at h;cases h;exact mh hk
 |exit i=>intro σ σ' e Q h hk;unfold FN at h;cases h;exact OU hk
 |ret=>intro σ σ' e Q h hk;unfold FN at h;cases h;exact oS hk
 |rangeF=>intro σ σ' e Q h hk;unfold FN at h;cases h
 |region gs d=>
  intro σ σ' e Q h hk
  cases d with
  |true=>unfold FN at h;cases h
  |false=>
   unfold FN XT at h
   split at h
   ·rename_i e1
    cases h
    exact zI (j5 hP hI e1 hk)
   ·split at h<;>cases h
    rename_i e1
    exact ri (VW σ) (zI (j5 hP hI e1 hk))
 |draw gss=>
  intro σ σ' e Q h hk
  have one: ∀{τ:St},Oj E gss τ=some σ'→Q .normal σ'→AW P nt (.draw gss) τ Q:=by
   intro τ h hk
   unfold Oj at h
   split at h
   ·cases h
   ·split at h
    ·replace h:=aQ.1 h;obtain⟨h1,h⟩:=h
     cases h
     exact PQ (Ow (yh hP hI hk h1))
    ·cases h
  unfold FN XB at h
  refine Vq (fr:=pX [] σ.fr) (fun t=>qJ) ?_
  split at h
  ·rename_i e1
   cases h
   exact one e1 hk
  ·split at h<;>cases h
   rename_i e1
   exact ri _ (one e1 hk)
 |seq a b iha ihb=>
  intro σ σ' e Q h hk
  unfold FN at h
  cases hr:FN E n a σ with
  |none=>rw[hr]at h;cases h
  |some r=>
   obtain⟨e1,σ1⟩:=r
   rw[hr]at h
   refine bO (iha hr ?_)
   cases e1 with
   |normal=>exact ihb h hk
   |exit i=>cases h;exact hk
   |ret=>cases h;exact hk
 |cond c a b iha ihb=>
  intro σ σ' e Q h hk
  unfold FN at h
  simp only[m6]at h
  split at h
  ·rename_i e1;exact fb e1 (fun _=>iha h hk) (fun e=>by cases e)
  ·rename_i e1;exact fb e1 (fun e=>by cases e) (fun _=>ihb h hk)
  ·cases h
 |block id a iha=>
  intro σ σ' e Q h hk
  unfold FN at h
  cases hr:FN E n a σ with
  |none=>rw[hr]at h;cases h
  |some r=>
   obtain⟨e1,σ1⟩:=r
   rw[hr]at h
   refine tT (iha hr ?_)
   cases e1 with
   |normal=>cases h;exact hk
   |exit i=>
    dsimp only at h
    show if i=id then Q .normal σ1 else Q (.exit i) σ1
    split at h<;>cases h
    ·rw[if_pos ‹_›];exact hk
    ·rw[if_neg ‹_›];exact hk
   |ret=>cases h;exact hk
 |loop a iha=>
  intro σ σ' e Q h hk
  unfold FN at h
  exact UQ (fun σ e σ' Q h1 h2=>iha h1 h2) h hk
end
noncomputable def CK (σ:St):AR→Option AV
 | .t n=>some (uY σ.fr n)
 |.cell n a=>match uY σ.fr a with
  |.c q=>match OP σ.mem q with
   |some xs=>match n with
    |none=>match xs with
     |x::_=>some (.c x)
     | []=>none
    |some n=>qm (decide (n≤xs.length)) (some (.agg (xs.take n)))
   |none=>none
  |_=>none
noncomputable def T8 (σ:St):List AR→List AV→Option (List AV)
 | [],acc=>some acc
 |r::rs,acc=>match CK σ r with
  |some v=>T8 σ rs (acc++ [v])
  |none=>none
theorem Ga {σ:St} {r:AR} {v:AV} {K:AV→Prop} (h:CK σ r=some v) (hk:K v):xm σ r K:=by
 cases r with
 |t n=>simp only[CK,nl]at h;cases h;exact hk
 |cell n a=>
  simp only[CK,nl,L0]at h
  simp only[xm]
  split at h
  ·rename_i q e
   rw[e]
   dsimp only
   split at h
   ·rename_i xs e1
    rw[e1]
    unfold Fv
    dsimp only
    split at h
    ·split at h<;>cases h
     exact hk
    ·replace h:=aQ.1 h;obtain⟨h1,h⟩:=h
     cases h
     exact⟨of_decide_eq_true h1,hk⟩
   ·cases h
  ·cases h
theorem mX {σ:St} {K:List AV→Prop}: ∀{rs:List AR} {acc vs:List AV},T8 σ rs acc=some vs→K vs→jI σ rs acc K
 | [],acc,vs,h,hk=>by cases h;exact hk
 |r::rs,acc,vs,h,hk=>by
  unfold T8 at h
  split at h
  ·rename_i v e
   exact Ga (K:=fun v=>jI σ rs (acc++ [v]) K) e (mX h hk)
  ·cases h
noncomputable def XZ (σ:St) (rs:List AR):be→Option (List AV)
 | .exit _=>none
 |_=>T8 σ rs []
noncomputable def YD (P:Program) (E:dw) (L:Nat):Yi:=fun f args mem nx=>match G6 P f with
 |some (nt,c,rs)=>qm (decide (args.length≤nt)) (match FN E L c ⟨aV args 0,mem,nx,nx⟩with
  |some (e,σ)=>match XZ σ rs e with
   |some vs=>qm (decide (σ.base=nx)) (some (gE vs,σ.mem,σ.nx))
   |none=>none
  |none=>none)
 |none=>none
noncomputable def Xx (P:Program) (E:dw) (L:Nat) (f:FuncId) (args:List AV):Option AV:=match G6 P f with
 |some (nt,c,rs)=>qm (decide (args.length≤nt)) (match FN E L c ⟨aV args 0, [],0,0⟩with
  |some (e,σ)=>match XZ σ rs e with
   |some vs=>KM σ.mem (gE vs)
   |none=>none
  |none=>none)
 |none=>none
noncomputable def Vx (P:Program) (O:FuncId→List AV→Option AV) (nz:FuncId→Bool) (L:Nat):Nat→dw
 |0=>⟨fun _ f as=>O f as,fun _ _ _ _=>none,nz⟩
 |d+1=>⟨fun g f as=>match O f as with
   |some r=>some r
   |none=>match g with
    |true=>none
    |false=>Xx P (Vx P O nz L d) L f as,YD P (Vx P O nz L d) L,nz⟩
theorem Hf {P:Program} {O:FuncId→List AV→Option AV} {nz:FuncId→Bool} {L:Nat} (hO: ∀f as r,O f as=some r→ac P f as r): ∀d,(∀g f as r,(Vx P O nz L d).p g f as=some r→ac P f as r)∧ ∀f as m n r m' n',(Vx P O nz L d).i f as m n=some (r,m',n')→am P f as m n r m' n'
 |0=>⟨fun _ f as r h=>hO f as r h,fun _ _ _ _ _ _ _ h=>by cases h⟩
 |d+1=>by
  obtain⟨hP,hI⟩:=Hf (nz:=nz) (L:=L) hO d
  refine⟨fun g f as r h=> ?_,fun f as m n r m' n' h=> ?_⟩
  ·unfold Vx at h
   dsimp only at h
   split at h
   ·rename_i r' e
    cases h
    exact hO _ _ _ e
   ·split at h
    ·cases h
    ·unfold Xx at h
     split at h
     ·rename_i nt c rs e1
      replace h:=aQ.1 h;obtain⟨h1,h⟩:=h
      split at h
      ·rename_i e σ e2
       split at h
       ·rename_i vs e3
        refine ac.of (al e1) (of_decide_eq_true h1) fun _=>Hh hP hI e2 ?_
        cases e with
        |exit i=>cases e3
        |normal=>exact mX e3 h
        |ret=>exact mX e3 h
       ·cases h
      ·cases h
     ·cases h
  ·unfold Vx at h
   dsimp only at h
   unfold YD at h
   split at h
   ·rename_i nt c rs e1
    replace h:=aQ.1 h;obtain⟨h1,h⟩:=h
    split at h
    ·rename_i e σ e2
     split at h
     ·rename_i vs e3
      replace h:=aQ.1 h;obtain⟨h4,h⟩:=h
      cases h
      refine am.of (al e1) (of_decide_eq_true h1) fun _=>Hh hP hI e2 ?_
      cases e with
      |exit i=>cases e3
      |normal=>exact mX e3 ⟨rfl,rfl,rfl,of_decide_eq_true h4⟩
      |ret=>exact mX e3 ⟨rfl,rfl,rfl,of_decide_eq_true h4⟩
     ·cases h
    ·cases h
   ·cases h
theorem ac.run {P:Program} (O:FuncId→List AV→Option AV) (nz:FuncId→Bool) (L d:Nat) {f:FuncId} {args:List AV} {res:AV} (hO: ∀f as r,O f as=some r→ac P f as r) (h:(Vx P O nz L d).p false f args=some res):ac P f args res:=
 (Hf hO d).1 _ _ _ _ h
end Go.Abs
