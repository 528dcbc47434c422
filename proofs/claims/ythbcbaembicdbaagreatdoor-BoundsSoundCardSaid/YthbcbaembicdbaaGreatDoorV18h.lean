import Derived.Test.YthbcbaembicdbaaGreatDoorV18o
import Derived.Test.YthbcbaembicdbaaGreatDoorP18w
set_option linter.unusedVariables false
set_option linter.unusedSimpArgs false
set_option maxRecDepth 20000
namespace Go.Proofs.YthbcbaembicdbaaGreatDoor
open Go.Abs Go.RowKit
noncomputable def YN (T:List (Nat×List AV×AV)) (f:FuncId) (xs:List AV):Option AV:=List.rec (motive:= λ_=>Option AV) none (λe _ ih=>Bool.rec ih (some e.2.2) (Nat.beq e.1 f&&je (V7 8) xs e.2.1)) T
theorem OT: ∀{T:List (Nat×List AV×AV)},(∀e∈T,af Tryz.prog e.1 e.2.1 e.2.2)→ ∀f xs r,YN T f xs=some r→af Tryz.prog f xs r
 | [],_,f,xs,r,h=>by cases h
 |e::T,hT,f,xs,r,h=>by
  have h:(Bool.rec (motive:= λ_=>Option AV) (YN T f xs) (some e.2.2) (Nat.beq e.1 f&&je (V7 8) xs e.2.1))=some r:=h
  cases hb:(Nat.beq e.1 f&&je (V7 8) xs e.2.1)with
  |true=>
   rw[hb]at h
   rw[Bool.and_eq_true]at hb
   have h1:=Nat.eq_of_beq_eq_true hb.1
   have h2:=dQ (λ_ _ h=>DN h) hb.2
   cases h
   subst h1 h2
   exact hT e List.mem_cons_self
  |false=>
   rw[hb]at h
   exact OT (λx hx=>hT x (List.mem_cons_of_mem _ hx)) f xs r h
def ZN (x:Option AV) (r:AV):Bool:=match x with
 |some y=>V7 8 y r
 |none=>false
theorem OZ {x:Option AV} {r:AV} (h:ZN x r=true):x=some r:=by
 unfold ZN at h
 split at h
 ·rw[DN h]
 ·cases h
theorem Ps (k:Int):af Tryz.prog d7 [jE (tp k)] (.tup [I 0,I 0]):=by
 have:=eJ (pD (HV (k:=k))) YG
 rw[G9]at this
 exact this
theorem Uz (k:Int):af Tryz.prog gl [jE (tp k)] (jE (tp k)):=qn (KH HV (by rw[G9]))
def Mr:List aR:= [((-1, [(sn,1)]),false),((0, [(si,1)]),false),((-1, [(si,-1),(sn,1)]),false)]
def gl1:aR:=((0, [(si,1)]),false)
def gl2:aR:=((-1, [(si,-1),(sn,1)]),false)
def gl3:aR:=((1, [(si,1)]),false)
def gl4:aR:=((-2, [(si,-1),(sn,1)]),false)
def Ya (l:List Int) (b:Bool):AV:= .tup [gG (λx=> [pI x]) l,Go.Abs.B b,I 0]
theorem ze {xs:List AV} {r:AV} (h:ZN ((Yc Tryz.prog I8 (λf=>Nat.beq f bl) 1000 60).p false 11 xs) r=true):af Tryz.prog 11 xs r:=
 af.run _ _ _ _ Nh (OZ h)
end Go.Proofs.YthbcbaembicdbaaGreatDoor
