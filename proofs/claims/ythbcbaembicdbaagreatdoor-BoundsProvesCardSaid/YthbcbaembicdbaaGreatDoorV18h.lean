import Derived.Test.YthbcbaembicdbaaGreatDoorV18o
import Derived.Test.YthbcbaembicdbaaGreatDoorP18w
set_option maxRecDepth 20000
namespace Go.Proofs.YthbcbaembicdbaaGreatDoor
open Go.Abs Go.RowKit
noncomputable def aau (T:List (Nat×List AV×AV)) (f:FuncId) (xs:List AV):Option AV:=List.rec (motive:=λ_=>Option AV) none (λe _ ih=>Bool.rec ih (some e.2.2) (Nat.beq e.1 f&&jt (XJ 8) xs e.2.1)) T
theorem RS: ∀{T:List (Nat×List AV×AV)},(∀e∈T,ac Tryz.prog e.1 e.2.1 e.2.2)→ ∀f xs r,aau T f xs=some r→ac Tryz.prog f xs r
 | [],_,f,xs,r,h=>by cases h
 |e::T,hT,f,xs,r,h=>by
  have h:(Bool.rec (motive:=λ_=>Option AV) (aau T f xs) (some e.2.2) (Nat.beq e.1 f&&jt (XJ 8) xs e.2.1))=some r:=h
  cases hb:(Nat.beq e.1 f&&jt (XJ 8) xs e.2.1)with
  |true=>
   rw[hb]at h
   rw[Bool.and_eq_true]at hb
   have h1:=Nat.eq_of_beq_eq_true hb.1
   have h2:=ei (λ_ _ h=>FT h) hb.2
   cases h
   subst h1 h2
   exact hT e List.mem_cons_self
  |false=>
   rw[hb]at h
   exact RS (λx hx=>hT x (List.mem_cons_of_mem _ hx)) f xs r h
def Z5 (x:Option AV) (r:AV):Bool:=match x with
 |some y=>XJ 8 y r
 |none=>false
theorem Rj {x:Option AV} {r:AV} (h:Z5 x r=true):x=some r:=by
 unfold Z5 at h
 split at h
 ·rw[FT h]
 ·cases h
theorem Ry (k:Int):ac Tryz.prog eO [fO (tT k)] (.tup [I 0,I 0]):=by
 have:=lQ (pU (JH (k:=k))) aa0
 rw[JX]at this
 exact this
theorem UO (k:Int):ac Tryz.prog gO [fO (tT k)] (fO (tT k)):=rf (Ny JH (by rw[JX]))
def NW:List bt:= [((-1, [(sn,1)]),false),((0, [(si,1)]),false),((-1, [(si,-1),(sn,1)]),false)]
def gl1:bt:=((0, [(si,1)]),false)
def gl2:bt:=((-1, [(si,-1),(sn,1)]),false)
def gl3:bt:=((1, [(si,1)]),false)
def gl4:bt:=((-2, [(si,-1),(sn,1)]),false)
def ZD (l:List Int) (b:Bool):AV:= .tup [j5 (λx=> [pI x]) l,Go.Abs.B b,I 0]
theorem AL {xs:List AV} {r:AV} (h:Z5 ((ZV Tryz.prog Lg (λf=>Nat.beq f bv) 1000 60).p false 11 xs) r=true):ac Tryz.prog 11 xs r:=
 ac.run _ _ _ _ Qp (Rj h)
