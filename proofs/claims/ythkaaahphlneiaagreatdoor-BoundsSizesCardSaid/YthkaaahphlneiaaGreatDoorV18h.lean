import Derived.Test.YthkaaahphlneiaaGreatDoorV18o
import Derived.Test.YthkaaahphlneiaaGreatDoorP18w
import Derived.Test.YthkaaahphlneiaaGreatDoorVCq
import Derived.Test.YthkaaahphlneiaaGreatDoorV17m
set_option linter.unusedVariables false
set_option linter.unusedSimpArgs false
set_option maxRecDepth 20000
namespace Go.Proofs.YthkaaahphlneiaaGreatDoor
open Go.Abs Go.RowKit
noncomputable def VY (T:List (Nat×List AV×AV)) (f:FuncId) (xs:List AV):Option AV:=List.rec (motive:=fun _=>Option AV) none (fun e _ ih=>Bool.rec ih (some e.2.2) (Nat.beq e.1 f&&jb (TM 8) xs e.2.1)) T
theorem OF: ∀{T:List (Nat×List AV×AV)},(∀e∈T,ac Tryz.prog e.1 e.2.1 e.2.2)→ ∀f xs r,VY T f xs=some r→ac Tryz.prog f xs r
 | [],_,f,xs,r,h=>by cases h
 |e::T,hT,f,xs,r,h=>by
  have h:(Bool.rec (motive:=fun _=>Option AV) (VY T f xs) (some e.2.2) (Nat.beq e.1 f&&jb (TM 8) xs e.2.1))=some r:=h
  cases hb:(Nat.beq e.1 f&&jb (TM 8) xs e.2.1)with
  |true=>
   rw[hb]at h
   rw[Bool.and_eq_true]at hb
   have h1:=Nat.eq_of_beq_eq_true hb.1
   have h2:=dY (fun _ _ h=>DC h) hb.2
   cases h
   subst h1 h2
   exact hT e List.mem_cons_self
  |false=>
   rw[hb]at h
   exact OF (fun x hx=>hT x (List.mem_cons_of_mem _ hx)) f xs r h
def WK (x:Option AV) (r:AV):Bool:=match x with
 |some y=>TM 8 y r
 |none=>false
theorem Oc {x:Option AV} {r:AV} (h:WK x r=true):x=some r:=by
 unfold WK at h
 split at h
 ·rw[DC h]
 ·cases h
theorem OG (k:Int):ac Tryz.prog ei [fK (sH k)] (.tup [I 0,I 0]):=by
 have:=k9 (Aq (Hj (k:=k))) V0
 rw[GQ]at this
 exact this
theorem Sr (k:Int):ac Tryz.prog gk [fK (sH k)] (fK (sH k)):=Ah (Tv Hj (by rw[GQ]))
def Lg:List gf:= [((-1, [(sn,1)]),false),((0, [(si,1)]),false),((-1, [(si,-1),(sn,1)]),false)]
def Zl:gf:=((0, [(si,1)]),false)
def Zm:gf:=((-1, [(si,-1),(sn,1)]),false)
def Zn:gf:=((1, [(si,1)]),false)
def Zi:gf:=((-2, [(si,-1),(sn,1)]),false)
def Vw (l:List Int) (b:Bool):AV:= .tup [d8 (fun x=> [pI x]) l,Go.Abs.B b,I 0]
theorem zn {xs:List AV} {r:AV} (h:WK ((Vx Tryz.prog Jt (fun f=>Nat.beq f fl) 1000 60).p false 24 xs) r=true):ac Tryz.prog 24 xs r:=
 ac.run _ _ _ _ NK (Oc h)
end Go.Proofs.YthkaaahphlneiaaGreatDoor
