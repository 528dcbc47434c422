import Derived.Test.YthkaaahphlneiaaGreatDoorP17
import Derived.Test.YthkaaahphlneiaaGreatDoorAbs28
import Derived.WalkKit
set_option linter.unusedVariables false
set_option linter.unusedSimpArgs false
set_option maxRecDepth 20000
namespace Go.Proofs.YthkaaahphlneiaaGreatDoor
open Go.Abs Go.RowKit
theorem Tg (n:Nat) (hn:n≤1000000) (w:World):Calls Tryz.prog 163 #[.slice none 0 0,.int .i64 n] w fun en w'=>
  ∃v cells,en= .returned v∧w'.ownsRow w.heap.size 73 3 v 0 cells∧cells= []∧Below w.heap.size w w':=by
 have hn0:(n:Int)≤1000000:=by omega
 by_cases h0:n=0
 ·subst h0
  go_enter Tryz.func163,Tryz.ntmps163
  go_wp2
  go_ret
  exact⟨_, [],rfl,World.ownsRow_nil _ _ _ _,rfl,Below.refl _ _⟩
 ·have h1: ¬((n:Int)<0):=by omega
  have h2:(0:Int)<n:=by omega
  have hby:Tryz.t73.bytes=48:=by kernel_rfl
  have hfit: ¬281474976710656<Builtin.nextslicecap n 0*Tryz.t73.bytes:=by
   have:=growslice_fits (need:=n) (old:=0) (bytes:=Tryz.t73.bytes) (by omega) (by rw[hby];omega)
   omega
  have hfit2: ¬(281474976710656:Int)<(n:Int)*Tryz.t73.bytes:=by rw[hby];omega
  have h3: ¬n*3=0:=by omega
  have h9:(n:Int)≤9223372036854775807:=by omega
  have h5:0<n:=by omega
  go_enter Tryz.func163,Tryz.ntmps163
  go_wp2
  go_ret
  have hge:n≤(Question.appendCap n 0 73).cut (w.tape w.drawn (Question.appendCap n 0 73)):=grownCap_ge w n 0 _
  have hle:(Question.appendCap n 0 73).cut (w.tape w.drawn (Question.appendCap n 0 73))≤maxLen:=grownCap_le_maxLen w n 0 _ (by unfold maxLen;omega)
  generalize (Question.appendCap n 0 73).cut (w.tape w.drawn (Question.appendCap n 0 73))=cap at*
  refine⟨_,rfl, [],⟨by simp,.inr ⟨w.heap.size,cap,_,rfl,Nat.le_refl _,World.alloc_heap_new w _,by omega,hle, ?_,by simp⟩⟩,rfl, ?_⟩
  ·simp[OH]
   omega
  ·exact((Below.refl _ w).alloc (Nat.le_refl _) _).drew
theorem Ri (n:Nat) (hn:n≤1000000) (mem:List (Nat×aS)) (nx:Nat):am Tryz.prog 163 [.c .nils,I n] mem nx (.c (.ref nx)) ((nx,.arr 73 3 [])::mem) (nx+1):=by
 refine⟨⟨_,Tryz.func163,rfl,by kernel_rfl⟩,fun w0 U ι w vs hs hr=> ?_⟩
 have hB:=hs.below.size
 obtain⟨vs⟩:=vs
 cases hr with
 |cons h1 t=>cases t with
  |cons h2 t=>
   cases t
   have e1:=vo h1
   have e2:=(bb h2).1
   subst e1 e2
   refine(Tg n hn w).mono ?_
   rintro en w' ⟨v,cells,rfl,hown,rfl,hbel⟩
   obtain⟨ι',k1,k2,k3,k4⟩:=hs.newBox (pv:=v) (bx:= .arr 73 3 []) hbel (fun b hb=>by
    rcases hown.2 with⟨e,_⟩|⟨g,cap,cur,e,hg,_⟩
    ·rw[e]at hb;cases hb
    ·rw[e]at hb
     simp[bt]at hb
     omega) (fun ι' e1 e2 hfree=>⟨[],by decide,by rw[e2];exact ze hown hB,by simp,aY.nil⟩)
   refine⟨v,ι',rfl,k1, ?_⟩
   rw[←k2]
   refine .c (.ref (Nat.lt_succ_self _) ?_)
   rw[k2]
   rcases hown.2 with⟨e,_⟩|⟨g,cap,cur,e,_⟩
   ·exact⟨_,_,_,e⟩
   ·exact⟨_,_,_,e⟩
theorem FH (a b:List eY) (ha:a.length≤1000) (hb':b.length≤1000):ac Tryz.prog eE [.c (.pure (.slice [[c9 ed a], [c9 ed b]]))] (d8 ed (a++b)):=by
 refine ac.of iM (by simp) fun hb=>aa ?_
 simp only[eD]
 repeat' first|simp(disch:=omega) only[go_sem, *]|((with_reducible refine ab ?_ ?_)<;>intro h<;>try omega)
 refine aj (fun k:Nat=>⟨[(11,I k),(10,I 2),(9,.c (.pure (.slice [[c9 ed a], [c9 ed b]]))),(3,I (if k=0 then 0 else if k=1 then a.length else a.length+b.length:Nat)),(0,.c (.pure (.slice [[c9 ed a], [c9 ed b]])))], [],0,0⟩) (fun k=>k≤2) (fun k=>2-k) ⟨0, [],by omega,by simp⟩ ?_
 intro k hk
 refine aa ?_
 have hk':k=0∨k=1∨k=2:=by omega
 rcases hk' with rfl|rfl|rfl
 ·repeat' first|simp(disch:=omega) only[go_sem, *,wrap_i64]|((with_reducible refine ab ?_ ?_)<;>intro h<;>try omega)
  exact⟨1, [],by omega,by omega,by simp⟩
 ·repeat' first|simp(disch:=omega) only[go_sem, *,wrap_i64]|((with_reducible refine ab ?_ ?_)<;>intro h<;>try omega)
  exact⟨2, [],by omega,by omega,by simp⟩
 ·repeat' first|simp(disch:=omega) only[go_sem, *,wrap_i64]|((with_reducible refine ab ?_ ?_)<;>intro h<;>try omega)|(refine aq (Ri (a.length+b.length) (by omega) _ _) ?_)
  refine aj (fun k:Nat=>⟨[(27,I k),(26,I 2),(25,.c (.pure (.slice [[c9 ed a], [c9 ed b]]))),(6,.c (.ref 0))], [(0,.arr 73 3 ((if k=0 then []else if k=1 then a else a++b).map ed))],1,0⟩) (fun k=>k≤2) (fun k=>2-k) ⟨0, [],by omega,by simp⟩ ?_
  intro k hk
  refine aa ?_
  have hk':k=0∨k=1∨k=2:=by omega
  rcases hk' with rfl|rfl|rfl
  ·repeat' first|simp(disch:=omega) only[go_sem, *,wrap_i64]|((with_reducible refine ab ?_ ?_)<;>intro h<;>try omega)|(refine aN rfl (by intro h;cases h) (ar fun x=>rfl) (by simp;omega) (by simp;omega) ?_)
   exact⟨1, [(0,1)],by omega,by omega,by simp⟩
  ·repeat' first|simp(disch:=omega) only[go_sem, *,wrap_i64]|((with_reducible refine ab ?_ ?_)<;>intro h<;>try omega)|(refine aN rfl (by intro h;cases h) (ar fun x=>rfl) (by simp;omega) (by simp;omega) ?_)
   exact⟨2, [(0,1)],by omega,by omega,by simp⟩
  ·repeat' first|simp(disch:=omega) only[go_sem, *,wrap_i64]|((with_reducible refine ab ?_ ?_)<;>intro h<;>try omega)
end Go.Proofs.YthkaaahphlneiaaGreatDoor
