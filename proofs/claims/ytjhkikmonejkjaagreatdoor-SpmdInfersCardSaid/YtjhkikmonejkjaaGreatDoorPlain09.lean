set_option linter.unusedVariables false
set_option linter.unusedSimpArgs false
namespace Go.Proofs.YtjhkikmonejkjaaGreatDoor
def dI:List Int→Int→Int
 | [],_=>0
 |n::r,s=>if 4096/s<n then 2 else dI r (s*n)
def Jx (xs:List Int):Int:=
 if 6<xs.length then 2 else if xs.any (· <1)then 1 else dI xs 1
def fU:List Int→Int
 | []=>1
 |n::r=>n*fU r
def size (xs:List Int):Int:=if Jx xs=0 then fU xs else 0
theorem Hg {xs:List Int} (h:6<xs.length):Jx xs=2:=by rw[Jx,if_pos h]
theorem MC {xs:List Int} (h: ¬6<xs.length) {k:Nat} (hk:k<xs.length) (h1:xs[k]?.getD 0<1):Jx xs=1:=by
 rw[Jx,if_neg h,if_pos]
 rw[List.any_eq_true]
 exact⟨xs[k],List.getElem_mem hk,by simpa[List.getElem?_eq_getElem hk]using h1⟩
theorem CT {xs:List Int} (h: ¬6<xs.length) (h1: ∀x∈xs,1≤x):Jx xs=dI xs 1:=by
 rw[Jx,if_neg h,if_neg]
 rw[List.any_eq_true]
 rintro⟨x,hx,h2⟩
 have:=h1 x hx
 have:=of_decide_eq_true h2
 omega
theorem KG {z x:Int} (hz:1≤z) (h: ¬4096/z<x):z*x≤4096:=by
 have h1:x≤4096/z:=by omega
 have h2:z*x≤z*(4096/z):=Int.mul_le_mul_of_nonneg_left h1 (by omega)
 have h3:=Int.mul_ediv_self_le (x:=4096) (k:=z) (by omega)
 omega
theorem lL {z x:Int} (hz:1≤z) (hx:1≤x):1≤z*x:=by
 have:=Int.mul_le_mul_of_nonneg_left hx (show 0≤z by omega)
 omega
theorem Qy {z x:Int} (hz:1≤z) (h:4096/z<x):4096<z*x:=by
 by_cases h2:z*x≤4096
 ·have:=(Int.le_ediv_iff_mul_le (show 0<z by omega)).2 (show x*z≤4096 by rw[Int.mul_comm];exact h2)
  omega
 ·omega
theorem Nk {z x:Int} (h1:1≤z) (h2:z≤4096) (h3:1≤x) (h4:x≤4096):z*x≤16777216:=by
 have h5:z*x≤z*4096:=Int.mul_le_mul_of_nonneg_left h4 (by omega)
 omega
theorem nR: ∀(xs:List Int) (s:Int),1≤s→s≤4096→(∀x∈xs,1≤x)→(dI xs s=0↔s*fU xs≤4096)
 | [],s,_,h2,_=>by simp[dI,fU,h2]
 |n::r,s,h1,h2,h3=>by
  have hn:1≤n:=h3 n (by simp)
  have hr: ∀x∈r,1≤x:= λx hx=>h3 x (by simp[hx])
  have hp:1≤fU r:=by
   clear h2 h3
   induction r with
   |nil=>simp[fU]
   |cons a r ih=>exact lL (hr a (by simp)) (ih (λx hx=>hr x (by simp[hx])))
  rw[dI,fU,←Int.mul_assoc]
  by_cases h:4096/s<n
  ·rw[if_pos h]
   have h5:=Qy h1 h
   have h6:s*n*1≤s*n*fU r:=Int.mul_le_mul_of_nonneg_left hp (by have:=lL h1 hn;omega)
   constructor
   ·intro h7;exact absurd h7 (by decide)
   ·intro h7;omega
  ·rw[if_neg h]
   exact nR r (s*n) (lL h1 hn) (KG h1 h) hr
structure VT (xs:List Int):Prop where
 len:xs.length≤6
 pos: ∀x∈xs,1≤x
 le:fU xs≤4096
theorem Av {xs:List Int} (h:Jx xs=0):VT xs:=by
 by_cases h6:6<xs.length
 ·rw[Hg h6]at h;exact absurd h (by decide)
 ·by_cases h1: ∀x∈xs,1≤x
  ·rw[CT h6 h1]at h
   have:=(nR xs 1 (by omega) (by omega) h1).1 h
   exact⟨by omega,h1,by omega⟩
  ·simp only[Classical.not_forall]at h1
   obtain⟨x,hx,h2⟩:=h1
   rw[Jx,if_neg h6,if_pos]at h
   ·exact absurd h (by decide)
   ·rw[List.any_eq_true];exact⟨x,hx,decide_eq_true (by omega)⟩
theorem Jz (xs ys:List Int):fU (xs++ys)=fU xs*fU ys:=by
 induction xs with
 |nil=>simp[fU]
 |cons a r ih=>simp[fU,ih,Int.mul_assoc]
theorem Cz {xs:List Int} {k:Nat} (hk:k<xs.length):fU (xs.take (k+1))=fU (xs.take k)*xs[k]?.getD 0:=by
 rw[List.take_succ_eq_append_getElem hk,Jz]
 simp[fU,List.getElem?_eq_getElem hk]
def PW (n:Nat) (order:List Int):Prop:=order.Nodup∧ ∀o∈order,0≤o∧o<n
instance (n:Nat) (order:List Int):Decidable (PW n order):=by unfold PW;infer_instance
def pick (xs:List Int) (order:List Int):List Int:=order.map λo=>xs[o.toNat]?.getD 0
def Qi (xs ps:List Int):Nat→Int
 |0=>0
 |k+1=>Qi xs ps k*xs[k]?.getD 0+ps[k]?.getD 0
def VQ (xs ps:List Int):Prop:=ps.length=xs.length∧ ∀k,k<xs.length→0≤ps[k]?.getD 0∧ps[k]?.getD 0<xs[k]?.getD 0
instance (xs ps:List Int):Decidable (VQ xs ps):=by unfold VQ;infer_instance
def V7 (xs ps:List Int):Int:=Qi xs ps xs.length
def offset (xs ps:List Int):Int×Bool:=if Jx xs=0∧VQ xs ps then(V7 xs ps,true)else(0,false)
def J4 (M:Int):List Int→Int→Int
 | [],_=>0
 |n::r,s=>if M/s<n then 2 else J4 M r (s*n)
def Wq (xs:List Int):Bool:=xs.any (· ==0)
def Wv (xs:List Int):Int:=
 if 16<xs.length then 2 else if xs.any (· <0)then 1 else if Wq xs then 0 else J4 65536 xs 1
def Ow (xs ps:List Int):Prop:=Wv xs=0∧VQ xs ps
instance (xs ps:List Int):Decidable (Ow xs ps):=by unfold Ow;infer_instance
def lA (xs:List Int):Prop:=1≤xs.length∧xs.length≤3∧(∀x∈xs,1≤x∧x≤16)∧fU xs≤16
instance (xs:List Int):Decidable (lA xs):=by unfold lA;infer_instance
def kz (xs:List Int):Int:=if lA xs then 0 else 23
theorem gk {xs:List Int} (h: ¬lA xs):kz xs=23:=by rw[kz,if_neg h]
theorem ow {xs:List Int} (h:lA xs):kz xs=0:=by rw[kz,if_pos h]
end Go.Proofs.YtjhkikmonejkjaaGreatDoor
