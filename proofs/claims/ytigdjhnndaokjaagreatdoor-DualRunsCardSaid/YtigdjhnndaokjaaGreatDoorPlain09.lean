set_option linter.unusedVariables false
set_option linter.unusedSimpArgs false
namespace Go.Proofs.YtigdjhnndaokjaaGreatDoor
def di:List Int→Int→Int
 | [],_=>0
 |n::r,s=>if 4096/s<n then 2 else di r (s*n)
def yk (xs:List Int):Int:=
 if 6<xs.length then 2 else if xs.any (· <1)then 1 else di xs 1
def bl:List Int→Int
 | []=>1
 |n::r=>n*bl r
def size (xs:List Int):Int:=if yk xs=0 then bl xs else 0
variable {xs:List Int}
theorem Jg (h:6<xs.length):yk xs=2:=by rw[yk,if_pos h]
variable {k:Nat}
theorem Q3 (h: ¬6<xs.length) (hk:k<xs.length) (h1:xs[k]?.getD 0<1):yk xs=1:=by
 rw[yk,if_neg h,if_pos]
 rw[List.any_eq_true]
 exact⟨xs[k],List.getElem_mem hk,by simpa[List.getElem?_eq_getElem hk]using h1⟩
theorem DO (h: ¬6<xs.length) (h1: ∀x∈xs,1≤x):yk xs=di xs 1:=by
 rw[yk,if_neg h,if_neg]
 rw[List.any_eq_true]
 rintro⟨x,hx,h2⟩
 have:=h1 x hx
 have:=of_decide_eq_true h2
 omega
theorem TW (s:Int) (hk:k<xs.length):
  di (xs.drop k) s=(if 4096/s<xs[k]?.getD 0 then 2 else di (xs.drop (k+1)) (s*xs[k]?.getD 0)):=by
 rw[List.drop_eq_getElem_cons hk,di]
 simp[List.getElem?_eq_getElem hk]
theorem SG (s:Int) (hk:xs.length≤k):di (xs.drop k) s=0:=by
 rw[List.drop_eq_nil_of_le hk,di]
variable {n:Nat}
theorem UC (hn:n=xs.length) (h: ∀j,j<n→1≤xs[j]?.getD 0): ∀x∈xs,1≤x:=by
 intro x hx
 obtain⟨j,hj,rfl⟩:=List.getElem_of_mem hx
 simpa[List.getElem?_eq_getElem hj]using h j (by omega)
theorem qj (h: ∀x∈xs,1≤x) (hk:k<xs.length):1≤xs[k]?.getD 0:=by
 simpa[List.getElem?_eq_getElem hk]using h _ (List.getElem_mem hk)
variable {z x:Int}
theorem PP (hz:1≤z) (h: ¬4096/z<x):z*x≤4096:=by
 have h1:x≤4096/z:=by omega
 have h2:z*x≤z*(4096/z):=Int.mul_le_mul_of_nonneg_left h1 (by omega)
 have h3:=Int.mul_ediv_self_le (x:=4096) (k:=z) (by omega)
 omega
theorem eJ (hz:1≤z) (hx:1≤x):1≤z*x:=by
 have:=Int.mul_le_mul_of_nonneg_left hx (show 0≤z by omega)
 omega
theorem acJ (hz:1≤z) (h:4096/z<x):4096<z*x:=by
 by_cases h2:z*x≤4096
 ·have:=(Int.le_ediv_iff_mul_le (show 0<z by omega)).2 (show x*z≤4096 by rw[Int.mul_comm];exact h2)
  omega
 ·omega
theorem tu: ∀(xs:List Int) (s:Int),1≤s→s≤4096→(∀x∈xs,1≤x)→(di xs s=0↔s*bl xs≤4096)
 | [],s,_,h2,_=>by simp[di,bl,h2]
 |n::r,s,h1,h2,h3=>by
  have hn:1≤n:=h3 n (by simp)
  have hr: ∀x∈r,1≤x:= λx hx=>h3 x (by simp[hx])
  have hp:1≤bl r:=by
   clear h2 h3
   induction r with
   |nil=>simp[bl]
   |cons a r ih=>exact eJ (hr a (by simp)) (ih (λx hx=>hr x (by simp[hx])))
  rw[di,bl,←Int.mul_assoc]
  by_cases h:4096/s<n
  ·rw[if_pos h]
   have h5:=acJ h1 h
   have h6:s*n*1≤s*n*bl r:=Int.mul_le_mul_of_nonneg_left hp (by have:=eJ h1 hn;omega)
   constructor
   ·intro h7;exact absurd h7 (by decide)
   ·intro h7;omega
  ·rw[if_neg h]
   exact tu r (s*n) (eJ h1 hn) (PP h1 h) hr
theorem el: ∀(xs:List Int),(∀x∈xs,1≤x)→1≤bl xs
 | [],_=>by simp[bl]
 |n::r,h=>eJ (h n (by simp)) (el r λx hx=>h x (by simp[hx]))
structure ad8 (xs:List Int):Prop where
 len:xs.length≤6
 pos: ∀x∈xs,1≤x
 le:bl xs≤4096
theorem b8 (h:yk xs=0):ad8 xs:=by
 by_cases h6:6<xs.length
 ·rw[Jg h6]at h;exact absurd h (by decide)
 ·by_cases h1: ∀x∈xs,1≤x
  ·rw[DO h6 h1]at h
   have:=(tu xs 1 (by omega) (by omega) h1).1 h
   exact⟨by omega,h1,by omega⟩
  ·simp only[Classical.not_forall]at h1
   obtain⟨x,hx,h2⟩:=h1
   rw[yk,if_neg h6,if_pos]at h
   ·exact absurd h (by decide)
   ·rw[List.any_eq_true];exact⟨x,hx,decide_eq_true (by omega)⟩
theorem aeY (h:ad8 xs):yk xs=0:=by
 have:=h.len
 rw[DO (by omega) h.pos]
 exact(tu xs 1 (by omega) (by omega) h.pos).2 (by have:=h.le;omega)
theorem G0 (xs ys:List Int):bl (xs++ys)=bl xs*bl ys:=by
 induction xs with
 |nil=>simp[bl]
 |cons a r ih=>simp[bl,ih,Int.mul_assoc]
theorem ii (hk:k<xs.length):bl (xs.take (k+1))=bl (xs.take k)*xs[k]?.getD 0:=by
 rw[List.take_succ_eq_append_getElem hk,G0]
 simp[bl,List.getElem?_eq_getElem hk]
theorem Wo (hk:k<xs.length):bl (xs.drop k)=xs[k]?.getD 0*bl (xs.drop (k+1)):=by
 rw[List.drop_eq_getElem_cons hk,bl]
 simp[List.getElem?_eq_getElem hk]
theorem kK (xs:List Int) (k:Nat):bl xs=bl (xs.take k)*bl (xs.drop k):=by
 rw[←G0,List.take_append_drop]
theorem ad8.take_le (h:ad8 xs) (k:Nat):1≤bl (xs.take k)∧bl (xs.take k)≤4096:=by
 have h1:=el (xs.take k) λx hx=>h.pos x (List.mem_of_mem_take hx)
 have h2:=el (xs.drop k) λx hx=>h.pos x (List.mem_of_mem_drop hx)
 have h3:=kK xs k
 have h4:=h.le
 have h5:bl (xs.take k)*1≤bl (xs.take k)*bl (xs.drop k):=Int.mul_le_mul_of_nonneg_left h2 (by omega)
 exact⟨h1,by omega⟩
theorem ad8.drop_le (h:ad8 xs) (k:Nat):1≤bl (xs.drop k)∧bl (xs.drop k)≤4096:=by
 have h1:=el (xs.take k) λx hx=>h.pos x (List.mem_of_mem_take hx)
 have h2:=el (xs.drop k) λx hx=>h.pos x (List.mem_of_mem_drop hx)
 have h3:=kK xs k
 have h4:=h.le
 have h5:1*bl (xs.drop k)≤bl (xs.take k)*bl (xs.drop k):=Int.mul_le_mul_of_nonneg_right h1 (by omega)
 exact⟨h2,by omega⟩
theorem ad8.get (h:ad8 xs) (hk:k<xs.length):1≤xs[k]?.getD 0∧xs[k]?.getD 0≤4096:=by
 have h1:=qj h.pos hk
 have h2:=h.drop_le (k+1)
 have h3:=h.drop_le k
 rw[Wo hk]at h3
 have h5:xs[k]?.getD 0*1≤xs[k]?.getD 0*bl (xs.drop (k+1)):=Int.mul_le_mul_of_nonneg_left h2.1 (by omega)
 exact⟨h1,by omega⟩
theorem ad8.drop (h:ad8 xs) (k:Nat):ad8 (xs.drop k):=
 ⟨by have:=h.len;simp;omega,λx hx=>h.pos x (List.mem_of_mem_drop hx),(h.drop_le k).2⟩
def ZH (n:Nat) (order:List Int):Prop:=order.Nodup∧ ∀o∈order,0≤o∧o<n
instance (n:Nat) (order:List Int):Decidable (ZH n order):=by unfold ZH;infer_instance
def pick (xs:List Int) (order:List Int):List Int:=order.map λo=>xs[o.toNat]?.getD 0
def dR (xs ps:List Int):Nat→Int
 |0=>0
 |k+1=>dR xs ps k*xs[k]?.getD 0+ps[k]?.getD 0
def T3 (xs ps:List Int):Prop:=ps.length=xs.length∧ ∀k,k<xs.length→0≤ps[k]?.getD 0∧ps[k]?.getD 0<xs[k]?.getD 0
instance (xs ps:List Int):Decidable (T3 xs ps):=by unfold T3;infer_instance
def qD (xs ps:List Int):Int:=dR xs ps xs.length
def offset (xs ps:List Int):Int×Bool:=if yk xs=0∧T3 xs ps then(qD xs ps,true)else(0,false)
variable {ps:List Int}
theorem UO (h: ¬yk xs=0):offset xs ps=(0,false):=by rw[offset,if_neg (λh2=>h h2.1)]
theorem B6 (h: ¬T3 xs ps):offset xs ps=(0,false):=by rw[offset,if_neg (λh2=>h h2.2)]
theorem FJ (h0:yk xs=0) (h:T3 xs ps):offset xs ps=(qD xs ps,true):=by rw[offset,if_pos ⟨h0,h⟩]
theorem T5 (hk:k<xs.length) (h:ps[k]?.getD 0<0): ¬T3 xs ps:= λh2=>by have:=h2.2 k hk;omega
theorem Sh (hk:k<xs.length) (h:xs[k]?.getD 0≤ps[k]?.getD 0): ¬T3 xs ps:= λh2=>by have:=h2.2 k hk;omega
theorem Wc {r q p:Int} (h0:0≤r) (h1:r<q) (hx:1≤x) (hp:0≤p) (d:p<x):0≤r*x∧r*x+p<q*x:=by
 have h2:0≤r*x:=Int.mul_nonneg h0 (by omega)
 have h3:(r+1)*x≤q*x:=Int.mul_le_mul_of_nonneg_right (by omega) (by omega)
 rw[Int.add_mul]at h3
 omega
theorem FZ {xs ps:List Int} (b: ∀x∈xs,1≤x): ∀k,k≤xs.length→(∀j,j<k→0≤ps[j]?.getD 0∧ps[j]?.getD 0<xs[j]?.getD 0)→0≤dR xs ps k∧dR xs ps k<bl (xs.take k)
 |0,_,_=>by simp[dR,bl]
 |k+1,hk,h=>by
  have ih:=FZ b k (by omega) λj hj=>h j (by omega)
  have hx:=qj b (show k<xs.length by omega)
  have hp:=h k (by omega)
  have:=Wc ih.1 ih.2 hx hp.1 hp.2
  rw[ii (by omega),dR]
  omega
def Kv (xs:List Int) (at':Int) (i:Nat):Int:=at'/bl (xs.drop (i+1))%xs[i]?.getD 0
def au (xs:List Int) (at':Int):List Int:=(List.range xs.length).map (Kv xs at')
theorem aX (xs:List Int) (at':Int):(au xs at').length=xs.length:=by simp[au]
variable {at':Int}
theorem He (hk:k<xs.length):(au xs at')[k]?.getD 0=Kv xs at' k:=by simp[au,hk]
theorem vU (hk:k<xs.length):(au xs at').drop k=Kv xs at' k::(au xs at').drop (k+1):=by
 rw[List.drop_eq_getElem_cons (by rw[aX];exact hk)]
 congr 1
 simp[au]
theorem J5 (b: ∀x∈xs,1≤x) (at':Int) (hk:k<xs.length):at'/bl (xs.drop k)=at'/bl (xs.drop (k+1))/xs[k]?.getD 0:=by
 have h2:=el (xs.drop (k+1)) λx hx=>b x (List.mem_of_mem_drop hx)
 rw[Wo hk,Int.mul_comm,Int.ediv_ediv_of_nonneg (by omega)]
theorem Xx (b: ∀x∈xs,1≤x) (at':Int) (hk:k<xs.length):0≤Kv xs at' k∧Kv xs at' k<xs[k]?.getD 0:=by
 have hx:=qj b hk
 exact⟨Int.emod_nonneg _ (by omega),Int.emod_lt_of_pos _ (by omega)⟩
theorem uF (b: ∀x∈xs,1≤x) (at':Int):T3 xs (au xs at'):=
 ⟨aX _ _,λk hk=>by rw[He hk];exact Xx b at' hk⟩
theorem MG (h:0≤at'∧at'<size xs):yk xs=0∧at'<bl xs:=by
 unfold size at h
 split at h
 ·exact⟨by assumption,h.2⟩
 ·omega
def eL (M:Int):List Int→Int→Int
 | [],_=>0
 |n::r,s=>if M/s<n then 2 else eL M r (s*n)
variable {M:Int}
theorem GU (s:Int) (hk:k<xs.length):
  eL M (xs.drop k) s=(if M/s<xs[k]?.getD 0 then 2 else eL M (xs.drop (k+1)) (s*xs[k]?.getD 0)):=by
 rw[List.drop_eq_getElem_cons hk,eL]
 simp[List.getElem?_eq_getElem hk]
theorem ES (s:Int) (hk:xs.length≤k):eL M (xs.drop k) s=0:=by
 rw[List.drop_eq_nil_of_le hk,eL]
theorem Q0 (hz:1≤z) (h: ¬M/z<x):z*x≤M:=by
 have h1:x≤M/z:=by omega
 have h2:z*x≤z*(M/z):=Int.mul_le_mul_of_nonneg_left h1 (by omega)
 have h3:=Int.mul_ediv_self_le (x:=M) (k:=z) (by omega)
 omega
theorem aa7 (hz:1≤z) (h:M/z<x):M<z*x:=by
 by_cases h2:z*x≤M
 ·have:=(Int.le_ediv_iff_mul_le (show 0<z by omega)).2 (show x*z≤M by rw[Int.mul_comm];exact h2)
  omega
 ·omega
theorem kJ {M:Int}: ∀(xs:List Int) (s:Int),1≤s→s≤M→(∀x∈xs,1≤x)→(eL M xs s=0↔s*bl xs≤M)
 | [],s,_,h2,_=>by simp[eL,bl,h2]
 |n::r,s,h1,h2,h3=>by
  have hn:1≤n:=h3 n (by simp)
  have hr: ∀x∈r,1≤x:= λx hx=>h3 x (by simp[hx])
  have hp:1≤bl r:=el r hr
  rw[eL,bl,←Int.mul_assoc]
  by_cases h:M/s<n
  ·rw[if_pos h]
   have h5:=aa7 h1 h
   have h6:s*n*1≤s*n*bl r:=Int.mul_le_mul_of_nonneg_left hp (by have:=eJ h1 hn;omega)
   constructor
   ·intro h7;exact absurd h7 (by decide)
   ·intro h7;omega
  ·rw[if_neg h]
   exact kJ r (s*n) (eJ h1 hn) (Q0 h1 h) hr
structure adw (M:Int) (xs:List Int):Prop where
 pos: ∀x∈xs,1≤x
 le:bl xs≤M
theorem adw.take_le (h:adw M xs) (k:Nat):1≤bl (xs.take k)∧bl (xs.take k)≤M:=by
 have h1:=el (xs.take k) λx hx=>h.pos x (List.mem_of_mem_take hx)
 have h2:=el (xs.drop k) λx hx=>h.pos x (List.mem_of_mem_drop hx)
 have h3:=kK xs k
 have h4:=h.le
 have h5:bl (xs.take k)*1≤bl (xs.take k)*bl (xs.drop k):=Int.mul_le_mul_of_nonneg_left h2 (by omega)
 exact⟨h1,by omega⟩
theorem adw.drop_le (h:adw M xs) (k:Nat):1≤bl (xs.drop k)∧bl (xs.drop k)≤M:=by
 have h1:=el (xs.take k) λx hx=>h.pos x (List.mem_of_mem_take hx)
 have h2:=el (xs.drop k) λx hx=>h.pos x (List.mem_of_mem_drop hx)
 have h3:=kK xs k
 have h4:=h.le
 have h5:1*bl (xs.drop k)≤bl (xs.take k)*bl (xs.drop k):=Int.mul_le_mul_of_nonneg_right h1 (by omega)
 exact⟨h2,by omega⟩
theorem adw.get (h:adw M xs) (hk:k<xs.length):1≤xs[k]?.getD 0∧xs[k]?.getD 0≤M:=by
 have h1:=qj h.pos hk
 have h2:=h.drop_le (k+1)
 have h3:=h.drop_le k
 rw[Wo hk]at h3
 have h5:xs[k]?.getD 0*1≤xs[k]?.getD 0*bl (xs.drop (k+1)):=Int.mul_le_mul_of_nonneg_left h2.1 (by omega)
 exact⟨h1,by omega⟩
theorem AF {α:Type} (p:α→Bool) {xs:List α} (hk:k<xs.length):(xs.take (k+1)).any p=((xs.take k).any p||p xs[k]):=by
 rw[List.take_succ_eq_append_getElem hk,List.any_append]
 simp
def kQ (xs:List Int):Bool:=xs.any (· ==0)
def bval (xs:List Int):Int:=
 if 16<xs.length then 2 else if xs.any (· <0)then 1 else if kQ xs then 0 else eL 65536 xs 1
theorem MM (h:16<xs.length):bval xs=2:=by rw[bval,if_pos h]
theorem Ti (h: ¬16<xs.length) (hk:k<xs.length) (h1:xs[k]?.getD 0<0):bval xs=1:=by
 rw[bval,if_neg h,if_pos]
 rw[List.any_eq_true]
 exact⟨xs[k],List.getElem_mem hk,by simpa[List.getElem?_eq_getElem hk]using h1⟩
theorem aax (h1: ∀x∈xs,0≤x): ¬(xs.any (· <0))=true:=by
 rw[List.any_eq_true]
 rintro⟨x,hx,h2⟩
 have:=h1 x hx
 have:=of_decide_eq_true h2
 omega
theorem Po (h: ¬16<xs.length) (h1: ∀x∈xs,0≤x) (h2:kQ xs=true):bval xs=0:=by
 rw[bval,if_neg h,if_neg (aax h1),if_pos h2]
theorem Ej (h: ¬16<xs.length) (h1: ∀x∈xs,0≤x) (h2:kQ xs=false):bval xs=eL 65536 xs 1:=by
 rw[bval,if_neg h,if_neg (aax h1),if_neg (by rw[h2];exact Bool.false_ne_true)]
theorem Ct (h1: ∀x∈xs,0≤x) (h2:kQ xs=false): ∀x∈xs,1≤x:=by
 intro x hx
 have h3:=h1 x hx
 have h4:x≠0:=by
  intro e
  subst e
  have:kQ xs=true:=by
   rw[kQ,List.any_eq_true]
   exact⟨0,hx,rfl⟩
  rw[this]at h2
  exact absurd h2 (by decide)
 omega
theorem Gx (hn:n=xs.length) (h: ∀j,j<n→0≤xs[j]?.getD 0): ∀x∈xs,0≤x:=by
 intro x hx
 obtain⟨j,hj,rfl⟩:=List.getElem_of_mem hx
 simpa[List.getElem?_eq_getElem hj]using h j (by omega)
theorem uh: ∀{xs:List Int},kQ xs=true→bl xs=0
 | [],h=>by simp[kQ]at h
 |x::r,h=>by
  rw[kQ,List.any_cons]at h
  rw[bl]
  by_cases e:x=0
  ·rw[e,Int.zero_mul]
  ·have:kQ r=true:=by
    rw[kQ]
    simpa[e]using h
   rw[uh this,Int.mul_zero]
structure adU (xs:List Int):Prop where
 len:xs.length≤16
 nonneg: ∀x∈xs,0≤x
 bound:kQ xs=false→adw 65536 xs
theorem Dy (h:bval xs=0):adU xs:=by
 by_cases c:16<xs.length
 ·rw[MM c]at h;exact absurd h (by decide)
 ·by_cases h1: ∀x∈xs,0≤x
  ·refine⟨by omega,h1,λh2=> ?_⟩
   rw[Ej c h1 h2]at h
   have hp:=Ct h1 h2
   have:=(kJ xs 1 (by omega) (by omega) hp).1 h
   exact⟨hp,by omega⟩
  ·simp only[Classical.not_forall]at h1
   obtain⟨x,hx,h2⟩:=h1
   rw[bval,if_neg c,if_pos]at h
   ·exact absurd h (by decide)
   ·rw[List.any_eq_true];exact⟨x,hx,decide_eq_true (by omega)⟩
theorem UU (h:xs.length≤16) (hp:adw 65536 xs):bval xs=0:=by
 have h1: ∀x∈xs,0≤x:= λx hx=>by have:=hp.pos x hx;omega
 have h2:kQ xs=false:=by
  rw[kQ,List.any_eq_false]
  intro x hx
  have:=hp.pos x hx
  simp
  omega
 rw[Ej (by omega) h1 h2]
 exact(kJ xs 1 (by omega) (by omega) hp.pos).2 (by have:=hp.le;omega)
def dI (xs:List Int):Int:=if bval xs=0 then bl xs else 0
theorem uX (h: ¬bval xs=0):dI xs=0:=by rw[dI,if_neg h]
theorem mh (h:bval xs=0):dI xs=bl xs:=by rw[dI,if_pos h]
theorem Xc (xs:List Int):0≤dI xs∧dI xs≤65536:=by
 by_cases h:bval xs=0
 ·rw[mh h]
  have hb:=Dy h
  by_cases hz:kQ xs=true
  ·rw[uh hz];omega
  ·have hp:=hb.bound (by simpa using hz)
   have:=el xs hp.pos
   have:=hp.le
   omega
 ·rw[uX h];omega
theorem Ff (h:0<dI xs):bval xs=0∧dI xs=bl xs∧xs.length≤16∧adw 65536 xs:=by
 by_cases h0:bval xs=0
 ·have hb:=Dy h0
  refine⟨h0,mh h0,hb.len,hb.bound ?_⟩
  cases hz:kQ xs with
  |false=>rfl
  |true=>rw[mh h0,uh hz]at h;omega
 ·rw[uX h0]at h;omega
theorem Yp (hk:k<xs.length) (h:xs[k]?.getD 0=0):kQ xs=true:=by
 rw[kQ,List.any_eq_true]
 refine⟨xs[k],List.getElem_mem hk, ?_⟩
 rw[List.getElem?_eq_getElem hk]at h
 simpa using h
theorem Lb (hn:n=xs.length) (h: ∀j,j<n→ ¬xs[j]?.getD 0=0):kQ xs=false:=by
 rw[kQ,List.any_eq_false]
 intro x hx
 obtain⟨j,hj,rfl⟩:=List.getElem_of_mem hx
 have:=h j (by omega)
 rw[List.getElem?_eq_getElem hj]at this
 simpa using this
def yZ (xs:List Int) (at':Int):List Int×Bool:=if 0≤at'∧at'<dI xs then(au xs at',true)else([],false)
theorem Kz (h: ¬(0≤at'∧at'<dI xs)):yZ xs at'=([],false):=by rw[yZ,if_neg h]
theorem zR (h:0≤at'∧at'<dI xs):yZ xs at'=(au xs at',true):=by rw[yZ,if_pos h]
def YT (xs ps:List Int):Prop:=bval xs=0∧T3 xs ps
instance (xs ps:List Int):Decidable (YT xs ps):=by unfold YT;infer_instance
theorem YT.pos (h:YT xs ps):xs.length≤16∧adw 65536 xs:=by
 have hb:=Dy h.1
 refine⟨hb.len,hb.bound (Lb rfl λj hj e=> ?_)⟩
 have:=h.2.2 j hj
 omega
def Yd (xs:List Int):Prop:=1≤xs.length∧xs.length≤3∧(∀x∈xs,1≤x∧x≤16)∧bl xs≤16
instance (xs:List Int):Decidable (Yd xs):=by unfold Yd;infer_instance
theorem Yd.get (h:Yd xs) (hk:k<xs.length):1≤xs[k]?.getD 0∧xs[k]?.getD 0≤16:=by
 rw[List.getElem?_eq_getElem hk]
 exact h.2.2.1 _ (List.getElem_mem hk)
theorem Yd.posB' (h:Yd xs):adw 65536 xs:=⟨λx hx=>(h.2.2.1 x hx).1,by have:=h.2.2.2;omega⟩
theorem Yd.bval (h:Yd xs):bval xs=0:=UU (by have:=h.2.1;omega) h.posB'
end Go.Proofs.YtigdjhnndaokjaaGreatDoor
