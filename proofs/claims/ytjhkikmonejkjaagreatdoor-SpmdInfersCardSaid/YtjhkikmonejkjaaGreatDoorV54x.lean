import Derived.Test.YtjhkikmonejkjaaGreatDoorV54t
import Derived.Test.YtjhkikmonejkjaaGreatDoorV19b
import Derived.Test.YtjhkikmonejkjaaGreatDoorP54d
set_option linter.unusedVariables false
set_option linter.unusedSimpArgs false
set_option maxRecDepth 20000
open Go.Proofs.Tryz renaming prog→Ya
namespace Go.Proofs.YtjhkikmonejkjaaGreatDoor
open Go.Abs Go.RowKit
noncomputable instance (f:Int) (t:Ty):Decidable (eM f t):=Classical.propDecidable _
theorem qK (f:Int) (t:Ty):af Ya kP [I f,yG t] (Go.Abs.B (decide (eM f t))):=by
 refine af.of tb (by simp) λhb=>aa ?_
 simp only[ky]
 have ct:=bj t
 clear hb
 by_cases h:ju t
 ·rw[decide_eq_true h]at ct
  by_cases h3:f=3
  ·rw[decide_eq_true (show eM f t from⟨h,.inl h3⟩)]
   subst h3
   clear h
   repeat' first|simp(disch:=omega)only[go_sem]|((with_reducible refine ab ?_ ?_)<;>intro h<;>try first|omega|simp(disch:=omega)only[go_sem, *])|refine ae ct rfl (.inl rfl) ?_
  ·by_cases h4:f=4
   ·rw[decide_eq_true (show eM f t from⟨h,.inr (.inl h4)⟩)]
    subst h4
    clear h
    repeat' first|simp(disch:=omega)only[go_sem]|((with_reducible refine ab ?_ ?_)<;>intro h<;>try first|omega|simp(disch:=omega)only[go_sem, *])|refine ae ct rfl (.inl rfl) ?_
   ·by_cases h2:t.1=2
    ·rw[decide_eq_false (show ¬eM f t from λhh=>by rcases hh.2 with hh|hh|hh;exact h3 hh;exact h4 hh;exact hh.2 h2)]
     clear h
     obtain⟨k,t'⟩:=t
     simp only at h2
     subst h2
     repeat' first|simp(disch:=omega)only[go_sem,h3,h4]|((with_reducible refine ab ?_ ?_)<;>intro h<;>try first|omega|simp(disch:=omega)only[go_sem, *,h3,h4])|refine ae ct rfl (.inl rfl) ?_
    ·by_cases h1:f=1∨f=2
     ·rw[decide_eq_true (show eM f t from⟨h,.inr (.inr ⟨h1,h2⟩)⟩)]
      clear h h3 h4
      rcases h1 with rfl|rfl
      all_goals repeat' first|simp(disch:=omega)only[go_sem,h2]|((with_reducible refine ab ?_ ?_)<;>intro h<;>try first|omega|simp(disch:=omega)only[go_sem, *,h2])|refine ae ct rfl (.inl rfl) ?_
     ·rw[decide_eq_false (show ¬eM f t from λhh=>by rcases hh.2 with hh|hh|hh;exact h3 hh;exact h4 hh;exact h1 hh.1)]
      have o: ¬f=1:= λhh=>h1 (.inl hh)
      have q: ¬f=2:= λhh=>h1 (.inr hh)
      clear h h1
      repeat' first|simp(disch:=omega)only[go_sem,h2,h3,h4,o,q]|((with_reducible refine ab ?_ ?_)<;>intro h<;>try first|omega|simp(disch:=omega)only[go_sem, *,h2,h3,h4,o,q])|refine ae ct rfl (.inl rfl) ?_
 ·rw[decide_eq_false h]at ct
  rw[decide_eq_false (show ¬eM f t from λhh=>h hh.1)]
  clear h
  repeat' first|simp(disch:=omega)only[go_sem]|((with_reducible refine ab ?_ ?_)<;>intro h<;>try first|omega|simp(disch:=omega)only[go_sem, *])|refine ae ct rfl (.inl rfl) ?_
theorem qM (f:Int) (t:Ty):af Ya kF [I f,yG t] (Go.Abs.B (decide (eM f t))):=by
 refine af.of tv (by simp) λhb=>aa ?_
 simp only[kI]
 have ct:=c7 t
 clear hb
 by_cases h:ju t
 ·rw[if_pos h]at ct
  by_cases h3:f=3
  ·rw[decide_eq_true (show eM f t from⟨h,.inl h3⟩)]
   subst h3
   clear h
   repeat' first|simp(disch:=omega)only[go_sem]|((with_reducible refine ab ?_ ?_)<;>intro h<;>try first|omega|simp(disch:=omega)only[go_sem, *])|refine ae ct rfl (.inl rfl) ?_
  ·by_cases h4:f=4
   ·rw[decide_eq_true (show eM f t from⟨h,.inr (.inl h4)⟩)]
    subst h4
    clear h
    repeat' first|simp(disch:=omega)only[go_sem]|((with_reducible refine ab ?_ ?_)<;>intro h<;>try first|omega|simp(disch:=omega)only[go_sem, *])|refine ae ct rfl (.inl rfl) ?_
   ·by_cases h1:f=1∨f=2
    ·by_cases h2:t.1=2
     ·rw[decide_eq_false (show ¬eM f t from λhh=>by rcases hh.2 with hh|hh|hh;exact h3 hh;exact h4 hh;exact hh.2 h2)]
      clear h h3 h4
      obtain⟨k,t'⟩:=t
      simp only at h2
      subst h2
      rcases h1 with rfl|rfl
      all_goals
       repeat' first|simp(disch:=omega)only[go_sem]|((with_reducible refine ab ?_ ?_)<;>intro h<;>try first|omega|simp(disch:=omega)only[go_sem, *])|refine ae ct rfl (.inl rfl) ?_
       all_goals rfl
     ·rw[decide_eq_true (show eM f t from⟨h,.inr (.inr ⟨h1,h2⟩)⟩)]
      clear h h3 h4
      rcases h1 with rfl|rfl
      all_goals
       repeat' first|simp(disch:=omega)only[go_sem,h2]|((with_reducible refine ab ?_ ?_)<;>intro h<;>try first|omega|simp(disch:=omega)only[go_sem, *,h2])|refine ae ct rfl (.inl rfl) ?_
       all_goals rfl
    ·rw[decide_eq_false (show ¬eM f t from λhh=>by rcases hh.2 with hh|hh|hh;exact h3 hh;exact h4 hh;exact h1 hh.1)]
     have o: ¬f=1:= λhh=>h1 (.inl hh)
     have q: ¬f=2:= λhh=>h1 (.inr hh)
     clear h h1
     repeat' first|simp(disch:=omega)only[go_sem,h3,h4,o,q]|((with_reducible refine ab ?_ ?_)<;>intro h<;>try first|omega|simp(disch:=omega)only[go_sem, *,h3,h4,o,q])|refine ae ct rfl (.inl rfl) ?_
 ·rw[if_neg h]at ct
  rw[decide_eq_false (show ¬eM f t from λhh=>h hh.1)]
  clear h
  repeat' first|simp(disch:=omega)only[go_sem]|((with_reducible refine ab ?_ ?_)<;>intro h<;>try first|omega|simp(disch:=omega)only[go_sem, *])|refine ae ct rfl (.inl rfl) ?_
theorem jE {d:jA} {i:Nat} (h:i<d.dims.length∧(d.fold≠5∨i+1<d.dims.length)∨d.dims.length≤i∧eM d.fold d.ty):py d i:=h
theorem RC {V:List V3} {i:Nat} (h:i<V.length) {s:ByteArray} {n x:Int} (hv:V[i]=(s,n,x)):(V.take i).map dw++ [[pS s,pI n,pI x]]=(V.take (i+1)).map dw:=by
 rw[List.take_succ_eq_append_getElem h,List.map_append,hv]
 rfl
theorem L3 {V:List V3}:oN (V.map dw):=by
 intro r hr p hp
 obtain⟨v,_,rfl⟩:=List.mem_map.1 hr
 simp only[dw,List.mem_cons,List.not_mem_nil,or_false]at hp
 rcases hp with rfl|rfl|rfl<;>exact⟨_,rfl⟩
set_option maxHeartbeats 2000000 in
theorem wZ {L:List T3} {W:List (List V3)} {d:jA} {ext:List Int} (hz:d.body.sz≤100000) (hx: ∀a∈d.body.pre,a.idx.length≤1000) (hr:Me L d.body.pre) (h1:d.dims.length≤1000) (h2:d.red.length≤1000) (he:ext.length=(ar d).length):
  mh Ya m8 [Nu L W,sK d,bw ext] 121 3 ((fE L d ext).map dw):=by
 refine mh.of vV (by simp) L3 λhb=>aa ?_
 have cI:=fw (d:=d) (by omega) (by omega)
 have Z:(ar d).length≤2000:=by unfold ar;simp;omega
 have hI:=mo (L:=L) he
 have cA:= λ(s:ByteArray) (n:Int) (i:Nat)=>zS (L:=L) (W:=W) (done:=(fE L d ext).take i) (s:=s) (many:=n) hz hx hr
 have cR:=qK d.fold d.ty
 obtain⟨N,hN⟩: ∃N,N=ar d:=⟨_,rfl⟩
 have G: ∀(i:Nat) (hi:i<ext.length) (hv:i<(fE L d ext).length) (hn:i<N.length),(fE L d ext)[i]=(N[i],ext[i],if py d i then ef L N[i] ext[i] (((fE L d ext).take i).map (·.2.2)) d.body.pre else-1):=by
  subst hN
  exact λi hi hv hn=>L1 he hi hv
 rw[←hN]at cI Z he
 generalize fE L d ext=V at*
 clear hN hz hx hr hb h2
 simp only[m4]
 repeat' first|simp(disch:=omega)only[go_sem]|((with_reducible refine ab ?_ ?_)<;>intro h<;>try first|omega|simp(disch:=omega)only[go_sem, *])|refine ae cI rfl (.inr rfl) ?_
 refine co 8 121 3 rfl (by decide) ?_
 refine ai (λi:Nat=>⟨[(2,bw ext),(3,.c (.ptr 0 0)),(4,.c (.ptr 1 0)),(7,iA N),(8,.c (.ref 2)),(9,I i)], [(2,.arr 121 3 ((V.take i).map dw)),(1,qJ d),(0,IY L W)],3,0⟩) (λi=>i≤N.length) (λi=>N.length-i) ⟨0, [],by omega,by simp⟩ ?_
 clear cI
 intro i hi
 refine aa ?_
 by_cases b:i<N.length
 ·have K:i<ext.length:=by omega
  have M:i<V.length:=by omega
  have g1:=ac (f:= λs:ByteArray=> [pS s]) b
  have g2:=ac (f:= λn:Int=> [pI n]) K
  have hv:=G i K M b
  have ca:=cA N[i] ext[i] i
  have hA:((V.take i).map dw).length≤2000:=by simp;omega
  clear G cA
  generalize N[i]=s at*
  generalize ext[i]=n at*
  generalize ef L s n ((V.take i).map (·.2.2)) d.body.pre=x at*
  have wl:IntKind.wrap .i64 ((d.dims.length:Int)-1)=d.dims.length-1:=wrap_i64 (by omega)
  have fin: ∀y,V[i]=(s,n,y)→Hid ((V.take i).map dw++ [[pS s,pI n,pI y]]=(V.take (i+1)).map dw):= λy h=>Lib.hid (RC M h)
  by_cases c1:i<d.dims.length
  ·by_cases c2:d.fold=5
   ·have c2':(d.fold=5)=True:=eq_true c2
    by_cases c3:i+1<d.dims.length
    ·clear cR
     rw[if_pos (jE (.inl ⟨c1,.inr c3⟩))]at hv
     have HT:=fin _ hv
     clear fin hv c2
     repeat' first|simp(disch:=omega)only[go_sem,g1,g2,wrap_i64,wl]|((with_reducible refine ab ?_ ?_)<;>intro h<;>try first|omega|simp(disch:=omega)only[go_sem, *,g1,g2,wrap_i64,wl])|refine ae ca rfl (.inl rfl) ?_|refine ae cR rfl (.inl rfl) ?_|refine aF rfl (by intro h;cases h) (ak rfl) (by simp only[List.length_cons,List.length_nil];omega) (by simp only[List.length_cons,List.length_nil];omega) ?_
     all_goals rw[HT.out]
     all_goals exact⟨i+1, [(2,4)],by omega,by omega,by simp⟩
    ·clear cR ca
     rw[if_neg (show ¬py d i from λh=>by rcases h with h|h;exact h.2.elim (λh=>h c2) c3;omega)]at hv
     have HT:=fin _ hv
     clear fin hv c2
     repeat' first|simp(disch:=omega)only[go_sem,g1,g2,wrap_i64,wl]|((with_reducible refine ab ?_ ?_)<;>intro h<;>try first|omega|simp(disch:=omega)only[go_sem, *,g1,g2,wrap_i64,wl])|refine ae ca rfl (.inl rfl) ?_|refine ae cR rfl (.inl rfl) ?_|refine aF rfl (by intro h;cases h) (ak rfl) (by simp only[List.length_cons,List.length_nil];omega) (by simp only[List.length_cons,List.length_nil];omega) ?_
     all_goals rw[HT.out]
     all_goals exact⟨i+1, [(2,4)],by omega,by omega,by simp⟩
   ·clear cR
    rw[if_pos (jE (.inl ⟨c1,.inl c2⟩))]at hv
    have HT:=fin _ hv
    clear fin hv
    repeat' first|simp(disch:=omega)only[go_sem,g1,g2,wrap_i64,wl]|((with_reducible refine ab ?_ ?_)<;>intro h<;>try first|omega|simp(disch:=omega)only[go_sem, *,g1,g2,wrap_i64,wl])|refine ae ca rfl (.inl rfl) ?_|refine ae cR rfl (.inl rfl) ?_|refine aF rfl (by intro h;cases h) (ak rfl) (by simp only[List.length_cons,List.length_nil];omega) (by simp only[List.length_cons,List.length_nil];omega) ?_
    all_goals rw[HT.out]
    all_goals exact⟨i+1, [(2,4)],by omega,by omega,by simp⟩
  ·by_cases c4:eM d.fold d.ty
   ·rw[decide_eq_true c4]at cR
    rw[if_pos (jE (.inr ⟨by omega,c4⟩))]at hv
    have HT:=fin _ hv
    clear fin hv
    repeat' first|simp(disch:=omega)only[go_sem,g1,g2,wrap_i64,wl]|((with_reducible refine ab ?_ ?_)<;>intro h<;>try first|omega|simp(disch:=omega)only[go_sem, *,g1,g2,wrap_i64,wl])|refine ae ca rfl (.inl rfl) ?_|refine ae cR rfl (.inl rfl) ?_|refine aF rfl (by intro h;cases h) (ak rfl) (by simp only[List.length_cons,List.length_nil];omega) (by simp only[List.length_cons,List.length_nil];omega) ?_
    all_goals rw[HT.out]
    all_goals exact⟨i+1, [(2,4)],by omega,by omega,by simp⟩
   ·rw[decide_eq_false c4]at cR
    clear ca
    rw[if_neg (show ¬py d i from λh=>by rcases h with h|h;exact c1 h.1;exact c4 h.2)]at hv
    have HT:=fin _ hv
    clear fin hv
    repeat' first|simp(disch:=omega)only[go_sem,g1,g2,wrap_i64,wl]|((with_reducible refine ab ?_ ?_)<;>intro h<;>try first|omega|simp(disch:=omega)only[go_sem, *,g1,g2,wrap_i64,wl])|refine ae ca rfl (.inl rfl) ?_|refine ae cR rfl (.inl rfl) ?_|refine aF rfl (by intro h;cases h) (ak rfl) (by simp only[List.length_cons,List.length_nil];omega) (by simp only[List.length_cons,List.length_nil];omega) ?_
    all_goals rw[HT.out]
    all_goals exact⟨i+1, [(2,4)],by omega,by omega,by simp⟩
 ·have hB:V.take i=V:=List.take_of_length_le (by omega)
  rw[hB]
  clear G cA cR
  repeat' first|simp(disch:=omega)only[go_sem]|((with_reducible refine ab ?_ ?_)<;>intro h<;>try first|omega|simp(disch:=omega)only[go_sem, *])
  exact⟨2,rfl,rfl⟩
theorem wH {p:be} {env:List aH} {s:ByteArray} (h:qN p env=0):Ku p env s=ej p env s:=by
 unfold Ku
 rw[if_neg (not_not_intro h)]
theorem yu {p:be} {env:List aH} {d:jA} (hf:eR p) (O:ij p) (hL:pu p) (he: ∀m∈env,aX m.2) (ha:qN p env=0) (A: ∀a∈d.red,c6 a.2) (hJ:d.red.length≤1000) (hC:(ej p env d.name).1.length≤1000):
  af Ya qf [eX p,bZ mP env,sK d] (.tup [bw (eJ p env d).1,I (eJ p env d).2]):=by
 refine af.of zR (by simp) λhb=>aa ?_
 have cD:=th (s:=d.name) hf O hL he
 rw[wH ha]at cD
 have pe: ∀j (h:j<d.red.length),af Ya lb [f9 d.red[j].2.1 d.red[j].2.2,bZ mP env] (.tup [I (mB d.red[j].2.1 d.red[j].2.2 env).1,I (mB d.red[j].2.1 d.red[j].2.2 env).2]):= λj h=>lK (A _ (List.getElem_mem h)).1 (A _ (List.getElem_mem h)).2 he
 simp only[qE]
 unfold eJ
 clear hb hf O hL ha A
 generalize ej p env d.name=D at*
 obtain⟨ds,ed⟩:=D
 simp only at cD hC ⊢
 by_cases h0:ed=0
 ·subst h0
  rw[if_neg (by simp)]
  obtain⟨⟨rs,er⟩,hR⟩: ∃R,R=iv env (d.red.map (·.2)):=⟨_,rfl⟩
  rw[←hR]
  have HR:Hid (jI env [] ((d.red.map (·.2)).drop 0)=(rs,er)):=Lib.hid hR.symm
  have hA:(d.red.map (·.2)).length=d.red.length:=List.length_map ..
  have HG:=Lib.hid λj (h:j<(d.red.map (·.2)).length) (h':j<d.red.length)=>(List.getElem_map .. :(d.red.map (·.2))[j]=d.red[j].2)
  have P:bV 1 (ds.map λn=> [pI n]):=aG λ_=>rfl
  clear hR
  simp only
  repeat' first|simp(disch:=omega)only[go_sem]|((with_reducible refine ab ?_ ?_)<;>intro h<;>try first|omega|simp(disch:=omega)only[go_sem, *])|refine ae cD rfl (.inr rfl) ?_|refine G3 P (by simp;omega) (by simp;omega) ?_
  refine ai (λx:Nat×List Int=>⟨[(1,bZ mP env),(5,.c (.ptr 1 0)),(10,.c (.ref 2)),(11,I x.1)], [(2,.arr 3 1 ((ds++x.2).map λn=> [pI n])),(1,qJ d),(0,dL p)],3,0⟩) (λx=>x.1≤d.red.length∧x.2.length=x.1∧Hid (jI env x.2 ((d.red.map (·.2)).drop x.1)=(rs,er))) (λx=>d.red.length-x.1) ⟨(0, []), [],⟨Nat.zero_le _,rfl,HR⟩,by simp⟩ ?_
  clear HR cD P
  rintro⟨j,acc⟩ ⟨hj,hD,hr⟩
  refine aa ?_
  simp only at hj hD
  have hd:=hr.out
  simp only at hd
  clear hr
  by_cases b:j<d.red.length
  ·have g1:=ac (f:=ee) b
   have p1:=pe j b
   have hg:=HG.out j (by omega) b
   obtain⟨⟨n,e⟩,H⟩: ∃x,x=mB d.red[j].2.1 d.red[j].2.2 env:=⟨_,rfl⟩
   rw[xK (n:=n) (e:=e) (by omega) (by rw[hg];exact H.symm)]at hd
   rw[←H]at p1
   simp only at p1
   clear H pe hg HG
   by_cases h0:e=0
   ·subst h0
    rw[if_neg (by simp)]at hd
    by_cases hn:n<1∨4096<n
    ·rw[if_pos hn]at hd
     obtain⟨rfl,rfl⟩:=Prod.mk.injEq .. ▸hd
     rw[if_pos (by simp)]
     repeat' first|simp(disch:=omega)only[go_sem,g1,ee]|((with_reducible refine ab ?_ ?_)<;>intro h<;>try first|omega|simp(disch:=omega)only[go_sem, *,g1,ee])|refine ae p1 rfl (.inl rfl) ?_
     all_goals rfl
    ·rw[if_neg hn]at hd
     have HD:=Lib.hid hd
     have hK:1≤n∧n≤4096:=by omega
     clear hd hn
     have HT:=Lib.hid (show((ds++acc).map λn=> [pI n])++ [[pI n]]=(ds++(acc++ [n])).map λn=> [pI n] by simp)
     have hH:((ds++acc).map λn=> [pI n]).length≤2000:=by simp;omega
     generalize (ds++acc).map (λn=> [pI n])=rows at*
     repeat' first|simp(disch:=omega)only[go_sem,g1,ee,wrap_i64]|((with_reducible refine ab ?_ ?_)<;>intro h<;>try first|omega|simp(disch:=omega)only[go_sem, *,g1,ee,wrap_i64])|refine ae p1 rfl (.inl rfl) ?_|refine aF rfl (by intro h;cases h) (ak rfl) (by simp only[List.length_cons,List.length_nil];omega) (by simp only[List.length_cons,List.length_nil];omega) ?_
     rw[HT.out]
     exact⟨(j+1,acc++ [n]), [(2,3)],⟨by omega,by simp;omega,HD⟩,by show _-_<_-_;omega,by simp⟩
   ·rw[if_pos h0]at hd
    obtain⟨rfl,rfl⟩:=Prod.mk.injEq .. ▸hd
    rw[if_pos h0]
    repeat' first|simp(disch:=omega)only[go_sem,g1,ee,h0]|((with_reducible refine ab ?_ ?_)<;>intro h<;>try first|omega|simp(disch:=omega)only[go_sem, *,g1,ee,h0])|refine ae p1 rfl (.inl rfl) ?_
    all_goals rfl
  ·rw[sw (by omega)]at hd
   obtain⟨rfl,rfl⟩:=Prod.mk.injEq .. ▸hd
   rw[if_neg (by simp)]
   clear HG pe
   repeat' first|simp(disch:=omega)only[go_sem]|((with_reducible refine ab ?_ ?_)<;>intro h<;>try first|omega|simp(disch:=omega)only[go_sem, *])
   all_goals rfl
 ·rw[if_pos h0]
  clear pe
  repeat' first|simp(disch:=omega)only[go_sem,h0]|((with_reducible refine ab ?_ ?_)<;>intro h<;>try first|omega|simp(disch:=omega)only[go_sem, *,h0])|refine ae cD rfl (.inr rfl) ?_
  all_goals rfl
def Rx (V:List V3) (y:Ix) (x:Int) (m:Nat) (h:ByteArray):Prop:=(h=mC∧ ∀i (hi:i<V.length),i<m→ ¬(d8 y V[i].1∧V[i].2.2=x))∨(d8 y h∧h≠mC∧ ∃v∈V,v.1=h∧v.2.2=x)
theorem QJ {V:List V3} {y:Ix} {x:Int} {m:Nat} (hm:m<V.length) (hV: ∀v∈V,v.1≠mC) (hu:d8 y V[m].1) (hx:V[m].2.2=x):Rx V y x (m+1) V[m].1:= .inr ⟨hu,hV _ (List.getElem_mem hm),_,List.getElem_mem hm,rfl,hx⟩
theorem Mj {V:List V3} {y:Ix} {x:Int} {m:Nat} {h:ByteArray} (hm:m<V.length) (hi:Rx V y x m h) (hn: ¬(d8 y V[m].1∧V[m].2.2=x)):Rx V y x (m+1) h:=by
 rcases hi with⟨h1,h2⟩|h1
 ·refine .inl ⟨h1,λi hi b=> ?_⟩
  by_cases e:i=m
  ·subst e
   exact hn
  ·exact h2 i hi (by omega)
 ·exact .inr h1
set_option maxHeartbeats 4000000 in
theorem BI {d:jA} {V:List V3} {s:ByteArray} {j:Nat} {x:Int} (hz:d.body.sz≤100000) (hx: ∀a∈d.body.pre,a.idx.length≤1000) (hV: ∀v∈V,v.1≠mC) (hs:s∈ld d.body.pre) (hj: ∀a∈d.body.pre,sQ a s→j<a.idx.length) (hM:V.length≤1000000):
  af Ya uV [sK d,Bu V,S s,I j,I x] (Go.Abs.B (decide (jT d.body.pre V s j x))):=by
 refine af.of B0 (by simp) λhb=>aa ?_
 have cA:=ns d.body hz
 have hQ:d.body.pre.length≤100000:=by rw[Ex.pre_length];exact hz
 simp only[u9]
 clear hb hz
 generalize Q:d.body.pre=pre at*
 clear Q
 obtain⟨R,hR⟩: ∃R,R=decide (jT pre V s j x):=⟨_,rfl⟩
 rw[←hR]
 have HN:Hid (¬jT pre V s j x→R=false):=Lib.hid λh=>by rw[hR,decide_eq_false h]
 have HY:Hid (jT pre V s j x→R=true):=Lib.hid λh=>by rw[hR,decide_eq_true h]
 clear hR
 have HV:=Lib.hid hV
 have HX:=Lib.hid hx
 have HJ:=Lib.hid hj
 have HS:=Lib.hid hs
 clear hV hx hj hs
 repeat' first|simp(disch:=omega)only[go_sem]|((with_reducible refine ab ?_ ?_)<;>intro h<;>try first|omega|simp(disch:=omega)only[go_sem, *])|refine ae cA rfl (.inr rfl) ?_
 clear cA
 refine ai (λz:Nat×ByteArray=>⟨[(1,Bu V),(2,S s),(3,I j),(4,I x),(11,EU pre),(12,S z.2),(13,I z.1)], [],0,0⟩) (λz=>z.1≤pre.length∧Hid (G7 pre s j (λw=> ∃v∈V,v.1=w∧v.2.2=x) z.1 z.2)) (λz=>pre.length-z.1) ⟨(0,mC), [],⟨Nat.zero_le _,Lib.hid F5⟩,by simp⟩ ?_
 rintro⟨k,u⟩ ⟨hk,HI⟩
 simp only at hk HI
 refine aa ?_
 by_cases b:k<pre.length
 ·have g1:=ac (f:=Ex.row) b
  rw[Ex.row_eq]at g1
  have hS:=HX.out _ (List.getElem_mem b)
  have cU:= λm (hm:m<pre[k].idx.length) (w:ByteArray)=>tu w hm
  have T:=HJ.out _ (List.getElem_mem b)
  have HM:Hid (∀y∈pre[k].idx,y.2.1=s→R=false):=Lib.hid λy hy he=>HN.out (IX b hy he)
  have HJK:=Lib.hid T
  clear T
  repeat' first|simp(disch:=omega)only[go_sem]|((with_reducible refine ab ?_ ?_)<;>intro h<;>try first|omega|simp(disch:=omega)only[go_sem, *])
  refine ai (λm:Nat=>⟨[(1,Bu V),(2,S s),(3,I j),(4,I x),(11,EU pre),(12,S u),(13,I k),(14,I m)], [],0,0⟩) (λm=>m≤pre[k].idx.length∧bI (λi=> ∀h:i<pre[k].idx.length,pre[k].idx[i].2.1≠s) m) (λm=>pre[k].idx.length-m) ⟨0, [],⟨Nat.zero_le _,.zero⟩,by simp⟩ ?_
  rintro m ⟨hm,l⟩
  refine aa ?_
  by_cases X:m<pre[k].idx.length
  ·have g2:=ac (f:=dN) X
   have HMM:=Lib.hid (HM.out _ (List.getElem_mem X))
   have HA:=Lib.hid l
   clear l HM HI cU HJK
   by_cases he:pre[k].idx[m].2.1=s
   ·have e:=HMM.out he
    subst e
    clear HMM HA HN HY
    repeat' first|simp(disch:=omega)only[go_sem,g1,g2,dN,aj,he,decide_true,wrap_i64]|((with_reducible refine ab ?_ ?_)<;>intro h<;>try first|omega|simp(disch:=omega)only[go_sem, *,g1,g2,dN,aj,he,decide_true,wrap_i64])
   ·clear HMM
    repeat' first|simp(disch:=omega)only[go_sem,g1,g2,dN,aj,he,decide_false,wrap_i64]|((with_reducible refine ab ?_ ?_)<;>intro h<;>try first|omega|simp(disch:=omega)only[go_sem, *,g1,g2,dN,aj,he,decide_false,wrap_i64])
    exact⟨m+1, [],⟨by omega,HA.out.succ λ_=>he⟩,by omega,by simp⟩
  ·have hF: ∀y∈pre[k].idx,y.2.1≠s:= λy hy=>by
    obtain⟨i,hi,rfl⟩:=List.mem_iff_getElem.1 hy
    exact l i (by omega) hi
   have HF:=Lib.hid hF
   clear l HM hF
   by_cases h3:pre[k].op=3
   ·by_cases hn:pre[k].name=s
    ·have J:sQ pre[k] s:=⟨h3,hn⟩
     have Y:=HJK.out J
     have hy:pre[k].idx[j]? =some pre[k].idx[j]:=List.getElem?_eq_getElem Y
     have cu:=cU j Y
     have HR:=Lib.hid J
     have HYY:=Lib.hid hy
     clear J hy HJK cU
     have hE:(pre[k].op=3)=True:=eq_true h3
     have hT:(pre[k].name=s)=True:=eq_true hn
     clear h3 hn
     repeat' first|simp(disch:=omega)only[go_sem,g1,aj,decide_true]|((with_reducible refine ab ?_ ?_)<;>intro h<;>try first|omega|simp(disch:=omega)only[go_sem, *,g1,aj,decide_true])
     refine ai (λz:Nat×ByteArray=>⟨[(1,Bu V),(2,S s),(3,I j),(4,I x),(11,EU pre),(12,S u),(13,I k),(15,S z.2),(16,I z.1)], [],0,0⟩) (λz=>z.1≤V.length∧Hid (Rx V pre[k].idx[j] x z.1 z.2)) (λz=>V.length-z.1) ⟨(0,mC), [],⟨Nat.zero_le _,Lib.hid (.inl ⟨rfl,λi _ h=>absurd h (by omega)⟩)⟩,by simp⟩ ?_
     rintro⟨m2,w⟩ ⟨hG,HH⟩
     simp only at hG HH
     refine aa ?_
     by_cases g:m2<V.length
     ·have g3:=ac (f:=dw) g
      have cu2:=cu V[m2].1
      by_cases c1:d8 pre[k].idx[j] V[m2].1
      ·rw[decide_eq_true c1]at cu2
       by_cases c2:V[m2].2.2=x
       ·have HD:=Lib.hid (QJ g HV.out c1 c2)
        clear HH HI HF HN HY HR HYY c1 cu
        subst c2
        repeat' first|simp(disch:=omega)only[go_sem,g1,g3,dw,wrap_i64]|((with_reducible refine ab ?_ ?_)<;>intro h<;>try first|omega|simp(disch:=omega)only[go_sem, *,g1,g3,dw,wrap_i64])|refine ae cu2 rfl (.inl rfl) ?_
        exact⟨(m2+1,V[m2].1), [],⟨g,HD⟩,by show _-_<_-_;omega,by simp⟩
       ·have HD:=Lib.hid (Mj g HH.out λh=>c2 h.2)
        clear HH HI HF HN HY HR HYY c1 cu
        repeat' first|simp(disch:=omega)only[go_sem,g1,g3,dw,c2,wrap_i64]|((with_reducible refine ab ?_ ?_)<;>intro h<;>try first|omega|simp(disch:=omega)only[go_sem, *,g1,g3,dw,c2,wrap_i64])|refine ae cu2 rfl (.inl rfl) ?_
        exact⟨(m2+1,w), [],⟨g,HD⟩,by show _-_<_-_;omega,by simp⟩
      ·rw[decide_eq_false c1]at cu2
       have HD:=Lib.hid (Mj g HH.out λh=>c1 h.1)
       clear HH HI HF HN HY HR HYY c1 cu
       repeat' first|simp(disch:=omega)only[go_sem,g1,g3,dw,wrap_i64]|((with_reducible refine ab ?_ ?_)<;>intro h<;>try first|omega|simp(disch:=omega)only[go_sem, *,g1,g3,dw,wrap_i64])|refine ae cu2 rfl (.inl rfl) ?_
       exact⟨(m2+1,w), [],⟨g,HD⟩,by show _-_<_-_;omega,by simp⟩
     ·clear cu
      by_cases hw:w=mC
      ·have e:=HN.out (RV b HR.out HYY.out (by
        rcases HH.out with⟨_,h⟩|⟨_,h,_⟩
        ·intro v hv
         obtain⟨i,hi,rfl⟩:=List.mem_iff_getElem.1 hv
         exact h i hi (by omega)
        ·exact absurd hw h))
       subst e
       subst hw
       clear HH HI HF HN HY HR HYY
       repeat' first|simp(disch:=omega)only[go_sem,aj,decide_true]|((with_reducible refine ab ?_ ?_)<;>intro h<;>try first|omega|simp(disch:=omega)only[go_sem, *,aj,decide_true])
      ·have hh:d8 pre[k].idx[j] w∧w≠mC∧ ∃v∈V,v.1=w∧v.2.2=x:=by
        rcases HH.out with⟨h,_⟩|h
        ·exact absurd h hw
        ·exact h
       by_cases C:u=mC
       ·have HD:=Lib.hid (tQ b HI.out HF.out HR.out HYY.out hh.1 hw hh.2.2 (.inl C))
        subst C
        clear HH HI HF HN HY HR HYY hh
        repeat' first|simp(disch:=omega)only[go_sem,aj,hw,decide_true,decide_false,wrap_i64]|((with_reducible refine ab ?_ ?_)<;>intro h<;>try first|omega|simp(disch:=omega)only[go_sem, *,aj,hw,decide_true,decide_false,wrap_i64])
        exact⟨(k+1,w), [],⟨b,HD⟩,by show _-_<_-_;omega,by simp⟩
       ·by_cases E:u=w
        ·have HD:=Lib.hid (tQ b HI.out HF.out HR.out HYY.out hh.1 hw hh.2.2 (.inr E))
         clear HH HI HF HN HY HR HYY hh
         subst E
         repeat' first|simp(disch:=omega)only[go_sem,aj,hw,decide_true,decide_false,wrap_i64]|((with_reducible refine ab ?_ ?_)<;>intro h<;>try first|omega|simp(disch:=omega)only[go_sem, *,aj,hw,decide_true,decide_false,wrap_i64])
         exact⟨(k+1,u), [],⟨b,HD⟩,by show _-_<_-_;omega,by simp⟩
        ·have e:=HN.out (LZ b HI.out C HR.out HYY.out hh.1 E)
         subst e
         clear HH HI HF HN HY HR HYY hh
         repeat' first|simp(disch:=omega)only[go_sem,aj,hw,C,E,decide_true,decide_false]|((with_reducible refine ab ?_ ?_)<;>intro h<;>try first|omega|simp(disch:=omega)only[go_sem, *,aj,hw,C,E,decide_true,decide_false])
    ·have HD:=Lib.hid (tN b HI.out HF.out λh=>hn h.2)
     clear HI HF HN HY HJK cU
     have hE:(pre[k].op=3)=True:=eq_true h3
     clear h3
     repeat' first|simp(disch:=omega)only[go_sem,g1,aj,hn,decide_false,wrap_i64]|((with_reducible refine ab ?_ ?_)<;>intro h<;>try first|omega|simp(disch:=omega)only[go_sem, *,g1,aj,hn,decide_false,wrap_i64])
     exact⟨(k+1,u), [],⟨b,HD⟩,by show _-_<_-_;omega,by simp⟩
   ·have HD:=Lib.hid (tN b HI.out HF.out λh=>h3 h.1)
    clear HI HF HN HY HJK cU
    repeat' first|simp(disch:=omega)only[go_sem,g1,h3,wrap_i64]|((with_reducible refine ab ?_ ?_)<;>intro h<;>try first|omega|simp(disch:=omega)only[go_sem, *,g1,h3,wrap_i64])
    exact⟨(k+1,u), [],⟨b,HD⟩,by show _-_<_-_;omega,by simp⟩
 ·obtain rfl:k=pre.length:=by omega
  obtain⟨_,hq,F⟩:=Kg (V:=V) (x:=x) HI.out HS.out
  have e:=HY.out (F.2 hq)
  subst e
  clear HN HY HI hq F
  repeat' first|simp(disch:=omega)only[go_sem]|((with_reducible refine ab ?_ ?_)<;>intro h<;>try first|omega|simp(disch:=omega)only[go_sem, *])
end Go.Proofs.YtjhkikmonejkjaaGreatDoor
