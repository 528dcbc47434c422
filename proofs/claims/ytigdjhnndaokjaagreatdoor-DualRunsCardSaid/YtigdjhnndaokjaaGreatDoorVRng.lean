import Derived.WalkMore
import Derived.BigRegion
import Derived.RegionCalls
import Derived.Test.YtigdjhnndaokjaaGreatDoorChecked
import Derived.Test.YtigdjhnndaokjaaGreatDoorV04t
set_option linter.unusedVariables false
set_option linter.unusedSimpArgs false
set_option maxHeartbeats 4000000
open Go.Proofs.Tryz renaming prog→Pa0
namespace Go.Proofs.YtigdjhnndaokjaaGreatDoor
open Go.Abs Go.RowKit
def Q8 (q r b:Nat) (neg:Bool) (how:Int):Prop:=r=0∨how=3∨(how=1∧neg=false)∨(how=2∧neg=true)∨(how=4∧(2*r<b∨(2*r=b∧q%2=0)))
variable {neg:Bool}{how:Int}
theorem RG {a b M:Nat} {w:World} (hb:0<b) (ha:(a:Int)≤4611686018427387904) (u:(b:Int)≤4611686018427387904) (hh:1≤how∧how≤4)
  (hM:(Q8 (a/b) (a%b) b neg how→M=a/b)∧(¬Q8 (a/b) (a%b) b neg how→M=a/b+1)):
  Calls Pa0 262 #[.int .u64 a,.int .u64 b,.bool neg,.int .i64 how] w λe w'=>e= .returned (.int .u64 M)∧Below w.heap.size w w':=by
 have D: ¬(b:Int)=0:=by omega
 have hq:(a:Int).tdiv b=((a/b:Nat):Int):=(Int.ofNat_tdiv a b).symm
 have hr:(a:Int).tmod b=((a%b:Nat):Int):=(zQ2 a b).symm
 have hm:=zI3 a hb
 have E:a/b≤a:=zH8 _ _
 generalize a/b=q at*
 generalize a%b=r at*
 have w1:IntKind.wrap .u64 (q:Int)=q:=by rw[IntKind.wrap_u64];omega
 have w2:IntKind.wrap .u64 (r:Int)=r:=by rw[IntKind.wrap_u64];omega
 have w3:IntKind.wrap .u64 ((q:Int)+1)=(q:Int)+1:=by rw[IntKind.wrap_u64];omega
 have w4:IntKind.wrap .u64 (2*(r:Int))=2*r:=by rw[IntKind.wrap_u64];omega
 have F:(q:Int).tmod 2=((q%2:Nat):Int):=(zQ2 q 2).symm
 have w5:IntKind.wrap .u64 ((q%2:Nat):Int)=((q%2:Nat):Int):=by rw[IntKind.wrap_u64];omega
 have h4:how=1∨how=2∨how=3∨how=4:=by omega
 have x0: ∀w:World,(Instr.index 307 (.agg #[.int .u64 q,.int .u64 ((q:Int)+1)]) (.int .i64 0)).run Pa0 w= .ok (.int .u64 q) w:= λ_=>by kernel_rfl
 have x1: ∀w:World,(Instr.index 307 (.agg #[.int .u64 q,.int .u64 ((q:Int)+1)]) (.int .i64 1)).run Pa0 w= .ok (.int .u64 ((q:Int)+1)) w:= λ_=>by kernel_rfl
 have HM:=Lib.hid hM
 clear hM hh
 go_enter Tryz.func262,Tryz.ntmps262
 go_wp2_with fail
 apply wp_scope_straight
 apply wp_seq
 go_region
 go_wp2_with fail
 apply wp_label
 rename_i K hK
 show K _ _
 refine hK _ _ ?_
 clear hK K
 go_wp2_with fail
 go_loopw [23,11] (λi m wr=> ∃k:Nat,k≤2∧i= .int .i64 k∧m= .int .u64 (if k=2 then(q:Int)+1 else q)∧Hid (k≠0→ ¬Q8 q r b neg how)∧Below w.heap.size w wr) (λi _ _=>2-(intOf i).toNat)
 case atStart=>exact⟨0,by omega,rfl,rfl,λh=>absurd rfl h,⟨rfl,rfl,rfl,zB2 _,λ_ _=>rfl⟩⟩
 case round=>
  obtain⟨k,hk,rfl,rfl,hC,hx⟩:=hrel
  have h3:k=0∨k=1∨k=2:=by omega
  rcases h3 with rfl|rfl|rfl
  ·by_cases j:r=0
   ·have e0:(r:Int)=0:=by omega
    have g:=HM.out.1 (.inl j)
    subst g
    clear hC HM
    go_wp2
    try unfold Exit.noGoto
    go_ret
    exact⟨rfl,hx⟩
   ·have e0: ¬(r:Int)=0:=by omega
    rcases h4 with rfl|rfl|rfl|rfl
    ·cases neg with
     |false=>
      have g:=HM.out.1 (.inr (.inr (.inl ⟨rfl,rfl⟩)))
      subst g
      clear hC HM
      go_wp2
      try unfold Exit.noGoto
      go_ret
      exact⟨rfl,hx⟩
     |true=>
      have hN:Hid (¬Q8 q r b true 1):=by
       show ¬_
       unfold Q8
       simp
       omega
      clear hC
      go_wp2
      go_round
      case rel=>exact⟨1,by omega,by go_num,by go_num,λ_=>hN.out,hx⟩
      case measure=>simp[intOf]
    ·cases neg with
     |true=>
      have g:=HM.out.1 (.inr (.inr (.inr (.inl ⟨rfl,rfl⟩))))
      subst g
      clear hC HM
      go_wp2
      try unfold Exit.noGoto
      go_ret
      exact⟨rfl,hx⟩
     |false=>
      have hN:Hid (¬Q8 q r b false 2):=by
       show ¬_
       unfold Q8
       simp
       omega
      clear hC
      go_wp2
      go_round
      case rel=>exact⟨1,by omega,by go_num,by go_num,λ_=>hN.out,hx⟩
      case measure=>simp[intOf]
    ·have g:=HM.out.1 (.inr (.inl rfl))
     subst g
     clear hC HM
     go_wp2
     try unfold Exit.noGoto
     go_ret
     exact⟨rfl,hx⟩
    ·by_cases g1:2*r<b
     ·have e1:2*(r:Int)<b:=by omega
      have g:=HM.out.1 (.inr (.inr (.inr (.inr ⟨rfl,.inl g1⟩))))
      subst g
      clear hC HM
      go_wp2
      try unfold Exit.noGoto
      go_ret
      exact⟨rfl,hx⟩
     ·have e1: ¬2*(r:Int)<b:=by omega
      by_cases g2:2*r=b
      ·have e2:2*(r:Int)=b:=by omega
       by_cases g3:q%2=0
       ·have e3:((q%2:Nat):Int)=0:=by omega
        have g:=HM.out.1 (.inr (.inr (.inr (.inr ⟨rfl,.inr ⟨g2,g3⟩⟩))))
        subst g
        clear hC HM
        go_wp2
        try unfold Exit.noGoto
        go_ret
        exact⟨rfl,hx⟩
       ·have e3: ¬((q%2:Nat):Int)=0:=by omega
        have hN:Hid (¬Q8 q r b neg 4):=by
         show ¬_
         unfold Q8
         simp
         omega
        clear hC
        go_wp2
        go_round
        case rel=>exact⟨1,by omega,by go_num,by go_num,λ_=>hN.out,hx⟩
        case measure=>simp[intOf]
      ·have e2: ¬2*(r:Int)=b:=by omega
       have hN:Hid (¬Q8 q r b neg 4):=by
        show ¬_
        unfold Q8
        simp
        omega
       clear hC
       go_wp2
       go_round
       case rel=>exact⟨1,by omega,by go_num,by go_num,λ_=>hN.out,hx⟩
       case measure=>simp[intOf]
  ·by_cases j:r=0
   ·have e0:(r:Int)=0:=by omega
    exact absurd (.inl j) (hC.out zR9)
   ·have e0: ¬(r:Int)=0:=by omega
    rcases h4 with rfl|rfl|rfl|rfl
    ·cases neg with
     |false=>
      exact absurd (.inr (.inr (.inl ⟨rfl,rfl⟩))) (hC.out zR9)
     |true=>
      have hN:Hid (¬Q8 q r b true 1):=by
       show ¬_
       unfold Q8
       simp
       omega
      clear hC
      go_wp2
      go_round
      case rel=>exact⟨2,by omega,by go_num,by go_num,λ_=>hN.out,hx⟩
      case measure=>simp[intOf]
    ·cases neg with
     |true=>
      exact absurd (.inr (.inr (.inr (.inl ⟨rfl,rfl⟩)))) (hC.out zR9)
     |false=>
      have hN:Hid (¬Q8 q r b false 2):=by
       show ¬_
       unfold Q8
       simp
       omega
      clear hC
      go_wp2
      go_round
      case rel=>exact⟨2,by omega,by go_num,by go_num,λ_=>hN.out,hx⟩
      case measure=>simp[intOf]
    ·exact absurd (.inr (.inl rfl)) (hC.out zR9)
    ·by_cases g1:2*r<b
     ·have e1:2*(r:Int)<b:=by omega
      exact absurd (.inr (.inr (.inr (.inr ⟨rfl,.inl g1⟩)))) (hC.out zR9)
     ·have e1: ¬2*(r:Int)<b:=by omega
      by_cases g2:2*r=b
      ·have e2:2*(r:Int)=b:=by omega
       by_cases g3:q%2=0
       ·have e3:((q%2:Nat):Int)=0:=by omega
        exact absurd (.inr (.inr (.inr (.inr ⟨rfl,.inr ⟨g2,g3⟩⟩)))) (hC.out zR9)
       ·have e3: ¬((q%2:Nat):Int)=0:=by omega
        have hN:Hid (¬Q8 q r b neg 4):=by
         show ¬_
         unfold Q8
         simp
         omega
        clear hC
        go_wp2
        go_round
        case rel=>exact⟨2,by omega,by go_num,by go_num,λ_=>hN.out,hx⟩
        case measure=>simp[intOf]
      ·have e2: ¬2*(r:Int)=b:=by omega
       have hN:Hid (¬Q8 q r b neg 4):=by
        show ¬_
        unfold Q8
        simp
        omega
       clear hC
       go_wp2
       go_round
       case rel=>exact⟨2,by omega,by go_num,by go_num,λ_=>hN.out,hx⟩
       case measure=>simp[intOf]
  ·have g:=HM.out.2 (hC.out zR9)
   subst g
   clear hC
   simp only[if_true]
   go_wp2
   go_ret
   exact⟨by simp,hx⟩
set_option maxRecDepth 1000000
abbrev UI (n:Int):AV:= .c (.pure (.val (.int .u64 n)))
theorem Jm {a b:Nat} (hb:0<b) (ha:(a:Int)≤4611686018427387904) (u:(b:Int)≤4611686018427387904) (hh:1≤how∧how≤4):
  ac Pa0 262 [UI a,UI b,Go.Abs.B neg,I how] (UI (XD a b neg how)):=by
 refine⟨⟨_,Tryz.func262,rfl,by kernel_rfl⟩,λw U vs hG hr=> ?_⟩
 have key:=RG (M:=XD a b neg how) (neg:=neg) (w:=w) hb ha u hh ⟨λh=>if_pos h,λh=>if_neg h⟩
 obtain⟨vs⟩:=vs
 cases hr with
 |cons h1 t=>cases h1 with|c h1=>cases h1 with|pure h1=>cases h1;cases t with
  |cons h2 t=>cases h2 with|c h2=>cases h2 with|pure h2=>cases h2;cases t with
   |cons h3 t=>cases h3 with|c h3=>cases h3 with|pure h3=>cases h3;cases t with
    |cons h4 t=>cases h4 with|c h4=>cases h4 with|pure h4=>cases h4;cases t;exact key.mono λe w' ⟨he,hx⟩=>⟨_,he,.c (.pure (.val rfl)),hx⟩
variable {n:Int}
theorem nX (hn: -4611686018427387904≤n∧n≤4611686018427387904):ac Pa0 kG [I n] (UI (n.natAbs:Nat)):=by
 refine ac.of CM zR6 λ_=>aa ?_
 conv in rg=>cbv
 by_cases h:n<0
 ·have w1:IntKind.wrap .u64 (-IntKind.wrap .u64 n)=(n.natAbs:Int):=by rw[IntKind.wrap_u64,IntKind.wrap_u64];omega
  have w2:IntKind.wrap .u64 (0-IntKind.wrap .u64 n)=(n.natAbs:Int):=by rw[zG5,w1]
  repeat' first|simp(disch:=omega)only[go_sem, *,h,w1,w2]|apply ab<;>intro h<;>try omega
 ·have w1:IntKind.wrap .u64 n=(n.natAbs:Int):=by rw[IntKind.wrap_u64];omega
  repeat' first|simp(disch:=omega)only[go_sem, *,h,w1]|apply ab<;>intro h<;>try omega
theorem xU (hh:1≤how∧how≤4):ac Pa0 vn [I how] (Go.Abs.B true):=by
 refine ac.of Ov zR6 λ_=>aa ?_
 obtain⟨h1,h2⟩:=hh
 conv in Fb=>cbv
 repeat' first|simp(disch:=omega)only[go_sem, *,h1,h2]|apply ab<;>intro h<;>try omega
theorem adk {a b:Nat} (hb:0<b):XD a b neg how≤a+1:=by
 have:=zH8 a b
 unfold XD
 split<;>omega
def X4 (n d how:Int):Int:=if d<0 then Ax (-n) (-d) how else Ax n d how
theorem abZ {d:Int} (hd:d≠0) (hh:1≤how∧how≤4):(if(decide (n<0) !=decide (d<0))=true then-(XD n.natAbs d.natAbs (decide (n<0) !=decide (d<0)) how:Int)else XD n.natAbs d.natAbs (decide (n<0) !=decide (d<0)) how)=X4 n d how:=by
 have hb:0<d.natAbs:=by omega
 unfold X4
 by_cases h1:n<0
 ·by_cases h2:d<0
  ·have e1: -n=(n.natAbs:Int):=by omega
   have e2: -d=(d.natAbs:Int):=by omega
   simp[h1,h2]
   rw[UZ hb hh,e1,e2]
  ·have e1:n= -(n.natAbs:Int):=by omega
   have e2:d=(d.natAbs:Int):=by omega
   simp[h1,h2]
   rw[VQ hb hh,←e1,←e2]
 ·by_cases h2:d<0
  ·have e1: -n= -(n.natAbs:Int):=by omega
   have e2: -d=(d.natAbs:Int):=by omega
   simp[h1,h2]
   rw[VQ hb hh,e1,e2]
  ·have e1:n=(n.natAbs:Int):=by omega
   have e2:d=(d.natAbs:Int):=by omega
   simp[h1,h2]
   rw[UZ hb hh,←e1,←e2]
theorem lU {d:Int} (hn: -4611686018427387904≤n∧n≤4611686018427387904) (hd: -4611686018427387904≤d∧d≤4611686018427387904) (hh:1≤how∧how≤4):
  ac Pa0 pm [I n,I d,I how] (.tup [I (if d=0 then 0 else X4 n d how),I (if d=0 then 4 else 0)]):=by
 refine ac.of I7 zR6 λ_=>aa ?_
 have p1:=xU hh
 conv in y0=>cbv
 by_cases h0:d=0
 ·rw[if_pos h0,if_pos h0]
  clear hn hd
  subst h0
  exact zX0
 ·rw[if_neg h0,if_neg h0]
  have p2:=nX hn
  have p3:=nX hd
  have p4:=Jm (a:=n.natAbs) (b:=d.natAbs) (neg:=decide (n<0) !=decide (d<0)) zR5 zR5 zR5 hh
  have y:=adk (a:=n.natAbs) (b:=d.natAbs) (neg:=decide (n<0) !=decide (d<0)) (how:=how) zR5
  have hk:=abZ (n:=n) (d:=d) h0 hh
  have C:n.natAbs+1≤4611686018427387905:=by omega
  clear hn hd
  have l:(!(decide (n<0)==decide (d<0)))=(decide (n<0) !=decide (d<0)):=rfl
  generalize (decide (n<0) !=decide (d<0))=ng at p4 y hk l
  generalize XD n.natAbs d.natAbs ng how=m at*
  cases ng with
  |true=>
   have w1:IntKind.wrap .i64 (IntKind.wrap .u64 (-(m:Int)))=X4 n d how:=by rw[←hk,if_pos rfl,IntKind.wrap_u64,IntKind.wrap_i64];omega
   have w2:IntKind.wrap .i64 (IntKind.wrap .u64 (0-(m:Int)))=X4 n d how:=by rw[zG5,w1]
   repeat' first|simp(disch:=omega)only[go_sem, *,h0,l,w1,w2]|apply ab<;>intro h<;>try omega|refine ak p1 ?_|refine ak p2 ?_|refine ak p3 ?_|refine ak p4 ?_
  |false=>
   have w1:IntKind.wrap .i64 (m:Int)=X4 n d how:=by rw[←hk,if_neg zR6];exact wrap_i64 zR5
   have h3: ¬(m:Int)≥9223372036854775808:=by omega
   have z: ¬(9223372036854775808:Int)≤m:=by omega
   repeat' first|simp(disch:=omega)only[go_sem, *,h0,l,w1,h3,z]|apply ab<;>intro h<;>try omega|refine ak p1 ?_|refine ak p2 ?_|refine ak p3 ?_|refine ak p4 ?_
set_option maxRecDepth 20000
set_option maxRecDepth 1000000
theorem Hm {b o:Int} (h1:2≤b) (h2:b≤31) (ho:o=1∨o=2):ac Pa0 qR [I n,I b,I o] (.tup [I (MY b o n),Go.Abs.B (!decide (-aB b≤n∧n<aB b))]):=by
 refine ac.of Ig zR6 λ_=>aa ?_
 have p1:=qb h1 h2
 have p2:=wx h1 h2
 have p3:=wI h1 h2
 have hh:=fi h1 h2
 have hw:=Zq (n:=n) h1 h2
 have w1:IntKind.wrap .i64 (64-b)=64-b:=wrap_i64 zR5
 have w2:IntKind.wrap .u64 (64-b)=64-b:=wrap_u64 zR5
 have w3:min (64-b).toNat 64=(64-b).toNat:=by omega
 obtain⟨_,_,hp⟩:=UW h1 h2
 have w4: ∀x:Int,x.fdiv (2^(64-b).toNat)=x/2^(64-b).toNat:= λx=>zN2 _ zR5
 have w5:(64-b<0)=False:=eq_false zR5
 have w6:(0≤64-b)=True:=eq_true zR5
 clear h1 h2 hp
 conv in yr=>cbv
 unfold MY
 by_cases p: -aB b≤n∧n<aB b
 ·obtain⟨h1,h2⟩:=p
  have h3:n≤aB b-1:=by omega
  have h4:decide (-aB b≤n∧n<aB b)=true:=zB1 ⟨h1,h2⟩
  rw[if_pos ⟨h1,h2⟩,h4,zQ8]
  rcases ho with rfl|rfl
  ·exact zX5
  ·exact zX5
 ·have h4:decide (-aB b≤n∧n<aB b)=false:=zA9 p
  rw[if_neg p,h4,Bool.not_false]
  by_cases h1:n< -aB b
  ·have h3: ¬ -aB b≤n:=by omega
   rw[if_pos h1]
   rcases ho with rfl|rfl
   ·rw[if_pos rfl]
    exact zX5
   ·rw[if_neg zR9]
    repeat' first|simp(disch:=omega)only[go_sem, *,h1,h3,w1,w2,w3,w4,w5,w6,hw]|apply ab<;>intro h<;>try omega|refine ak p1 ?_|refine ak p2 ?_|refine ak p3 ?_
  ·have h3: -aB b≤n:=by omega
   have h5: ¬n≤aB b-1:=by omega
   rw[if_neg h1]
   rcases ho with rfl|rfl
   ·rw[if_pos rfl]
    repeat' first|simp(disch:=omega)only[go_sem, *,h1,h3,h5]|apply ab<;>intro h<;>try omega|refine ak p1 ?_|refine ak p2 ?_|refine ak p3 ?_
   ·rw[if_neg zR9]
    repeat' first|simp(disch:=omega)only[go_sem, *,h1,h3,h5,w1,w2,w3,w4,w5,w6,hw]|apply ab<;>intro h<;>try omega|refine ak p1 ?_|refine ak p2 ?_|refine ak p3 ?_
theorem wW {t:Ty} (ht:fc t.2.1 t.2.2.1 t.2.2.2.1 t.2.2.2.2):ac Pa0 qE [mj t,I n] (eX (MY t.2.1 t.2.2.2.2 n,1)):=by
 refine ac.of IG zR6 λ_=>aa ?_
 obtain⟨k,b,f,r,o⟩:=t
 simp only at ht ⊢
 obtain⟨h1,h2,_,_,_,_,ho⟩:=ht
 have p1:=Hm (n:=n) h1 h2 ho
 clear h1 h2 ho
 conv in yM=>cbv
 exact zX0
set_option maxRecDepth 20000
set_option maxRecDepth 1000000
def qN (t:Ty) (a:Fr):Prop:=a.2=1∧ -aB t.2.1≤a.1∧a.1<aB t.2.1
theorem yt {t:Ty} {xs:List Fr} (h0:t.1=2) (ht:fc t.2.1 t.2.2.1 t.2.2.2.1 t.2.2.2.2) (hx: ∀x∈xs,qN t x) (hl:xs.length≤4):ac Pa0 s6 [mj t,bF (λv:Fr=> [pI v.1,pI v.2]) xs] (I 0):=by
 refine ac.of LT zR6 λ_=>aa ?_
 have p1:=eQ t
 rw[if_pos ⟨h0,ht⟩]at p1
 have p2: ∀x∈xs,ac Pa0 je [mj t,eX x] (Go.Abs.B true):= λx hm=>by
  have:=xR (a:=x) h0 ht
  rwa [show decide (x.2=1∧ -aB t.2.1≤x.1∧x.1<aB t.2.1)=true from zB1 (hx x hm)]at this
 obtain⟨k',b,f,r,o⟩:=t
 clear ht h0 hx
 conv in BJ=>cbv
 repeat' first|simp(disch:=omega)only[go_sem, *]|apply ab<;>intro h<;>try omega|refine ak p1 ?_
 refine al (λk:Nat=>⟨[(2,.c (.ptr 0 0)),(13,bF (λv:Fr=> [pI v.1,pI v.2]) xs),(14,I xs.length),(15,I k)], [(0,.var [.pure (pI k'),.pure (pI b),.pure (pI f),.pure (pI r),.pure (pI o)])],1,0⟩) (λk=>k≤xs.length) (λk=>xs.length-k) ⟨0, [],zE6 _,by simp⟩ ?_
 rintro k hk
 refine aa ?_
 by_cases s:k<xs.length
 ·have p3:=p2 _ (zA6 s)
  repeat' first|simp(disch:=omega)only[go_sem, *,ae s,wrap_i64]|apply ab<;>intro h<;>try omega|refine ak p3 ?_
  exact⟨k+1, [],s,by omega,by simp⟩
 ·exact zW0
end Go.Proofs.YtigdjhnndaokjaaGreatDoor
