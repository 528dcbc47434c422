import Derived.Test.YtigdjhnndaokjaaGreatDoorV12c
import Derived.Test.YtigdjhnndaokjaaGreatDoorAbsD
set_option linter.unusedVariables false
set_option linter.unusedSimpArgs false
open Go.Proofs.Tryz renaming prog→Pa0
namespace Go.Proofs.YtigdjhnndaokjaaGreatDoor
open Go.RowKit
variable {v:Value}{xs:List Int}{w:World}
set_option maxHeartbeats 1000000 in
theorem xI (hv:vv w v xs):
  Calls Pa0 102 #[v] w λe w'=>e= .returned (.int .i64 (yk xs))∧w=w':=by
 obtain⟨a,n,c,HN,J,rfl,h⟩:=hv.open
 have K:=qx h n c HN
 have hl:=h.len
 have HC:Hid (∀k,k<n→w.cell? (Tx a k)=some (.int .i64 (xs[k]?.getD 0))):=by have:=h.cell;rw[←HN.out]at this;exact this
 rw[←HN.out]at hl
 clear h
 by_cases h6:6<n
 ·go_enter Tryz.func102,Tryz.ntmps102
  go_wp2
  go_ret
  exact⟨aaG (Jg Go.Abs.zV8).symm,rfl⟩
 ·go_enter Tryz.func102,Tryz.ntmps102
  go_wp2
  go_loop [13] (λi=> ∃k:Nat,k≤n∧i= .int .i64 k∧Hid (∀j,j<k→1≤xs[j]?.getD 0)) (λi=>n-(intOf i).toNat)
  case atStart=>exact⟨0,zE6 _,rfl,λj hj=>by omega⟩
  case round=>
   obtain⟨k,hk,rfl,m⟩:=hrel
   have d:k<n→w.cell? (Tx a k)=some (.int .i64 (xs[k]?.getD 0)):=HC.out k
   by_cases l:k<n
   ·by_cases h1:xs[k]?.getD 0<1
    ·go_wp2
     go_ret
     exact⟨aaG (Q3 Go.Abs.zV8 Go.Abs.zU1 h1).symm,rfl⟩
    ·go_wp2
     go_round
     case rel=>exact⟨k+1,by omega,by go_num,λj hj=>by
      by_cases e:j=k
      ·subst e;omega
      ·exact m.out j zR5⟩
     case measure=>simp[intOf];omega
   ·go_wp2
    have D:Hid (∀x∈xs,1≤x):=UC HN.out λj hj=>m.out j zR5
    have hv:Hid (yk xs=di (xs.drop 0) 1):=DO Go.Abs.zV8 D.out
    clear m d h6
    go_loop [22,5] (λi s=> ∃(k:Nat) (z:Int),k≤n∧i= .int .i64 k∧s= .int .i64 z∧1≤z∧z≤4096∧Hid (yk xs=di (xs.drop k) z)) (λi _=>n-(intOf i).toNat)
    case atStart=>exact⟨0,1,zE6 _,rfl,rfl,by omega,by omega,hv⟩
    case round=>
     obtain⟨k,z,hk,rfl,rfl,F,Y,hz⟩:=hrel
     have d:k<n→w.cell? (Tx a k)=some (.int .i64 (xs[k]?.getD 0)):=HC.out k
     by_cases l:k<n
     ·have hx:1≤xs[k]?.getD 0:=qj D.out Go.Abs.zU1
      have A:Hid (_=_):=TW z Go.Abs.zU1
      by_cases h1:4096/z<xs[k]?.getD 0
      ·go_wp2
       go_ret
       exact⟨aaG (by rw[hz.out,A.out,if_pos h1]),rfl⟩
      ·have hq:=PP F h1
       have L:=eJ F hx
       go_wp2
       go_round
       case rel=>exact⟨k+1,_,by omega,by go_num,rfl,L,hq,by rw[Hid,hz.out,A.out,if_neg h1]⟩
       case measure=>simp[intOf];omega
     ·go_wp2
      go_ret
      exact⟨aaG (by rw[hz.out,SG];rw[←HN.out];omega),rfl⟩
open Go.RowKit Go.Abs
theorem Yr (h: ¬yk xs=0):size xs=0:=by rw[size,if_neg h]
theorem Xm (h:yk xs=0):size xs=bl xs:=by rw[size,if_pos h]
set_option maxHeartbeats 1000000 in
theorem Uh (hv:vv w v xs):
  Calls Pa0 48 #[v] w λe w'=>e= .returned (.int .i64 (size xs))∧w=w':=by
 obtain⟨a,n,c,HN,J,rfl,h⟩:=hv.open
 have K:=qx h n c HN
 have hl:=h.len
 have HC:Hid (∀k,k<n→w.cell? (Tx a k)=some (.int .i64 (xs[k]?.getD 0))):=by have:=h.cell;rw[←HN.out]at this;exact this
 rw[←HN.out]at hl
 clear h
 by_cases h0:yk xs=0
 ·have hg:=b8 h0
  have HS:Hid (_=_):=Xm h0
  go_enter Tryz.func48,Tryz.ntmps48
  go_wp2_with (go_at_call 102;refine(xI hv).mono ?_;rintro e w' ⟨rfl,rfl⟩)
  go_loop [11,3] (λi s=> ∃(k:Nat) (z:Int),k≤n∧i= .int .i64 k∧s= .int .i64 z∧Hid (z=bl (xs.take k))) (λi _=>n-(intOf i).toNat)
  case atStart=>exact⟨0,1,zE6 _,rfl,rfl,rfl⟩
  case round=>
   obtain⟨k,z,hk,rfl,rfl,hz⟩:=hrel
   have d:k<n→w.cell? (Tx a k)=some (.int .i64 (xs[k]?.getD 0)):=HC.out k
   by_cases l:k<n
   ·have G:z*xs[k]?.getD 0=bl (xs.take (k+1)):=by rw[ii zU1,hz.out]
    have hb:=hg.take_le (k+1)
    rw[←G]at hb
    have Hz:=Lib.hid G
    clear G
    obtain⟨Z,hA⟩:=hb
    go_wp2
    go_round
    case rel=>exact⟨k+1,_,by omega,by go_num,rfl,Hz⟩
    case measure=>simp[intOf];omega
   ·go_wp2
    go_ret
    exact⟨aaG (by rw[HS.out,hz.out,zB6 (by rw[←HN.out];omega)]),rfl⟩
 ·have HS:Hid (_=_):=Yr h0
  go_enter Tryz.func48,Tryz.ntmps48
  go_wp2_with (go_at_call 102;refine(xI hv).mono ?_;rintro e w' ⟨rfl,rfl⟩)
  go_ret
  exact⟨aaG HS.out.symm,rfl⟩
theorem FC:Tryz.prog.arrayLen 179=6:=by kernel_rfl
theorem LG (u:World) (g n:Nat) (h:n≤6):
  (Instr.sliceAt 179 (.pointer (some ⟨g,0,none⟩)) none (some (.int .i64 (n:Int))) none).run Pa0 u= .ok (.slice (some ⟨g,0,none⟩) n 6) u:=by
 rw[run_sliceAt_array_h u 179 ⟨g,0,none⟩ (by rw[FC];kernel_rfl) .i64 n zR5 (by rw[FC];omega),FC]
 go_simp
theorem Own.base {B B':Nat} (h:Own w B v xs) (hb:B'≤B):Own w B' v xs:=by
 refine⟨h.1, ?_⟩
 rcases h.2 with h|⟨g,cap,cur,e,hg,h⟩
 ·exact .inl h
 ·exact .inr ⟨g,cap,cur,e,zK3 hb hg,h⟩
variable {at':Int}
set_option maxHeartbeats 2000000 in
theorem IY (hv:vv w v xs) (A:at'≤9223372036854775807) (h0:0≤at') (h1:at'<size xs):
  Calls Pa0 49 #[v,.int .i64 at'] w λe w'=> ∃v,e= .returned (.tuple #[v,.bool true])∧Own w' w.heap.size v (au xs at')∧A3 w w':=by
 obtain⟨a,n,c,HN,J,rfl,h⟩:=hv.open
 have K:=qx h n c HN
 have hl:=h.len
 rw[←HN.out]at hl
 have C:=MG (xs:=xs) (at':=at') ⟨h0,h1⟩
 have hg:=b8 C.1
 have h6:n≤6:=by rw[HN.out];exact hg.len
 clear C
 go_enter Tryz.func49,Tryz.ntmps49
 go_wp2_with (first
  |(go_at_call 48;refine(Uh hv).mono ?_;rintro e w' ⟨rfl,rfl⟩)
  |fail)
 have M:=(A3.refl w).alloc (.cells #[Value.int .i64 0,Value.int .i64 0,Value.int .i64 0,Value.int .i64 0,Value.int .i64 0,Value.int .i64 0] 179)
 have E:Arr (w.alloc (.cells #[Value.int .i64 0,Value.int .i64 0,Value.int .i64 0,Value.int .i64 0,Value.int .i64 0,Value.int .i64 0] 179)) w.heap.size 179 ((List.replicate 6 (0:Int)).map (.int .i64)):=Arr.new w _ _
 obtain⟨g,N⟩: ∃g,w.heap.size=g:=⟨_,rfl⟩
 have R:w.heap.size≤g:=by omega
 rw[N]at E ⊢
 clear N
 go_loopw [7,1] (λi s wr=> ∃(i':Int) (z:Int),-1≤i'∧i'<n∧i= .int .i64 i'∧s= .int .i64 z∧0≤z∧z≤9223372036854775807∧Hid (z=at'/bl (xs.drop (i'+1).toNat))∧A3 w wr∧
   Arr wr g 179 ((List.replicate (i'+1).toNat 0++(au xs at').drop (i'+1).toNat++List.replicate (6-n) 0).map (.int .i64))) (λi _ _=>(intOf i+1).toNat)
 case atStart=>
  have e:((n:Int)-1+1).toNat=n:=by omega
  refine⟨_,_,by omega,by omega,rfl,rfl,by omega,A, ?_,M, ?_⟩
  ·show _=_
   rw[e,zD6 (by rw[←HN.out];omega),bl,Int.ediv_one]
  ·rw[e,zD6 (by rw[aX,←HN.out];omega),zN7,List.replicate_append_replicate,show n+(6-n)=6 from by omega]
   exact E
 case round=>
  obtain⟨i',z,hC,hD,rfl,rfl,O,F,hz,hx,ho⟩:=hrel
  by_cases hi:0≤i'
  ·obtain⟨k,rfl⟩:=Int.eq_ofNat_of_zero_le hi
   have hk:k<n:=by omega
   have Hk:Hid (k<xs.length):=by show _<_;rw[←HN.out];exact hk
   rw[show((k:Int)+1).toNat=k+1 from by omega]at ho hz
   have d:=(h.ext hx).cell k Hk.out
   have q:Hid (k<(List.replicate (k+1) (0:Int)++(au xs at').drop (k+1)++List.replicate (6-n) 0).length):=by
    show _<_
    rw[zE4,zE8,List.length_replicate];omega
   have hE:=ho.int q.out
   have hF:=ho.free k
   have M:=(hg.get Hk.out).1
   have T:0≤z/xs[k]?.getD 0:=zJ5 O zR5
   have L:z/xs[k]?.getD 0≤z:=zJ1 _ O
   have P:w.heap.size≤g:=R
   have r:=hx.setCell (p:=⟨g,k,none⟩) P (.int .i64 (z%xs[k]?.getD 0))
   have Q:=(h.ext r).cell k Hk.out
   have y:=ho.store k (.int .i64 (z%xs[k]?.getD 0))
   have Hx2:=Lib.hid r
   have Ho2:=Lib.hid y
   clear r y ho
   go_wp2
   go_roundw
   case rel=>
    have e:((k:Int)-1+1).toNat=k:=by omega
    refine⟨_,_,by omega,by omega,rfl,rfl,T,by omega, ?_,Hx2.out, ?_⟩
    ·show _=_
     rw[e,hz.out,J5 hg.pos at' Hk.out]
    ·have h2:=Ho2.out
     rw[←zQ9,zE4,JC,zU hz.out,←zD2,←vU Hk.out,←zE4]at h2
     rw[e,zU hz.out]
     exact h2
   case measure=>simp[intOf]
  ·obtain rfl:i'= -1:=by omega
   have HL:Hid (n=(au xs at').length):=by show _=_;rw[aX];exact HN.out
   have y:Arr wr g 179 ((au xs at'++List.replicate (6-n) 0).map (.int .i64)):=ho
   have V:=y.isInts' (c:=6) HL.out h6 zR5
   have q:Hid ((au xs at').length≤17592186044416):=by show _≤_;rw[←HL.out];omega
   clear ho y
   have hG: ∀u:World,(Instr.sliceAt 179 (.pointer (some ⟨g,0,none⟩)) none (some (.int .i64 (n:Int))) none).run Pa0 u= .ok (.slice (some ⟨g,0,none⟩) n 6) u:= λu=>LG u g n h6
   go_wp2_with (go_at_call 53;refine(Ed V q.out).mono ?_;rintro e w2 ⟨v2,rfl,H,r⟩)
   go_ret2
   exact⟨v2,rfl,H.base hx.size,hx.trans r⟩
set_option maxRecDepth 20000
open Go.Abs Go.RowKit
theorem NJ (h0:0≤at') (h1:at'<size xs) (mem:List (Nat×bP)) (nx:Nat):
  bJ Pa0 49 [aF xs,I at'] mem nx (.tup [.c (.ref nx),Go.Abs.B true]) ((nx,.arr 3 1 ((au xs at').map λn=> [pI n]))::mem) (nx+1):=by
 refine⟨⟨_,Tryz.func49,rfl,by kernel_rfl⟩,λw0 U ι w vs hs hr=> ?_⟩
 have C:=MG (xs:=xs) (at':=at') ⟨h0,h1⟩
 have hg:=b8 C.1
 have W:=hg.take_le xs.length
 rw[zB6 (zB2 _)]at W
 have h6:=hg.len
 obtain⟨vs⟩:=vs
 cases hr with
 |cons a1 t=>
 cases t with
 |cons a2 t=>
 cases t
 cases a2 with
 |c a2=>
 cases a2 with
 |pure a2=>
 cases a2
 refine(IY (D3 a1) zR5 h0 h1).mono ?_
 rintro e w' ⟨v,rfl,f,hx⟩
 have hB:=hs.below.size
 have hI:=aX xs at'
 obtain⟨ι',k1,k2,k3,k4⟩:=hs.newBox (pv:=v) (bx:= .arr 3 1 ((au xs at').map λn=> [pI n])) hx.below (λb hb=>by
  rcases f.2 with⟨e,_⟩|⟨g,cap,cur,e,hg,_⟩
  ·rw[e]at hb;cases hb
  ·rw[e]at hb
   simp[fE]at hb
   omega) (λι' e1 e2 X=>by
  refine⟨(au xs at').map (.int .i64),by decide, ?_,by simp;omega, ?_⟩
  ·rw[e2,zE3]
   refine⟨f.1, ?_⟩
   rcases f.2 with h|⟨g,cap,cur,e,hg,h⟩
   ·exact .inl h
   ·exact .inr ⟨g,cap,cur,e,zK3 hB hg,h⟩
  ·refine⟨by simp,λi row hi=> ?_,λi row j p hi hj=> ?_⟩
   ·rw[zC7]at hi
    obtain⟨x,_,rfl⟩:=zC1.1 hi
    rfl
   ·rw[zC7]at hi
    obtain⟨x,hx,rfl⟩:=zC1.1 hi
    cases j with
    |zero=>
     simp at hj
     subst hj
     exact⟨.int .i64 x,by simp[hx],.val rfl⟩
    |succ j=>simp at hj)
 refine⟨_,ι',rfl,k1,.tup rfl λi x hi=> ?_⟩
 match i with
 |0=>
  simp at hi
  subst hi
  show aT _ _ _ _ _ v
  rw[←k2]
  exact .c (.ref (zF6 _) (by
   rw[k2]
   rcases f.2 with⟨e,_⟩|⟨g,cap,cur,e,_⟩
   ·exact⟨_,_,_,e⟩
   ·exact⟨_,_,_,e⟩))
 |1=>
  simp at hi
  subst hi
  exact .c (.pure (.val rfl))
 |i+2=>simp at hi
theorem Is (h0:0≤at') (h1:at'<size xs):ac Pa0 49 [aF xs,I at'] (.tup [aF (au xs at'),Go.Abs.B true]):=
 bJ.toP (NJ h0 h1 [] 0) (by simp[SV,bk,cK,c8,cQ,ar])
end Go.Proofs.YtigdjhnndaokjaaGreatDoor
