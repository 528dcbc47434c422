import Derived.Test.YtigdjhnndaokjaaGreatDoorRows
import Derived.WalkKit
import Derived.WalkSpells
import Derived.Lib.Hide
import Derived.Deep.QuietTactic
import Derived.BigQuiet
import Derived.Test.YtigdjhnndaokjaaGreatDoorPlain09
set_option linter.unusedVariables false
set_option linter.unusedSimpArgs false
open Go.Proofs.Tryz renaming prog→Pa0
namespace Go.Proofs.YtigdjhnndaokjaaGreatDoor
open Go.RowKit
def Tx (a:Option Addr) (k:Nat):Addr:=match a with|some p=>p.add k|none=>⟨0,0,none⟩
theorem R0 (b off k:Nat):(⟨b,off,none⟩:Addr).add k=⟨b,off+k,none⟩:=by
 unfold Addr.add
 split<;>simp_all
theorem ZA (b off k:Nat):Tx (some ⟨b,off,none⟩) k=⟨b,off+k,none⟩:=R0 b off k
structure aeg (w:World) (a:Option Addr) (cs:List Value):Prop where
 some: ∀k,k<cs.length→ ∃b off,a= .some ⟨b,off,none⟩
 cell: ∀k,k<cs.length→w.cell? (Tx a k)=cs[k]?
def A3 (w w':World):Prop:=Below w.heap.size w w'
theorem A3.refl (w:World):A3 w w:=Below.refl _ _
variable {b:World}
theorem A3.trans {a c:World} (h:A3 a b) (k:A3 b c):A3 a c:=Below.trans h (Below.mono k (Below.size h))
theorem A3.drew {a:World} (h:A3 a b):A3 a b.drew:=Below.drew h
theorem A3.drewN {a:World} (h:A3 a b) (n:Nat):A3 a (b.drewN n):=h.trans ⟨rfl,rfl,rfl,Nat.le_refl _,λ_ _=>rfl⟩
theorem A3.alloc {a:World} (h:A3 a b) (o:Obj):A3 a (b.alloc o):=Below.alloc h (Below.size h) o
theorem A3.size {a:World} (h:A3 a b):a.heap.size≤b.heap.size:=Below.size h
theorem A3.below {a:World} (h:A3 a b):Below a.heap.size a b:=h
variable {a:Option Addr}{w:World}{cs:List Value}
theorem aeg.block (h:aeg w a cs) (k:Nat) (hk:k<cs.length):(Tx a k).block<w.heap.size:=
 World.block_lt_of_cell? w _ (u:=cs[k]) (by rw[h.cell k hk,List.getElem?_eq_getElem hk])
theorem aeg.ext {w w':World} {a:Option Addr} {cs:List Value} (h:aeg w a cs) (hb:A3 w w'):aeg w' a cs:=
 ⟨h.some,λk hk=>(Below.cell hb (h.block k hk)).trans (h.cell k hk)⟩
structure ade (w:World) (a:Option Addr) (xs:List Int):Prop where
 len:xs.length≤9223372036854775807
 cells:aeg w a (xs.map (.int .i64))
variable {xs:List Int}
theorem ade.cell (h:ade w a xs) (k:Nat) (hk:k<xs.length):w.cell? (Tx a k)=some (.int .i64 (xs[k]?.getD 0)):=by
 rw[h.cells.cell k (by simpa using hk)]
 simp[List.getElem?_eq_getElem hk]
theorem ade.ext {w w':World} {a:Option Addr} {xs:List Int} (h:ade w a xs) (hb:A3 w w'):ade w' a xs:=⟨h.len,h.cells.ext hb⟩
theorem ade.nil (w:World):ade w none []:=⟨by simp,⟨λk hk=>by simp at hk,λk hk=>by simp at hk⟩⟩
def vv (w:World) (v:Value) (xs:List Int):Prop:= ∃a c,v= .slice a xs.length c∧xs.length≤c∧ade w a xs
theorem vv.ext {w w':World} {v:Value} {xs:List Int} (h:vv w v xs) (hb:A3 w w'):vv w' v xs:=by
 obtain⟨a,c,e,hc,h⟩:=h
 exact⟨a,c,e,hc,h.ext hb⟩
theorem vv.nil (w:World):vv w (.slice none 0 0) []:=⟨none,0,rfl,Nat.le_refl _,ade.nil w⟩
variable {v:Value}
theorem vv.open (h:vv w v xs): ∃a n c,Hid (n=xs.length)∧n≤c∧v= .slice a n c∧ade w a xs:=by
 obtain⟨a,c,rfl,hc,h⟩:=h
 exact⟨a,_,c,rfl,hc,rfl,h⟩
theorem vv.mk {w:World} {a:Option Addr} {n c:Nat} {xs:List Int} (hn:n=xs.length) (hc:n≤c) (h:ade w a xs):vv w (.slice a n c) xs:=by
 subst hn
 exact⟨a,c,rfl,hc,h⟩
theorem afr (a:Option Addr) (l k:Nat) (h: ∃b off,a=some ⟨b,off,none⟩):Tx (a.map (·.add l)) k=Tx a (l+k):=by
 obtain⟨b,off,rfl⟩:=h
 simp only[Option.map_some,Tx,R0,Nat.add_assoc]
variable {c n:Nat}
theorem vv.from {l:Nat} (hn:n=xs.length) (hc:n≤c) (hl:l≤n) (h:ade w a xs):vv w (.slice (if c=l then a else a.map (·.add l)) (n-l) (c-l)) (xs.drop l):=by
 subst hn
 refine vv.mk (by simp) (by omega) ⟨by have:=h.len;simp;omega,⟨λk hk=> ?_,λk hk=> ?_⟩⟩
 ·simp at hk
  obtain⟨b,off,e⟩:=h.cells.some (l+k) (by simp;omega)
  rw[if_neg (by omega),e]
  exact⟨b,off+l,by simp[R0]⟩
 ·simp at hk
  rw[if_neg (by omega),afr a l k (h.cells.some (l+k) (by simp;omega)),h.cells.cell (l+k) (by simp;omega)]
  simp[Nat.add_comm]
theorem aaG {k:IntKind} {a b:Int} (h:a=b):Ending.returned (.int k a)= .returned (.int k b):=by rw[h]
theorem UT:(Tryz.prog.info? 3).map (λi=>(i.zero,i.size,i.bytes))=some (some (.int .i64 0),1,8):=by kernel_rfl
def Own (w:World) (B:Nat) (v:Value) (xs:List Int):Prop:=w.ownsRow B 3 1 v xs.length (xs.map (.int .i64))
theorem A3.grown {w':World} (h:A3 w w'):w.grownBy w' none:=⟨Below.os h,Below.tape h,Below.output h,Below.size h,λk hk _=>Below.block h k hk⟩
theorem Own.ext {w w':World} {B:Nat} {v:Value} {xs:List Int} (h:Own w B v xs) (hb:A3 w w'):Own w' B v xs:=
 World.ownsRow.kept h hb.grown (by cases v.ownBlock<;>simp)
theorem Own.nil (w:World) (B:Nat):Own w B (.slice none 0 0) []:=World.ownsRow_nil _ _ _ _
variable {B g:Nat}
theorem Own.cell (hn:n=xs.length) (h:Own w B (.slice (some ⟨g,0,none⟩) n c) xs) (k:Nat) (hk:k<n):w.cell? ⟨g,k,none⟩=some (.int .i64 (xs[k]?.getD 0)):=by
 subst hn
 rw[World.ownsRow.cellAt h k (by simpa using hk)]
 simp[List.getElem?_eq_getElem hk]
theorem Own.free (hn:n=xs.length) (h:Own w B (.slice (some ⟨g,0,none⟩) n c) xs) (k:Nat):w.frozen? ⟨g,k,none⟩=false:=by
 subst hn
 exact World.ownsRow.frozenAt h k
theorem Own.store (hn:n=xs.length) (h:Own w B (.slice (some ⟨g,0,none⟩) n c) xs) (k:Nat) (x:Int):Own (w.setCell ⟨g,k,none⟩ (.int .i64 x)) B (.slice (some ⟨g,0,none⟩) n c) (xs.set k x):=by
 subst hn
 have:=(World.ownsRow.stored h k (.int .i64 x)).1
 rw[←List.map_set]at this
 unfold Own
 simpa using this
variable {p:Addr}
theorem A3.setCell {W:World} (h:A3 W w) (hp:W.heap.size≤p.block) (u:Value):A3 W (w.setCell p u):=Below.setCell h hp u
theorem Tg {W:World} {ops:Array Oper} {rest:List Oper} {o:Oper} {a:Act} {Q:Exit→Act→World→Prop} (hg:o.guard=none) (s y:Operand)
  (Z:o.op=Op.call {callee:=Callee.builtin Builtin.append,args:= #[s,y],argTypes:= #[70,70]})
  (hs:a.eval s= .slice (some ⟨w.heap.size,0,none⟩) 0 0) (hy:a.eval y= .slice (some p) n c) (hn:n=xs.length) (h:ade w (some p) xs) (hm:n≤17592186044416) (hW:A3 W w)
  (hK: ∀w' v',Own w' W.heap.size v' xs→A3 W w'→wpList Pa0 ops Q rest (a.put o.dst v') w'):
  wpList Pa0 ops Q (o::rest) a (w.alloc (.cells #[] 3)):=by
 subst hn
 obtain⟨i0,hi,D,C,L⟩:=info_parts UT
 have O:=World.ownsRow_lit (e:=3) (size:=1) w #[] 0 hW.size (by unfold maxLen;omega) rfl
 have hb:=(A3.refl w).alloc (.cells #[] 3)
 refine wpList_append_own _ hg s y 70 Z W.heap.size 3 i0 (.int .i64 0) 1 8 Tryz.underlying70 hi D C L rfl (by decide) _ 0 [] hs O p xs.length c (xs.map (.int .i64)) hy (by simp) ?_ (ints_oneCell _ _) (by unfold maxLen;omega) (by omega) (by have:=hW.size;simp;omega) λv' w' h1 h2 _=> ?_
 ·intro j u hu
  have hj:j<(xs.map (Value.int .i64)).length:=(List.getElem?_eq_some_iff.1 hu).1
  have:=(h.ext hb).cells.cell j hj
  rw[hu]at this
  exact this
 ·refine hK w' v' ?_ (Below.grown (hW.alloc _) h2 (by have:=hW.size;simp;omega) ?_)
  ·unfold Own
   simpa using h1
  ·intro k hk
   have:=(World.ownsRow.lt O k hk).1
   exact this
theorem qx (h:ade w a xs) (n c:Nat) (hn:n=xs.length) (u:World) (k:Int) (h0:0≤k) (h1:k<n):
  (Instr.indexAt 70 (.slice a n c) (.int .i64 k)).run Pa0 u= .ok (.pointer (some (Tx a k.toNat))) u:=by
 subst hn
 obtain⟨b,off,rfl⟩:=h.cells.some k.toNat (by simp;omega)
 simp only[Tx,R0]
 go_simp
def Arr (w:World) (g:Nat) (T:TypeId) (cs:List Value):Prop:=w.heap[g]? =some (.cells cs.toArray T (0,0))
variable {T:TypeId}
theorem Arr.lt (h:Arr w g T cs):g<w.heap.size:=(Array.getElem?_eq_some_iff.1 h).1
theorem Arr.below {w':World} (h:Arr w g T cs) (hb:Below B w w') (hg:g<B):Arr w' g T cs:=(hb.block g hg).trans h
theorem Arr.ext {w w':World} {g:Nat} {T:TypeId} {cs:List Value} (h:Arr w g T cs) (hb:A3 w w'):Arr w' g T cs:=h.below hb h.lt
theorem Arr.cell (h:Arr w g T cs) (k:Nat):w.cell? ⟨g,k,none⟩=cs[k]? :=by
 rw[cell_of_row w g k _ T (0,0) h]
 simp
theorem Arr.int {w:World} {g:Nat} {T:TypeId} {xs:List Int} (h:Arr w g T (xs.map (.int .i64))) {k:Nat} (hk:k<xs.length):w.cell? ⟨g,k,none⟩=some (.int .i64 (xs[k]?.getD 0)):=by
 rw[h.cell,List.getElem?_map,List.getElem?_eq_getElem hk]
 rfl
theorem Arr.free (h:Arr w g T cs) (k:Nat):w.frozen? ⟨g,k,none⟩=false:=frozen_of_row w g k _ T h
theorem Arr.store (h:Arr w g T cs) (k:Nat) (u:Value):Arr (w.setCell ⟨g,k,none⟩ u) g T (cs.set k u):=by
 have:=heap_setCell_same w g k _ T u h
 unfold Arr
 rw[this]
 simp
theorem Arr.alloc (h:Arr w g T cs) (o:Obj):Arr (w.alloc o) g T cs:=h.ext ((A3.refl w).alloc o)
theorem Arr.drewN (h:Arr w g T cs) (n:Nat):Arr (w.drewN n) g T cs:=h.ext ((A3.refl w).drewN n)
theorem Arr.new (w:World) (cs:Array Value) (T:TypeId):Arr (w.alloc (.cells cs T)) w.heap.size T cs.toList:=by
 unfold Arr
 rw[heap_alloc_new]
theorem Arr.isInts' {zs:List Int} (h:Arr w g T ((xs++zs).map (.int .i64))) (hn:n=xs.length) (hc:n≤c) (hl:n≤9223372036854775807):vv w (.slice (some ⟨g,0,none⟩) n c) xs:=by
 subst hn
 refine vv.mk rfl hc ⟨hl,λk _=>⟨g,0,rfl⟩,λk hk=> ?_⟩
 rw[ZA,Nat.zero_add,h.cell,List.map_append,List.getElem?_append_left hk]
theorem Own.open (h:Own w B v xs): ∃a n c,Hid (n=xs.length)∧n≤c∧v= .slice a n c:=by
 rcases h.2 with⟨rfl,hn⟩|⟨g,cap,cur,rfl,hb,hg,G,hE,hF,hA⟩
 ·exact⟨none,0,0,hn.symm,Nat.le_refl _,rfl⟩
 ·exact⟨_,_,cap,rfl,G,rfl⟩
variable {k:Nat}
theorem Own.at (hn:n=xs.length) (h:Own w B (.slice a n c) xs) (hk:k<n):
  w.cell? (Tx a k)=some (.int .i64 (xs[k]?.getD 0))∧w.frozen? (Tx a k)=false∧B≤(Tx a k).block∧ ∀x,Own (w.setCell (Tx a k) (.int .i64 x)) B (.slice a n c) (xs.set k x):=by
 have h':=h
 rcases h.2 with⟨h1,h2⟩|⟨g,cap,cur,h1,hb,_⟩
 ·omega
 ·simp only[Value.slice.injEq]at h1
  obtain⟨rfl,_,rfl⟩:=h1
  rw[ZA,Nat.zero_add]
  exact⟨h'.cell hn k hk,h'.free hn k,hb,λx=>h'.store hn k x⟩
theorem JC {α:Type} (k:Nat) (x y:α) (l:List α):(List.replicate (k+1) x++l).set k y=List.replicate k x++y::l:=by
 rw[List.replicate_succ',List.append_assoc,List.set_append_right _ _ (by simp)]
 simp
theorem zU {at' z:Int} (hz:z=at'/bl (xs.drop (k+1))):z%xs[k]?.getD 0=Kv xs at' k:=by rw[hz];rfl
def Wf (xs ps:List Int) (k:Nat):Prop:= ∀j,j<k→0≤ps[j]?.getD 0∧ps[j]?.getD 0<xs[j]?.getD 0
theorem Wf.zero (xs ps:List Int):Wf xs ps 0:= λj hj=>by omega
theorem Wf.succ {ps:List Int} (h:Wf xs ps k) (h1:0≤ps[k]?.getD 0) (h2:ps[k]?.getD 0<xs[k]?.getD 0):Wf xs ps (k+1):= λj hj=>by
 by_cases e:j=k
 ·subst e;exact⟨h1,h2⟩
 ·exact h j (by omega)
def acz (w:World) (ys:List Int) (e:Ending) (w':World):Prop:= ∃v,e= .returned v∧Own w' w.heap.size v ys∧A3 w w'
set_option maxHeartbeats 1000000 in
theorem Ed (hv:vv w v xs) (hm:xs.length≤17592186044416):
  Calls Pa0 53 #[v] w (acz w xs):=by
 obtain⟨a,n,c,HN,G,rfl,h⟩:=hv.open
 obtain⟨i0,hi,D,C,L⟩:=info_parts UT
 have hD:=Lib.run_eql_slice_nil (P:=Pa0)
 cases a with
 |none=>
  have hx:xs= []:=by
   cases xs with
   |nil=>rfl
   |cons x r=>obtain⟨b,off,e⟩:=h.cells.some 0 (by simp);cases e
  have H:=Lib.hid hx
  clear hx
  go_enter Tryz.func53,Tryz.ntmps53
  go_wp2
  go_ret
  exact⟨_,rfl,by rw[H.out];exact Own.nil _ _,A3.refl w⟩
 |some p=>
  go_enter Tryz.func53,Tryz.ntmps53
  go_wp2_with (at_builtin;refine Tg rfl _ _ rfl rfl rfl HN.out h (by rw[HN.out];exact hm) (A3.refl w) ?_;intro w2 v2 R V)
  go_ret
  exact⟨_,rfl,R,V⟩
set_option maxHeartbeats 2000000 in
theorem Fg (hv:vv w v xs):
  Calls Pa0 46 #[v] w λe w'=>e= .returned (.int .i64 (bval xs))∧w=w':=by
 obtain⟨a,n,c,HN,G,rfl,h⟩:=hv.open
 have X:=qx h n c HN
 have hl:=h.len
 have HC:Hid (∀k,k<n→w.cell? (Tx a k)=some (.int .i64 (xs[k]?.getD 0))):=by have:=h.cell;rw[←HN.out]at this;exact this
 rw[←HN.out]at hl
 by_cases E:16<n
 ·go_enter Tryz.func46,Tryz.ntmps46
  go_wp2
  go_ret
  exact⟨aaG (MM (by rw[←HN.out];exact E)).symm,rfl⟩
 ·have H16:Hid (¬16<xs.length):=by show ¬_;rw[←HN.out];exact E
  go_enter Tryz.func46,Tryz.ntmps46
  go_wp2
  go_loop [14,4] (λi e=> ∃(k:Nat) (b:Bool),k≤n∧i= .int .i64 k∧e= .bool b∧Hid (b=kQ (xs.take k))∧Hid (∀j,j<k→0≤xs[j]?.getD 0)) (λi _=>n-(intOf i).toNat)
  case atStart=>exact⟨0,false,Nat.zero_le _,rfl,rfl,rfl,λj hj=>by omega⟩
  case round=>
   obtain⟨k,b,hk,rfl,rfl,hb,A⟩:=hrel
   have f:k<n→w.cell? (Tx a k)=some (.int .i64 (xs[k]?.getD 0)):=HC.out k
   by_cases d:k<n
   ·have Hk:Hid (k<xs.length):=by show _<_;rw[←HN.out];exact d
    by_cases h1:xs[k]?.getD 0<0
    ·go_wp2
     go_ret
     exact⟨aaG (Ti H16.out Hk.out h1).symm,rfl⟩
    ·have HB:Hid (kQ (xs.take (k+1))=(b||(xs[k]?.getD 0==0))):=by
      show _=_
      rw[kQ,AF _ Hk.out,hb.out,List.getElem?_eq_getElem Hk.out]
      rfl
     have HP:Hid (∀j,j<k+1→0≤xs[j]?.getD 0):= λj hj=>by
      by_cases e:j=k
      ·subst e;omega
      ·exact A.out j (by omega)
     cases b with
     |true=>
      go_wp2
      go_round
      case rel=>exact⟨k+1,true,by omega,by go_num,rfl,by rw[Hid,HB.out];rfl,HP⟩
      case measure=>simp[intOf];omega
     |false=>
      by_cases t:xs[k]?.getD 0=0
      ·have m:(xs[k]?.getD 0==0)=true:=by rw[t];rfl
       have HX:=Lib.hid m
       go_wp2
       go_round
       case rel=>exact⟨k+1,true,by omega,by go_num,rfl,by rw[Hid,HB.out,HX.out];rfl,HP⟩
       case measure=>simp[intOf];omega
      ·have m:(xs[k]?.getD 0==0)=false:=beq_eq_false_iff_ne.2 t
       have HX:=Lib.hid m
       go_wp2
       go_round
       case rel=>exact⟨k+1,false,by omega,by go_num,rfl,by rw[Hid,HB.out,HX.out];rfl,HP⟩
       case measure=>simp[intOf];omega
   ·have H0:Hid (∀x∈xs,0≤x):=Gx HN.out λj hj=>A.out j (by omega)
    have HB:Hid (kQ xs=b):=by rw[Hid,hb.out,List.take_of_length_le (by rw[←HN.out];omega)]
    clear A f E hb
    cases b with
    |true=>
     have D:Hid (bval xs=0):=Po H16.out H0.out HB.out
     go_wp2
     go_loop [28] (λi=> ∃(k:Nat),k≤n∧i= .int .i64 k) (λi=>n-(intOf i).toNat)
     case atStart=>exact⟨0,Nat.zero_le _,rfl⟩
     case round=>
      obtain⟨k,hk,rfl⟩:=hrel
      by_cases d:k<n
      ·have f:=HC.out k d
       go_wp2
       go_round
       case rel=>exact⟨k+1,by omega,by go_num⟩
       case measure=>simp[intOf];omega
      ·go_wp2
       go_ret
       exact⟨aaG D.out.symm,rfl⟩
    |false=>
     have Y:Hid (bval xs=eL 65536 (xs.drop 0) 1):=Ej H16.out H0.out HB.out
     have H1:Hid (∀x∈xs,1≤x):=Ct H0.out HB.out
     go_wp2
     go_loop [28,3] (λi s=> ∃(k:Nat) (z:Int),k≤n∧i= .int .i64 k∧s= .int .i64 z∧1≤z∧z≤65536∧Hid (bval xs=eL 65536 (xs.drop k) z)) (λi _=>n-(intOf i).toNat)
     case atStart=>exact⟨0,1,Nat.zero_le _,rfl,rfl,by omega,by omega,Y⟩
     case round=>
      obtain⟨k,z,hk,rfl,rfl,C,L,hz⟩:=hrel
      by_cases d:k<n
      ·have Hk:Hid (k<xs.length):=by show _<_;rw[←HN.out];exact d
       have f:=HC.out k d
       have m:1≤xs[k]?.getD 0:=qj H1.out Hk.out
       have K:Hid (_=_):=GU (M:=65536) z Hk.out
       by_cases h1:65536/z<xs[k]?.getD 0
       ·skip
        go_wp2
        go_ret
        exact⟨aaG (by rw[hz.out,K.out,if_pos h1]),rfl⟩
       ·have HN1:=Lib.hid h1
        have hq:=Q0 C h1
        have N:=eJ C m
        skip
        go_wp2
        go_round
        case rel=>exact⟨k+1,_,by omega,by go_num,rfl,N,hq,by rw[Hid,hz.out,K.out];first|rw[if_neg HN1.out]|rw[if_neg (Int.not_lt.2 HN1.out)]⟩
        case measure=>simp[intOf];omega
      ·go_wp2
       go_ret
       exact⟨aaG (by rw[hz.out,ES];rw[←HN.out];omega),rfl⟩
set_option maxHeartbeats 2000000 in
theorem zb (hv:vv w v xs):
  Calls Pa0 68 #[v] w λe w'=>e= .returned (.int .i64 (bval xs))∧A3 w w':=by
 obtain⟨a,n,c,HN,G,rfl,h⟩:=hv.open
 have X:=qx h n c HN
 have hl:=h.len
 have HC:Hid (∀k,k<n→w.cell? (Tx a k)=some (.int .i64 (xs[k]?.getD 0))):=by have:=h.cell;rw[←HN.out]at this;exact this
 rw[←HN.out]at hl
 by_cases E:16<n
 ·go_enter Tryz.func68,Tryz.ntmps68
  go_wp2
  go_ret
  exact⟨aaG (MM (by rw[←HN.out];exact E)).symm,A3.refl w⟩
 ·have H16:Hid (¬16<xs.length):=by show ¬_;rw[←HN.out];exact E
  go_enter Tryz.func68,Tryz.ntmps68
  go_wp2
  go_loop [4,3] (λi e=> ∃(k:Nat) (b:Bool),k≤n∧i= .int .i64 k∧e= .bool b∧Hid (b=kQ (xs.take k))∧Hid (∀j,j<k→0≤xs[j]?.getD 0)) (λi _=>n-(intOf i).toNat)
  case atStart=>exact⟨0,false,Nat.zero_le _,rfl,rfl,rfl,λj hj=>by omega⟩
  case round=>
   obtain⟨k,b,hk,rfl,rfl,hb,A⟩:=hrel
   have f:k<n→w.cell? (Tx a k)=some (.int .i64 (xs[k]?.getD 0)):=HC.out k
   by_cases d:k<n
   ·have Hk:Hid (k<xs.length):=by show _<_;rw[←HN.out];exact d
    by_cases h1:xs[k]?.getD 0<0
    ·go_wp2
     go_ret
     exact⟨aaG (Ti H16.out Hk.out h1).symm,A3.refl w⟩
    ·have HB:Hid (kQ (xs.take (k+1))=(b||(xs[k]?.getD 0==0))):=by
      show _=_
      rw[kQ,AF _ Hk.out,hb.out,List.getElem?_eq_getElem Hk.out]
      rfl
     have HP:Hid (∀j,j<k+1→0≤xs[j]?.getD 0):= λj hj=>by
      by_cases e:j=k
      ·subst e;omega
      ·exact A.out j (by omega)
     cases b with
     |true=>
      go_wp2
      go_round
      case rel=>exact⟨k+1,true,by omega,by go_num,rfl,by rw[Hid,HB.out];rfl,HP⟩
      case measure=>simp[intOf];omega
     |false=>
      by_cases t:xs[k]?.getD 0=0
      ·have m:(xs[k]?.getD 0==0)=true:=by rw[t];rfl
       have HX:=Lib.hid m
       go_wp2
       go_round
       case rel=>exact⟨k+1,true,by omega,by go_num,rfl,by rw[Hid,HB.out,HX.out];rfl,HP⟩
       case measure=>simp[intOf];omega
      ·have m:(xs[k]?.getD 0==0)=false:=beq_eq_false_iff_ne.2 t
       have HX:=Lib.hid m
       go_wp2
       go_round
       case rel=>exact⟨k+1,false,by omega,by go_num,rfl,by rw[Hid,HB.out,HX.out];rfl,HP⟩
       case measure=>simp[intOf];omega
   ·have H0:Hid (∀x∈xs,0≤x):=Gx HN.out λj hj=>A.out j (by omega)
    have HB:Hid (kQ xs=b):=by rw[Hid,hb.out,List.take_of_length_le (by rw[←HN.out];omega)]
    clear A f E hb
    cases b with
    |true=>
     have D:Hid (bval xs=0):=Po H16.out H0.out HB.out
     go_wp2
     go_loop [6] (λi=> ∃(k:Nat),k≤n∧i= .int .i64 k) (λi=>n-(intOf i).toNat)
     case atStart=>exact⟨0,Nat.zero_le _,rfl⟩
     case round=>
      obtain⟨k,hk,rfl⟩:=hrel
      by_cases d:k<n
      ·go_wp2
       go_ret
       exact⟨aaG D.out.symm,A3.refl w⟩
      ·go_wp2
       go_ret
       exact⟨aaG D.out.symm,A3.refl w⟩
    |false=>
     have Y:Hid (bval xs=eL 65536 (xs.drop 0) 1):=Ej H16.out H0.out HB.out
     have H1:Hid (∀x∈xs,1≤x):=Ct H0.out HB.out
     go_wp2
     go_loopw [6,5] (λi s wr=> ∃(k:Nat) (z:Int),k≤n∧i= .int .i64 k∧s= .int .i64 z∧1≤z∧z≤65536∧Hid (bval xs=eL 65536 (xs.drop k) z)∧A3 w wr) (λi _ _=>n-(intOf i).toNat)
     case atStart=>exact⟨0,1,Nat.zero_le _,rfl,rfl,by omega,by omega,Y,A3.refl w⟩
     case round=>
      obtain⟨k,z,hk,rfl,rfl,C,L,hz,hx⟩:=hrel
      by_cases d:k<n
      ·have Hk:Hid (k<xs.length):=by show _<_;rw[←HN.out];exact d
       have f:=(h.ext hx).cell k Hk.out
       have m:1≤xs[k]?.getD 0:=qj H1.out Hk.out
       have K:Hid (_=_):=GU (M:=65536) z Hk.out
       by_cases h1:65536/z<xs[k]?.getD 0
       ·have N:IntKind.i64.wrap ((65536:Int).tdiv z)=65536/z:=IntWalk.i64_quo 65536 z ⟨by omega,by omega,by omega⟩
        go_wp2
        go_quiet (fail)
        go_wp2
        go_ret
        exact⟨aaG (by rw[hz.out,K.out,if_pos h1]),hx.drewN _⟩
       ·have HN1:=Lib.hid h1
        have hq:=Q0 C h1
        have N:=eJ C m
        have hG:IntKind.i64.wrap ((65536:Int).tdiv z)=65536/z:=IntWalk.i64_quo 65536 z ⟨by omega,by omega,by omega⟩
        go_wp2
        go_quiet (fail)
        go_wp2
        go_roundw
        case rel=>exact⟨k+1,_,by omega,by go_num,rfl,N,hq,by rw[Hid,hz.out,K.out];first|rw[if_neg HN1.out]|rw[if_neg (Int.not_lt.2 HN1.out)],hx.drewN _⟩
        case measure=>simp[intOf];omega
      ·go_wp2
       go_ret
       exact⟨aaG (by rw[hz.out,ES];rw[←HN.out];omega),hx⟩
set_option maxHeartbeats 2000000 in
theorem WD (hv:vv w v xs):
  Calls Pa0 227 #[v] w λe w'=>e= .returned (.int .i64 (dI xs))∧w=w':=by
 obtain⟨a,n,c,HN,G,rfl,h⟩:=hv.open
 have X:=qx h n c HN
 have hl:=h.len
 have HC:Hid (∀k,k<n→w.cell? (Tx a k)=some (.int .i64 (xs[k]?.getD 0))):=by have:=h.cell;rw[←HN.out]at this;exact this
 rw[←HN.out]at hl
 by_cases h0:bval xs=0
 ·have H0:=Lib.hid h0
  have HS:Hid (dI xs=bl xs):=mh h0
  have hb:=Dy h0
  go_enter Tryz.func227,Tryz.ntmps227
  go_wp2_with (go_at_call 46;refine(Fg hv).mono ?_;rintro e w' ⟨rfl,rfl⟩)
  go_loop [13] (λi=> ∃(k:Nat),k≤n∧i= .int .i64 k∧Hid (∀j,j<k→ ¬xs[j]?.getD 0=0)) (λi=>n-(intOf i).toNat)
  case atStart=>exact⟨0,Nat.zero_le _,rfl,λj hj=>by omega⟩
  case round=>
   obtain⟨k,hk,rfl,J⟩:=hrel
   by_cases d:k<n
   ·have Hk:Hid (k<xs.length):=by show _<_;rw[←HN.out];exact d
    have f:=HC.out k d
    by_cases t:xs[k]?.getD 0=0
    ·have m:(xs[k]?.getD 0==0)=true:=by rw[t];rfl
     have HZ:Hid (dI xs=0):=by rw[Hid,HS.out,uh (Yp Hk.out t)]
     go_wp2
     go_ret
     exact⟨aaG HZ.out.symm,rfl⟩
    ·have HX:=Lib.hid t
     have m:(xs[k]?.getD 0==0)=false:=beq_eq_false_iff_ne.2 t
     go_wp2
     go_round
     case rel=>exact⟨k+1,by omega,by go_num,λj hj=>by
      by_cases e:j=k
      ·subst e;exact HX.out
      ·exact J.out j (by omega)⟩
     case measure=>simp[intOf];omega
   ·have hp:=hb.bound (Lb HN.out λj hj=>J.out j (by omega))
    go_wp2
    clear J
    go_loop [22,3] (λi s=> ∃(k:Nat) (z:Int),k≤n∧i= .int .i64 k∧s= .int .i64 z∧Hid (z=bl (xs.take k))) (λi _=>n-(intOf i).toNat)
    case atStart=>exact⟨0,1,Nat.zero_le _,rfl,rfl,rfl⟩
    case round=>
     obtain⟨k,z,hk,rfl,rfl,hz⟩:=hrel
     by_cases d:k<n
     ·have f:=HC.out k d
      have F:z*xs[k]?.getD 0=bl (xs.take (k+1)):=by rw[ii (by rw[←HN.out];exact d),hz.out]
      have hb:=hp.take_le (k+1)
      rw[←F]at hb
      have Hz:=Lib.hid F
      clear F
      obtain⟨hB,hC⟩:=hb
      go_wp2
      go_round
      case rel=>exact⟨k+1,_,by omega,by go_num,rfl,Hz⟩
      case measure=>simp[intOf];omega
     ·go_wp2
      go_ret
      exact⟨aaG (by rw[HS.out,hz.out,List.take_of_length_le (by rw[←HN.out];omega)]),rfl⟩
 ·have HS:Hid (_=_):=uX h0
  go_enter Tryz.func227,Tryz.ntmps227
  go_wp2_with (go_at_call 46;refine(Fg hv).mono ?_;rintro e w' ⟨rfl,rfl⟩)
  go_ret
  exact⟨aaG HS.out.symm,rfl⟩
set_option maxHeartbeats 2000000 in
theorem Tb (hv:vv w v xs):
  Calls Pa0 128 #[v] w λe w'=>e= .returned (.int .i64 (dI xs))∧A3 w w':=by
 obtain⟨a,n,c,HN,G,rfl,h⟩:=hv.open
 have X:=qx h n c HN
 have hl:=h.len
 rw[←HN.out]at hl
 by_cases h0:bval xs=0
 ·have H0:=Lib.hid h0
  have HS:Hid (dI xs=bl xs):=mh h0
  have hb:=Dy h0
  go_enter Tryz.func128,Tryz.ntmps128
  go_wp2_with fail
  refine(zb hv).mono ?_
  rintro e w1 ⟨rfl,m⟩
  have HC:Hid (∀k,k<n→w1.cell? (Tx a k)=some (.int .i64 (xs[k]?.getD 0))):= λk hk=>(h.ext m).cell k (by rw[←HN.out];exact hk)
  go_wp2
  by_cases hz:kQ xs=true
  ·have HZ:Hid (dI xs=0):=by rw[Hid,HS.out,uh hz]
   have HH:=Lib.hid hz
   clear hz
   go_loop [4,3] (λi s=> ∃(k:Nat) (z:Int),k≤n∧i= .int .i64 k∧s= .int .i64 z∧Hid (∀j,j<k→ ¬xs[j]?.getD 0=0)) (λi _=>n-(intOf i).toNat)
   case atStart=>exact⟨0,1,Nat.zero_le _,rfl,rfl,λj hj=>by omega⟩
   case round=>
    obtain⟨k,z,hk,rfl,rfl,J⟩:=hrel
    by_cases d:k<n
    ·have f:=HC.out k d
     by_cases t:xs[k]?.getD 0=0
     ·have m:(xs[k]?.getD 0==0)=true:=by rw[t];rfl
      go_wp2
      go_ret
      exact⟨aaG HZ.out.symm,‹A3 w w1›⟩
     ·have HX:=Lib.hid t
      have m:(xs[k]?.getD 0==0)=false:=beq_eq_false_iff_ne.2 t
      go_wp2
      go_round
      case rel=>exact⟨k+1,_,by omega,by go_num,rfl,λj hj=>by
       by_cases e:j=k
       ·subst e;exact HX.out
       ·exact J.out j (by omega)⟩
      case measure=>simp[intOf];omega
    ·have:=Lb HN.out λj hj=>J.out j (by omega)
     rw[HH.out]at this
     exact absurd this (by decide)
  ·have hp:=hb.bound (by simpa using hz)
   have HP:=hp.pos
   clear hz
   go_loop [4,3] (λi s=> ∃(k:Nat) (z:Int),k≤n∧i= .int .i64 k∧s= .int .i64 z∧Hid (z=bl (xs.take k))) (λi _=>n-(intOf i).toNat)
   case atStart=>exact⟨0,1,Nat.zero_le _,rfl,rfl,rfl⟩
   case round=>
    obtain⟨k,z,hk,rfl,rfl,hz⟩:=hrel
    by_cases d:k<n
    ·have f:=HC.out k d
     have hI:=(hp.get (show k<xs.length by rw[←HN.out];exact d)).1
     have m:(xs[k]?.getD 0==0)=false:=beq_eq_false_iff_ne.2 (by omega)
     have F:z*xs[k]?.getD 0=bl (xs.take (k+1)):=by rw[ii (by rw[←HN.out];exact d),hz.out]
     have hb:=hp.take_le (k+1)
     rw[←F]at hb
     have Hz:=Lib.hid F
     clear F
     obtain⟨hB,hC⟩:=hb
     go_wp2
     go_round
     case rel=>exact⟨k+1,_,by omega,by go_num,rfl,Hz⟩
     case measure=>simp[intOf];omega
    ·go_wp2
     go_ret
     exact⟨aaG (by rw[HS.out,hz.out,List.take_of_length_le (by rw[←HN.out];omega)]),‹A3 w w1›⟩
 ·have HS:Hid (_=_):=uX h0
  go_enter Tryz.func128,Tryz.ntmps128
  go_wp2_with (go_at_call 68;refine(zb hv).mono ?_;rintro e w' ⟨rfl,m⟩)
  go_ret
  exact⟨aaG HS.out.symm,m⟩
end Go.Proofs.YtigdjhnndaokjaaGreatDoor
