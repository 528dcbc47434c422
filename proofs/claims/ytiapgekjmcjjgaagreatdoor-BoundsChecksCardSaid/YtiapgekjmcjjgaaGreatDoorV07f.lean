import Derived.Test.YtiapgekjmcjjgaaGreatDoorV07b
import Derived.Test.YtiapgekjmcjjgaaGreatDoorAbs28
import Derived.Test.YtiapgekjmcjjgaaGreatDoorP17
set_option maxHeartbeats 4000000
set_option linter.unusedVariables false
set_option linter.unusedSimpArgs false
set_option maxRecDepth 1000000
open Go.Proofs.Tryz renaming prog→Ya
namespace Go.Proofs.YtiapgekjmcjjgaaGreatDoor
open Go.Abs Go.RowKit
abbrev M0 (nm:Nat) (f:Bool) (K:Int) (rows:List (List PC)) (B0 B1 B2:bk):List (Nat×bk):=
 [(nm,.arr 85 2 rows),(4,.var [.pure (pB f)]),(3,.var [.pure (pI K),.ref nm]),(2,B2),(1,B1),(0,B0)]
abbrev wr (x:Int):Int:=IntKind.wrap .i64 x
theorem gq {x y:Int} (hx:am x) (hy:am y) (hz:wr (x+y)=0) (n:ByteArray) (f:Bool) (K:Int) (rows:List (List PC)) (B0 B1 B2:bk):
  aw Ya 177 [S n,I x,I y,.c (.ptr 4 0),.c (.ptr 3 0)] (M0 5 f K rows B0 B1 B2) 6 (.tup []) (M0 5 (f&&decide (am (x+y))) K rows B0 B1 B2) 6:=by
 refine aw.of vK (by simp) λ_=>aa ?_
 have p:=od hx hy
 change IntKind.wrap .i64 (x+y)=0 at hz
 rw[hz]at p
 conv in bh _ _=>cbv
 generalize decide (am (x+y))=g at*
 cases f
 ·repeat' first|simp(disch:=omega)only[go_sem, *]|apply ab<;>intro h<;>try omega|refine aq p rfl rfl ?_
  all_goals simp
 ·repeat' first|simp(disch:=omega)only[go_sem, *]|apply ab<;>intro h<;>try omega|refine aq p rfl rfl ?_
  all_goals simp
theorem gv {x y:Int} (hx:am x) (hy:am y) (hz:wr (x+y)≠0) (n:ByteArray) (f:Bool) (K:Int) (rows:List (List PC)) (hr:rows.length≤4000000000) (B0 B1 B2:bk):
  aw Ya 177 [S n,I x,I y,.c (.ptr 4 0),.c (.ptr 3 0)] (M0 5 f K rows B0 B1 B2) 6 (.tup []) (M0 6 (f&&decide (am (x+y))) K (rows++ [[pS n,pI (wr (x+y))]]) B0 B1 B2) 7:=by
 refine aw.of vK (by simp) λ_=>aa ?_
 have p:=od hx hy
 change IntKind.wrap .i64 (x+y)≠0 at hz
 conv in bh _ _=>cbv
 generalize decide (am (x+y))=g at*
 simp only[wr]
 generalize IntKind.wrap .i64 (x+y)=z at*
 have HP: ¬z=0:=hz
 cases f
 ·repeat' first|simp(disch:=omega)only[go_sem, *,HP]|apply ab<;>intro h<;>try omega|refine aq p rfl rfl ?_|refine aA rfl (by intro h;cases h) (an rfl) (by simp;omega) (by simp;omega) ?_
  all_goals simp
 ·repeat' first|simp(disch:=omega)only[go_sem, *,HP]|apply ab<;>intro h<;>try omega|refine aq p rfl rfl ?_|refine aA rfl (by intro h;cases h) (an rfl) (by simp;omega) (by simp;omega) ?_
  all_goals simp
def np (T:List ME):List (List PC):=T.filterMap λt=>if wr (t.2.1+t.2.2)=0 then none else some [pS t.1,pI (wr (t.2.1+t.2.2))]
def wz (T:List ME):Bool:=T.all λt=>decide (am (t.2.1+t.2.2))
abbrev xv (k:Int) (l:List aR):bk:= .var [.pure (pI k),.pure (ay l)]
abbrev Mt:bk:= .var [.pure (pI 0),.nils]
abbrev T2 (f:Bool) (K:Int) (B0 B1 B2:bk):List (Nat×bk):= [(4,.var [.pure (pB f)]),(3,.var [.pure (pI K),.nils]),(2,B2),(1,B1),(0,B0)]
theorem wo (x:aR) (a:List aR):List.take a.length (List.map mP a)=List.map mP a:=List.take_of_length_le (by simp)
theorem BU {a b:List aR} (ha: ∀m∈a,am m.2) (hb: ∀m∈b,am m.2) (hs:a.length+b.length≤2000000000) (f:Bool) (K k1 k2:Int) (l1 l2:List aR):
  aw Ya 176 [.c (.pure (ay a)),.c (.pure (ay b)),.c (.clo 177 [.ptr 4 0,.ptr 3 0])] (T2 f K (xv k1 l1) (xv k2 l2) Mt) 5 (.tup []) (M0 5 (f&&wz (bQ a b)) K (np (bQ a b)) (xv k1 l1) (xv k2 l2) Mt) 6:=by
 refine aw.of FD (by simp) λ_=>aa ?_
 obtain⟨F,hF⟩: ∃F,F=(f&&wz (bQ a b)):=⟨_,rfl⟩
 obtain⟨R,hR⟩: ∃R,R=np (bQ a b):=⟨_,rfl⟩
 rw[←hF,←hR]
 have HF:=Lib.hid hF
 have HR:Hid (R= []++np (bQ a b)):=Lib.hid (by rw[hR];rfl)
 clear hF hR
 simp only[xk]
 repeat' first|simp(disch:=omega)only[go_sem, *]|apply ab<;>intro h<;>try omega
 refine ci 3 1 85 2 _ rfl rfl (by decide) ?_
 refine ai (λs:List aR×List aR×Bool×List (List PC)=>⟨[(0,.c (.pure (ay s.1))),(1,.c (.pure (ay s.2.1))),(2,.c (.clo 177 [.ptr 4 0,.ptr 3 0]))],M0 5 s.2.2.1 K s.2.2.2 (xv k1 l1) (xv k2 l2) Mt,6,5⟩)
  (λs=>(∀m∈s.1,am m.2)∧(∀m∈s.2.1,am m.2)∧s.2.2.2.length+s.1.length+s.2.1.length≤2000000000∧Hid (F=(s.2.2.1&&wz (bQ s.1 s.2.1)))∧Hid (R=s.2.2.2++np (bQ s.1 s.2.1))) (λs=>s.1.length+s.2.1.length) ⟨(a,b,f, []), [],⟨ha,hb,by simpa using hs,HF,HR⟩,by simp⟩ ?_
 clear ha hb hs HF HR
 rintro⟨a,b,f,rows⟩ ⟨ha,hb,hs,HF,HR⟩
 refine aa ?_
 simp only at ha hb hs HF HR
 have one: ∀{t:ME} {T:List ME} {f:Bool} {rows:List (List PC)},Hid (F=(f&&wz (t::T)))→Hid (R=rows++np (t::T))→
   Hid (F=((f&&decide (am (t.2.1+t.2.2)))&&wz T))∧(wr (t.2.1+t.2.2)=0→Hid (R=rows++np T))∧(wr (t.2.1+t.2.2)≠0→Hid (R=(rows++ [[pS t.1,pI (wr (t.2.1+t.2.2))]])++np T)):=by
  intro t T f rows h1 h2
  have g1:=h1.out
  have g2:=h2.out
  refine⟨Lib.hid ?_,λh=>Lib.hid ?_,λh=>Lib.hid ?_⟩
  ·rw[g1,wz,List.all_cons,Bool.and_assoc];rfl
  ·rw[g2,np,List.filterMap_cons,if_pos h];rfl
  ·rw[g2,np,List.filterMap_cons,if_neg h,List.append_assoc];rfl
 cases a with
 |nil=>
  cases b with
  |nil=>
   have hF:=HF.out
   have hR:=HR.out
   rw[bz]at hF hR
   simp only[List.map_nil,wz,List.all_nil,Bool.and_true,np,List.filterMap_nil,List.append_nil]at hF hR
   subst hF
   subst hR
   repeat' first|simp(disch:=omega)only[go_sem, *]|apply ab<;>intro h<;>try omega
  |cons y b=>
   have hy:=hb y List.mem_cons_self
   have hB: ∀m∈b,am m.2:= λm hm=>hb m (List.mem_cons_of_mem _ hm)
   have em:bQ [] (y::b)=(y.1,0,y.2)::bQ [] b:=by rw[bz,bz];rfl
   rw[em]at HF HR
   obtain⟨o1,o2,o3⟩:=one HF HR
   have rk:aK 2 ([pS y.1,pI y.2]::List.map mP b):=ar (f:=mP) (l:=y::b) λ_=>rfl
   have tk:=wo y b
   simp only[List.length_cons,List.length_nil]at hs
   clear HF HR one hb
   by_cases hz:wr (0+y.2)=0
   ·have HR2:=o2 hz
    have q:=gq bL hy hz y.1 f K rows (xv k1 l1) (xv k2 l2) Mt
    clear o2 o3
    repeat' first|simp(disch:=omega)only[go_sem, *,mP,Int.natCast_zero,Int.toNat_zero,Int.toNat_one,Option.getD_some,Option.getD_none,rk,tk]|apply ab<;>intro h<;>try omega|refine ap q ?_
    refine⟨([],b,_,rows), [],⟨ha,hB,by simp;omega,o1,HR2⟩,by simp only[List.length_cons,List.length_nil];omega, ?_⟩
    simp[tk]
    cases f<;>rfl
   ·have HR2:=o3 hz
    have q:=gv bL hy hz y.1 f K rows (by omega) (xv k1 l1) (xv k2 l2) Mt
    clear o2 o3
    repeat' first|simp(disch:=omega)only[go_sem, *,mP,Int.natCast_zero,Int.toNat_zero,Int.toNat_one,Option.getD_some,Option.getD_none,rk,tk]|apply ab<;>intro h<;>try omega|refine ap q ?_
    refine⟨([],b,_,_), [(5,6)],⟨ha,hB,by simp;omega,o1,HR2⟩,by simp only[List.length_cons,List.length_nil];omega, ?_⟩
    simp[tk]
    cases f<;>rfl
 |cons x a=>
  have hx:=ha x List.mem_cons_self
  have hP: ∀m∈a,am m.2:= λm hm=>ha m (List.mem_cons_of_mem _ hm)
  have rka:aK 2 ([pS x.1,pI x.2]::List.map mP a):=ar (f:=mP) (l:=x::a) λ_=>rfl
  have tka:=wo x a
  cases b with
  |nil=>
   have em:bQ (x::a) []=(x.1,x.2,0)::bQ a []:=by rw[c9,c9];rfl
   rw[em]at HF HR
   obtain⟨o1,o2,o3⟩:=one HF HR
   simp only[List.length_cons,List.length_nil]at hs
   clear HF HR one ha
   by_cases hz:wr (x.2+0)=0
   ·have HR2:=o2 hz
    have q:=gq hx bL hz x.1 f K rows (xv k1 l1) (xv k2 l2) Mt
    clear o2 o3
    repeat' first|simp(disch:=omega)only[go_sem, *,mP,Int.natCast_zero,Int.toNat_zero,Int.toNat_one,Option.getD_some,Option.getD_none,rka,tka]|apply ab<;>intro h<;>try omega|refine ap q ?_
    refine⟨(a, [],_,rows), [],⟨hP,hb,by simp;omega,o1,HR2⟩,by simp only[List.length_cons,List.length_nil];omega, ?_⟩
    simp[tka]
    cases f<;>rfl
   ·have HR2:=o3 hz
    have q:=gv hx bL hz x.1 f K rows (by omega) (xv k1 l1) (xv k2 l2) Mt
    clear o2 o3
    repeat' first|simp(disch:=omega)only[go_sem, *,mP,Int.natCast_zero,Int.toNat_zero,Int.toNat_one,Option.getD_some,Option.getD_none,rka,tka]|apply ab<;>intro h<;>try omega|refine ap q ?_
    refine⟨(a, [],_,_), [(5,6)],⟨hP,hb,by simp;omega,o1,HR2⟩,by simp only[List.length_cons,List.length_nil];omega, ?_⟩
    simp[tka]
    cases f<;>rfl
  |cons y b=>
   have hy:=hb y List.mem_cons_self
   have hB: ∀m∈b,am m.2:= λm hm=>hb m (List.mem_cons_of_mem _ hm)
   have rkb:aK 2 ([pS y.1,pI y.2]::List.map mP b):=ar (f:=mP) (l:=y::b) λ_=>rfl
   have tkb:=wo y b
   rw[cM]at HF HR
   simp only[List.length_cons]at hs
   by_cases hl:bC x.1 y.1=true
   ·rw[if_pos hl]at HF HR
    obtain⟨o1,o2,o3⟩:=one HF HR
    have hC:Op.bytesLess x.1.toList y.1.toList=true:=hl
    clear HF HR one ha
    by_cases hz:wr (x.2+0)=0
    ·have HR2:=o2 hz
     have q:=gq hx bL hz x.1 f K rows (xv k1 l1) (xv k2 l2) Mt
     clear o2 o3
     repeat' first|simp(disch:=omega)only[go_sem, *,mP,Int.natCast_zero,Int.toNat_zero,Int.toNat_one,Option.getD_some,Option.getD_none,rka,tka,hC]|apply ab<;>intro h<;>try omega|refine ap q ?_
     refine⟨(a,y::b,_,rows), [],⟨hP,hb,by simp;omega,o1,HR2⟩,by simp only[List.length_cons,List.length_nil];omega, ?_⟩
     simp[tka]
     cases f<;>rfl
    ·have HR2:=o3 hz
     have q:=gv hx bL hz x.1 f K rows (by omega) (xv k1 l1) (xv k2 l2) Mt
     clear o2 o3
     repeat' first|simp(disch:=omega)only[go_sem, *,mP,Int.natCast_zero,Int.toNat_zero,Int.toNat_one,Option.getD_some,Option.getD_none,rka,tka,hC]|apply ab<;>intro h<;>try omega|refine ap q ?_
     refine⟨(a,y::b,_,_), [(5,6)],⟨hP,hb,by simp;omega,o1,HR2⟩,by simp only[List.length_cons,List.length_nil];omega, ?_⟩
     simp[tka]
     cases f<;>rfl
   ·rw[if_neg hl]at HF HR
    have hC:Op.bytesLess x.1.toList y.1.toList=false:=by
     cases h:Op.bytesLess x.1.toList y.1.toList with
     |false=>rfl
     |true=>exact absurd h hl
    by_cases hr:bC y.1 x.1=true
    ·rw[if_pos hr]at HF HR
     obtain⟨o1,o2,o3⟩:=one HF HR
     have hT:Op.bytesLess y.1.toList x.1.toList=true:=hr
     clear HF HR one hb
     by_cases hz:wr (0+y.2)=0
     ·have HR2:=o2 hz
      have q:=gq bL hy hz y.1 f K rows (xv k1 l1) (xv k2 l2) Mt
      clear o2 o3
      repeat' first|simp(disch:=omega)only[go_sem, *,mP,Int.natCast_zero,Int.toNat_zero,Int.toNat_one,Option.getD_some,Option.getD_none,rkb,tkb,hC,hT]|apply ab<;>intro h<;>try omega|refine ap q ?_
      refine⟨(x::a,b,_,rows), [],⟨ha,hB,by simp;omega,o1,HR2⟩,by simp only[List.length_cons,List.length_nil];omega, ?_⟩
      simp[tkb]
      cases f<;>rfl
     ·have HR2:=o3 hz
      have q:=gv bL hy hz y.1 f K rows (by omega) (xv k1 l1) (xv k2 l2) Mt
      clear o2 o3
      repeat' first|simp(disch:=omega)only[go_sem, *,mP,Int.natCast_zero,Int.toNat_zero,Int.toNat_one,Option.getD_some,Option.getD_none,rkb,tkb,hC,hT]|apply ab<;>intro h<;>try omega|refine ap q ?_
      refine⟨(x::a,b,_,_), [(5,6)],⟨ha,hB,by simp;omega,o1,HR2⟩,by simp only[List.length_cons,List.length_nil];omega, ?_⟩
      simp[tkb]
      cases f<;>rfl
    ·rw[if_neg hr]at HF HR
     obtain⟨o1,o2,o3⟩:=one HF HR
     have hT:Op.bytesLess y.1.toList x.1.toList=false:=by
      cases h:Op.bytesLess y.1.toList x.1.toList with
      |false=>rfl
      |true=>exact absurd h hr
     clear HF HR one hb ha
     by_cases hz:wr (x.2+y.2)=0
     ·have HR2:=o2 hz
      have q:=gq hx hy hz x.1 f K rows (xv k1 l1) (xv k2 l2) Mt
      clear o2 o3
      repeat' first|simp(disch:=omega)only[go_sem, *,mP,Int.natCast_zero,Int.toNat_zero,Int.toNat_one,Option.getD_some,Option.getD_none,rka,rkb,tka,tkb,hC,hT]|apply ab<;>intro h<;>try omega|refine ap q ?_
      refine⟨(a,b,_,rows), [],⟨hP,hB,by simp;omega,o1,HR2⟩,by simp only[List.length_cons,List.length_nil];omega, ?_⟩
      simp[tka,tkb]
      cases f<;>rfl
     ·have HR2:=o3 hz
      have q:=gv hx hy hz x.1 f K rows (by omega) (xv k1 l1) (xv k2 l2) Mt
      clear o2 o3
      repeat' first|simp(disch:=omega)only[go_sem, *,mP,Int.natCast_zero,Int.toNat_zero,Int.toNat_one,Option.getD_some,Option.getD_none,rka,rkb,tka,tkb,hC,hT]|apply ab<;>intro h<;>try omega|refine ap q ?_
      refine⟨(a,b,_,_), [(5,6)],⟨hP,hB,by simp;omega,o1,HR2⟩,by simp only[List.length_cons,List.length_nil];omega, ?_⟩
      simp[tka,tkb]
      cases f<;>rfl
noncomputable def fj (a b:bW):bW×Int:=if ¬aI a.2∨ ¬aI b.2 then((0, []),1)else fI a b
theorem zn {T:List ME}:wz T=true↔ ∀t∈T,am (t.2.1+t.2.2):=by simp[wz]
theorem OU {T:List ME} (h:wz T=true):np T=(f7 T).map mP:=by
 rw[zn]at h
 rw[np,f7,List.map_filterMap]
 induction T with
 |nil=>rfl
 |cons t r ih=>
  have h1:=h t List.mem_cons_self
  have e:wr (t.2.1+t.2.2)=t.2.1+t.2.2:=wrap_i64 h1
  rw[List.filterMap_cons,List.filterMap_cons,e,ih λt ht=>h t (List.mem_cons_of_mem _ ht)]
  by_cases h0:t.2.1+t.2.2=0
  ·rw[if_pos h0,if_pos h0];rfl
  ·rw[if_neg h0,if_neg h0];rfl
theorem mt {a b:bW} (ha:bl a) (hb:bl b) (HS:short a.2) (HT:short b.2):ac Ya 134 [da a.1 a.2,da b.1 b.2] (GE (fj a b)):=by
 refine ac.of Jv (by simp) λ_=>aa ?_
 obtain⟨k1,l1⟩:=a
 obtain⟨k2,l2⟩:=b
 obtain⟨HW,h8⟩:=ha
 obtain⟨HY,h9⟩:=hb
 simp only at HW h8 HY h9 HS HT
 have pv1:=cw k1 l1
 have pv2:=cw k2 l2
 have pp:=od HW HY
 conv in bh _ _=>cbv
 by_cases o1:aI l1
 ·by_cases o2:aI l2
  ·rw[fj,if_neg (by simp[o1,o2]),fI]
   rw[if_pos o1]at pv1
   rw[if_pos o2]at pv2
   have q:=BU h8 h9 (by unfold short at HS HT;omega) (decide (am (k1+k2))) (wr (k1+k2)) k1 k2 l1 l2
   have HD:(if e7 (k1,l1) (k2,l2)then(gz (k1,l1) (k2,l2),0)else((0, []),3):bW×Int)=if(decide (am (k1+k2))&&wz (bQ l1 l2))=true then((k1+k2,f7 (bQ l1 l2)),0)else((0, []),3):=by
    by_cases h:e7 (k1,l1) (k2,l2)
    ·rw[if_pos h,if_pos (by rw[Bool.and_eq_true,decide_eq_true_iff,zn];exact h)];rfl
    ·rw[if_neg h,if_neg (by rw[Bool.and_eq_true,decide_eq_true_iff,zn];exact h)]
   rw[HD]
   have hK:am (k1+k2)→wr (k1+k2)=k1+k2:= λh=>wrap_i64 h
   have hD:= @OU (bQ l1 l2)
   generalize bQ l1 l2=T at*
   clear HD
   by_cases H:(decide (am (k1+k2))&&wz T)=true
   ·rw[if_pos H]
    have h1:=H
    rw[Bool.and_eq_true,decide_eq_true_iff]at h1
    rw[H,hD h1.2]at q
    have e:=hK h1.1
    rw[e]at q
    have e':IntKind.wrap .i64 (k1+k2)=k1+k2:=e
    rw[decide_eq_true h1.1]at q
    rw[e',decide_eq_true h1.1]at pp
    clear H h1 e e' hK hD h8 h9
    repeat' first|simp(disch:=omega)only[go_sem, *]|apply ab<;>intro h<;>try omega|refine aq pv1 rfl rfl ?_|refine aq pv2 rfl rfl ?_|refine aq pp rfl rfl ?_|refine ap q ?_
   ·rw[if_neg H]
    have h1:(decide (am (k1+k2))&&wz T)=false:=by simpa using H
    rw[h1]at q
    generalize np T=rr at*
    simp only[wr]at q
    generalize IntKind.wrap .i64 (k1+k2)=W at*
    generalize decide (am (k1+k2))=D at*
    clear h1 H hK hD h8 h9
    repeat' first|simp(disch:=omega)only[go_sem, *]|apply ab<;>intro h<;>try omega|refine aq pv1 rfl rfl ?_|refine aq pv2 rfl rfl ?_|refine aq pp rfl rfl ?_|refine ap q ?_
    rfl
  ·rw[fj,if_pos (.inr o2)]
   rw[if_pos o1]at pv1
   rw[if_neg o2]at pv2
   repeat' first|simp(disch:=omega)only[go_sem, *]|apply ab<;>intro h<;>try omega|refine aq pv1 rfl rfl ?_|refine aq pv2 rfl rfl ?_
   rfl
 ·rw[fj,if_pos (.inl o1)]
  rw[if_neg o1]at pv1
  repeat' first|simp(disch:=omega)only[go_sem, *]|apply ab<;>intro h<;>try omega|refine aq pv1 rfl rfl ?_|refine aq pv2 rfl rfl ?_
  rfl
set_option maxRecDepth 20000
set_option maxRecDepth 1000000
def br (c:aU):Prop:=bl c.1
def gE:List aU→Nat
 | []=>0
 |c::r=>c.1.2.length+gE r
theorem GY {l:List aU} (h:gw (bB l)):l.length≤9223372036854775807:=by simpa[gw,gT]using h
def QC (p:aU×Int):Prop:=aI p.1.1.2∧ ¬(p.2<0∧p.1.2=false)
theorem FC {p:aU×Int}: ¬J6 p↔QC p:=by
 unfold J6 QC
 constructor
 ·intro h;exact⟨Classical.byContradiction λh'=>h (.inl h'),λh'=>h (.inr h')⟩
 ·rintro⟨h1,h2⟩ (h|h);exact h h1;exact h2 h
theorem tV (a:bW) (b:Int):(bq a b).2.length≤a.2.length:=by
 rw[bq]
 split
 ·simp
 ·simp
theorem zQ (a b:bW):(gz a b).2.length≤a.2.length+b.2.length:=by
 have h1:=lG a.2 b.2
 have h2:(f7 (bQ a.2 b.2)).length≤(bQ a.2 b.2).length:=List.length_filterMap_le _ _
 show(f7 (bQ a.2 b.2)).length≤_
 omega
theorem CQ {a:bW} {b:Int} (h:b=0∨bY a b):bl (bq a b):=by
 rw[bq]
 split
 ·exact⟨bL,λm hm=>by cases hm⟩
 ·rename_i hb
  have h:=h.resolve_left hb
  refine⟨h.1,λm hm=> ?_⟩
  obtain⟨x,hx,rfl⟩:=List.mem_map.1 hm
  exact h.2 x hx
theorem Fm {a b:bW} (h:e7 a b):bl (gz a b):=by
 refine⟨h.1,λm hm=> ?_⟩
 obtain⟨t,ht,e⟩:=List.mem_filterMap.1 hm
 split at e
 ·cases e
 ·cases e
  exact h.2 t ht
theorem LP {α β:Type} {l:List α} {b:List β} {k:Nat} (h1:k<l.length) (h2:k<b.length):(l.zip b).drop k=(l[k],b[k])::(l.zip b).drop (k+1):=by
 rw[List.drop_eq_getElem_cons (by simp;omega)]
 simp
theorem iY {l:List aU} {b:List Int} (hl: ∀c∈l,br c) (hb: ∀x∈b,am x) (hs:gE l≤1000000000):ac Ya 85 [bB l,iE b] (R9 (aD l b)):=by
 refine ac.of pO (by simp) λhU=>aa ?_
 have w:=GY hU.1
 clear hU
 conv in bh _ _=>cbv
 by_cases E:l.length=b.length
 ·have hz:(l.zip b).length=l.length:=by simp[E]
  obtain⟨N,hN⟩: ∃N,N=l.length:=⟨_,rfl⟩
  rw[←hN]at w hz
  have e1:l.length=N:=hN.symm
  have e2:b.length=N:=by rw[←E,e1]
  have HZ:=Lib.hid hz
  have HE:=Lib.hid E
  clear hN E hz
  repeat' first|simp(disch:=omega)only[go_sem, *,e1,e2]|apply ab<;>intro h<;>try omega
  refine ai (λk:Nat=>⟨[(0,bB l),(1,iE b),(4,.c (.ptr 0 0)),(21,bB l),(22,I N),(23,I k)], [(0,.var [.pure (pI 0),.nils,.pure (pB false)])],1,0⟩) (λk=>k≤N∧dZ (λi=> ∀(h1:i<l.length) (h2:i<b.length),QC (l[i],b[i])) k) (λk=>N-k) ⟨0, [],⟨Nat.zero_le _,.zero⟩,by simp[e1,e2]⟩ ?_
  rintro k ⟨hk,A⟩
  refine aa ?_
  by_cases C:k<N
  ·have d:k<l.length:=by omega
   have u:k<b.length:=by omega
   have O:J6 (l[k],b[k])→aD l b=(mM,1):= λh=>by
    rw[aD,if_neg (not_not_intro HE.out),if_pos]
    refine⟨(l[k],b[k]), ?_,h⟩
    rw[List.mem_iff_getElem]
    exact⟨k,by rw[HZ.out];exact C,by simp⟩
   have nxt:QC (l[k],b[k])→Hid (dZ (λi=> ∀(h1:i<l.length) (h2:i<b.length),QC (l[i],b[i])) (k+1)):= λh=>Lib.hid (A.succ λ_ _=>h)
   have g1:=ah (f:=cP) d
   have g2:=ah (f:= λn=> [pI n]) u
   generalize l[k]=c at*
   generalize b[k]=x at*
   obtain⟨⟨ck,cl⟩,q⟩:=c
   simp only[cP]at g1
   have pv:=b6 ((ck,cl),q)
   have BAD:=Lib.hid O
   have NXT:=Lib.hid nxt
   clear O nxt A
   by_cases hv:aI cl
   ·rw[if_pos hv]at pv
    cases q
    ·by_cases M:x<0
     ·rw[BAD.out (.inr ⟨M,rfl⟩)]
      repeat' first|simp(disch:=omega)only[go_sem, *,g1,g2,wrap_i64]|apply ab<;>intro h<;>try omega|refine aq pv rfl rfl ?_
      rfl
     ·have NX:=NXT.out ⟨hv,λh=>M h.1⟩
      repeat' first|simp(disch:=omega)only[go_sem, *,g1,g2,wrap_i64]|apply ab<;>intro h<;>try omega|refine aq pv rfl rfl ?_
      exact⟨k+1, [],⟨C,by have:=NX.out;simp only[e1,e2]at this;exact this⟩,by omega,by simp⟩
    ·have NX:=NXT.out ⟨hv,λh=>by cases h.2⟩
     by_cases M:x<0
     ·repeat' first|simp(disch:=omega)only[go_sem, *,g1,g2,wrap_i64]|apply ab<;>intro h<;>try omega|refine aq pv rfl rfl ?_
      exact⟨k+1, [],⟨C,by have:=NX.out;simp only[e1,e2]at this;exact this⟩,by omega,by simp⟩
     ·repeat' first|simp(disch:=omega)only[go_sem, *,g1,g2,wrap_i64]|apply ab<;>intro h<;>try omega|refine aq pv rfl rfl ?_
      exact⟨k+1, [],⟨C,by have:=NX.out;simp only[e1,e2]at this;exact this⟩,by omega,by simp⟩
   ·rw[if_neg hv]at pv
    rw[BAD.out (.inl hv)]
    repeat' first|simp(disch:=omega)only[go_sem, *,g1,g2,wrap_i64]|apply ab<;>intro h<;>try omega|refine aq pv rfl rfl ?_
    rfl
  ·obtain rfl:k=N:=by omega
   have hV: ¬ ∃p∈l.zip b,J6 p:=by
    rintro⟨p,hp,hW⟩
    obtain⟨i,hi,rfl⟩:=List.mem_iff_getElem.1 hp
    rw[HZ.out]at hi
    have h2:=A i hi (by omega) (by omega)
    rw[List.getElem_zip]at hW
    exact FC.2 h2 hW
   have hY:aD l b=ep (0, []) true ((l.zip b).drop 0):=by rw[aD,if_neg (not_not_intro HE.out),if_neg hV];rfl
   rw[hY]
   obtain⟨R,hR⟩: ∃R,R=ep (0, []) true ((l.zip b).drop 0):=⟨_,rfl⟩
   rw[←hR]
   have HR:=Lib.hid hR
   have HA:=Lib.hid A
   clear hR hY hV A
   repeat' first|simp(disch:=omega)only[go_sem, *,e1,e2]|apply ab<;>intro h<;>try omega
   refine Fe 1 1 _ rfl rfl ?_
   refine ai (λs:Nat×bW×Bool=>⟨[(1,iE b),(4,.c (.ptr 0 0)),(9,.c (.ptr 1 0)),(47,bB l),(48,I k),(49,I s.1)], [(0,.var [.pure (pI 0),.nils,.pure (pB false)]),(1,.var [.pure (pI s.2.1.1),.pure (ay s.2.1.2),.pure (pB s.2.2)])],2,0⟩)
    (λs=>s.1≤k∧aI s.2.1.2∧bl s.2.1∧s.2.1.2.length+gE (l.drop s.1)≤1000000000∧Hid (R=ep s.2.1 s.2.2 ((l.zip b).drop s.1))) (λs=>k-s.1)
    ⟨(0,((0, []),true)), [],⟨Nat.zero_le _,λi hi=>by simp at hi,⟨bL,λm hm=>by cases hm⟩,by simpa using hs,HR⟩,by simp[e1,e2]⟩ ?_
   clear HR hs
   rintro⟨j,out,eq⟩ ⟨hj,HB,G,hs,HR⟩
   refine aa ?_
   simp only at hj HB G hs HR
   by_cases P:j<k
   ·have d:j<l.length:=by omega
    have u:j<b.length:=by omega
    have hc:=HA.out j P d u
    have J:bl l[j].1:=hl _ (List.getElem_mem d)
    have Q:=hb _ (List.getElem_mem u)
    have he:gE (l.drop j)=l[j].1.2.length+gE (l.drop (j+1)):=by rw[List.drop_eq_getElem_cons d,gE]
    have h2:=HR.out
    rw[LP d u,ep]at h2
    simp only at h2
    have g1:=ah (f:=cP) d
    have g2:=ah (f:= λn=> [pI n]) u
    clear HR
    generalize l[j]=c at*
    generalize b[j]=x at*
    obtain⟨⟨ck,cl⟩,q⟩:=c
    simp only[cP]at g1
    simp only at h2 he J
    have hQ:=tV (ck,cl) x
    have go:=zQ out (bq (ck,cl) x)
    simp only at hQ
    have hE:aI cl:=hc.1
    have ps:=jK (a:=(ck,cl)) (b:=x) J Q (by unfold short;simp only;omega)
    rw[bM,if_neg (not_not_intro hE),iT]at ps
    by_cases V:x=0∨bY (ck,cl) x
    ·have hg:=CQ V
     have hJ:=ng (a:=(ck,cl)) (b:=x) hE
     rw[if_pos V]at ps
     have pa:=mt G hg (by unfold short;omega) (by unfold short;omega)
     rw[fj,if_neg (by simp[HB,hJ]),fI]at pa
     by_cases hG:e7 out (bq (ck,cl) x)
     ·have HG:=Fm hG
      have HI:=EW HB hJ
      rw[if_pos hG]at pa
      rw[if_neg (by rintro(h|h);exact h V;exact h hG)]at h2
      have H0:(gz out (bq (ck,cl) x)).2.length+gE (l.drop (j+1))≤1000000000:=by omega
      clear V hG hJ hg HB G hc J Q hQ go he hs hE
      generalize bq (ck,cl) x=SV at*
      generalize gz out SV=AV' at*
      have HR:=Lib.hid h2
      clear h2
      by_cases hz:x=0
      ·subst hz
       have HR:Hid (R=ep AV' eq ((l.zip b).drop (j+1))):=Lib.hid (by
        have:=HR.out
        simpa using this)
       cases eq<;>cases q
       all_goals
        repeat' first|simp(disch:=omega)only[go_sem, *,g1,g2,wrap_i64]|apply ab<;>intro h<;>try omega|refine aq ps rfl rfl ?_|refine aW ps rfl rfl ?_|refine aW pa rfl rfl ?_
        exact⟨(j+1,AV',_), [],⟨P,HI,HG,H0,HR⟩,by show _-_<_-_;omega,by simp⟩
      ·have HR:Hid (R=ep AV' (eq&&q) ((l.zip b).drop (j+1))):=Lib.hid (by
        have:=HR.out
        simpa[hz]using this)
       cases eq<;>cases q
       all_goals
        repeat' first|simp(disch:=omega)only[go_sem, *,g1,g2,wrap_i64,hz]|apply ab<;>intro h<;>try omega|refine aq ps rfl rfl ?_|refine aW ps rfl rfl ?_|refine aW pa rfl rfl ?_
        exact⟨(j+1,AV',_), [],⟨P,HI,HG,H0,HR⟩,by show _-_<_-_;omega,by simp⟩
     ·rw[if_neg hG]at pa
      rw[if_pos (.inr hG)]at h2
      subst h2
      clear V hG hJ hg
      generalize bq (ck,cl) x=SV at*
      repeat' first|simp(disch:=omega)only[go_sem, *,g1,g2,wrap_i64]|apply ab<;>intro h<;>try omega|refine aq ps rfl rfl ?_|refine aW ps rfl rfl ?_|refine aW pa rfl rfl ?_
      rfl
    ·rw[if_neg V]at ps
     rw[if_pos (.inl V)]at h2
     subst h2
     clear V
     repeat' first|simp(disch:=omega)only[go_sem, *,g1,g2,wrap_i64]|apply ab<;>intro h<;>try omega|refine aq ps rfl rfl ?_|refine aW ps rfl rfl ?_
     rfl
   ·have h2:=HR.out
    rw[List.drop_eq_nil_of_le (by rw[HZ.out];omega),ep]at h2
    subst h2
    repeat' first|simp(disch:=omega)only[go_sem, *]|apply ab<;>intro h<;>try omega
 ·rw[aD,if_pos E]
  repeat' first|simp(disch:=omega)only[go_sem, *]|apply ab<;>intro h<;>try omega
  rfl
set_option maxRecDepth 20000
set_option maxRecDepth 1000000
theorem LQ {n:ByteArray} {x:Int}: ∀{l:List aR} {p:Nat},(∀i (h:i<l.length),i<p→bC l[i].1 n=true)→p≤l.length→
  (∀(h:p<l.length),¬bC l[p].1 n=true→jk l n x=if l[p].1=n then(l.set p (l[p].1,(dg (l[p].2+x)).1),(dg (l[p].2+x)).2)else(l.take p++(n,x)::l.drop p,true))∧
  (p=l.length→jk l n x=(l.take p++(n,x)::l.drop p,true))
 |[],p,h1,h2=>by
  simp at h2
  subst h2
  exact⟨λh=>by simp at h,λ_=>rfl⟩
 |m::r,0,h1,h2=>by
  refine⟨λh hs=> ?_,λh=>by simp at h⟩
  simp only[List.getElem_cons_zero]at hs ⊢
  rw[jk,if_neg hs]
  by_cases e:m.1=n
  ·rw[if_pos e,if_pos e];rfl
  ·rw[if_neg e,if_neg e];rfl
 |m::r,p+1,h1,h2=>by
  have hm:=h1 0 (by simp) (by omega)
  simp only[List.getElem_cons_zero]at hm
  obtain⟨i1,i2⟩:=LQ (n:=n) (x:=x) (l:=r) (p:=p) (λi h hi=>by have:=h1 (i+1) (by simp;omega) (by omega);simpa using this) (by simpa using h2)
  refine⟨λh hs=> ?_,λh=> ?_⟩
  ·simp only[List.getElem_cons_succ]at hs ⊢
   rw[jk,if_pos hm,i1 (by simpa using h) hs]
   split<;>simp
  ·rw[jk,if_pos hm,i2 (by simpa using h)]
   simp
abbrev TR (l:List aR):PC:= .slice (l.map λm=> [pS m.1])
abbrev Vg (l:List aR):PC:= .slice (l.map λm=> [pI m.2])
abbrev Ql (l:List aR):List (List PC):=l.map λm=> [pI m.2]
abbrev RG (l:List aR):List (List PC):=l.map λm=> [pS m.1]
abbrev SC (s:KQ):AV:= .agg [.pure (pI s.1),.pure (TR s.2.1),.pure (Vg s.2.1),.pure (pB s.2.2)]
theorem nR (x:Int):am (dg x).1:=by
 by_cases h:am x
 ·rw[el h];exact h
 ·rw[i9 h];exact bL
theorem zF: ∀(l:List aR) (n:ByteArray) (x:Int),(jk l n x).1.length≤l.length+1
 | [],n,x=>by simp[jk]
 |m::r,n,x=>by
  rw[jk]
  have:=zF r n x
  split
  ·simp only[List.length_cons];omega
  ·split<;>simp
theorem Fw {n:ByteArray} {x:Int} (hx:am x): ∀{l:List aR},(∀m∈l,am m.2)→ ∀m∈(jk l n x).1,am m.2
 |[],_,m,hm=>by
  rw[jk,List.mem_singleton]at hm
  rw[hm];exact hx
 |y::r,hl,m,hm=>by
  rw[jk]at hm
  split at hm
  ·rcases List.mem_cons.1 hm with rfl|hm
   ·exact hl _ List.mem_cons_self
   ·exact Fw hx (λz hz=>hl z (List.mem_cons_of_mem _ hz)) m hm
  ·split at hm
   ·rcases List.mem_cons.1 hm with rfl|hm
    ·exact nR _
    ·exact hl m (List.mem_cons_of_mem _ hm)
   ·rcases List.mem_cons.1 hm with rfl|hm
    ·exact hx
    ·exact hl m hm
theorem Ua (l:List aR) (n:ByteArray): ∃p,p≤l.length∧(∀i (h:i<l.length),i<p→bC l[i].1 n=true)∧(p=l.length∨ ∃h:p<l.length,¬bC l[p].1 n=true):=by
 induction l with
 |nil=>exact⟨0,Nat.le_refl _,λi h=>by simp at h,.inl rfl⟩
 |cons m r ih=>
  by_cases hm:bC m.1 n=true
  ·obtain⟨p,h1,h2,h3⟩:=ih
   refine⟨p+1,by simpa using h1,λi h hi=> ?_, ?_⟩
   ·cases i with
    |zero=>exact hm
    |succ i=>simpa using h2 i (by simpa using h) (by omega)
   ·rcases h3 with h3|⟨h3,h4⟩
    ·exact .inl (by simp[h3])
    ·exact .inr ⟨by simpa using h3,by simpa using h4⟩
  ·exact⟨0,Nat.zero_le _,λi h hi=>by omega,.inr ⟨by simp,by simpa using hm⟩⟩
abbrev UA:bk:= .var [.pure (pI 0),.nils,.nils,.pure (pB false)]
abbrev Wh (c:bW) (k:Int) (l:List aR) (ok:Bool):List (Nat×bk):=
 [(4,.arr 2 1 (Ql l)),(3,.var [.pure (pI k),.pure (TR l),.ref 4,.pure (pB ok)]),(2,UA),(1,.var [.pure (pI c.1),.pure (ay c.2)])]
theorem vZ {s:KQ} {c:bW} {b:Int} (hs:am s.1) (hQ: ∀m∈s.2.1,am m.2) (hc:bl c) (hb:am b) (w:s.2.1.length+c.2.length≤1000000000):ac Ya 142 [SC s,da c.1 c.2,I b] (SC (f9 s c b)):=by
 refine ac.of xV (by simp) λ_=>aa ?_
 obtain⟨sk,sl,sok⟩:=s
 obtain⟨ck,cl⟩:=c
 obtain⟨H1,H3⟩:=hc
 have hN:cl.length≤1000000000:=by simp only at w;omega
 simp only at hs hQ H1 H3 w
 have p1:=je H1 hb
 have p2:=jH hs (nR (ck*b))
 conv in bh _ _=>reduce
 simp only[f9]
 generalize dg (sk+(dg (ck*b)).1)=K at*
 generalize dg (ck*b)=T at*
 obtain⟨o,ho⟩: ∃o,o=(sok&&T.2&&K.2):=⟨_,rfl⟩
 rw[←ho]
 obtain⟨R,hR⟩: ∃R,R=gN b cl (sl,o):=⟨_,rfl⟩
 rw[←hR]
 have HR:Hid (R=gN b (cl.drop 0) (sl,o)):=Lib.hid (by rw[hR];rfl)
 clear hR
 have HL:(RG sl).length≤1000000000:=by simp;omega
 have HM:(Ql sl).length≤1000000000:=by simp;omega
 have H7:aK 1 (RG sl):=ar λ_=>rfl
 have gD:aK 1 (Ql sl):=ar λ_=>rfl
 have e3:(sok&&T.2&&K.2)=o:=ho.symm
 clear ho
 cases sok
 all_goals
  repeat' first|simp(disch:=omega)only[go_sem, *]|apply ab<;>intro h<;>try omega|refine aq p1 rfl rfl ?_|refine aq p2 rfl rfl ?_|refine vq H7 (by simp at HL;simp;omega) (by simp at HL;simp;omega) ?_|refine ia gD (by simp at HM;simp;omega) (by simp at HM;simp;omega) ?_
 all_goals
  refine ai (λs:Nat×List aR×Bool=>⟨[(2,I b),(4,.c (.ptr 1 0)),(6,.c (.ptr 2 0)),(11,.c (.ptr 3 0)),(12,I s.1)],Wh (ck,cl) K.1 s.2.1 s.2.2,5,0⟩)
   (λs=>s.1≤cl.length∧(∀m∈s.2.1,am m.2)∧s.2.1.length+(cl.length-s.1)≤1000000000∧Hid (R=gN b (cl.drop s.1) (s.2.1,s.2.2))) (λs=>cl.length-s.1)
   ⟨(0,sl,o), [],⟨Nat.zero_le _,hQ,by simpa using w,HR⟩,by subst e3;simp[*]⟩ ?_
  clear HR w hQ p1 p2 e3 HL HM H7 gD
  rintro⟨i,l,ok⟩ ⟨hi,G,w,HR⟩
  refine aa ?_
  simp only at hi G w HR
  by_cases d:i<cl.length
  ·have ga:=H3 _ (List.getElem_mem d)
   have h2:=HR.out
   rw[List.drop_eq_getElem_cons d,gN]at h2
   have g1:=ah (f:=mP) d
   clear HR
   generalize cl[i]=m at*
   obtain⟨n,y⟩:=m
   simp only[mP]at g1
   simp only at h2
   have pt:=je ga hb
   have hX:=nR (y*b)
   generalize dg (y*b)=X at*
   obtain⟨p,gb,hh,HC⟩: ∃p,p≤l.length∧(∀i (h:i<l.length),i<p→bC l[i].1 n=true)∧(p=l.length∨ ∃h:p<l.length,¬bC l[p].1 n=true):=Ua l n
   obtain⟨i1,i2⟩:=LQ (n:=n) (x:=X.1) hh gb
   have HK:=Fw (n:=n) hX G
   have gd:=zF l n X.1
   obtain⟨ok2,Z⟩: ∃ok2,ok2=(ok&&X.2):=⟨_,rfl⟩
   rw[←Z]at h2
   have H2:=Lib.hid h2
   have HI64:=Lib.hid HK
   clear h2 HK
   have X2:=hX
   have wr:IntKind.wrap .i64 ((i:Int)+1)=(i:Int)+1:=wrap_i64 (by omega)
   cases ok
   all_goals
    repeat' first|simp(disch:=omega)only[go_sem, *,g1,wrap_i64]|apply ab<;>intro h<;>try omega|refine aq pt rfl rfl ?_
   all_goals
    by_cases hf: ∃h:p<l.length,l[p].1=n
    ·obtain⟨hn,hS⟩:=hf
     have hA: ¬bC l[p].1 n=true:=by rw[hS];exact eh n
     have hI:=i1 hn hA
     rw[if_pos hS]at hI
     refine ai (λj:Nat=>⟨[(2,I b),(4,.c (.ptr 1 0)),(6,.c (.ptr 2 0)),(11,.c (.ptr 3 0)),(12,I i),(13,I X.1),(15,I j)],Wh (ck,cl) K.1 l ok2,5,0⟩) (λj=>j≤p) (λj=>p-j) ⟨0, [],Nat.zero_le _,by subst Z;simp[*]⟩ ?_
     intro j hj
     refine aa ?_
     have L:j<l.length:=by omega
     have g2:=ah (f:= λm:aR=> [pS m.1]) L
     by_cases hu:j<p
     ·have g3:Op.bytesLess l[j].1.toList n.toList=true:=hh j L hu
      repeat' first|simp(disch:=omega)only[go_sem, *,g1,g2,g3,wrap_i64]|apply ab<;>intro h<;>try omega
      exact⟨j+1, [],hu,by omega,by simp;exact wrap_i64 (by omega)⟩
     ·obtain rfl:j=p:=by omega
      rw[hS]at g2 hA
      have g4:Op.bytesLess n.toList n.toList=false:=by
       cases h:Op.bytesLess n.toList n.toList with
       |false=>rfl
       |true=>exact absurd h hA
      have g5:=ah (f:= λm:aR=> [pI m.2]) L
      have q2:=jH (G _ (List.getElem_mem L)) hX
      have hw: ∀v,(Ql l).set j [pI v]=Ql (l.set j (l[j].1,v)):= λv=>by simp[List.map_set]
      have hH: ∀v,RG (l.set j (l[j].1,v))=RG l:= λv=>by
       refine List.ext_getElem (by simp) λi' h1 h2=> ?_
       simp only[List.getElem_map,List.getElem_set]
       split
       ·rename_i e;subst e;rfl
       ·rfl
      have HR2:=H2.out
      have HI2:=HI64.out
      rw[hI,hS]at HR2 HI2
      rw[hS]at hw hH
      have HN:(l.set j (n,(dg (l[j].2+X.1)).1)).length=l.length:=by simp
      clear H2 HI64 hI i1 i2 gd gb hh HC hA
      generalize dg (l[j].2+X.1)=Y at*
      have HR3:=Lib.hid HR2
      have HI3:=Lib.hid HI2
      have h5:=hw Y.1
      have hM:=hH Y.1
      clear HR2 HI2 hw hH Z
      generalize hL:l.set j (n,Y.1)=L' at*
      clear hL hS
      generalize l[j].2=lv at*
      cases ok2
      ·repeat' first|simp(disch:=omega)only[go_sem, *,g1,g2,g4,g5,wrap_i64]|apply ab<;>intro h<;>try omega|refine aq q2 rfl rfl ?_
       exact⟨(i+1,L',false), [],⟨d,HI3.out,by simp only;omega,HR3⟩,by show _-_<_-_;omega,by simp[h5,hM,wr]⟩
      ·repeat' first|simp(disch:=omega)only[go_sem, *,g1,g2,g4,g5,wrap_i64]|apply ab<;>intro h<;>try omega|refine aq q2 rfl rfl ?_
       exact⟨(i+1,L',Y.2), [],⟨d,HI3.out,by simp only;omega,HR3⟩,by show _-_<_-_;omega,by simp[h5,hM,wr]⟩
    ·have hI:jk l n X.1=(l.take p++(n,X.1)::l.drop p,true):=by
      rcases HC with e|⟨hn,hA⟩
      ·exact i2 e
      ·have:=i1 hn hA
       rw[if_neg (λe=>hf ⟨hn,e⟩)]at this
       exact this
     refine qZ [4] (ai (λj:Nat=>⟨[(2,I b),(4,.c (.ptr 1 0)),(6,.c (.ptr 2 0)),(11,.c (.ptr 3 0)),(12,I i),(13,I X.1),(15,I j)], [(3,.var [.pure (pI K.1),.pure (TR l),.pure (Vg l),.pure (pB ok2)]),(2,UA),(1,.var [.pure (pI ck),.pure (ay cl)])],5,0⟩) (λj=>j≤p) (λj=>p-j) ⟨0, [],Nat.zero_le _,by subst Z;simp[*,aQ,St.frz,vm,kJ,nG,gS,ub,al]⟩ ?_)
     intro j hj
     refine aa ?_
     by_cases hu:j<p
     ·have L:j<l.length:=by omega
      have g2:=ah (f:= λm:aR=> [pS m.1]) L
      have g3:Op.bytesLess l[j].1.toList n.toList=true:=hh j L hu
      repeat' first|simp(disch:=omega)only[go_sem, *,g1,g2,g3,wrap_i64]|apply ab<;>intro h<;>try omega
      exact⟨j+1, [],hu,by omega,by simp;exact wrap_i64 (by omega)⟩
     ·obtain rfl:j=p:=by omega
      have HR2:=H2.out
      have HI2:=HI64.out
      rw[hI,Bool.and_true]at HR2
      rw[hI]at HI2
      have HR3:=Lib.hid HR2
      have HI3:=Lib.hid HI2
      clear H2 HI64 i1 i2 gd hh Z hI HR2 HI2
      have r5:aK 1 (RG l):=ar λ_=>rfl
      have r6:aK 1 (Ql l):=ar λ_=>rfl
      have tk1:List.take l.length (RG l)=RG l:=List.take_of_length_le (by simp)
      have tk2:List.take l.length (Ql l)=Ql l:=List.take_of_length_le (by simp)
      have u1:(j:Int)≤l.length:=by omega
      have u2:(0:Int)≤(j:Int):=Int.natCast_nonneg j
      have r1:aK 1 ((RG l).take j):=xA (ar λ_=>rfl)
      have r2:aK 1 ((RG l).drop j):=xC (ar λ_=>rfl)
      have r3:aK 1 ((Ql l).take j):=xA (ar λ_=>rfl)
      have r4:aK 1 ((Ql l).drop j):=xC (ar λ_=>rfl)
      have h6:(l.take j++(n,X.1)::l.drop j).length=l.length+1:=by simp;omega
      by_cases L:j<l.length
      ·have g2:=ah (f:= λm:aR=> [pS m.1]) L
       have g4:Op.bytesLess l[j].1.toList n.toList=false:=by
        rcases HC with e|⟨hn,hA⟩
        ·omega
        ·cases h:Op.bytesLess l[j].1.toList n.toList with
         |false=>rfl
         |true=>exact absurd h hA
       have g6: ¬l[j].1=n:= λe=>hf ⟨L,e⟩
       clear HC hf
       generalize l[j].1=nn at*
       repeat' first|simp(disch:=omega)only[go_sem, *,g1,g2,g4,g6,r5,r6,u1,u2,tk1,tk2,Option.getD_none,Option.getD_some,Option.isSome_none,Option.isSome_some,Int.toNat_zero,List.drop_zero,Bool.false_eq_true,wrap_i64]|apply ab<;>intro h<;>try omega|refine cN (an rfl) r2 (by simp;omega) (by simp;omega) ?_|refine cN r1 (jI (an rfl) r2) (by simp;omega) (by simp;omega) ?_|refine cN (an rfl) r4 (by simp;omega) (by simp;omega) ?_|refine c8 r3 (jI (an rfl) r4) (by simp) (by simp;omega) (by simp;omega) ?_
       exact⟨(i+1,l.take j++(n,X.1)::l.drop j,ok2), [(4,5)],⟨d,HI3.out,by simp only[h6];omega,HR3⟩,by show _-_<_-_;omega,by simp[List.map_append,List.map_cons,List.map_take,List.map_drop,Int.toNat_zero,List.drop_zero,wr]⟩
      ·repeat' first|simp(disch:=omega)only[go_sem, *,g1,r5,r6,u1,u2,tk1,tk2,Option.getD_none,Option.getD_some,Option.isSome_none,Option.isSome_some,Int.toNat_zero,List.drop_zero,Bool.false_eq_true,wrap_i64]|apply ab<;>intro h<;>try omega|refine cN (an rfl) r2 (by simp;omega) (by simp;omega) ?_|refine cN r1 (jI (an rfl) r2) (by simp;omega) (by simp;omega) ?_|refine cN (an rfl) r4 (by simp;omega) (by simp;omega) ?_|refine c8 r3 (jI (an rfl) r4) (by simp) (by simp;omega) (by simp;omega) ?_
       exact⟨(i+1,l.take j++(n,X.1)::l.drop j,ok2), [(4,5)],⟨d,HI3.out,by simp only[h6];omega,HR3⟩,by show _-_<_-_;omega,by simp[List.map_append,List.map_cons,List.map_take,List.map_drop,Int.toNat_zero,List.drop_zero,wr]⟩
  ·have h2:=HR.out
   rw[List.drop_eq_nil_of_le (by omega),gN]at h2
   subst h2
   repeat' first|simp(disch:=omega)only[go_sem, *]|apply ab<;>intro h<;>try omega
set_option maxRecDepth 20000
set_option maxRecDepth 1000000
theorem Ja {l:List aR} {k:Nat} (h:k<l.length):(mu (l.take (k+1))).map mP=(mu (l.take k)).map mP++(if l[k].2=0 then []else [mP l[k]]):=by
 rw[List.take_succ_eq_append_getElem h]
 show(List.filter _ _).map mP=_
 rw[List.filter_append,List.map_append]
 congr 1
 by_cases e:l[k].2=0
 ·rw[if_pos e];simp[e]
 ·rw[if_neg e];simp[e]
theorem BI (s:KQ) (hl:s.2.1.length≤2000000000):ac Ya 143 [SC s] (da s.1 (mu s.2.1)):=by
 refine ac.of Cl (by simp) λ_=>aa ?_
 obtain⟨c,l,ok⟩:=s
 simp only at hl ⊢
 conv in bh _ _=>cbv
 repeat' first|simp(disch:=omega)only[go_sem, *]|apply ab<;>intro h<;>try omega
 refine ci 2 1 85 2 _ rfl rfl (by decide) ?_
 refine ai (λk:Nat=>⟨[(1,.c (.ptr 0 0)),(2,.c (.ptr 1 0)),(3,.c (.ptr 2 0)),(4,I k)],
  [(0,.var [.pure (pI c),.pure (TR l),.pure (Vg l),.pure (pB ok)]),(1,.var [.pure (pI 0),.nils]),(2,.var [.pure (pI c),.ref 3]),(3,.arr 85 2 ((mu (l.take k)).map mP))],4,0⟩) (λk=>k≤l.length) (λk=>l.length-k) ⟨0, [],Nat.zero_le _,by simp[mu]⟩ ?_
 intro k hk
 refine aa ?_
 by_cases d:k<l.length
 ·have e1:=Ja d
  have g1:=ah (f:= λm:aR=> [pS m.1]) d
  have g2:=ah (f:= λm:aR=> [pI m.2]) d
  have w:(mu (l.take k)).length≤2000000000:=by
   have:(mu (l.take k)).length≤(l.take k).length:=List.length_filter_le _ _
   simp at this;omega
  simp only[mP]at e1
  generalize l[k]=m at*
  obtain⟨n,x⟩:=m
  simp only at g1 g2 e1
  generalize mu (l.take k)=F0 at*
  by_cases hx:x=0
  ·subst hx
   rw[if_pos rfl,List.append_nil]at e1
   repeat' first|simp(disch:=omega)only[go_sem, *,g1,g2,wrap_i64]|apply ab<;>intro h<;>try omega
   exact⟨k+1, [],d,by omega,by simp[e1]⟩
  ·rw[if_neg hx]at e1
   repeat' first|simp(disch:=omega)only[go_sem, *,g1,g2,wrap_i64]|apply ab<;>intro h<;>try omega|refine aA rfl (by intro h;cases h) (an rfl) (by simp;omega) (by simp;omega) ?_
   exact⟨k+1, [(3,4)],d,by omega,by simp[e1]⟩
 ·obtain rfl:k=l.length:=by omega
  rw[List.take_of_length_le (Nat.le_refl _)]
  repeat' first|simp(disch:=omega)only[go_sem, *]|apply ab<;>intro h<;>try omega
theorem D3 {b:Int}: ∀{c l:List aR} {o:Bool},(gN b c (l,o)).1.length≤l.length+c.length
 | [],l,o=>by simp[gN]
 |m::r,l,o=>by
  rw[gN]
  have h1:=zF l m.1 (dg (m.2*b)).1
  have h2:=D3 (b:=b) (c:=r) (l:=(jk l m.1 (dg (m.2*b)).1).1) (o:=o&&(dg (m.2*b)).2&&(jk l m.1 (dg (m.2*b)).1).2)
  simp only[List.length_cons]
  omega
theorem Ht {b:Int}: ∀{c l:List aR} {o:Bool},(∀m∈l,am m.2)→ ∀m∈(gN b c (l,o)).1,am m.2
 | [],l,o,h=>h
 |x::r,l,o,h=>by
  rw[gN]
  exact Ht (Fw (nR _) h)
theorem P9 {l:List (aU×Int)} {k:Nat} (h:k<l.length):C3 (l.drop k)=((l[k].1.2||decide (l[k].2=0))&&C3 (l.drop (k+1))):=by
 rw[List.drop_eq_getElem_cons h]
 rfl
theorem tK {l:List aU} {b:List Int} (hl: ∀c∈l,br c) (hb: ∀x∈b,am x) (hs:gE l≤1000000000):ac Ya 102 [bB l,iE b] (R9 (lD l b)):=by
 refine ac.of vg (by simp) λhU=>aa ?_
 have w:=GY hU.1
 clear hU
 conv in bh _ _=>cbv
 by_cases E:l.length=b.length
 ·have hz:(l.zip b).length=l.length:=by simp[E]
  obtain⟨N,hN⟩: ∃N,N=l.length:=⟨_,rfl⟩
  rw[←hN]at w hz
  have e1:l.length=N:=hN.symm
  have e2:b.length=N:=by rw[←E,e1]
  have HZ:=Lib.hid hz
  have HE:=Lib.hid E
  clear hN E hz
  repeat' first|simp(disch:=omega)only[go_sem, *,e1,e2]|apply ab<;>intro h<;>try omega
  refine ai (λs:Nat×Bool=>⟨[(0,bB l),(1,iE b),(3,.top),(4,.c (.ptr 0 0)),(6,Go.Abs.B s.2),(7,I s.1)], [(0,.var [.pure (pI 0),.nils,.pure (pB false)])],1,0⟩) (λs=>s.1≤N∧dZ (λi=> ∀(h1:i<l.length) (h2:i<b.length),¬(b[i]<0∧l[i].2=false)) s.1∧Hid (C3 (l.zip b)=(s.2&&C3 ((l.zip b).drop s.1)))) (λs=>N-s.1) ⟨(0,true), [],⟨Nat.zero_le _,.zero,Lib.hid rfl⟩,by simp[e1,e2]⟩ ?_
  rintro⟨k,e⟩ ⟨hk,A,HQ⟩
  refine aa ?_
  simp only at hk A HQ
  by_cases C:k<N
  ·have d:k<l.length:=by omega
   have u:k<b.length:=by omega
   have O:(b[k]<0∧l[k].2=false)→lD l b=(mM,1):= λh=>by
    rw[lD,if_neg (not_not_intro HE.out),if_pos]
    refine⟨(l[k],b[k]), ?_,h⟩
    rw[List.mem_iff_getElem]
    exact⟨k,by rw[HZ.out];exact C,by simp⟩
   have nxt: ¬(b[k]<0∧l[k].2=false)→Hid (dZ (λi=> ∀(h1:i<l.length) (h2:i<b.length),¬(b[i]<0∧l[i].2=false)) (k+1)):= λh=>Lib.hid (A.succ λ_ _=>h)
   have hq:=HQ.out
   have hd:=P9 (l:=l.zip b) (k:=k) (by rw[HZ.out];exact C)
   rw[List.getElem_zip]at hd
   rw[hd]at hq
   have g1:=ah (f:=cP) d
   have g2:=ah (f:= λn=> [pI n]) u
   clear hd HQ
   generalize l[k]=c at*
   generalize b[k]=x at*
   obtain⟨⟨ck,cl⟩,q⟩:=c
   simp only[cP]at g1
   simp only at hq
   have BAD:=Lib.hid O
   have NXT:=Lib.hid nxt
   have HQ:Hid (C3 (l.zip b)=((e&&(q||decide (x=0)))&&C3 ((l.zip b).drop (k+1)))):=Lib.hid (by rw[hq,Bool.and_assoc])
   clear O nxt A hq
   by_cases h7:x<0∧q=false
   ·rw[BAD.out h7]
    obtain⟨h7,rfl⟩:=h7
    clear BAD NXT HQ
    repeat' first|simp(disch:=omega)only[go_sem, *,g1,g2,wrap_i64]|apply ab<;>intro h<;>try omega
    rfl
   ·have NX:=NXT.out h7
    clear BAD NXT
    have NX2:=NX
    simp only[e1,e2]at NX2
    by_cases hx:x=0
    ·subst hx
     cases e<;>cases q
     all_goals
      repeat' first|simp(disch:=omega)only[go_sem, *,g1,g2,wrap_i64]|apply ab<;>intro h<;>try omega
      first
       |exact⟨(k+1,false), [],⟨C,NX2.out,Lib.hid (by have:=HQ.out;simpa[]using this)⟩,by show _-_<_-_;omega,by simp⟩
       |exact⟨(k+1,true), [],⟨C,NX2.out,Lib.hid (by have:=HQ.out;simpa[]using this)⟩,by show _-_<_-_;omega,by simp⟩
    ·cases e<;>cases q
     all_goals
      by_cases M:x<0
      all_goals first
      |(exact(h7 (And.intro M rfl)).elim)
      |skip
      all_goals
       repeat' first|simp(disch:=omega)only[go_sem, *,g1,g2,hx,M,wrap_i64]|apply ab<;>intro h<;>try omega
       first
        |exact⟨(k+1,false), [],⟨C,NX2.out,Lib.hid (by have:=HQ.out;simpa[hx]using this)⟩,by show _-_<_-_;omega,by simp[hx]⟩
        |exact⟨(k+1,true), [],⟨C,NX2.out,Lib.hid (by have:=HQ.out;simpa[hx]using this)⟩,by show _-_<_-_;omega,by simp[hx]⟩
  ·obtain rfl:k=N:=by omega
   have hV: ¬ ∃p∈l.zip b,p.2<0∧p.1.2=false:=by
    rintro⟨p,hp,hW⟩
    obtain⟨i,hi,rfl⟩:=List.mem_iff_getElem.1 hp
    rw[HZ.out]at hi
    have h2:=A i hi (by omega) (by omega)
    rw[List.getElem_zip]at hW
    exact h2 hW
   have hq:C3 (l.zip b)=e:=by
    have:=HQ.out
    rw[List.drop_eq_nil_of_le (by rw[HZ.out];exact Nat.le_refl _)]at this
    simpa[C3]using this
   rw[lD,if_neg (not_not_intro HE.out),if_neg hV,hq]
   obtain⟨R,hR⟩: ∃R,R=sr ((l.zip b).drop 0) (0, [],true):=⟨_,rfl⟩
   have ge:sr (l.zip b) (0, [],true)=R:=hR.symm
   rw[ge]
   have HR:=Lib.hid hR
   clear hR ge hV A hq HQ
   repeat' first|simp(disch:=omega)only[go_sem, *,e1,e2]|apply ab<;>intro h<;>try omega
   refine Fe 1 1 _ rfl rfl ?_
   refine Fe 1 2 _ rfl rfl ?_
   refine ai (λs:Nat×KQ=>⟨[(0,bB l),(1,iE b),(4,.c (.ptr 0 0)),(6,Go.Abs.B e),(8,.c (.ptr 1 0)),(9,I s.1)], [(0,.var [.pure (pI 0),.nils,.pure (pB false)]),(1,.var [.pure (pI s.2.1),.pure (TR s.2.2.1),.pure (Vg s.2.2.1),.pure (pB s.2.2.2)])],2,0⟩)
    (λs=>s.1≤k∧am s.2.1∧(∀m∈s.2.2.1,am m.2)∧s.2.2.1.length+gE (l.drop s.1)≤1000000000∧Hid (R=sr ((l.zip b).drop s.1) s.2)) (λs=>k-s.1)
    ⟨(0,(0, [],true)), [],⟨Nat.zero_le _,bL,λm hm=>by simp at hm,by simpa using hs,HR⟩,by simp[e1,e2]⟩ ?_
   clear HR hs
   rintro⟨j,S⟩ ⟨hj,h0,G,hs,HR⟩
   refine aa ?_
   simp only at hj h0 G hs HR
   by_cases P:j<k
   ·have d:j<l.length:=by omega
    have u:j<b.length:=by omega
    have J:bl l[j].1:=hl _ (List.getElem_mem d)
    have Q:=hb _ (List.getElem_mem u)
    have he:gE (l.drop j)=l[j].1.2.length+gE (l.drop (j+1)):=by rw[List.drop_eq_getElem_cons d,gE]
    have h2:=HR.out
    rw[LP d u,sr]at h2
    simp only at h2
    have g1:=ah (f:=cP) d
    have g2:=ah (f:= λn=> [pI n]) u
    clear HR
    generalize l[j]=c at*
    generalize b[j]=x at*
    obtain⟨⟨ck,cl⟩,q⟩:=c
    simp only[cP]at g1
    simp only at h2 he J
    have ps:=vZ (s:=S) (c:=(ck,cl)) (b:=x) h0 G J Q (by simp only;omega)
    have n1:am (f9 S (ck,cl) x).1:=nR _
    have n2: ∀m∈(f9 S (ck,cl) x).2.1,am m.2:=Ht G
    have n3:(f9 S (ck,cl) x).2.1.length≤S.2.1.length+cl.length:=D3
    have n4:(f9 S (ck,cl) x).2.1.length+gE (l.drop (j+1))≤1000000000:=by omega
    have HR:=Lib.hid h2
    clear h2 hs he n3 J Q h0 G
    generalize f9 S (ck,cl) x=S2 at*
    obtain⟨sk,sl,so⟩:=S
    obtain⟨sk2,sl2,so2⟩:=S2
    repeat' first|simp(disch:=omega)only[go_sem, *,g1,g2,wrap_i64]|apply ab<;>intro h<;>try omega|refine aq ps rfl rfl ?_|refine aW ps rfl rfl ?_
    exact⟨(j+1,(sk2,sl2,so2)), [],⟨P,n1,n2,n4,HR⟩,by show _-_<_-_;omega,by simp⟩
   ·have h2:=HR.out
    rw[List.drop_eq_nil_of_le (by rw[HZ.out];omega),sr]at h2
    subst h2
    have HN:R.2.1.length≤2000000000:=by omega
    have pf:=BI R HN
    obtain⟨sk,sl,so⟩:=R
    simp only at HN pf ⊢
    cases so
    ·repeat' first|simp(disch:=omega)only[go_sem, *]|apply ab<;>intro h<;>try omega
     rfl
    ·repeat' first|simp(disch:=omega)only[go_sem, *]|apply ab<;>intro h<;>try omega|refine aq pf rfl rfl ?_|refine aW pf rfl rfl ?_
 ·rw[lD,if_pos E]
  have gg: ¬(l.length:Int)=b.length:=by omega
  clear E
  repeat' first|simp(disch:=omega)only[go_sem, *,gg]|apply ab<;>intro h<;>try omega
  rfl
