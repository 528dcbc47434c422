import Derived.Test.YthbcbaembicdbaaGreatDoorV07b
import Derived.Test.YthbcbaembicdbaaGreatDoorAbs28
set_option linter.unusedVariables false
set_option linter.unusedSimpArgs false
set_option maxRecDepth 20000
namespace Go.Proofs.YthbcbaembicdbaaGreatDoor
open Go.Abs Go.RowKit
abbrev Qh (nm:Nat) (f:Bool) (K:Int) (rows:List (List PC)) (B0 B1 B2:aU):List (Nat×aU):=
 [(nm,.arr 114 2 rows),(4,.var [.pure (pB f)]),(3,.var [.pure (pI K),.ref nm]),(2,B2),(1,B1),(0,B0)]
abbrev wr (x:Int):Int:=IntKind.wrap .i64 x
theorem gA {x y:Int} (hx:ar x) (hy:ar y) (hz:wr (x+y)=0) (n:ByteArray) (f:Bool) (K:Int) (rows:List (List PC)) (B0 B1 B2:aU):
  aq Tryz.prog lQ [S n,I x,I y,.c (.ptr 4 0),.c (.ptr 3 0)] (Qh 5 f K rows B0 B1 B2) 6 (.tup []) (Qh 5 (f&&decide (ar (x+y))) K rows B0 B1 B2) 6:=by
 refine aq.of zc (by simp) λ_=>aa ?_
 have p:=sc hx hy
 change IntKind.wrap .i64 (x+y)=0 at hz
 rw[hz]at p
 simp only[vu]
 generalize decide (ar (x+y))=g at*
 cases f
 ·repeat' first|simp(disch:=omega) only[go_sem, *]|((with_reducible apply ab)<;>intro h<;>try omega)|(refine aY p rfl rfl ?_)
  all_goals simp
 ·repeat' first|simp(disch:=omega) only[go_sem, *]|((with_reducible apply ab)<;>intro h<;>try omega)|(refine aY p rfl rfl ?_)
  all_goals simp
theorem gu {x y:Int} (hx:ar x) (hy:ar y) (hz:wr (x+y)≠0) (n:ByteArray) (f:Bool) (K:Int) (rows:List (List PC)) (hr:rows.length≤4000000000) (B0 B1 B2:aU):
  aq Tryz.prog lQ [S n,I x,I y,.c (.ptr 4 0),.c (.ptr 3 0)] (Qh 5 f K rows B0 B1 B2) 6 (.tup []) (Qh 6 (f&&decide (ar (x+y))) K (rows++ [[pS n,pI (wr (x+y))]]) B0 B1 B2) 7:=by
 refine aq.of zc (by simp) λ_=>aa ?_
 have p:=sc hx hy
 change IntKind.wrap .i64 (x+y)≠0 at hz
 simp only[vu]
 generalize decide (ar (x+y))=g at*
 simp only[wr]
 generalize IntKind.wrap .i64 (x+y)=z at*
 have hz': ¬z=0:=hz
 cases f
 ·repeat' first|simp(disch:=omega) only[go_sem, *,hz']|((with_reducible apply ab)<;>intro h<;>try omega)|(refine aY p rfl rfl ?_)|(refine bf rfl (by intro h;cases h) (aO rfl) (by simp;omega) (by simp;omega) ?_)
  all_goals simp
 ·repeat' first|simp(disch:=omega) only[go_sem, *,hz']|((with_reducible apply ab)<;>intro h<;>try omega)|(refine aY p rfl rfl ?_)|(refine bf rfl (by intro h;cases h) (aO rfl) (by simp;omega) (by simp;omega) ?_)
  all_goals simp
def pO (T:List TO):List (List PC):=T.filterMap λt=>if wr (t.2.1+t.2.2)=0 then none else some [pS t.1,pI (wr (t.2.1+t.2.2))]
def Aw (T:List TO):Bool:=T.all λt=>decide (ar (t.2.1+t.2.2))
abbrev Ce (k:Int) (l:List aD):aU:= .var [.pure (pI k),.pure (aw l)]
abbrev QT:aU:= .var [.pure (pI 0),.nils]
abbrev aaj (f:Bool) (K:Int) (B0 B1 B2:aU):List (Nat×aU):= [(4,.var [.pure (pB f)]),(3,.var [.pure (pI K),.nils]),(2,B2),(1,B1),(0,B0)]
theorem Ah (x:aD) (a:List aD):List.take a.length (List.map mP a)=List.map mP a:=List.take_of_length_le (by simp)
set_option maxHeartbeats 2000000 in
theorem Gd {a b:List aD} (ha: ∀m∈a,ar m.2) (hb: ∀m∈b,ar m.2) (hs:a.length+b.length≤2000000000) (f:Bool) (K k1 k2:Int) (l1 l2:List aD):
  aq Tryz.prog BB [.c (.pure (aw a)),.c (.pure (aw b)),.c (.clo lQ [.ptr 4 0,.ptr 3 0])] (aaj f K (Ce k1 l1) (Ce k2 l2) QT) 5 (.tup []) (Qh 5 (f&&Aw (bJ a b)) K (pO (bJ a b)) (Ce k1 l1) (Ce k2 l2) QT) 6:=by
 refine aq.of JW (by simp) λ_=>aa ?_
 obtain⟨F,hF⟩: ∃F,F=(f&&Aw (bJ a b)):=⟨_,rfl⟩
 obtain⟨R,hR⟩: ∃R,R=pO (bJ a b):=⟨_,rfl⟩
 rw[←hF,←hR]
 have HF:=Lib.hid hF
 have HR:Hid (R= []++pO (bJ a b)):=Lib.hid (by rw[hR];rfl)
 clear hF hR
 simp only[BT]
 repeat' first|simp(disch:=omega) only[go_sem, *]|((with_reducible apply ab)<;>intro h<;>try omega)
 refine dD 3 1 114 2 _ rfl rfl (by decide) ?_
 refine ap (λs:List aD×List aD×Bool×List (List PC)=>⟨[(0,.c (.pure (aw s.1))),(1,.c (.pure (aw s.2.1))),(2,.c (.clo lQ [.ptr 4 0,.ptr 3 0]))],Qh 5 s.2.2.1 K s.2.2.2 (Ce k1 l1) (Ce k2 l2) QT,6,5⟩)
  (λs=>(∀m∈s.1,ar m.2)∧(∀m∈s.2.1,ar m.2)∧s.2.2.2.length+s.1.length+s.2.1.length≤2000000000∧Hid (F=(s.2.2.1&&Aw (bJ s.1 s.2.1)))∧Hid (R=s.2.2.2++pO (bJ s.1 s.2.1))) (λs=>s.1.length+s.2.1.length) ⟨(a,b,f, []), [],⟨ha,hb,by simpa using hs,HF,HR⟩,by simp⟩ ?_
 clear ha hb hs HF HR
 rintro⟨a,b,f,rows⟩ ⟨ha,hb,hs,HF,HR⟩
 refine aa ?_
 simp only at ha hb hs HF HR
 have one: ∀{t:TO} {T:List TO} {f:Bool} {rows:List (List PC)},Hid (F=(f&&Aw (t::T)))→Hid (R=rows++pO (t::T))→
   Hid (F=((f&&decide (ar (t.2.1+t.2.2)))&&Aw T))∧(wr (t.2.1+t.2.2)=0→Hid (R=rows++pO T))∧(wr (t.2.1+t.2.2)≠0→Hid (R=(rows++ [[pS t.1,pI (wr (t.2.1+t.2.2))]])++pO T)):=by
  intro t T f rows h1 h2
  have g1:=h1.out
  have g2:=h2.out
  refine⟨Lib.hid ?_,λh=>Lib.hid ?_,λh=>Lib.hid ?_⟩
  ·rw[g1,Aw,List.all_cons,Bool.and_assoc];rfl
  ·rw[g2,pO,List.filterMap_cons,if_pos h];rfl
  ·rw[g2,pO,List.filterMap_cons,if_neg h,List.append_assoc];rfl
 cases a with
 |nil=>
  cases b with
  |nil=>
   have hF:=HF.out
   have hR:=HR.out
   rw[kA]at hF hR
   simp only[List.map_nil,Aw,List.all_nil,Bool.and_true,pO,List.filterMap_nil,List.append_nil]at hF hR
   subst hF
   subst hR
   repeat' first|simp(disch:=omega) only[go_sem, *]|((with_reducible apply ab)<;>intro h<;>try omega)
  |cons y b=>
   have hy:=hb y List.mem_cons_self
   have hb': ∀m∈b,ar m.2:= λm hm=>hb m (List.mem_cons_of_mem _ hm)
   have em:bJ [] (y::b)=(y.1,0,y.2)::bJ [] b:=by rw[kA,kA];rfl
   rw[em]at HF HR
   obtain⟨o1,o2,o3⟩:=one HF HR
   have rk:bC 2 ([pS y.1,pI y.2]::List.map mP b):=aQ (f:=mP) (l:=y::b) λ_=>rfl
   have tk:=Ah y b
   simp only[List.length_cons,List.length_nil]at hs
   clear HF HR one hb
   by_cases hz:wr (0+y.2)=0
   ·have HR2:=o2 hz
    have q:=gA b6 hy hz y.1 f K rows (Ce k1 l1) (Ce k2 l2) QT
    clear o2 o3
    repeat' first|simp(disch:=omega) only[go_sem, *,mP,Int.natCast_zero,Int.toNat_zero,Int.toNat_one,Option.getD_some,Option.getD_none,rk,tk]|((with_reducible apply ab)<;>intro h<;>try omega)|(refine an q ?_)
    refine⟨([],b,_,rows), [],⟨ha,hb',by simp;omega,o1,HR2⟩,by simp only[List.length_cons,List.length_nil];omega, ?_⟩
    simp[tk]
    cases f<;>rfl
   ·have HR2:=o3 hz
    have q:=gu b6 hy hz y.1 f K rows (by omega) (Ce k1 l1) (Ce k2 l2) QT
    clear o2 o3
    repeat' first|simp(disch:=omega) only[go_sem, *,mP,Int.natCast_zero,Int.toNat_zero,Int.toNat_one,Option.getD_some,Option.getD_none,rk,tk]|((with_reducible apply ab)<;>intro h<;>try omega)|(refine an q ?_)
    refine⟨([],b,_,_), [(5,6)],⟨ha,hb',by simp;omega,o1,HR2⟩,by simp only[List.length_cons,List.length_nil];omega, ?_⟩
    simp[tk]
    cases f<;>rfl
 |cons x a=>
  have hx:=ha x List.mem_cons_self
  have ha': ∀m∈a,ar m.2:= λm hm=>ha m (List.mem_cons_of_mem _ hm)
  have rka:bC 2 ([pS x.1,pI x.2]::List.map mP a):=aQ (f:=mP) (l:=x::a) λ_=>rfl
  have tka:=Ah x a
  cases b with
  |nil=>
   have em:bJ (x::a) []=(x.1,x.2,0)::bJ a []:=by rw[kV,kV];rfl
   rw[em]at HF HR
   obtain⟨o1,o2,o3⟩:=one HF HR
   simp only[List.length_cons,List.length_nil]at hs
   clear HF HR one ha
   by_cases hz:wr (x.2+0)=0
   ·have HR2:=o2 hz
    have q:=gA hx b6 hz x.1 f K rows (Ce k1 l1) (Ce k2 l2) QT
    clear o2 o3
    repeat' first|simp(disch:=omega) only[go_sem, *,mP,Int.natCast_zero,Int.toNat_zero,Int.toNat_one,Option.getD_some,Option.getD_none,rka,tka]|((with_reducible apply ab)<;>intro h<;>try omega)|(refine an q ?_)
    refine⟨(a, [],_,rows), [],⟨ha',hb,by simp;omega,o1,HR2⟩,by simp only[List.length_cons,List.length_nil];omega, ?_⟩
    simp[tka]
    cases f<;>rfl
   ·have HR2:=o3 hz
    have q:=gu hx b6 hz x.1 f K rows (by omega) (Ce k1 l1) (Ce k2 l2) QT
    clear o2 o3
    repeat' first|simp(disch:=omega) only[go_sem, *,mP,Int.natCast_zero,Int.toNat_zero,Int.toNat_one,Option.getD_some,Option.getD_none,rka,tka]|((with_reducible apply ab)<;>intro h<;>try omega)|(refine an q ?_)
    refine⟨(a, [],_,_), [(5,6)],⟨ha',hb,by simp;omega,o1,HR2⟩,by simp only[List.length_cons,List.length_nil];omega, ?_⟩
    simp[tka]
    cases f<;>rfl
  |cons y b=>
   have hy:=hb y List.mem_cons_self
   have hb': ∀m∈b,ar m.2:= λm hm=>hb m (List.mem_cons_of_mem _ hm)
   have rkb:bC 2 ([pS y.1,pI y.2]::List.map mP b):=aQ (f:=mP) (l:=y::b) λ_=>rfl
   have tkb:=Ah y b
   rw[oV]at HF HR
   simp only[List.length_cons]at hs
   by_cases hl:eW x.1 y.1=true
   ·rw[if_pos hl]at HF HR
    obtain⟨o1,o2,o3⟩:=one HF HR
    have hl':Op.bytesLess x.1.toList y.1.toList=true:=hl
    clear HF HR one ha
    by_cases hz:wr (x.2+0)=0
    ·have HR2:=o2 hz
     have q:=gA hx b6 hz x.1 f K rows (Ce k1 l1) (Ce k2 l2) QT
     clear o2 o3
     repeat' first|simp(disch:=omega) only[go_sem, *,mP,Int.natCast_zero,Int.toNat_zero,Int.toNat_one,Option.getD_some,Option.getD_none,rka,tka,hl']|((with_reducible apply ab)<;>intro h<;>try omega)|(refine an q ?_)
     refine⟨(a,y::b,_,rows), [],⟨ha',hb,by simp;omega,o1,HR2⟩,by simp only[List.length_cons,List.length_nil];omega, ?_⟩
     simp[tka]
     cases f<;>rfl
    ·have HR2:=o3 hz
     have q:=gu hx b6 hz x.1 f K rows (by omega) (Ce k1 l1) (Ce k2 l2) QT
     clear o2 o3
     repeat' first|simp(disch:=omega) only[go_sem, *,mP,Int.natCast_zero,Int.toNat_zero,Int.toNat_one,Option.getD_some,Option.getD_none,rka,tka,hl']|((with_reducible apply ab)<;>intro h<;>try omega)|(refine an q ?_)
     refine⟨(a,y::b,_,_), [(5,6)],⟨ha',hb,by simp;omega,o1,HR2⟩,by simp only[List.length_cons,List.length_nil];omega, ?_⟩
     simp[tka]
     cases f<;>rfl
   ·rw[if_neg hl]at HF HR
    have hl':Op.bytesLess x.1.toList y.1.toList=false:=by
     cases h:Op.bytesLess x.1.toList y.1.toList with
     |false=>rfl
     |true=>exact absurd h hl
    by_cases hr:eW y.1 x.1=true
    ·rw[if_pos hr]at HF HR
     obtain⟨o1,o2,o3⟩:=one HF HR
     have hr':Op.bytesLess y.1.toList x.1.toList=true:=hr
     clear HF HR one hb
     by_cases hz:wr (0+y.2)=0
     ·have HR2:=o2 hz
      have q:=gA b6 hy hz y.1 f K rows (Ce k1 l1) (Ce k2 l2) QT
      clear o2 o3
      repeat' first|simp(disch:=omega) only[go_sem, *,mP,Int.natCast_zero,Int.toNat_zero,Int.toNat_one,Option.getD_some,Option.getD_none,rkb,tkb,hl',hr']|((with_reducible apply ab)<;>intro h<;>try omega)|(refine an q ?_)
      refine⟨(x::a,b,_,rows), [],⟨ha,hb',by simp;omega,o1,HR2⟩,by simp only[List.length_cons,List.length_nil];omega, ?_⟩
      simp[tkb]
      cases f<;>rfl
     ·have HR2:=o3 hz
      have q:=gu b6 hy hz y.1 f K rows (by omega) (Ce k1 l1) (Ce k2 l2) QT
      clear o2 o3
      repeat' first|simp(disch:=omega) only[go_sem, *,mP,Int.natCast_zero,Int.toNat_zero,Int.toNat_one,Option.getD_some,Option.getD_none,rkb,tkb,hl',hr']|((with_reducible apply ab)<;>intro h<;>try omega)|(refine an q ?_)
      refine⟨(x::a,b,_,_), [(5,6)],⟨ha,hb',by simp;omega,o1,HR2⟩,by simp only[List.length_cons,List.length_nil];omega, ?_⟩
      simp[tkb]
      cases f<;>rfl
    ·rw[if_neg hr]at HF HR
     obtain⟨o1,o2,o3⟩:=one HF HR
     have hr':Op.bytesLess y.1.toList x.1.toList=false:=by
      cases h:Op.bytesLess y.1.toList x.1.toList with
      |false=>rfl
      |true=>exact absurd h hr
     clear HF HR one hb ha
     by_cases hz:wr (x.2+y.2)=0
     ·have HR2:=o2 hz
      have q:=gA hx hy hz x.1 f K rows (Ce k1 l1) (Ce k2 l2) QT
      clear o2 o3
      repeat' first|simp(disch:=omega) only[go_sem, *,mP,Int.natCast_zero,Int.toNat_zero,Int.toNat_one,Option.getD_some,Option.getD_none,rka,rkb,tka,tkb,hl',hr']|((with_reducible apply ab)<;>intro h<;>try omega)|(refine an q ?_)
      refine⟨(a,b,_,rows), [],⟨ha',hb',by simp;omega,o1,HR2⟩,by simp only[List.length_cons,List.length_nil];omega, ?_⟩
      simp[tka,tkb]
      cases f<;>rfl
     ·have HR2:=o3 hz
      have q:=gu hx hy hz x.1 f K rows (by omega) (Ce k1 l1) (Ce k2 l2) QT
      clear o2 o3
      repeat' first|simp(disch:=omega) only[go_sem, *,mP,Int.natCast_zero,Int.toNat_zero,Int.toNat_one,Option.getD_some,Option.getD_none,rka,rkb,tka,tkb,hl',hr']|((with_reducible apply ab)<;>intro h<;>try omega)|(refine an q ?_)
      refine⟨(a,b,_,_), [(5,6)],⟨ha',hb',by simp;omega,o1,HR2⟩,by simp only[List.length_cons,List.length_nil];omega, ?_⟩
      simp[tka,tkb]
      cases f<;>rfl
noncomputable def nY (a b:bU):bU×Int:=if ¬bn a.2∨ ¬bn b.2 then((0, []),1)else ia a b
theorem DM {T:List TO}:Aw T=true↔ ∀t∈T,ar (t.2.1+t.2.2):=by simp[Aw]
theorem VH {T:List TO} (h:Aw T=true):pO T=(vc T).map mP:=by
 rw[DM]at h
 rw[pO,vc,List.map_filterMap]
 induction T with
 |nil=>rfl
 |cons t r ih=>
  have h1:=h t List.mem_cons_self
  have e:wr (t.2.1+t.2.2)=t.2.1+t.2.2:=wrap_i64 h1
  rw[List.filterMap_cons,List.filterMap_cons,e,ih λt ht=>h t (List.mem_cons_of_mem _ ht)]
  by_cases h0:t.2.1+t.2.2=0
  ·rw[if_pos h0,if_pos h0];rfl
  ·rw[if_neg h0,if_neg h0];rfl
theorem oI {a b:bU} (ha:br a) (hb:br b) (hsa:short a.2) (hsb:short b.2):af Tryz.prog G3 [dR a.1 a.2,dR b.1 b.2] (Sv (nY a b)):=by
 refine af.of Od (by simp) λ_=>aa ?_
 obtain⟨k1,l1⟩:=a
 obtain⟨k2,l2⟩:=b
 obtain⟨hk1,hl1⟩:=ha
 obtain⟨hk2,hl2⟩:=hb
 simp only at hk1 hl1 hk2 hl2 hsa hsb
 have pv1:=bG k1 l1
 have pv2:=bG k2 l2
 have pp:=sc hk1 hk2
 simp only[HX]
 by_cases o1:bn l1
 ·by_cases o2:bn l2
  ·rw[nY,if_neg (by simp[o1,o2]),ia]
   rw[if_pos o1]at pv1
   rw[if_pos o2]at pv2
   have q:=Gd hl1 hl2 (by unfold short at hsa hsb;omega) (decide (ar (k1+k2))) (wr (k1+k2)) k1 k2 l1 l2
   have hend:(if Fm (k1,l1) (k2,l2)then(tb (k1,l1) (k2,l2),0)else((0, []),3):bU×Int)=if(decide (ar (k1+k2))&&Aw (bJ l1 l2))=true then((k1+k2,vc (bJ l1 l2)),0)else((0, []),3):=by
    by_cases h:Fm (k1,l1) (k2,l2)
    ·rw[if_pos h,if_pos (by rw[Bool.and_eq_true,decide_eq_true_iff,DM];exact h)];rfl
    ·rw[if_neg h,if_neg (by rw[Bool.and_eq_true,decide_eq_true_iff,DM];exact h)]
   rw[hend]
   have hK:ar (k1+k2)→wr (k1+k2)=k1+k2:= λh=>wrap_i64 h
   have hrows:= @VH (bJ l1 l2)
   generalize bJ l1 l2=T at*
   clear hend
   by_cases hfin:(decide (ar (k1+k2))&&Aw T)=true
   ·rw[if_pos hfin]
    have h1:=hfin
    rw[Bool.and_eq_true,decide_eq_true_iff]at h1
    rw[hfin,hrows h1.2]at q
    have e:=hK h1.1
    rw[e]at q
    have e':IntKind.wrap .i64 (k1+k2)=k1+k2:=e
    rw[decide_eq_true h1.1]at q
    rw[e',decide_eq_true h1.1]at pp
    clear hfin h1 e e' hK hrows hl1 hl2
    repeat' first|simp(disch:=omega) only[go_sem, *]|((with_reducible apply ab)<;>intro h<;>try omega)|(refine aY pv1 rfl rfl ?_)|(refine aY pv2 rfl rfl ?_)|(refine aY pp rfl rfl ?_)|(refine an q ?_)
   ·rw[if_neg hfin]
    have h1:(decide (ar (k1+k2))&&Aw T)=false:=by simpa using hfin
    rw[h1]at q
    generalize pO T=rr at*
    simp only[wr]at q
    generalize IntKind.wrap .i64 (k1+k2)=W at*
    generalize decide (ar (k1+k2))=D at*
    clear h1 hfin hK hrows hl1 hl2
    repeat' first|simp(disch:=omega) only[go_sem, *]|((with_reducible apply ab)<;>intro h<;>try omega)|(refine aY pv1 rfl rfl ?_)|(refine aY pv2 rfl rfl ?_)|(refine aY pp rfl rfl ?_)|(refine an q ?_)
    rfl
  ·rw[nY,if_pos (.inr o2)]
   rw[if_pos o1]at pv1
   rw[if_neg o2]at pv2
   repeat' first|simp(disch:=omega) only[go_sem, *]|((with_reducible apply ab)<;>intro h<;>try omega)|(refine aY pv1 rfl rfl ?_)|(refine aY pv2 rfl rfl ?_)
   rfl
 ·rw[nY,if_pos (.inl o1)]
  rw[if_neg o1]at pv1
  repeat' first|simp(disch:=omega) only[go_sem, *]|((with_reducible apply ab)<;>intro h<;>try omega)|(refine aY pv1 rfl rfl ?_)|(refine aY pv2 rfl rfl ?_)
  rfl
def bk (c:aR):Prop:=br c.1
def iH:List aR→Nat
 | []=>0
 |c::r=>c.1.2.length+iH r
theorem UD {l:List aR} (h:iI (bR l)):l.length≤9223372036854775807:=by simpa[iI,jt]using h
def VZ (p:aR×Int):Prop:=bn p.1.1.2∧ ¬(p.2<0∧p.1.2=false)
theorem JE {p:aR×Int}: ¬Rc p↔VZ p:=by
 unfold Rc VZ
 constructor
 ·intro h;exact⟨Classical.byContradiction λh'=>h (.inl h'),λh'=>h (.inr h')⟩
 ·rintro⟨h1,h2⟩ (h|h);exact h h1;exact h2 h
theorem xB (a:bU) (b:Int):(de a b).2.length≤a.2.length:=by
 rw[de]
 split
 ·simp
 ·simp
theorem Ea (a b:bU):(tb a b).2.length≤a.2.length+b.2.length:=by
 have h1:=rH a.2 b.2
 have h2:(vc (bJ a.2 b.2)).length≤(bJ a.2 b.2).length:=List.length_filterMap_le _ _
 show(vc (bJ a.2 b.2)).length≤_
 omega
theorem G6 {a:bU} {b:Int} (h:b=0∨kL a b):br (de a b):=by
 rw[de]
 split
 ·exact⟨b6,λm hm=>by cases hm⟩
 ·rename_i hb
  have h:=h.resolve_left hb
  refine⟨h.1,λm hm=> ?_⟩
  obtain⟨x,hx,rfl⟩:=List.mem_map.1 hm
  exact h.2 x hx
theorem Jp {a b:bU} (h:Fm a b):br (tb a b):=by
 refine⟨h.1,λm hm=> ?_⟩
 obtain⟨t,ht,e⟩:=List.mem_filterMap.1 hm
 split at e
 ·cases e
 ·cases e
  exact h.2 t ht
theorem XH {α β:Type} {l:List α} {b:List β} {k:Nat} (h1:k<l.length) (h2:k<b.length):(l.zip b).drop k=(l[k],b[k])::(l.zip b).drop (k+1):=by
 rw[List.drop_eq_getElem_cons (by simp;omega)]
 simp
set_option maxHeartbeats 4000000 in
theorem jS {l:List aR} {b:List Int} (hl: ∀c∈l,bk c) (hb: ∀x∈b,ar x) (hs:iH l≤1000000000):af Tryz.prog lI [bR l,dc b] (abo (aL l b)):=by
 refine af.of tf (by simp) λhbd=>aa ?_
 have hlen:=UD hbd.1
 clear hbd
 simp only[lB]
 by_cases hne:l.length=b.length
 ·have hz:(l.zip b).length=l.length:=by simp[hne]
  obtain⟨N,hN⟩: ∃N,N=l.length:=⟨_,rfl⟩
  rw[←hN]at hlen hz
  have e1:l.length=N:=hN.symm
  have e2:b.length=N:=by rw[←hne,e1]
  have HZ:=Lib.hid hz
  have HE:=Lib.hid hne
  clear hN hne hz
  repeat' first|simp(disch:=omega) only[go_sem, *,e1,e2]|((with_reducible apply ab)<;>intro h<;>try omega)
  refine ap (λk:Nat=>⟨[(0,bR l),(1,dc b),(4,.c (.ptr 0 0)),(21,bR l),(22,I N),(23,I k)], [(0,.var [.pure (pI 0),.nils,.pure (pB false)])],1,0⟩) (λk=>k≤N∧fY (λi=> ∀(h1:i<l.length) (h2:i<b.length),VZ (l[i],b[i])) k) (λk=>N-k) ⟨0, [],⟨Nat.zero_le _,.zero⟩,by simp[e1,e2]⟩ ?_
  rintro k ⟨hk,hall⟩
  refine aa ?_
  by_cases hltN:k<N
  ·have hlt:k<l.length:=by omega
   have hlt2:k<b.length:=by omega
   have hbad:Rc (l[k],b[k])→aL l b=(wD,1):= λh=>by
    rw[aL,if_neg (not_not_intro HE.out),if_pos]
    refine⟨(l[k],b[k]), ?_,h⟩
    rw[List.mem_iff_getElem]
    exact⟨k,by rw[HZ.out];exact hltN,by simp⟩
   have nxt:VZ (l[k],b[k])→Hid (fY (λi=> ∀(h1:i<l.length) (h2:i<b.length),VZ (l[i],b[i])) (k+1)):= λh=>Lib.hid (hall.succ λ_ _=>h)
   have g1:=ai (f:=cP) hlt
   have g2:=ai (f:= λn=> [pI n]) hlt2
   generalize l[k]=c at*
   generalize b[k]=x at*
   obtain⟨⟨ck,cl⟩,q⟩:=c
   simp only[cP]at g1
   have pv:=bP ((ck,cl),q)
   have BAD:=Lib.hid hbad
   have NXT:=Lib.hid nxt
   clear hbad nxt hall
   by_cases hv:bn cl
   ·rw[if_pos hv]at pv
    cases q
    ·by_cases hneg:x<0
     ·rw[BAD.out (.inr ⟨hneg,rfl⟩)]
      repeat' first|simp(disch:=omega) only[go_sem, *,g1,g2,wrap_i64]|((with_reducible apply ab)<;>intro h<;>try omega)|(refine aY pv rfl rfl ?_)
      rfl
     ·have NX:=NXT.out ⟨hv,λh=>hneg h.1⟩
      repeat' first|simp(disch:=omega) only[go_sem, *,g1,g2,wrap_i64]|((with_reducible apply ab)<;>intro h<;>try omega)|(refine aY pv rfl rfl ?_)
      exact⟨k+1, [],⟨hltN,by have:=NX.out;simp only[e1,e2]at this;exact this⟩,by omega,by simp⟩
    ·have NX:=NXT.out ⟨hv,λh=>by cases h.2⟩
     by_cases hneg:x<0
     ·repeat' first|simp(disch:=omega) only[go_sem, *,g1,g2,wrap_i64]|((with_reducible apply ab)<;>intro h<;>try omega)|(refine aY pv rfl rfl ?_)
      exact⟨k+1, [],⟨hltN,by have:=NX.out;simp only[e1,e2]at this;exact this⟩,by omega,by simp⟩
     ·repeat' first|simp(disch:=omega) only[go_sem, *,g1,g2,wrap_i64]|((with_reducible apply ab)<;>intro h<;>try omega)|(refine aY pv rfl rfl ?_)
      exact⟨k+1, [],⟨hltN,by have:=NX.out;simp only[e1,e2]at this;exact this⟩,by omega,by simp⟩
   ·rw[if_neg hv]at pv
    rw[BAD.out (.inl hv)]
    repeat' first|simp(disch:=omega) only[go_sem, *,g1,g2,wrap_i64]|((with_reducible apply ab)<;>intro h<;>try omega)|(refine aY pv rfl rfl ?_)
    rfl
  ·obtain rfl:k=N:=by omega
   have hno: ¬ ∃p∈l.zip b,Rc p:=by
    rintro⟨p,hp,hbp⟩
    obtain⟨i,hi,rfl⟩:=List.mem_iff_getElem.1 hp
    rw[HZ.out]at hi
    have h2:=hall i hi (by omega) (by omega)
    rw[List.getElem_zip]at hbp
    exact JE.2 h2 hbp
   have hcomb:aL l b=gV (0, []) true ((l.zip b).drop 0):=by rw[aL,if_neg (not_not_intro HE.out),if_neg hno];rfl
   rw[hcomb]
   obtain⟨R,hR⟩: ∃R,R=gV (0, []) true ((l.zip b).drop 0):=⟨_,rfl⟩
   rw[←hR]
   have HR:=Lib.hid hR
   have HA:=Lib.hid hall
   clear hR hcomb hno hall
   repeat' first|simp(disch:=omega) only[go_sem, *,e1,e2]|((with_reducible apply ab)<;>intro h<;>try omega)
   refine XC 1 1 _ rfl rfl ?_
   refine ap (λs:Nat×bU×Bool=>⟨[(1,dc b),(4,.c (.ptr 0 0)),(9,.c (.ptr 1 0)),(47,bR l),(48,I k),(49,I s.1)], [(0,.var [.pure (pI 0),.nils,.pure (pB false)]),(1,.var [.pure (pI s.2.1.1),.pure (aw s.2.1.2),.pure (pB s.2.2)])],2,0⟩)
    (λs=>s.1≤k∧bn s.2.1.2∧br s.2.1∧s.2.1.2.length+iH (l.drop s.1)≤1000000000∧Hid (R=gV s.2.1 s.2.2 ((l.zip b).drop s.1))) (λs=>k-s.1)
    ⟨(0,((0, []),true)), [],⟨Nat.zero_le _,λi hi=>by simp at hi,⟨b6,λm hm=>by cases hm⟩,by simpa using hs,HR⟩,by simp[e1,e2]⟩ ?_
   clear HR hs
   rintro⟨j,out,eq⟩ ⟨hj,hok,h64,hs,HR⟩
   refine aa ?_
   simp only at hj hok h64 hs HR
   by_cases hltk:j<k
   ·have hlt:j<l.length:=by omega
    have hlt2:j<b.length:=by omega
    have hc:=HA.out j hltk hlt hlt2
    have hc64:br l[j].1:=hl _ (List.getElem_mem hlt)
    have hb64:=hb _ (List.getElem_mem hlt2)
    have htd:iH (l.drop j)=l[j].1.2.length+iH (l.drop (j+1)):=by rw[List.drop_eq_getElem_cons hlt,iH]
    have h2:=HR.out
    rw[XH hlt hlt2,gV]at h2
    simp only at h2
    have g1:=ai (f:=cP) hlt
    have g2:=ai (f:= λn=> [pI n]) hlt2
    clear HR
    generalize l[j]=c at*
    generalize b[j]=x at*
    obtain⟨⟨ck,cl⟩,q⟩:=c
    simp only[cP]at g1
    simp only at h2 htd hc64
    have hsl:=xB (ck,cl) x
    have hal:=Ea out (de (ck,cl) x)
    simp only at hsl
    have hclin:bn cl:=hc.1
    have ps:=kO (a:=(ck,cl)) (b:=x) hc64 hb64 (by unfold short;simp only;omega)
    rw[dP,if_neg (not_not_intro hclin),xW]at ps
    by_cases hsc:x=0∨kL (ck,cl) x
    ·have hv64:=G6 hsc
     have hvok:=As (a:=(ck,cl)) (b:=x) hclin
     rw[if_pos hsc]at ps
     have pa:=oI h64 hv64 (by unfold short;omega) (by unfold short;omega)
     rw[nY,if_neg (by simp[hok,hvok]),ia]at pa
     by_cases had:Fm out (de (ck,cl) x)
     ·have ha64:=Jp had
      have haok:=Oy hok hvok
      rw[if_pos had]at pa
      rw[if_neg (by rintro(h|h);exact h hsc;exact h had)]at h2
      have hs':(tb out (de (ck,cl) x)).2.length+iH (l.drop (j+1))≤1000000000:=by omega
      clear hsc had hvok hv64 hok h64 hc hc64 hb64 hsl hal htd hs hclin
      generalize de (ck,cl) x=SV at*
      generalize tb out SV=AV' at*
      have HR:=Lib.hid h2
      clear h2
      by_cases hz:x=0
      ·subst hz
       have HR:Hid (R=gV AV' eq ((l.zip b).drop (j+1))):=Lib.hid (by
        have:=HR.out
        simpa using this)
       cases eq<;>cases q
       all_goals
        repeat' first|simp(disch:=omega) only[go_sem, *,g1,g2,wrap_i64]|((with_reducible apply ab)<;>intro h<;>try omega)|(refine aY ps rfl rfl ?_)|(refine el ps rfl rfl ?_)|(refine el pa rfl rfl ?_)
        exact⟨(j+1,AV',_), [],⟨hltk,haok,ha64,hs',HR⟩,by show _-_<_-_;omega,by simp⟩
      ·have HR:Hid (R=gV AV' (eq&&q) ((l.zip b).drop (j+1))):=Lib.hid (by
        have:=HR.out
        simpa[hz]using this)
       cases eq<;>cases q
       all_goals
        repeat' first|simp(disch:=omega) only[go_sem, *,g1,g2,wrap_i64,hz]|((with_reducible apply ab)<;>intro h<;>try omega)|(refine aY ps rfl rfl ?_)|(refine el ps rfl rfl ?_)|(refine el pa rfl rfl ?_)
        exact⟨(j+1,AV',_), [],⟨hltk,haok,ha64,hs',HR⟩,by show _-_<_-_;omega,by simp⟩
     ·rw[if_neg had]at pa
      rw[if_pos (.inr had)]at h2
      subst h2
      clear hsc had hvok hv64
      generalize de (ck,cl) x=SV at*
      repeat' first|simp(disch:=omega) only[go_sem, *,g1,g2,wrap_i64]|((with_reducible apply ab)<;>intro h<;>try omega)|(refine aY ps rfl rfl ?_)|(refine el ps rfl rfl ?_)|(refine el pa rfl rfl ?_)
      rfl
    ·rw[if_neg hsc]at ps
     rw[if_pos (.inl hsc)]at h2
     subst h2
     clear hsc
     repeat' first|simp(disch:=omega) only[go_sem, *,g1,g2,wrap_i64]|((with_reducible apply ab)<;>intro h<;>try omega)|(refine aY ps rfl rfl ?_)|(refine el ps rfl rfl ?_)
     rfl
   ·have h2:=HR.out
    rw[List.drop_eq_nil_of_le (by rw[HZ.out];omega),gV]at h2
    subst h2
    repeat' first|simp(disch:=omega) only[go_sem, *]|((with_reducible apply ab)<;>intro h<;>try omega)
 ·rw[aL,if_pos hne]
  repeat' first|simp(disch:=omega) only[go_sem, *]|((with_reducible apply ab)<;>intro h<;>try omega)
  rfl
end Go.Proofs.YthbcbaembicdbaaGreatDoor
