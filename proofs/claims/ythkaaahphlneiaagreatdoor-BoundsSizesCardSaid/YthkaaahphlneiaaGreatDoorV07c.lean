import Derived.Test.YthkaaahphlneiaaGreatDoorV07b
set_option linter.unusedVariables false
set_option linter.unusedSimpArgs false
set_option maxRecDepth 20000
namespace Go.Proofs.YthkaaahphlneiaaGreatDoor
open Go.Abs Go.RowKit
abbrev PA (nm:Nat) (f:Bool) (K:Int) (rows:List (List PC)) (B0 B1 B2:aS):List (Nat×aS):=
 [(nm,.arr 89 2 rows),(4,.var [.pure (pB f)]),(3,.var [.pure (pI K),.ref nm]),(2,B2),(1,B1),(0,B0)]
abbrev wr (x:Int):Int:=IntKind.wrap .i64 x
theorem gq {x y:Int} (hx:aA x) (hy:aA y) (hz:wr (x+y)=0) (n:ByteArray) (f:Bool) (K:Int) (rows:List (List PC)) (B0 B1 B2:aS):
  am Tryz.prog ld [S n,I x,I y,.c (.ptr 4 0),.c (.ptr 3 0)] (PA 5 f K rows B0 B1 B2) 6 (.tup []) (PA 5 (f&&decide (aA (x+y))) K rows B0 B1 B2) 6:=by
 refine am.of yi (by simp) fun _=>aa ?_
 have p:=qV hx hy
 change IntKind.wrap .i64 (x+y)=0 at hz
 rw[hz]at p
 simp only[uz]
 generalize decide (aA (x+y))=g at*
 cases f
 ·repeat' first|simp(disch:=omega) only[go_sem, *]|((with_reducible refine ab ?_ ?_)<;>intro h<;>try omega)|(refine av p rfl rfl ?_)
  all_goals simp
 ·repeat' first|simp(disch:=omega) only[go_sem, *]|((with_reducible refine ab ?_ ?_)<;>intro h<;>try omega)|(refine av p rfl rfl ?_)
  all_goals simp
theorem gB {x y:Int} (hx:aA x) (hy:aA y) (hz:wr (x+y)≠0) (n:ByteArray) (f:Bool) (K:Int) (rows:List (List PC)) (hr:rows.length≤4000000000) (B0 B1 B2:aS):
  am Tryz.prog ld [S n,I x,I y,.c (.ptr 4 0),.c (.ptr 3 0)] (PA 5 f K rows B0 B1 B2) 6 (.tup []) (PA 6 (f&&decide (aA (x+y))) K (rows++ [[pS n,pI (wr (x+y))]]) B0 B1 B2) 7:=by
 refine am.of yi (by simp) fun _=>aa ?_
 have p:=qV hx hy
 change IntKind.wrap .i64 (x+y)≠0 at hz
 simp only[uz]
 generalize decide (aA (x+y))=g at*
 simp only[wr]
 generalize IntKind.wrap .i64 (x+y)=z at*
 have hz': ¬z=0:=hz
 cases f
 ·repeat' first|simp(disch:=omega) only[go_sem, *,hz']|((with_reducible refine ab ?_ ?_)<;>intro h<;>try omega)|(refine av p rfl rfl ?_)|(refine aN rfl (by intro h;cases h) (aI rfl) (by simp;omega) (by simp;omega) ?_)
  all_goals simp
 ·repeat' first|simp(disch:=omega) only[go_sem, *,hz']|((with_reducible refine ab ?_ ?_)<;>intro h<;>try omega)|(refine av p rfl rfl ?_)|(refine aN rfl (by intro h;cases h) (aI rfl) (by simp;omega) (by simp;omega) ?_)
  all_goals simp
def qf (T:List SI):List (List PC):=T.filterMap fun t=>if wr (t.2.1+t.2.2)=0 then none else some [pS t.1,pI (wr (t.2.1+t.2.2))]
def zS (T:List SI):Bool:=T.all fun t=>decide (aA (t.2.1+t.2.2))
abbrev A9 (k:Int) (l:List aP):aS:= .var [.pure (pI k),.pure (aE l)]
abbrev PP:aS:= .var [.pure (pI 0),.nils]
abbrev Yx (f:Bool) (K:Int) (B0 B1 B2:aS):List (Nat×aS):= [(4,.var [.pure (pB f)]),(3,.var [.pure (pI K),.nils]),(2,B2),(1,B1),(0,B0)]
theorem zM (x:aP) (a:List aP):List.take a.length (List.map mP a)=List.map mP a:=List.take_of_length_le (by simp)
set_option maxHeartbeats 2000000 in
theorem FU {a b:List aP} (ha: ∀m∈a,aA m.2) (hb: ∀m∈b,aA m.2) (hs:a.length+b.length≤2000000000) (f:Bool) (K k1 k2:Int) (l1 l2:List aP):
  am Tryz.prog Bv [.c (.pure (aE a)),.c (.pure (aE b)),.c (.clo ld [.ptr 4 0,.ptr 3 0])] (Yx f K (A9 k1 l1) (A9 k2 l2) PP) 5 (.tup []) (PA 5 (f&&zS (bI a b)) K (qf (bI a b)) (A9 k1 l1) (A9 k2 l2) PP) 6:=by
 refine am.of I6 (by simp) fun _=>aa ?_
 obtain⟨F,hF⟩: ∃F,F=(f&&zS (bI a b)):=⟨_,rfl⟩
 obtain⟨R,hR⟩: ∃R,R=qf (bI a b):=⟨_,rfl⟩
 rw[←hF,←hR]
 have HF:=Lib.hid hF
 have HR:Hid (R= []++qf (bI a b)):=Lib.hid (by rw[hR];rfl)
 clear hF hR
 simp only[BM]
 repeat' first|simp(disch:=omega) only[go_sem, *]|((with_reducible refine ab ?_ ?_)<;>intro h<;>try omega)
 refine fc 3 1 89 2 _ rfl rfl (by decide) ?_
 refine aj (fun s:List aP×List aP×Bool×List (List PC)=>⟨[(0,.c (.pure (aE s.1))),(1,.c (.pure (aE s.2.1))),(2,.c (.clo ld [.ptr 4 0,.ptr 3 0]))],PA 5 s.2.2.1 K s.2.2.2 (A9 k1 l1) (A9 k2 l2) PP,6,5⟩)
  (fun s=>(∀m∈s.1,aA m.2)∧(∀m∈s.2.1,aA m.2)∧s.2.2.2.length+s.1.length+s.2.1.length≤2000000000∧Hid (F=(s.2.2.1&&zS (bI s.1 s.2.1)))∧Hid (R=s.2.2.2++qf (bI s.1 s.2.1))) (fun s=>s.1.length+s.2.1.length) ⟨(a,b,f, []), [],⟨ha,hb,by simpa using hs,HF,HR⟩,by simp⟩ ?_
 clear ha hb hs HF HR
 rintro⟨a,b,f,rows⟩ ⟨ha,hb,hs,HF,HR⟩
 refine aa ?_
 simp only at ha hb hs HF HR
 have one: ∀{t:SI} {T:List SI} {f:Bool} {rows:List (List PC)},Hid (F=(f&&zS (t::T)))→Hid (R=rows++qf (t::T))→
   Hid (F=((f&&decide (aA (t.2.1+t.2.2)))&&zS T))∧(wr (t.2.1+t.2.2)=0→Hid (R=rows++qf T))∧(wr (t.2.1+t.2.2)≠0→Hid (R=(rows++ [[pS t.1,pI (wr (t.2.1+t.2.2))]])++qf T)):=by
  intro t T f rows h1 h2
  have g1:=h1.out
  have g2:=h2.out
  refine⟨Lib.hid ?_,fun h=>Lib.hid ?_,fun h=>Lib.hid ?_⟩
  ·rw[g1,zS,List.all_cons,Bool.and_assoc];rfl
  ·rw[g2,qf,List.filterMap_cons,if_pos h];rfl
  ·rw[g2,qf,List.filterMap_cons,if_neg h,List.append_assoc];rfl
 cases a with
 |nil=>
  cases b with
  |nil=>
   have hF:=HF.out
   have hR:=HR.out
   rw[nD]at hF hR
   simp only[List.map_nil,zS,List.all_nil,Bool.and_true,qf,List.filterMap_nil,List.append_nil]at hF hR
   subst hF
   subst hR
   repeat' first|simp(disch:=omega) only[go_sem, *]|((with_reducible refine ab ?_ ?_)<;>intro h<;>try omega)
  |cons y b=>
   have hy:=hb y List.mem_cons_self
   have hb': ∀m∈b,aA m.2:=fun m hm=>hb m (List.mem_cons_of_mem _ hm)
   have em:bI [] (y::b)=(y.1,0,y.2)::bI [] b:=by rw[nD,nD];rfl
   rw[em]at HF HR
   obtain⟨o1,o2,o3⟩:=one HF HR
   have rk:bl 2 ([pS y.1,pI y.2]::List.map mP b):=ar (f:=mP) (l:=y::b) fun _=>rfl
   have tk:=zM y b
   simp only[List.length_cons,List.length_nil]at hs
   clear HF HR one hb
   by_cases hz:wr (0+y.2)=0
   ·have HR2:=o2 hz
    have q:=gq dn hy hz y.1 f K rows (A9 k1 l1) (A9 k2 l2) PP
    clear o2 o3
    repeat' first|simp(disch:=omega) only[go_sem, *,mP,Int.natCast_zero,Int.toNat_zero,Int.toNat_one,Option.getD_some,Option.getD_none,rk,tk]|((with_reducible refine ab ?_ ?_)<;>intro h<;>try omega)|(refine aq q ?_)
    refine⟨([],b,_,rows), [],⟨ha,hb',by simp;omega,o1,HR2⟩,by simp only[List.length_cons,List.length_nil];omega, ?_⟩
    simp[tk]
    cases f<;>rfl
   ·have HR2:=o3 hz
    have q:=gB dn hy hz y.1 f K rows (by omega) (A9 k1 l1) (A9 k2 l2) PP
    clear o2 o3
    repeat' first|simp(disch:=omega) only[go_sem, *,mP,Int.natCast_zero,Int.toNat_zero,Int.toNat_one,Option.getD_some,Option.getD_none,rk,tk]|((with_reducible refine ab ?_ ?_)<;>intro h<;>try omega)|(refine aq q ?_)
    refine⟨([],b,_,_), [(5,6)],⟨ha,hb',by simp;omega,o1,HR2⟩,by simp only[List.length_cons,List.length_nil];omega, ?_⟩
    simp[tk]
    cases f<;>rfl
 |cons x a=>
  have hx:=ha x List.mem_cons_self
  have ha': ∀m∈a,aA m.2:=fun m hm=>ha m (List.mem_cons_of_mem _ hm)
  have rka:bl 2 ([pS x.1,pI x.2]::List.map mP a):=ar (f:=mP) (l:=x::a) fun _=>rfl
  have tka:=zM x a
  cases b with
  |nil=>
   have em:bI (x::a) []=(x.1,x.2,0)::bI a []:=by rw[nV,nV];rfl
   rw[em]at HF HR
   obtain⟨o1,o2,o3⟩:=one HF HR
   simp only[List.length_cons,List.length_nil]at hs
   clear HF HR one ha
   by_cases hz:wr (x.2+0)=0
   ·have HR2:=o2 hz
    have q:=gq hx dn hz x.1 f K rows (A9 k1 l1) (A9 k2 l2) PP
    clear o2 o3
    repeat' first|simp(disch:=omega) only[go_sem, *,mP,Int.natCast_zero,Int.toNat_zero,Int.toNat_one,Option.getD_some,Option.getD_none,rka,tka]|((with_reducible refine ab ?_ ?_)<;>intro h<;>try omega)|(refine aq q ?_)
    refine⟨(a, [],_,rows), [],⟨ha',hb,by simp;omega,o1,HR2⟩,by simp only[List.length_cons,List.length_nil];omega, ?_⟩
    simp[tka]
    cases f<;>rfl
   ·have HR2:=o3 hz
    have q:=gB hx dn hz x.1 f K rows (by omega) (A9 k1 l1) (A9 k2 l2) PP
    clear o2 o3
    repeat' first|simp(disch:=omega) only[go_sem, *,mP,Int.natCast_zero,Int.toNat_zero,Int.toNat_one,Option.getD_some,Option.getD_none,rka,tka]|((with_reducible refine ab ?_ ?_)<;>intro h<;>try omega)|(refine aq q ?_)
    refine⟨(a, [],_,_), [(5,6)],⟨ha',hb,by simp;omega,o1,HR2⟩,by simp only[List.length_cons,List.length_nil];omega, ?_⟩
    simp[tka]
    cases f<;>rfl
  |cons y b=>
   have hy:=hb y List.mem_cons_self
   have hb': ∀m∈b,aA m.2:=fun m hm=>hb m (List.mem_cons_of_mem _ hm)
   have rkb:bl 2 ([pS y.1,pI y.2]::List.map mP b):=ar (f:=mP) (l:=y::b) fun _=>rfl
   have tkb:=zM y b
   rw[tC]at HF HR
   simp only[List.length_cons]at hs
   by_cases hl:b7 x.1 y.1=true
   ·rw[if_pos hl]at HF HR
    obtain⟨o1,o2,o3⟩:=one HF HR
    have hl':Op.bytesLess x.1.toList y.1.toList=true:=hl
    clear HF HR one ha
    by_cases hz:wr (x.2+0)=0
    ·have HR2:=o2 hz
     have q:=gq hx dn hz x.1 f K rows (A9 k1 l1) (A9 k2 l2) PP
     clear o2 o3
     repeat' first|simp(disch:=omega) only[go_sem, *,mP,Int.natCast_zero,Int.toNat_zero,Int.toNat_one,Option.getD_some,Option.getD_none,rka,tka,hl']|((with_reducible refine ab ?_ ?_)<;>intro h<;>try omega)|(refine aq q ?_)
     refine⟨(a,y::b,_,rows), [],⟨ha',hb,by simp;omega,o1,HR2⟩,by simp only[List.length_cons,List.length_nil];omega, ?_⟩
     simp[tka]
     cases f<;>rfl
    ·have HR2:=o3 hz
     have q:=gB hx dn hz x.1 f K rows (by omega) (A9 k1 l1) (A9 k2 l2) PP
     clear o2 o3
     repeat' first|simp(disch:=omega) only[go_sem, *,mP,Int.natCast_zero,Int.toNat_zero,Int.toNat_one,Option.getD_some,Option.getD_none,rka,tka,hl']|((with_reducible refine ab ?_ ?_)<;>intro h<;>try omega)|(refine aq q ?_)
     refine⟨(a,y::b,_,_), [(5,6)],⟨ha',hb,by simp;omega,o1,HR2⟩,by simp only[List.length_cons,List.length_nil];omega, ?_⟩
     simp[tka]
     cases f<;>rfl
   ·rw[if_neg hl]at HF HR
    have hl':Op.bytesLess x.1.toList y.1.toList=false:=by
     cases h:Op.bytesLess x.1.toList y.1.toList with
     |false=>rfl
     |true=>exact absurd h hl
    by_cases hr:b7 y.1 x.1=true
    ·rw[if_pos hr]at HF HR
     obtain⟨o1,o2,o3⟩:=one HF HR
     have hr':Op.bytesLess y.1.toList x.1.toList=true:=hr
     clear HF HR one hb
     by_cases hz:wr (0+y.2)=0
     ·have HR2:=o2 hz
      have q:=gq dn hy hz y.1 f K rows (A9 k1 l1) (A9 k2 l2) PP
      clear o2 o3
      repeat' first|simp(disch:=omega) only[go_sem, *,mP,Int.natCast_zero,Int.toNat_zero,Int.toNat_one,Option.getD_some,Option.getD_none,rkb,tkb,hl',hr']|((with_reducible refine ab ?_ ?_)<;>intro h<;>try omega)|(refine aq q ?_)
      refine⟨(x::a,b,_,rows), [],⟨ha,hb',by simp;omega,o1,HR2⟩,by simp only[List.length_cons,List.length_nil];omega, ?_⟩
      simp[tkb]
      cases f<;>rfl
     ·have HR2:=o3 hz
      have q:=gB dn hy hz y.1 f K rows (by omega) (A9 k1 l1) (A9 k2 l2) PP
      clear o2 o3
      repeat' first|simp(disch:=omega) only[go_sem, *,mP,Int.natCast_zero,Int.toNat_zero,Int.toNat_one,Option.getD_some,Option.getD_none,rkb,tkb,hl',hr']|((with_reducible refine ab ?_ ?_)<;>intro h<;>try omega)|(refine aq q ?_)
      refine⟨(x::a,b,_,_), [(5,6)],⟨ha,hb',by simp;omega,o1,HR2⟩,by simp only[List.length_cons,List.length_nil];omega, ?_⟩
      simp[tkb]
      cases f<;>rfl
    ·rw[if_neg hr]at HF HR
     obtain⟨o1,o2,o3⟩:=one HF HR
     have hr':Op.bytesLess y.1.toList x.1.toList=false:=by
      cases h:Op.bytesLess y.1.toList x.1.toList with
      |false=>rfl
      |true=>exact absurd h hr
     clear HF HR one hb ha
     by_cases hz:wr (x.2+y.2)=0
     ·have HR2:=o2 hz
      have q:=gq hx hy hz x.1 f K rows (A9 k1 l1) (A9 k2 l2) PP
      clear o2 o3
      repeat' first|simp(disch:=omega) only[go_sem, *,mP,Int.natCast_zero,Int.toNat_zero,Int.toNat_one,Option.getD_some,Option.getD_none,rka,rkb,tka,tkb,hl',hr']|((with_reducible refine ab ?_ ?_)<;>intro h<;>try omega)|(refine aq q ?_)
      refine⟨(a,b,_,rows), [],⟨ha',hb',by simp;omega,o1,HR2⟩,by simp only[List.length_cons,List.length_nil];omega, ?_⟩
      simp[tka,tkb]
      cases f<;>rfl
     ·have HR2:=o3 hz
      have q:=gB hx hy hz x.1 f K rows (by omega) (A9 k1 l1) (A9 k2 l2) PP
      clear o2 o3
      repeat' first|simp(disch:=omega) only[go_sem, *,mP,Int.natCast_zero,Int.toNat_zero,Int.toNat_one,Option.getD_some,Option.getD_none,rka,rkb,tka,tkb,hl',hr']|((with_reducible refine ab ?_ ?_)<;>intro h<;>try omega)|(refine aq q ?_)
      refine⟨(a,b,_,_), [(5,6)],⟨ha',hb',by simp;omega,o1,HR2⟩,by simp only[List.length_cons,List.length_nil];omega, ?_⟩
      simp[tka,tkb]
      cases f<;>rfl
noncomputable def fV (a b:ca):ca×Int:=if ¬cd a.2∨ ¬cd b.2 then((0, []),1)else gh a b
theorem DA {T:List SI}:zS T=true↔ ∀t∈T,aA (t.2.1+t.2.2):=by simp[zS]
theorem SR {T:List SI} (h:zS T=true):qf T=(Al T).map mP:=by
 rw[DA]at h
 rw[qf,Al,List.map_filterMap]
 induction T with
 |nil=>rfl
 |cons t r ih=>
  have h1:=h t List.mem_cons_self
  have e:wr (t.2.1+t.2.2)=t.2.1+t.2.2:=wrap_i64 h1
  rw[List.filterMap_cons,List.filterMap_cons,e,ih fun t ht=>h t (List.mem_cons_of_mem _ ht)]
  by_cases h0:t.2.1+t.2.2=0
  ·rw[if_pos h0,if_pos h0];rfl
  ·rw[if_neg h0,if_neg h0];rfl
theorem uK {a b:ca} (ha:bj a) (hb:bj b) (hsa:ft a.2) (hsb:ft b.2):ac Tryz.prog Io [dj a.1 a.2,dj b.1 b.2] (KA (fV a b)):=by
 refine ac.of Ng (by simp) fun _=>aa ?_
 obtain⟨k1,l1⟩:=a
 obtain⟨k2,l2⟩:=b
 obtain⟨hk1,hl1⟩:=ha
 obtain⟨hk2,hl2⟩:=hb
 simp only at hk1 hl1 hk2 hl2 hsa hsb
 have pv1:=bD k1 l1
 have pv2:=bD k2 l2
 have pp:=qV hk1 hk2
 simp only[HU]
 by_cases o1:cd l1
 ·by_cases o2:cd l2
  ·rw[fV,if_neg (by simp[o1,o2]),gh]
   rw[if_pos o1]at pv1
   rw[if_pos o2]at pv2
   have q:=FU hl1 hl2 (by unfold ft at hsa hsb;omega) (decide (aA (k1+k2))) (wr (k1+k2)) k1 k2 l1 l2
   have hend:(if Im (k1,l1) (k2,l2)then(T2 (k1,l1) (k2,l2),0)else((0, []),3):ca×Int)=if(decide (aA (k1+k2))&&zS (bI l1 l2))=true then((k1+k2,Al (bI l1 l2)),0)else((0, []),3):=by
    by_cases h:Im (k1,l1) (k2,l2)
    ·rw[if_pos h,if_pos (by rw[Bool.and_eq_true,decide_eq_true_iff,DA];exact h)];rfl
    ·rw[if_neg h,if_neg (by rw[Bool.and_eq_true,decide_eq_true_iff,DA];exact h)]
   rw[hend]
   have hK:aA (k1+k2)→wr (k1+k2)=k1+k2:=fun h=>wrap_i64 h
   have hrows:= @SR (bI l1 l2)
   generalize bI l1 l2=T at*
   clear hend
   by_cases hfin:(decide (aA (k1+k2))&&zS T)=true
   ·rw[if_pos hfin]
    have h1:=hfin
    rw[Bool.and_eq_true,decide_eq_true_iff]at h1
    rw[hfin,hrows h1.2]at q
    have e:=hK h1.1
    rw[e]at q
    have e':IntKind.wrap .i64 (k1+k2)=k1+k2:=e
    rw[decide_eq_true h1.1]at q
    rw[e',decide_eq_true h1.1]at pp
    clear hfin h1 e e' hK hrows hl1 hl2
    repeat' first|simp(disch:=omega) only[go_sem, *]|((with_reducible refine ab ?_ ?_)<;>intro h<;>try omega)|(refine av pv1 rfl rfl ?_)|(refine av pv2 rfl rfl ?_)|(refine av pp rfl rfl ?_)|(refine aq q ?_)
   ·rw[if_neg hfin]
    have h1:(decide (aA (k1+k2))&&zS T)=false:=by simpa using hfin
    rw[h1]at q
    generalize qf T=rr at*
    simp only[wr]at q
    generalize IntKind.wrap .i64 (k1+k2)=W at*
    generalize decide (aA (k1+k2))=D at*
    clear h1 hfin hK hrows hl1 hl2
    repeat' first|simp(disch:=omega) only[go_sem, *]|((with_reducible refine ab ?_ ?_)<;>intro h<;>try omega)|(refine av pv1 rfl rfl ?_)|(refine av pv2 rfl rfl ?_)|(refine av pp rfl rfl ?_)|(refine aq q ?_)
    rfl
  ·rw[fV,if_pos (.inr o2)]
   rw[if_pos o1]at pv1
   rw[if_neg o2]at pv2
   repeat' first|simp(disch:=omega) only[go_sem, *]|((with_reducible refine ab ?_ ?_)<;>intro h<;>try omega)|(refine av pv1 rfl rfl ?_)|(refine av pv2 rfl rfl ?_)
   rfl
 ·rw[fV,if_pos (.inl o1)]
  rw[if_neg o1]at pv1
  repeat' first|simp(disch:=omega) only[go_sem, *]|((with_reducible refine ab ?_ ?_)<;>intro h<;>try omega)|(refine av pv1 rfl rfl ?_)|(refine av pv2 rfl rfl ?_)
  rfl
end Go.Proofs.YthkaaahphlneiaaGreatDoor
