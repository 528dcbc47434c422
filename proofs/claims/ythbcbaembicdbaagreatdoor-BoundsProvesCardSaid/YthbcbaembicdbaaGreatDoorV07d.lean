import Derived.Test.YthbcbaembicdbaaGreatDoorV07b
import Derived.Test.YthbcbaembicdbaaGreatDoorAbs28
set_option linter.unusedVariables false
set_option linter.unusedSimpArgs false
set_option maxRecDepth 20000
set_option maxHeartbeats 4000000
set_option maxRecDepth 1000000
namespace Go.Proofs.YthbcbaembicdbaaGreatDoor
open Go.Abs Go.RowKit
abbrev TY (nm:Nat) (f:Bool) (K:Int) (rows:List (List PC)) (B0 B1 B2:bc):List (Nat×bc):=
 [(nm,.arr 114 2 rows),(4,.var [.pure (pB f)]),(3,.var [.pure (pI K),.ref nm]),(2,B2),(1,B1),(0,B0)]
abbrev wr (x:Int):Int:=IntKind.wrap .i64 x
theorem gW {x y:Int} (hx:ay x) (hy:ay y) (hz:wr (x+y)=0) (n:ByteArray) (f:Bool) (K:Int) (rows:List (List PC)) (B0 B1 B2:bc):
  au Tryz.prog kY [S n,I x,I y,.c (.ptr 4 0),.c (.ptr 3 0)] (TY 5 f K rows B0 B1 B2) 6 (.tup []) (TY 5 (f&&decide (ay (x+y))) K rows B0 B1 B2) 6:=by
 refine au.of BB (by simp) fun _=>aa ?_
 have p:=sg hx hy
 change IntKind.wrap .i64 (x+y)=0 at hz
 rw[hz]at p
 conv in vC=>cbv
 generalize decide (ay (x+y))=g at*
 cases f
 ·repeat' first|simp(disch:=omega) only[go_sem, *]|((with_reducible apply ab)<;>intro h<;>try omega)|(refine aF p rfl rfl ?_)
  all_goals simp
 ·repeat' first|simp(disch:=omega) only[go_sem, *]|((with_reducible apply ab)<;>intro h<;>try omega)|(refine aF p rfl rfl ?_)
  all_goals simp
theorem gH {x y:Int} (hx:ay x) (hy:ay y) (hz:wr (x+y)≠0) (n:ByteArray) (f:Bool) (K:Int) (rows:List (List PC)) (hr:rows.length≤4000000000) (B0 B1 B2:bc):
  au Tryz.prog kY [S n,I x,I y,.c (.ptr 4 0),.c (.ptr 3 0)] (TY 5 f K rows B0 B1 B2) 6 (.tup []) (TY 6 (f&&decide (ay (x+y))) K (rows++ [[pS n,pI (wr (x+y))]]) B0 B1 B2) 7:=by
 refine au.of BB (by simp) fun _=>aa ?_
 have p:=sg hx hy
 change IntKind.wrap .i64 (x+y)≠0 at hz
 conv in vC=>cbv
 generalize decide (ay (x+y))=g at*
 simp only[wr]
 generalize IntKind.wrap .i64 (x+y)=z at*
 have hz': ¬z=0:=hz
 cases f
 ·repeat' first|simp(disch:=omega) only[go_sem, *,hz']|((with_reducible apply ab)<;>intro h<;>try omega)|(refine aF p rfl rfl ?_)|(refine aJ rfl (by intro h;cases h) (aB rfl) (by simp;omega) (by simp;omega) ?_)
  all_goals simp
 ·repeat' first|simp(disch:=omega) only[go_sem, *,hz']|((with_reducible apply ab)<;>intro h<;>try omega)|(refine aF p rfl rfl ?_)|(refine aJ rfl (by intro h;cases h) (aB rfl) (by simp;omega) (by simp;omega) ?_)
  all_goals simp
def rp (T:List Tf):List (List PC):=T.filterMap fun t=>if wr (t.2.1+t.2.2)=0 then none else some [pS t.1,pI (wr (t.2.1+t.2.2))]
def Cl (T:List Tf):Bool:=T.all fun t=>decide (ay (t.2.1+t.2.2))
abbrev DF (k:Int) (l:List bJ):bc:= .var [.pure (pI k),.pure (aw l)]
abbrev TB:bc:= .var [.pure (pI 0),.nils]
abbrev abr (f:Bool) (K:Int) (B0 B1 B2:bc):List (Nat×bc):= [(4,.var [.pure (pB f)]),(3,.var [.pure (pI K),.nils]),(2,B2),(1,B1),(0,B0)]
theorem Ce (x:bJ) (a:List bJ):List.take a.length (List.map mP a)=List.map mP a:=List.take_of_length_le (by simp)
set_option maxHeartbeats 2000000 in
theorem Js {a b:List bJ} (ha: ∀m∈a,ay m.2) (hb: ∀m∈b,ay m.2) (hs:a.length+b.length≤2000000000) (f:Bool) (K k1 k2:Int) (l1 l2:List bJ):
  au Tryz.prog C5 [.c (.pure (aw a)),.c (.pure (aw b)),.c (.clo kY [.ptr 4 0,.ptr 3 0])] (abr f K (DF k1 l1) (DF k2 l2) TB) 5 (.tup []) (TY 5 (f&&Cl (bM a b)) K (rp (bM a b)) (DF k1 l1) (DF k2 l2) TB) 6:=by
 refine au.of LZ (by simp) fun _=>aa ?_
 obtain⟨F,hF⟩: ∃F,F=(f&&Cl (bM a b)):=⟨_,rfl⟩
 obtain⟨R,hR⟩: ∃R,R=rp (bM a b):=⟨_,rfl⟩
 rw[←hF,←hR]
 have HF:=Lib.hid hF
 have HR:Hid (R= []++rp (bM a b)):=Lib.hid (by rw[hR];rfl)
 clear hF hR
 simp only[CW]
 repeat' first|simp(disch:=omega) only[go_sem, *]|((with_reducible apply ab)<;>intro h<;>try omega)
 refine cQ 3 1 114 2 _ rfl rfl (by decide) ?_
 refine an (fun s:List bJ×List bJ×Bool×List (List PC)=>⟨[(0,.c (.pure (aw s.1))),(1,.c (.pure (aw s.2.1))),(2,.c (.clo kY [.ptr 4 0,.ptr 3 0]))],TY 5 s.2.2.1 K s.2.2.2 (DF k1 l1) (DF k2 l2) TB,6,5⟩)
  (fun s=>(∀m∈s.1,ay m.2)∧(∀m∈s.2.1,ay m.2)∧s.2.2.2.length+s.1.length+s.2.1.length≤2000000000∧Hid (F=(s.2.2.1&&Cl (bM s.1 s.2.1)))∧Hid (R=s.2.2.2++rp (bM s.1 s.2.1))) (fun s=>s.1.length+s.2.1.length) ⟨(a,b,f, []), [],⟨ha,hb,by simpa using hs,HF,HR⟩,by simp⟩ ?_
 clear ha hb hs HF HR
 rintro⟨a,b,f,rows⟩ ⟨ha,hb,hs,HF,HR⟩
 refine aa ?_
 simp only at ha hb hs HF HR
 have one: ∀{t:Tf} {T:List Tf} {f:Bool} {rows:List (List PC)},Hid (F=(f&&Cl (t::T)))→Hid (R=rows++rp (t::T))→
   Hid (F=((f&&decide (ay (t.2.1+t.2.2)))&&Cl T))∧(wr (t.2.1+t.2.2)=0→Hid (R=rows++rp T))∧(wr (t.2.1+t.2.2)≠0→Hid (R=(rows++ [[pS t.1,pI (wr (t.2.1+t.2.2))]])++rp T)):=by
  intro t T f rows h1 h2
  have g1:=h1.out
  have g2:=h2.out
  refine⟨Lib.hid ?_,fun h=>Lib.hid ?_,fun h=>Lib.hid ?_⟩
  ·rw[g1,Cl,List.all_cons,Bool.and_assoc];rfl
  ·rw[g2,rp,List.filterMap_cons,if_pos h];rfl
  ·rw[g2,rp,List.filterMap_cons,if_neg h,List.append_assoc];rfl
 cases a with
 |nil=>
  cases b with
  |nil=>
   have hF:=HF.out
   have hR:=HR.out
   rw[nX]at hF hR
   simp only[List.map_nil,Cl,List.all_nil,Bool.and_true,rp,List.filterMap_nil,List.append_nil]at hF hR
   subst hF
   subst hR
   repeat' first|simp(disch:=omega) only[go_sem, *]|((with_reducible apply ab)<;>intro h<;>try omega)
  |cons y b=>
   have hy:=hb y List.mem_cons_self
   have hb': ∀m∈b,ay m.2:=fun m hm=>hb m (List.mem_cons_of_mem _ hm)
   have em:bM [] (y::b)=(y.1,0,y.2)::bM [] b:=by rw[nX,nX];rfl
   rw[em]at HF HR
   obtain⟨o1,o2,o3⟩:=one HF HR
   have rk:bl 2 ([pS y.1,pI y.2]::List.map mP b):=av (f:=mP) (l:=y::b) fun _=>rfl
   have tk:=Ce y b
   simp only[List.length_cons,List.length_nil]at hs
   clear HF HR one hb
   by_cases hz:wr (0+y.2)=0
   ·have HR2:=o2 hz
    have q:=gW cw hy hz y.1 f K rows (DF k1 l1) (DF k2 l2) TB
    clear o2 o3
    repeat' first|simp(disch:=omega) only[go_sem, *,mP,Int.natCast_zero,Int.toNat_zero,Int.toNat_one,Option.getD_some,Option.getD_none,rk,tk]|((with_reducible apply ab)<;>intro h<;>try omega)|(refine ap q ?_)
    refine⟨([],b,_,rows), [],⟨ha,hb',by simp;omega,o1,HR2⟩,by simp only[List.length_cons,List.length_nil];omega, ?_⟩
    simp[tk]
    cases f<;>rfl
   ·have HR2:=o3 hz
    have q:=gH cw hy hz y.1 f K rows (by omega) (DF k1 l1) (DF k2 l2) TB
    clear o2 o3
    repeat' first|simp(disch:=omega) only[go_sem, *,mP,Int.natCast_zero,Int.toNat_zero,Int.toNat_one,Option.getD_some,Option.getD_none,rk,tk]|((with_reducible apply ab)<;>intro h<;>try omega)|(refine ap q ?_)
    refine⟨([],b,_,_), [(5,6)],⟨ha,hb',by simp;omega,o1,HR2⟩,by simp only[List.length_cons,List.length_nil];omega, ?_⟩
    simp[tk]
    cases f<;>rfl
 |cons x a=>
  have hx:=ha x List.mem_cons_self
  have ha': ∀m∈a,ay m.2:=fun m hm=>ha m (List.mem_cons_of_mem _ hm)
  have rka:bl 2 ([pS x.1,pI x.2]::List.map mP a):=av (f:=mP) (l:=x::a) fun _=>rfl
  have tka:=Ce x a
  cases b with
  |nil=>
   have em:bM (x::a) []=(x.1,x.2,0)::bM a []:=by rw[pK,pK];rfl
   rw[em]at HF HR
   obtain⟨o1,o2,o3⟩:=one HF HR
   simp only[List.length_cons,List.length_nil]at hs
   clear HF HR one ha
   by_cases hz:wr (x.2+0)=0
   ·have HR2:=o2 hz
    have q:=gW hx cw hz x.1 f K rows (DF k1 l1) (DF k2 l2) TB
    clear o2 o3
    repeat' first|simp(disch:=omega) only[go_sem, *,mP,Int.natCast_zero,Int.toNat_zero,Int.toNat_one,Option.getD_some,Option.getD_none,rka,tka]|((with_reducible apply ab)<;>intro h<;>try omega)|(refine ap q ?_)
    refine⟨(a, [],_,rows), [],⟨ha',hb,by simp;omega,o1,HR2⟩,by simp only[List.length_cons,List.length_nil];omega, ?_⟩
    simp[tka]
    cases f<;>rfl
   ·have HR2:=o3 hz
    have q:=gH hx cw hz x.1 f K rows (by omega) (DF k1 l1) (DF k2 l2) TB
    clear o2 o3
    repeat' first|simp(disch:=omega) only[go_sem, *,mP,Int.natCast_zero,Int.toNat_zero,Int.toNat_one,Option.getD_some,Option.getD_none,rka,tka]|((with_reducible apply ab)<;>intro h<;>try omega)|(refine ap q ?_)
    refine⟨(a, [],_,_), [(5,6)],⟨ha',hb,by simp;omega,o1,HR2⟩,by simp only[List.length_cons,List.length_nil];omega, ?_⟩
    simp[tka]
    cases f<;>rfl
  |cons y b=>
   have hy:=hb y List.mem_cons_self
   have hb': ∀m∈b,ay m.2:=fun m hm=>hb m (List.mem_cons_of_mem _ hm)
   have rkb:bl 2 ([pS y.1,pI y.2]::List.map mP b):=av (f:=mP) (l:=y::b) fun _=>rfl
   have tkb:=Ce y b
   rw[vk]at HF HR
   simp only[List.length_cons]at hs
   by_cases hl:cn x.1 y.1=true
   ·rw[if_pos hl]at HF HR
    obtain⟨o1,o2,o3⟩:=one HF HR
    have hl':Op.bytesLess x.1.toList y.1.toList=true:=hl
    clear HF HR one ha
    by_cases hz:wr (x.2+0)=0
    ·have HR2:=o2 hz
     have q:=gW hx cw hz x.1 f K rows (DF k1 l1) (DF k2 l2) TB
     clear o2 o3
     repeat' first|simp(disch:=omega) only[go_sem, *,mP,Int.natCast_zero,Int.toNat_zero,Int.toNat_one,Option.getD_some,Option.getD_none,rka,tka,hl']|((with_reducible apply ab)<;>intro h<;>try omega)|(refine ap q ?_)
     refine⟨(a,y::b,_,rows), [],⟨ha',hb,by simp;omega,o1,HR2⟩,by simp only[List.length_cons,List.length_nil];omega, ?_⟩
     simp[tka]
     cases f<;>rfl
    ·have HR2:=o3 hz
     have q:=gH hx cw hz x.1 f K rows (by omega) (DF k1 l1) (DF k2 l2) TB
     clear o2 o3
     repeat' first|simp(disch:=omega) only[go_sem, *,mP,Int.natCast_zero,Int.toNat_zero,Int.toNat_one,Option.getD_some,Option.getD_none,rka,tka,hl']|((with_reducible apply ab)<;>intro h<;>try omega)|(refine ap q ?_)
     refine⟨(a,y::b,_,_), [(5,6)],⟨ha',hb,by simp;omega,o1,HR2⟩,by simp only[List.length_cons,List.length_nil];omega, ?_⟩
     simp[tka]
     cases f<;>rfl
   ·rw[if_neg hl]at HF HR
    have hl':Op.bytesLess x.1.toList y.1.toList=false:=by
     cases h:Op.bytesLess x.1.toList y.1.toList with
     |false=>rfl
     |true=>exact absurd h hl
    by_cases hr:cn y.1 x.1=true
    ·rw[if_pos hr]at HF HR
     obtain⟨o1,o2,o3⟩:=one HF HR
     have hr':Op.bytesLess y.1.toList x.1.toList=true:=hr
     clear HF HR one hb
     by_cases hz:wr (0+y.2)=0
     ·have HR2:=o2 hz
      have q:=gW cw hy hz y.1 f K rows (DF k1 l1) (DF k2 l2) TB
      clear o2 o3
      repeat' first|simp(disch:=omega) only[go_sem, *,mP,Int.natCast_zero,Int.toNat_zero,Int.toNat_one,Option.getD_some,Option.getD_none,rkb,tkb,hl',hr']|((with_reducible apply ab)<;>intro h<;>try omega)|(refine ap q ?_)
      refine⟨(x::a,b,_,rows), [],⟨ha,hb',by simp;omega,o1,HR2⟩,by simp only[List.length_cons,List.length_nil];omega, ?_⟩
      simp[tkb]
      cases f<;>rfl
     ·have HR2:=o3 hz
      have q:=gH cw hy hz y.1 f K rows (by omega) (DF k1 l1) (DF k2 l2) TB
      clear o2 o3
      repeat' first|simp(disch:=omega) only[go_sem, *,mP,Int.natCast_zero,Int.toNat_zero,Int.toNat_one,Option.getD_some,Option.getD_none,rkb,tkb,hl',hr']|((with_reducible apply ab)<;>intro h<;>try omega)|(refine ap q ?_)
      refine⟨(x::a,b,_,_), [(5,6)],⟨ha,hb',by simp;omega,o1,HR2⟩,by simp only[List.length_cons,List.length_nil];omega, ?_⟩
      simp[tkb]
      cases f<;>rfl
    ·rw[if_neg hr]at HF HR
     obtain⟨o1,o2,o3⟩:=one HF HR
     have hr':Op.bytesLess y.1.toList x.1.toList=false:=by
      cases h:Op.bytesLess y.1.toList x.1.toList with
      |false=>rfl
      |true=>exact absurd h hr
     clear HF HR one hb ha
     by_cases hz:wr (x.2+y.2)=0
     ·have HR2:=o2 hz
      have q:=gW hx hy hz x.1 f K rows (DF k1 l1) (DF k2 l2) TB
      clear o2 o3
      repeat' first|simp(disch:=omega) only[go_sem, *,mP,Int.natCast_zero,Int.toNat_zero,Int.toNat_one,Option.getD_some,Option.getD_none,rka,rkb,tka,tkb,hl',hr']|((with_reducible apply ab)<;>intro h<;>try omega)|(refine ap q ?_)
      refine⟨(a,b,_,rows), [],⟨ha',hb',by simp;omega,o1,HR2⟩,by simp only[List.length_cons,List.length_nil];omega, ?_⟩
      simp[tka,tkb]
      cases f<;>rfl
     ·have HR2:=o3 hz
      have q:=gH hx hy hz x.1 f K rows (by omega) (DF k1 l1) (DF k2 l2) TB
      clear o2 o3
      repeat' first|simp(disch:=omega) only[go_sem, *,mP,Int.natCast_zero,Int.toNat_zero,Int.toNat_one,Option.getD_some,Option.getD_none,rka,rkb,tka,tkb,hl',hr']|((with_reducible apply ab)<;>intro h<;>try omega)|(refine ap q ?_)
      refine⟨(a,b,_,_), [(5,6)],⟨ha',hb',by simp;omega,o1,HR2⟩,by simp only[List.length_cons,List.length_nil];omega, ?_⟩
      simp[tka,tkb]
      cases f<;>rfl
noncomputable def fK (a b:bY):bY×Int:=if ¬bi a.2∨ ¬bi b.2 then((0, []),1)else gu a b
theorem Fp {T:List Tf}:Cl T=true↔ ∀t∈T,ay (t.2.1+t.2.2):=by simp[Cl]
theorem Vp {T:List Tf} (h:Cl T=true):rp T=(ql T).map mP:=by
 rw[Fp]at h
 rw[rp,ql,List.map_filterMap]
 induction T with
 |nil=>rfl
 |cons t r ih=>
  have h1:=h t List.mem_cons_self
  have e:wr (t.2.1+t.2.2)=t.2.1+t.2.2:=wrap_i64 h1
  rw[List.filterMap_cons,List.filterMap_cons,e,ih fun t ht=>h t (List.mem_cons_of_mem _ ht)]
  by_cases h0:t.2.1+t.2.2=0
  ·rw[if_pos h0,if_pos h0];rfl
  ·rw[if_neg h0,if_neg h0];rfl
theorem pH {a b:bY} (ha:bq a) (hb:bq b) (hsa:short a.2) (hsb:short b.2):ac Tryz.prog JL [dm a.1 a.2,dm b.1 b.2] (NY (fK a b)):=by
 refine ac.of QA (by simp) fun _=>aa ?_
 obtain⟨k1,l1⟩:=a
 obtain⟨k2,l2⟩:=b
 obtain⟨hk1,hl1⟩:=ha
 obtain⟨hk2,hl2⟩:=hb
 simp only at hk1 hl1 hk2 hl2 hsa hsb
 have pv1:=cE k1 l1
 have pv2:=cE k2 l2
 have pp:=sg hk1 hk2
 conv in KM=>cbv
 by_cases o1:bi l1
 ·by_cases o2:bi l2
  ·rw[fK,if_neg (by simp[o1,o2]),gu]
   rw[if_pos o1]at pv1
   rw[if_pos o2]at pv2
   have q:=Js hl1 hl2 (by unfold short at hsa hsb;omega) (decide (ay (k1+k2))) (wr (k1+k2)) k1 k2 l1 l2
   have hend:(if DB (k1,l1) (k2,l2)then(zd (k1,l1) (k2,l2),0)else((0, []),3):bY×Int)=if(decide (ay (k1+k2))&&Cl (bM l1 l2))=true then((k1+k2,ql (bM l1 l2)),0)else((0, []),3):=by
    by_cases h:DB (k1,l1) (k2,l2)
    ·rw[if_pos h,if_pos (by rw[Bool.and_eq_true,decide_eq_true_iff,Fp];exact h)];rfl
    ·rw[if_neg h,if_neg (by rw[Bool.and_eq_true,decide_eq_true_iff,Fp];exact h)]
   rw[hend]
   have hK:ay (k1+k2)→wr (k1+k2)=k1+k2:=fun h=>wrap_i64 h
   have hrows:= @Vp (bM l1 l2)
   generalize bM l1 l2=T at*
   clear hend
   by_cases hfin:(decide (ay (k1+k2))&&Cl T)=true
   ·rw[if_pos hfin]
    have h1:=hfin
    rw[Bool.and_eq_true,decide_eq_true_iff]at h1
    rw[hfin,hrows h1.2]at q
    have e:=hK h1.1
    rw[e]at q
    have e':IntKind.wrap .i64 (k1+k2)=k1+k2:=e
    rw[decide_eq_true h1.1]at q
    rw[e',decide_eq_true h1.1]at pp
    clear hfin h1 e e' hK hrows hl1 hl2
    repeat' first|simp(disch:=omega) only[go_sem, *]|((with_reducible apply ab)<;>intro h<;>try omega)|(refine aF pv1 rfl rfl ?_)|(refine aF pv2 rfl rfl ?_)|(refine aF pp rfl rfl ?_)|(refine ap q ?_)
   ·rw[if_neg hfin]
    have h1:(decide (ay (k1+k2))&&Cl T)=false:=by simpa using hfin
    rw[h1]at q
    generalize rp T=rr at*
    simp only[wr]at q
    generalize IntKind.wrap .i64 (k1+k2)=W at*
    generalize decide (ay (k1+k2))=D at*
    clear h1 hfin hK hrows hl1 hl2
    repeat' first|simp(disch:=omega) only[go_sem, *]|((with_reducible apply ab)<;>intro h<;>try omega)|(refine aF pv1 rfl rfl ?_)|(refine aF pv2 rfl rfl ?_)|(refine aF pp rfl rfl ?_)|(refine ap q ?_)
    rfl
  ·rw[fK,if_pos (.inr o2)]
   rw[if_pos o1]at pv1
   rw[if_neg o2]at pv2
   repeat' first|simp(disch:=omega) only[go_sem, *]|((with_reducible apply ab)<;>intro h<;>try omega)|(refine aF pv1 rfl rfl ?_)|(refine aF pv2 rfl rfl ?_)
   rfl
 ·rw[fK,if_pos (.inl o1)]
  rw[if_neg o1]at pv1
  repeat' first|simp(disch:=omega) only[go_sem, *]|((with_reducible apply ab)<;>intro h<;>try omega)|(refine aF pv1 rfl rfl ?_)|(refine aF pv2 rfl rfl ?_)
  rfl
set_option maxRecDepth 20000
set_option maxRecDepth 1000000
def bX (c:bt):Prop:=bq c.1
def jo:List bt→Nat
 | []=>0
 |c::r=>c.1.2.length+jo r
theorem Wl {l:List bt} (h:i5 (bT l)):l.length≤9223372036854775807:=by simpa[i5,jS]using h
def X9 (p:bt×Int):Prop:=bi p.1.1.2∧ ¬(p.2<0∧p.1.2=false)
theorem LW {p:bt×Int}: ¬S6 p↔X9 p:=by
 unfold S6 X9
 constructor
 ·intro h;exact⟨Classical.byContradiction fun h'=>h (.inl h'),fun h'=>h (.inr h')⟩
 ·rintro⟨h1,h2⟩ (h|h);exact h h1;exact h2 h
theorem zk (a:bY) (b:Int):(dw a b).2.length≤a.2.length:=by
 rw[dw]
 split
 ·simp
 ·simp
theorem F4 (a b:bY):(zd a b).2.length≤a.2.length+b.2.length:=by
 have h1:=ol a.2 b.2
 have h2:(ql (bM a.2 b.2)).length≤(bM a.2 b.2).length:=List.length_filterMap_le _ _
 show(ql (bM a.2 b.2)).length≤_
 omega
theorem J9 {a:bY} {b:Int} (h:b=0∨iK a b):bq (dw a b):=by
 rw[dw]
 split
 ·exact⟨cw,fun m hm=>by cases hm⟩
 ·rename_i hb
  have h:=h.resolve_left hb
  refine⟨h.1,fun m hm=> ?_⟩
  obtain⟨x,hx,rfl⟩:=List.mem_map.1 hm
  exact h.2 x hx
theorem Mf {a b:bY} (h:DB a b):bq (zd a b):=by
 refine⟨h.1,fun m hm=> ?_⟩
 obtain⟨t,ht,e⟩:=List.mem_filterMap.1 hm
 split at e
 ·cases e
 ·cases e
  exact h.2 t ht
theorem Zh {α β:Type} {l:List α} {b:List β} {k:Nat} (h1:k<l.length) (h2:k<b.length):(l.zip b).drop k=(l[k],b[k])::(l.zip b).drop (k+1):=by
 rw[List.drop_eq_getElem_cons (by simp;omega)]
 simp
set_option maxHeartbeats 4000000 in
theorem jE {l:List bt} {b:List Int} (hl: ∀c∈l,bX c) (hb: ∀x∈b,ay x) (hs:jo l≤1000000000):ac Tryz.prog k9 [bT l,pG b] (abL (aX l b)):=by
 refine ac.of tO (by simp) fun hbd=>aa ?_
 have hlen:=Wl hbd.1
 clear hbd
 conv in kZ=>cbv
 by_cases hne:l.length=b.length
 ·have hz:(l.zip b).length=l.length:=by simp[hne]
  obtain⟨N,hN⟩: ∃N,N=l.length:=⟨_,rfl⟩
  rw[←hN]at hlen hz
  have e1:l.length=N:=hN.symm
  have e2:b.length=N:=by rw[←hne,e1]
  have HZ:=Lib.hid hz
  have HE:=Lib.hid hne
  clear hN hne hz
  repeat' first|simp(disch:=omega) only[go_sem, *,e1,e2]|((with_reducible apply ab)<;>intro h<;>try omega)
  refine an (fun k:Nat=>⟨[(0,bT l),(1,pG b),(4,.c (.ptr 0 0)),(21,bT l),(22,I N),(23,I k)], [(0,.var [.pure (pI 0),.nils,.pure (pB false)])],1,0⟩) (fun k=>k≤N∧el (fun i=> ∀(h1:i<l.length) (h2:i<b.length),X9 (l[i],b[i])) k) (fun k=>N-k) ⟨0, [],⟨Nat.zero_le _,.zero⟩,by simp[e1,e2]⟩ ?_
  rintro k ⟨hk,hall⟩
  refine aa ?_
  by_cases hltN:k<N
  ·have hlt:k<l.length:=by omega
   have hlt2:k<b.length:=by omega
   have hbad:S6 (l[k],b[k])→aX l b=(zo,1):=fun h=>by
    rw[aX,if_neg (not_not_intro HE.out),if_pos]
    refine⟨(l[k],b[k]), ?_,h⟩
    rw[List.mem_iff_getElem]
    exact⟨k,by rw[HZ.out];exact hltN,by simp⟩
   have nxt:X9 (l[k],b[k])→Hid (el (fun i=> ∀(h1:i<l.length) (h2:i<b.length),X9 (l[i],b[i])) (k+1)):=fun h=>Lib.hid (hall.succ fun _ _=>h)
   have g1:=ah (f:=cP) hlt
   have g2:=ah (f:=fun n=> [pI n]) hlt2
   generalize l[k]=c at*
   generalize b[k]=x at*
   obtain⟨⟨ck,cl⟩,q⟩:=c
   simp only[cP]at g1
   have pv:=b8 ((ck,cl),q)
   have BAD:=Lib.hid hbad
   have NXT:=Lib.hid nxt
   clear hbad nxt hall
   by_cases hv:bi cl
   ·rw[if_pos hv]at pv
    cases q
    ·by_cases hneg:x<0
     ·rw[BAD.out (.inr ⟨hneg,rfl⟩)]
      repeat' first|simp(disch:=omega) only[go_sem, *,g1,g2,wrap_i64]|((with_reducible apply ab)<;>intro h<;>try omega)|(refine aF pv rfl rfl ?_)
      rfl
     ·have NX:=NXT.out ⟨hv,fun h=>hneg h.1⟩
      repeat' first|simp(disch:=omega) only[go_sem, *,g1,g2,wrap_i64]|((with_reducible apply ab)<;>intro h<;>try omega)|(refine aF pv rfl rfl ?_)
      exact⟨k+1, [],⟨hltN,by have:=NX.out;simp only[e1,e2]at this;exact this⟩,by omega,by simp⟩
    ·have NX:=NXT.out ⟨hv,fun h=>by cases h.2⟩
     by_cases hneg:x<0
     ·repeat' first|simp(disch:=omega) only[go_sem, *,g1,g2,wrap_i64]|((with_reducible apply ab)<;>intro h<;>try omega)|(refine aF pv rfl rfl ?_)
      exact⟨k+1, [],⟨hltN,by have:=NX.out;simp only[e1,e2]at this;exact this⟩,by omega,by simp⟩
     ·repeat' first|simp(disch:=omega) only[go_sem, *,g1,g2,wrap_i64]|((with_reducible apply ab)<;>intro h<;>try omega)|(refine aF pv rfl rfl ?_)
      exact⟨k+1, [],⟨hltN,by have:=NX.out;simp only[e1,e2]at this;exact this⟩,by omega,by simp⟩
   ·rw[if_neg hv]at pv
    rw[BAD.out (.inl hv)]
    repeat' first|simp(disch:=omega) only[go_sem, *,g1,g2,wrap_i64]|((with_reducible apply ab)<;>intro h<;>try omega)|(refine aF pv rfl rfl ?_)
    rfl
  ·obtain rfl:k=N:=by omega
   have hno: ¬ ∃p∈l.zip b,S6 p:=by
    rintro⟨p,hp,hbp⟩
    obtain⟨i,hi,rfl⟩:=List.mem_iff_getElem.1 hp
    rw[HZ.out]at hi
    have h2:=hall i hi (by omega) (by omega)
    rw[List.getElem_zip]at hbp
    exact LW.2 h2 hbp
   have hcomb:aX l b=jT (0, []) true ((l.zip b).drop 0):=by rw[aX,if_neg (not_not_intro HE.out),if_neg hno];rfl
   rw[hcomb]
   obtain⟨R,hR⟩: ∃R,R=jT (0, []) true ((l.zip b).drop 0):=⟨_,rfl⟩
   rw[←hR]
   have HR:=Lib.hid hR
   have HA:=Lib.hid hall
   clear hR hcomb hno hall
   repeat' first|simp(disch:=omega) only[go_sem, *,e1,e2]|((with_reducible apply ab)<;>intro h<;>try omega)
   refine XV 1 1 _ rfl rfl ?_
   refine an (fun s:Nat×bY×Bool=>⟨[(1,pG b),(4,.c (.ptr 0 0)),(9,.c (.ptr 1 0)),(47,bT l),(48,I k),(49,I s.1)], [(0,.var [.pure (pI 0),.nils,.pure (pB false)]),(1,.var [.pure (pI s.2.1.1),.pure (aw s.2.1.2),.pure (pB s.2.2)])],2,0⟩)
    (fun s=>s.1≤k∧bi s.2.1.2∧bq s.2.1∧s.2.1.2.length+jo (l.drop s.1)≤1000000000∧Hid (R=jT s.2.1 s.2.2 ((l.zip b).drop s.1))) (fun s=>k-s.1)
    ⟨(0,((0, []),true)), [],⟨Nat.zero_le _,fun i hi=>by simp at hi,⟨cw,fun m hm=>by cases hm⟩,by simpa using hs,HR⟩,by simp[e1,e2]⟩ ?_
   clear HR hs
   rintro⟨j,out,eq⟩ ⟨hj,hok,h64,hs,HR⟩
   refine aa ?_
   simp only at hj hok h64 hs HR
   by_cases hltk:j<k
   ·have hlt:j<l.length:=by omega
    have hlt2:j<b.length:=by omega
    have hc:=HA.out j hltk hlt hlt2
    have hc64:bq l[j].1:=hl _ (List.getElem_mem hlt)
    have hb64:=hb _ (List.getElem_mem hlt2)
    have htd:jo (l.drop j)=l[j].1.2.length+jo (l.drop (j+1)):=by rw[List.drop_eq_getElem_cons hlt,jo]
    have h2:=HR.out
    rw[Zh hlt hlt2,jT]at h2
    simp only at h2
    have g1:=ah (f:=cP) hlt
    have g2:=ah (f:=fun n=> [pI n]) hlt2
    clear HR
    generalize l[j]=c at*
    generalize b[j]=x at*
    obtain⟨⟨ck,cl⟩,q⟩:=c
    simp only[cP]at g1
    simp only at h2 htd hc64
    have hsl:=zk (ck,cl) x
    have hal:=F4 out (dw (ck,cl) x)
    simp only at hsl
    have hclin:bi cl:=hc.1
    have ps:=kS (a:=(ck,cl)) (b:=x) hc64 hb64 (by unfold short;simp only;omega)
    rw[bO,if_neg (not_not_intro hclin),kB]at ps
    by_cases hsc:x=0∨iK (ck,cl) x
    ·have hv64:=J9 hsc
     have hvok:=B4 (a:=(ck,cl)) (b:=x) hclin
     rw[if_pos hsc]at ps
     have pa:=pH h64 hv64 (by unfold short;omega) (by unfold short;omega)
     rw[fK,if_neg (by simp[hok,hvok]),gu]at pa
     by_cases had:DB out (dw (ck,cl) x)
     ·have ha64:=Mf had
      have haok:=Sc hok hvok
      rw[if_pos had]at pa
      rw[if_neg (by rintro(h|h);exact h hsc;exact h had)]at h2
      have hs':(zd out (dw (ck,cl) x)).2.length+jo (l.drop (j+1))≤1000000000:=by omega
      clear hsc had hvok hv64 hok h64 hc hc64 hb64 hsl hal htd hs hclin
      generalize dw (ck,cl) x=SV at*
      generalize zd out SV=AV' at*
      have HR:=Lib.hid h2
      clear h2
      by_cases hz:x=0
      ·subst hz
       have HR:Hid (R=jT AV' eq ((l.zip b).drop (j+1))):=Lib.hid (by
        have:=HR.out
        simpa using this)
       cases eq<;>cases q
       all_goals
        repeat' first|simp(disch:=omega) only[go_sem, *,g1,g2,wrap_i64]|((with_reducible apply ab)<;>intro h<;>try omega)|(refine aF ps rfl rfl ?_)|(refine cg ps rfl rfl ?_)|(refine cg pa rfl rfl ?_)
        exact⟨(j+1,AV',_), [],⟨hltk,haok,ha64,hs',HR⟩,by show _-_<_-_;omega,by simp⟩
      ·have HR:Hid (R=jT AV' (eq&&q) ((l.zip b).drop (j+1))):=Lib.hid (by
        have:=HR.out
        simpa[hz]using this)
       cases eq<;>cases q
       all_goals
        repeat' first|simp(disch:=omega) only[go_sem, *,g1,g2,wrap_i64,hz]|((with_reducible apply ab)<;>intro h<;>try omega)|(refine aF ps rfl rfl ?_)|(refine cg ps rfl rfl ?_)|(refine cg pa rfl rfl ?_)
        exact⟨(j+1,AV',_), [],⟨hltk,haok,ha64,hs',HR⟩,by show _-_<_-_;omega,by simp⟩
     ·rw[if_neg had]at pa
      rw[if_pos (.inr had)]at h2
      subst h2
      clear hsc had hvok hv64
      generalize dw (ck,cl) x=SV at*
      repeat' first|simp(disch:=omega) only[go_sem, *,g1,g2,wrap_i64]|((with_reducible apply ab)<;>intro h<;>try omega)|(refine aF ps rfl rfl ?_)|(refine cg ps rfl rfl ?_)|(refine cg pa rfl rfl ?_)
      rfl
    ·rw[if_neg hsc]at ps
     rw[if_pos (.inl hsc)]at h2
     subst h2
     clear hsc
     repeat' first|simp(disch:=omega) only[go_sem, *,g1,g2,wrap_i64]|((with_reducible apply ab)<;>intro h<;>try omega)|(refine aF ps rfl rfl ?_)|(refine cg ps rfl rfl ?_)
     rfl
   ·have h2:=HR.out
    rw[List.drop_eq_nil_of_le (by rw[HZ.out];omega),jT]at h2
    subst h2
    repeat' first|simp(disch:=omega) only[go_sem, *]|((with_reducible apply ab)<;>intro h<;>try omega)
 ·rw[aX,if_pos hne]
  repeat' first|simp(disch:=omega) only[go_sem, *]|((with_reducible apply ab)<;>intro h<;>try omega)
  rfl
end Go.Proofs.YthbcbaembicdbaaGreatDoor
