import Derived.Test.YthbcbaembicdbaaGreatDoorVPq
import Derived.Test.YthbcbaembicdbaaGreatDoorV18p
import Derived.Test.YthbcbaembicdbaaGreatDoorInY
set_option linter.unusedVariables false
set_option linter.unusedSimpArgs false
set_option maxHeartbeats 4000000
set_option maxRecDepth 1000000
namespace Go.Proofs.YthbcbaembicdbaaGreatDoor
open Go.Abs Go.RowKit
theorem zA {p:bI} {x:Jp} (hf:j0 p) (a:pR p) (o: ∀(i:Nat) (h:i<p.defs.length),PG p p.defs[i]) (h0:(bQ p).2=0) (h:X8 p x):ac Tryz.prog kP [fO p,aOb x.1 x.2.1 x.2.2] (bT (nY p x)):=by
 obtain⟨hk,_,_,_,hl,_⟩:=h
 have pa:=tQ (k:=(x.1:Int)) hf a λ_=>o
 rw[Sb h0 hk]at pa
 refine ac.of Bu (by simp) λhb=>aa ?_
 have u:bl 3 (x.2.2.2.map cP):=av λx=>rfl
 have s:bl 3 ((Ci p p.defs[x.1]).map cP):=av λx=>rfl
 have HM:=Lib.hid (List.map_append (f:=cP) (l₁:=Ci p p.defs[x.1]) (l₂:=x.2.2.2)).symm
 unfold nY at*
 rw[uA hk]at*
 rw[List.length_append]at hl
 conv in qC=>cbv
 clear hb o h0
 repeat' first|simp(disch:=omega)only[go_sem, *]|(with_reducible apply ab)<;>intro h<;>try omega|with_reducible apply ag|with_reducible refine aj (λh=> ?_) ?_|refine cg pa rfl rfl ?_|refine kR s (by simp;omega) (by simp;omega) ?_|refine aJ rfl (by intro h;cases h) u (by simp;omega) (by simp;omega) ?_
 all_goals rw[HM.out]
theorem Nm {p:bI} {fuel:Int}: ∀{X:List Jp} {i:Nat} {acc l:List XH} {z:Int},xc p fuel X i acc=(l,z,0)→ ∃r,l=acc++r
 |[],i,acc,l,z,h=>by
  rw[xc]at h
  cases h
  exact⟨[],by simp⟩
 |x::X,i,acc,l,z,h=>by
  rw[xc]at h
  split at h
  ·rename_i h1
   exact absurd (Prod.ext_iff.1 (Prod.ext_iff.1 h).2).2 h1
  ·split at h
   ·cases (Prod.ext_iff.1 (Prod.ext_iff.1 h).2).2
   ·obtain⟨r,hr⟩:=Nm h
    exact⟨[_]++r,by rw[hr,List.append_assoc]⟩
theorem CL (ha:ac Tryz.prog IM [] (Go.Abs.B true)) {p:bI} {fuel:Int} (a:pR p) (hL:LO p) (t:ay fuel):ac Tryz.prog l9 [fO p,I fuel] (Go.Abs.B true):=by
 refine ac.of tI (by simp) λ_=>aa ?_
 have e:lK=(let A:=λa b c=>g_ a b true (.mv (.t c));let F:=λa b x=>(false,g_ a b false x);let H:=λa b x=>(false,g_ a b true x); (s_ [o_ 2 (.box (.t 0)),o_ 4 (.mv (b_ false))] (.seq (s_ [o_ 15 (L_ 5 2),o_ 16 (C_ 6 [.t 15,(.k (.c .nils))]),o_ 17 (.un .not (.t 16)),m_ 18 17,g_ 19 18 false (.mv (.t 1)),g_ 20 18 false (Q_ .gtr 19 2000),o_ 21 (.pick (.t 18) (b_ true) (.t 20))] (y_ 21 (s_ [o_ 22 (C_ 7 []),m_ 4 22] .ret) .skip)) (s_ [o_ 24 (L_ 5 2),m_ 25 1,o_ 26 (C_ 8 [.t 24,.t 25]),m_ 23 26,o_ 27 (e_ 23 0),o_ 28 (e_ 23 1),o_ 29 (e_ 23 2),m_ 5 27,m_ 6 28,m_ 7 29] (.seq (s_ [o_ 31 (L_ 5 2),o_ 32 (C_ 9 [.t 31]),m_ 30 32,o_ 33 (e_ 30 0),o_ 34 (e_ 30 1),m_ 8 33,m_ 9 34] (s_ [m_ 35 9,o_ 36 (Q_ .neq 35 0)] (y_ 36 (s_ [m_ 37 5,o_ 38 (z_ 37),o_ 39 (Q_ .eql 38 0),m_ 40 39,A 41 40 6,A 42 40 8,g_ 43 40 true (.bin .eql (.t 41) (.t 42)),o_ 44 (.pick (.t 40) (.t 43) (b_ false)),m_ 45 44,A 46 45 7,A 47 45 9,g_ 48 45 true (.bin .eql (.t 46) (.t 47)),o_ 49 (.pick (.t 45) (.t 48) (b_ false)),m_ 50 49,g_ 51 50 true (C_ 7 []),o_ 52 (.pick (.t 50) (.t 51) (b_ false)),m_ 4 52] .ret) .skip))) (s_ [o_ 53 (L_ 5 2),o_ 54 (C_ 10 [.t 53]),m_ 10 54] (.seq (s_ [o_ 11 (w_ 0)] (.block 0 (.loop (.seq (s_ [m_ 55 11,m_ 56 10,o_ 57 (z_ 56),o_ 58 (q_ 55 57)] (X_ 58 0)) (.seq (.block 1 (.seq (.draw [[P_ 62 (L_ 5 2),M_ 63 10,M_ 64 11,P_ 65 (x_ 6 63 64),P_ 66 (L_ 6 65),P_ 67 (.call false false (f_ 12) [.t 62,.t 66]),M_ 68 10,M_ 69 11,P_ 70 (x_ 6 68 69),P_ 71 (a_ 0 70),P_ 72 (a_ 2 71),P_ 73 (L_ 3 72),M_ 74 1,P_ 75 (.call false false (f_ 11) [.t 67,.t 73,.t 74]),M_ 61 75,P_ 76 (e_ 61 0),P_ 77 (e_ 61 1),P_ 78 (e_ 61 2),M_ 12 76,M_ 13 77,M_ 14 78]]) (.seq (s_ [m_ 79 14,o_ 80 (Q_ .eql 79 0),m_ 81 80,A 82 81 13,g_ 83 81 true (.un .not (.t 82)),o_ 84 (.pick (.t 81) (.t 83) (b_ false))] (y_ 84 (r_ [o_ 14 (w_ 17)]) .skip)) (.seq (s_ [m_ 85 14,o_ 86 (Q_ .neq 85 0)] (y_ 86 (s_ [m_ 87 5,o_ 88 (z_ 87),o_ 89 (Q_ .eql 88 0),m_ 90 89,A 91 90 6,A 92 90 11,g_ 93 90 true (.bin .eql (.t 91) (.t 92)),o_ 94 (.pick (.t 90) (.t 93) (b_ false)),m_ 95 94,A 96 95 7,A 97 95 14,g_ 98 95 true (.bin .eql (.t 96) (.t 97)),o_ 99 (.pick (.t 95) (.t 98) (b_ false)),m_ 100 99,g_ 101 100 true (C_ 7 []),o_ 102 (.pick (.t 100) (.t 101) (b_ false)),m_ 4 102] .ret) .skip)) (.seq (.draw [[M_ 103 7,P_ 104 (Q_ .eql 103 0),M_ 105 104,H 106 105 (.mv (.t 11)),H 107 105 (.mv (.t 5)),H 108 105 (z_ 107),H 109 105 (.bin .geq (.t 106) (.t 108)),H 110 105 (.mv (.t 109)),F 111 110 (.mv (.t 5)),F 112 110 (.mv (.t 11)),F 113 110 (x_ 6 111 112),F 114 110 (a_ 0 113),F 115 110 (L_ 5 114),F 116 110 (.mv (.t 10)),F 117 110 (.mv (.t 11)),F 118 110 (x_ 6 116 117),F 119 110 (a_ 0 118),F 120 110 (L_ 5 119),F 121 110 (.call false false (f_ 13) [.t 115,.t 120]),F 122 110 (.un .not (.t 121)),H 123 105 (.pick (.t 110) (b_ true) (.t 122)),H 124 105 (.mv (.t 123)),F 125 124 (.mv (.t 5)),F 126 124 (.mv (.t 11)),F 127 124 (x_ 6 125 126),F 128 124 (a_ 5 127),F 129 124 (l_ 128),F 130 124 (.mv (.t 12)),F 131 124 (.call false false (f_ 14) [.t 129,.t 130]),F 132 124 (.un .not (.t 131)),H 133 105 (.pick (.t 124) (b_ true) (.t 132)),P_ 134 (.pick (.t 105) (.t 133) (b_ false))]]) (y_ 134 (s_ [o_ 4 (.mv (b_ false))] .ret) .skip)))))) (r_ [m_ 59 11,o_ 60 (j_ 59),m_ 11 60])))))) (s_ [m_ 135 7,o_ 136 (Q_ .eql 135 0),m_ 137 136,A 138 137 6,g_ 139 137 true (Q_ .eql 138 0),o_ 140 (.pick (.t 137) (.t 139) (b_ false)),m_ 141 140,A 142 141 5,g_ 143 141 true (z_ 142),A 144 141 10,g_ 145 141 true (z_ 144),g_ 146 141 true (.bin .eql (.t 143) (.t 145)),o_ 147 (.pick (.t 141) (.t 146) (b_ false)),m_ 148 147,g_ 149 148 true (C_ 7 []),o_ 150 (.pick (.t 148) (.t 149) (b_ false)),m_ 4 150] .ret)))))))):=by kernel_rfl
 dsimp only at e
 rw[e]
 clear e
 have pf:=Jd p []
 by_cases hs:Jc p []
 ·rw[decide_eq_true hs]at pf
  by_cases v:fuel≤2000
  ·have hl:=hs.1.2
   have hf:=pU hl
   have b:(bQ p).2=0→Qb p:=λh=>⟨by have:=hs.1.1;omega,λd hd=>by
    obtain⟨k,hk,rfl⟩:=List.mem_iff_getElem.1 hd
    obtain⟨g1,g2⟩:=HQ hl a hL h hk
    exact⟨g1,by omega⟩⟩
   have pp:=Ck (fuel:=fuel) hf a (Ny hl) b (λh x hx=>Gf hl a hL h hx) t
   have pv:=iN hf a
   have pg:=EK hf a b
   unfold Xq at pp
   unfold X4 at pg
   by_cases h0:(bQ p).2=0
   ·rw[if_neg (not_not_intro h0)]at pp pg
    rw[h0]at pv
    have w:=PI (b h0)
    have pm: ∀x∈qM p,ac Tryz.prog kP [fO p,aOb x.1 x.2.1 x.2.2] (bT (nY p x)):=λx hx=>zA hf a (λi hi=>KV hl hL h0 i hi) h0 (Gf hl a hL h0 hx)
    have pi: ∀x∈qM p,ac Tryz.prog il [bT (nY p x),jM x.2.2.1,I fuel] (Zb (uc (nY p x) x.2.2.1 fuel)):=λx hx=>by
     obtain⟨_,_,q1,q2,q3,q4⟩:=Gf hl a hL h0 hx
     exact oD q2 q1.1 q3 q4 t
    clear h0 b hs hl hf a hL
    generalize qM p=L at*
    obtain⟨⟨l,z,e⟩,hR⟩: ∃R,R=xc p fuel L 0 []:=⟨_,rfl⟩
    rw[←hR]at pp
    have HR:Hid (xc p fuel (L.drop 0) 0 []=(l,z,e)):=Lib.hid hR.symm
    clear hR
    simp only at pp
    repeat' first|simp(disch:=omega)only[go_sem, *]|(with_reducible apply ab)<;>intro h<;>try omega|with_reducible apply ag|with_reducible refine aj (λh=> ?_) ?_|refine aF pf rfl rfl ?_|refine cg pp rfl rfl ?_|refine aF pv rfl rfl ?_|refine cg pg rfl rfl ?_
    refine an (λx:Nat×List XH=>⟨[(1,I fuel),(2,.c (.ptr 0 0)),(5,Zi l),(6,I z),(7,I e),(10,j5 a6 L),(11,I x.1)], [(0,eV p)],1,0⟩) (λx=>x.1≤L.length∧x.2.length=x.1∧Hid (xc p fuel (L.drop x.1) x.1 x.2=(l,z,e))) (λx=>L.length-x.1) ⟨(0, []), [],⟨by omega,rfl,HR⟩,by simp⟩ ?_
    clear pf pp pv pg HR
    rintro⟨i,acc⟩ ⟨hi,b,hr⟩
    refine aa ?_
    simp only at hi b
    have hd:=hr.out
    simp only at hd
    clear hr
    by_cases g:i<L.length
    ·have p1:=pm _ (List.getElem_mem g)
     have p2:=pi _ (List.getElem_mem g)
     have g1:(L.map a6)[i]? =some (rw6 L[i]):=ah (f:=a6) g
     obtain⟨q,hq⟩: ∃q,q=uc (nY p L[i]) L[i].2.2.1 fuel:=⟨_,rfl⟩
     rw[RN g hq.symm]at hd
     rw[←hq]at p2
     clear hq pm pi
     obtain⟨by',ok,f⟩:=q
     simp only at hd p2
     by_cases j:f=0
     ·subst j
      rw[if_neg (by simp)]at hd
      cases ok
      ·rw[if_pos rfl]at hd
       cases hd
       repeat' first|simp(disch:=omega)only[go_sem, *,g1]|(with_reducible apply ab)<;>intro h<;>try omega|with_reducible apply ag|with_reducible refine aj (λh=> ?_) ?_|refine cg p1 rfl rfl ?_|refine cg p2 rfl rfl ?_|refine aF ha rfl rfl ?_
       all_goals rfl
      ·rw[if_neg (by simp)]at hd
       have HD:=Lib.hid hd
       by_cases he:e=0
       ·subst he
        obtain⟨r,hr⟩:=Nm hd
        have m:i<l.length:=by rw[hr];simp;omega
        have g2:(l.map Zv)[i]? =some (Zv (L[i],by')):=by
         rw[ah (f:=Zv) m]
         congr 1
         subst b
         simp[hr]
        have ps:=FK L[i]
        have pb:=ES by' by'
        rw[decide_eq_true rfl]at pb
        clear hd hr
        repeat' first|simp(disch:=omega)only[go_sem, *,g1,g2,wrap_i64]|(with_reducible apply ab)<;>intro h<;>try omega|with_reducible apply ag|with_reducible refine aj (λh=> ?_) ?_|refine cg p1 rfl rfl ?_|refine cg p2 rfl rfl ?_|refine aF ps rfl rfl ?_|refine aF pb rfl rfl ?_
        all_goals exact⟨(i+1,acc++ [(L[i],by')]), [],⟨by omega,by simp;omega,HD⟩,by show _-_<_-_;omega,by simp⟩
       ·clear hd
        repeat' first|simp(disch:=omega)only[go_sem, *,g1,he,wrap_i64]|(with_reducible apply ab)<;>intro h<;>try omega|with_reducible apply ag|with_reducible refine aj (λh=> ?_) ?_|refine cg p1 rfl rfl ?_|refine cg p2 rfl rfl ?_
        all_goals exact⟨(i+1,acc++ [(L[i],by')]), [],⟨by omega,by simp;omega,HD⟩,by show _-_<_-_;omega,by simp⟩
     ·rw[if_pos j]at hd
      cases hd
      repeat' first|simp(disch:=omega)only[go_sem, *,g1,j]|(with_reducible apply ab)<;>intro h<;>try omega|with_reducible apply ag|with_reducible refine aj (λh=> ?_) ?_|refine cg p1 rfl rfl ?_|refine cg p2 rfl rfl ?_|refine aF ha rfl rfl ?_
      all_goals rfl
    ·rw[PA (by omega)]at hd
     cases hd
     have m:(l.length:Int)=L.length:=by omega
     repeat' first|simp(disch:=omega)only[go_sem, *,m]|(with_reducible apply ab)<;>intro h<;>try omega|with_reducible apply ag|with_reducible refine aj (λh=> ?_) ?_|refine aF ha rfl rfl ?_
     all_goals rfl
   ·rw[if_pos h0]at pp pg
    generalize bQ p=V at*
    obtain⟨z,e⟩:=V
    simp only at pp pv pg h0
    clear b hs hl hf a hL v
    repeat' first|simp(disch:=omega)only[go_sem, *,h0]|(with_reducible apply ab)<;>intro h<;>try omega|with_reducible apply ag|with_reducible refine aj (λh=> ?_) ?_|refine aF pf rfl rfl ?_|refine cg pp rfl rfl ?_|refine aF pv rfl rfl ?_|refine aF ha rfl rfl ?_
    all_goals rfl
  ·clear hs a hL
   repeat' first|simp(disch:=omega)only[go_sem, *]|(with_reducible apply ab)<;>intro h<;>try omega|with_reducible apply ag|with_reducible refine aj (λh=> ?_) ?_|refine aF pf rfl rfl ?_|refine aF ha rfl rfl ?_
   all_goals rfl
 ·rw[decide_eq_false hs]at pf
  clear hs a hL
  repeat' first|simp(disch:=omega)only[go_sem, *]|(with_reducible apply ab)<;>intro h<;>try omega|with_reducible apply ag|with_reducible refine aj (λh=> ?_) ?_|refine aF pf rfl rfl ?_|refine aF ha rfl rfl ?_
  all_goals rfl
theorem CJ {ps qs:List PC} (h:re aah ps) (hq:qt [.int .i64] qs):ac Tryz.prog 3 [.agg (ps.map .pure),aal false qs] (Go.Abs.B true):=by
 obtain⟨p,rfl,a,hL⟩:=ab5 h
 obtain⟨_,rfl,k1⟩:=Ag hq
 obtain⟨n,rfl,hn⟩:=d5 k1
 exact CL ER a hL hn
