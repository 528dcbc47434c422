import Derived.Test.YtjhkikmonejkjaaGreatDoorV55c
set_option linter.unusedVariables false
set_option linter.unusedSimpArgs false
open Go.Proofs.Tryz renaming prog→Ya
namespace Go.Proofs.YtjhkikmonejkjaaGreatDoor
open Go.Abs Go.RowKit
theorem Jd: ∀{a b:List ByteArray},yc a→yc b→(∀n,n∈a↔n∈b)→a=b
 | [], [],_,_,_=>rfl
 | [],y::b,_,_,h=>absurd ((h y).2 List.mem_cons_self) (by simp)
 |x::a, [],_,_,h=>absurd ((h x).1 List.mem_cons_self) (by simp)
 |x::a,y::b,ha,hb,h=>by
  obtain⟨a1,a2⟩:=List.pairwise_cons.1 ha
  obtain⟨b1,b2⟩:=List.pairwise_cons.1 hb
  have e:x=y:=by
   rcases List.mem_cons.1 ((h x).1 List.mem_cons_self)with e|e
   ·exact e
   ·rcases List.mem_cons.1 ((h y).2 List.mem_cons_self)with e'|e'
    ·exact e'.symm
    ·exact absurd (b1 x e) (tt (a1 y e'))
  subst e
  rw[Jd a2 b2 λn=> ?_]
  constructor
  ·intro hn
   rcases List.mem_cons.1 ((h n).1 (List.mem_cons_of_mem _ hn))with e|e
   ·subst e
    exact absurd (a1 n hn) (kS n)
   ·exact e
  ·intro hn
   rcases List.mem_cons.1 ((h n).2 (List.mem_cons_of_mem _ hn))with e|e
   ·subst e
    exact absurd (b1 n hn) (kS n)
   ·exact e
theorem FQ: ∀{s a:List ByteArray} {n:ByteArray},n∈s.foldl gA a↔n∈a∨n∈s
 | [],a,n=>by simp
 |b::s,a,n=>by
  rw[List.foldl_cons,FQ,Jl]
  simp only[List.mem_cons,or_assoc]
theorem FO: ∀{s a:List ByteArray},yc a→yc (s.foldl gA a)
 | [],a,h=>h
 |b::s,a,h=>by
  rw[List.foldl_cons]
  exact FO (y0 h)
theorem Eg {l:List (List UInt8)} (h:l.Pairwise (· ≤ ·)): ∀m,m≤l.length→(Lib.compactUpTo l.toArray m).Pairwise (· < ·)∧(∀x∈Lib.compactUpTo l.toArray m,0<m∧x≤l.toArray[m-1]!)∧ ∀x,x∈Lib.compactUpTo l.toArray m↔x∈l.take m
 |0,_=>⟨List.Pairwise.nil,(λx hx=>absurd hx List.not_mem_nil),λx=>by simp[Lib.compactUpTo]⟩
 |m+1,hm=>by
  obtain⟨h1,h2,h3⟩:=Eg h m (by omega)
  have o:m<l.length:=by omega
  have em:l.toArray[m]! =l[m]:=by simp[o]
  rw[Lib.compactUpTo_succ,List.take_succ_eq_append_getElem o]
  have hB:0<m→l.toArray[m-1]! ≤l[m]:= λh0=>by
   have e1:l.toArray[m-1]! =l[m-1]:=by simp[show m-1<l.length by omega]
   rw[e1]
   exact List.pairwise_iff_getElem.1 h (m-1) m (by omega) o (by omega)
  by_cases hk:Lib.keeps l.toArray m=true
  ·rw[if_pos hk,em]
   have w:m=0∨l.toArray[m]! ≠l.toArray[m-1]! :=by simpa[Lib.keeps]using hk
   rw[em]at w
   refine⟨?_, ?_,λx=>by rw[List.mem_append,List.mem_append,h3]⟩
   ·rw[List.pairwise_append]
    refine⟨h1,List.pairwise_singleton _ _,λx hx y hy=> ?_⟩
    obtain rfl:=List.mem_singleton.1 hy
    obtain⟨h0,Y⟩:=h2 x hx
    rcases w with w|w
    ·omega
    ·exact Std.lt_of_le_of_lt Y (Std.lt_of_le_of_ne (hB h0) λe=>w e.symm)
   ·intro x hx
    refine⟨by omega, ?_⟩
    rw[Nat.add_sub_cancel,em]
    rcases List.mem_append.1 hx with hx|hx
    ·obtain⟨h0,Y⟩:=h2 x hx
     exact Std.le_trans Y (hB h0)
    ·obtain rfl:=List.mem_singleton.1 hx
     exact List.le_refl _
  ·rw[if_neg hk,List.append_nil]
   have w: ¬(m=0∨l.toArray[m]! ≠l.toArray[m-1]!):=by simpa[Lib.keeps]using hk
   have h0:m≠0:= λe=>w (.inl e)
   have he:l.toArray[m]! =l.toArray[m-1]! :=Classical.not_not.1 λe=>w (.inr e)
   refine⟨h1,λx hx=>⟨by omega, ?_⟩,λx=> ?_⟩
   ·rw[Nat.add_sub_cancel,he]
    exact(h2 x hx).2
   ·rw[List.mem_append,h3]
    constructor
    ·exact .inl
    ·rintro(hx|hx)
     ·exact hx
     ·obtain rfl:=List.mem_singleton.1 hx
      rw[←em,he]
      have e1:l.toArray[m-1]! =l[m-1]:=by simp[show m-1<l.length by omega]
      rw[e1,List.mem_take_iff_getElem]
      exact⟨m-1,by omega,rfl⟩
theorem Li (l:List ByteArray):vn (wB l)=ff l:=by
 rw[vn,wB,K8]
 have hs:((a6 l).mergeSort λx y=>decide (x≤y)).Pairwise (· ≤ ·):=
  (List.pairwise_mergeSort (le:= λx y:List UInt8=>decide (x≤y)) (λa b c h1 h2=>decide_eq_true (Std.le_trans (of_decide_eq_true h1) (of_decide_eq_true h2))) (λa b=>by
   rw[Bool.or_eq_true,decide_eq_true_iff,decide_eq_true_iff]
   exact List.le_total a b) (a6 l)).imp λh=>of_decide_eq_true h
 obtain⟨h1,_,h3⟩:=Eg hs _ (Nat.le_refl _)
 refine Jd ?_ (FO List.Pairwise.nil) λn=> ?_
 ·unfold yc jt
  rw[List.pairwise_map]
  refine h1.imp λ{a b} h=> ?_
  rw[oV,ByteArray.toList_eq,ByteArray.toList_eq]
  exact h
 ·rw[ff,FQ]
  unfold jt
  rw[List.mem_map]
  have key: ∀x,x∈Lib.compact ((a6 l).mergeSort λx y=>decide (x≤y))↔x∈a6 l:= λx=>by
   rw[Lib.compact,h3 x,List.take_length,List.mem_mergeSort]
  constructor
  ·rintro⟨x,hx,rfl⟩
   obtain⟨s,hF,rfl⟩:=List.mem_map.1 ((key x).1 hx)
   refine .inr ?_
   cases s
   simpa using hF
  ·rintro(h|h)
   ·cases h
   ·exact⟨n.data.toList,(key _).2 (List.mem_map.2 ⟨n,h,rfl⟩),by cases n;simp⟩
set_option maxRecDepth 20000
theorem Pw {nm:ByteArray} {V:List V3} {m:Nat} (h:m<V.length) (hc:0≤V[m].2.2):iz nm m (V.drop m)=(2,V[m].2.2,(m:Int),(m:Int),nm)::iz nm (m+1) (V.drop (m+1)):=by
 rw[List.drop_eq_getElem_cons h,iz,if_pos hc]
 rfl
theorem Ri {nm:ByteArray} {V:List V3} {m:Nat} (h:m<V.length) (hc: ¬0≤V[m].2.2):iz nm m (V.drop m)=iz nm (m+1) (V.drop (m+1)):=by
 rw[List.drop_eq_getElem_cons h,iz,if_neg hc]
 rfl
theorem O6 {nm:ByteArray} {V:List V3} {m:Nat} (h:V.length≤m):iz nm m (V.drop m)= []:=by
 rw[List.drop_of_length_le h,iz]
theorem Hi {l:List Tr}:oN (l.map s7):=by
 intro r hr p hp
 obtain⟨v,_,rfl⟩:=List.mem_map.1 hr
 simp only[s7,List.mem_cons,List.not_mem_nil,or_false]at hp
 rcases hp with rfl|rfl|rfl|rfl|rfl<;>exact⟨_,rfl⟩
set_option maxHeartbeats 4000000 in
theorem oY {L:List T3} {D:PC} {d:jA} {Vd Vr:List V3} {T:List Tr} (K:v6 L d (Vd++Vr)) (hG:Vd.length=d.dims.length):
  mh Ya fy [Pa L D,sK d,Wz Vd Vr T] 51 5 ((fp L d (Vd++Vr)).map s7):=by
 refine mh.of lf (by simp) Hi λhb=>aa ?_
 have u:=GM K
 obtain⟨k1,k2,k3,k4,k5,k6,k7,k8⟩:=K
 have hM:Vr.length≤1000:=by rw[List.length_append]at k5;omega
 have cR:=D3 (e:=d.body) (by omega) k2
 rw[Li]at cR
 have cL:= λ(s:ByteArray) (hs:s∈ld d.body.pre) (j:Nat) (x:Int) (hj: ∀a∈d.body.pre,sQ a s→j<a.idx.length)=>zd (T:=T) (x:=x) k4 hs hj (by omega) (by omega)
 have hC: ∀s∈ff (ld d.body.pre),s∈ld d.body.pre:= λs h=>tA.1 h
 have hN:(ff (ld d.body.pre)).length≤1000000:=by have:=zM (ld d.body.pre);omega
 obtain⟨R,hR⟩: ∃R,R=fp L d (Vd++Vr):=⟨_,rfl⟩
 rw[←hR]at u ⊢
 have hd:=hR
 unfold fp at hd
 rw[←hG,List.drop_left]at hd
 obtain⟨V,hV⟩: ∃V,V=Vd++Vr:=⟨_,rfl⟩
 rw[←hV]at cL hd
 obtain⟨R1,Z⟩: ∃r,r=iz d.name 0 (Vr.drop 0):=⟨_,rfl⟩
 rw[show iz d.name 0 Vr=R1 from Z.symm]at hd
 have H1:=Lib.hid Z
 simp only[fA]
 generalize ff (ld d.body.pre)=N at*
 have HD0:Hid (R= []++(nk L d.body.pre V (N.drop 0)++R1)):=Lib.hid (by rw[List.drop_zero,List.nil_append];exact hd)
 have HNM:=Lib.hid hC
 have H8:=Lib.hid k8
 have HL:=Lib.hid cL
 have k7':=k7
 clear hb hR Z hC k8 cL hd k1 k2 k3 k4 k5 hV
 repeat' first|simp(disch:=omega)only[go_sem]|((with_reducible refine ab ?_ ?_)<;>intro h<;>try first|omega|simp(disch:=omega)only[go_sem, *])|refine ae cR rfl (.inr rfl) ?_
 refine co 7 51 5 rfl (by decide) ?_
 refine ai (λz:Nat×List Tr=>⟨[(0,Pa L D),(4,.c (.ptr 0 0)),(5,.c (.ptr 1 0)),(7,.c (.ref 2)),(16,iA N),(17,I N.length),(18,I z.1)], [(2,.arr 51 5 (z.2.map s7)),(1,.var [.pure (cZ dw Vd),.pure (cZ dw Vr),.pure (cZ s7 T)]),(0,qJ d)],3,0⟩) (λz=>z.1≤N.length∧Hid (R=z.2++(nk L d.body.pre V (N.drop z.1)++R1))) (λz=>N.length-z.1) ⟨(0, []), [],⟨Nat.zero_le _,HD0⟩,by simp⟩ ?_
 clear HD0 cR
 rintro⟨k,out2⟩ ⟨hk,M⟩
 simp only at hk M
 refine aa ?_
 by_cases W:k<N.length
 ·have hs:=HNM.out _ (List.getElem_mem W)
  obtain⟨ds,sp,f1,f2,f3⟩:=H8.out _ hs
  have lS:=On f1
  rw[←FW]at lS
  have gN:=ac (f:= λs:ByteArray=> [pS s]) W
  have cl:=HL.out _ hs
  have A:=M.out
  rw[LR W f1,List.append_assoc]at A
  obtain⟨R2,hA⟩: ∃r,r=nk L d.body.pre V (N.drop (k+1))++R1:=⟨_,rfl⟩
  rw[←hA]at A
  have H2:=Lib.hid hA
  have HD1:=Lib.hid A
  have HCL:=Lib.hid λ(m:Nat) (x:Int) (hm:m<sp.length)=>cl m x λa ha hr=>by rw[f3 a ha hr];exact hm
  clear hA A M hs f1 f3 cl
  repeat' first|simp(disch:=omega)only[go_sem,gN,lS,Option.map_some]|((with_reducible refine ab ?_ ?_)<;>intro h<;>try first|omega|simp(disch:=omega)only[go_sem, *,gN,lS,Option.map_some])
  refine ai (λz:Nat×List Tr=>⟨[(0,Pa L D),(4,.c (.ptr 0 0)),(5,.c (.ptr 1 0)),(7,.c (.ref 2)),(9,S N[k]),(16,iA N),(17,I N.length),(18,I k),(27,bw sp),(28,I sp.length),(29,I z.1)], [(2,.arr 51 5 (z.2.map s7)),(1,.var [.pure (cZ dw Vd),.pure (cZ dw Vr),.pure (cZ s7 T)]),(0,qJ d)],3,0⟩) (λz=>z.1≤sp.length∧Hid (R=z.2++(pg d.body.pre V N[k] z.1 (sp.drop z.1)++R2))) (λz=>sp.length-z.1) ⟨(0,out2), [],⟨Nat.zero_le _,HD1⟩,by simp⟩ ?_
  clear HD1
  rintro⟨m,out3⟩ ⟨hm,C⟩
  simp only at hm C
  refine aa ?_
  have i:=C.out
  clear C
  by_cases q:m<sp.length
  ·have gj:=ac (f:= λn:Int=> [pI n]) q
   have cl:=HCL.out m sp[m] q
   have hH:out3.length≤1000010000:=by
    rw[i]at u
    simp only[List.length_append]at u
    omega
   by_cases c1:0≤sp[m]
   ·by_cases c2:jT d.body.pre V N[k] m sp[m]
    ·rw[BY q (λh=>h.2 c2)]at i
     rw[decide_eq_true c2]at cl
     have HD:=Lib.hid i
     clear i u HCL c2
     repeat' first|simp(disch:=omega)only[go_sem,gN,gj,wrap_i64]|((with_reducible refine ab ?_ ?_)<;>intro h<;>try first|omega|simp(disch:=omega)only[go_sem, *,gN,gj,wrap_i64])|refine ae cl rfl (.inl rfl) ?_
     exact⟨(m+1,out3), [],⟨q,HD⟩,by show _-_<_-_;omega,by simp⟩
    ·rw[IK q ⟨c1,c2⟩]at i
     rw[decide_eq_false c2]at cl
     have HD:Hid (R=(out3++ [(1,sp[m],(m:Int),(m:Int),N[k])])++(pg d.body.pre V N[k] (m+1) (sp.drop (m+1))++R2)):=Lib.hid (by rw[i];simp)
     have HT:=Lib.hid (If out3 (1,sp[m],(m:Int),(m:Int),N[k]))
     simp only at HT
     clear i u HCL c2
     repeat' first|simp(disch:=omega)only[go_sem,gN,gj,wrap_i64]|((with_reducible refine ab ?_ ?_)<;>intro h<;>try first|omega|simp(disch:=omega)only[go_sem, *,gN,gj,wrap_i64])|refine ae cl rfl (.inl rfl) ?_|refine aF rfl (by intro h;cases h) (ak rfl) (by simp only[List.length_cons,List.length_nil,List.length_map];omega) (by simp only[List.length_cons,List.length_nil,List.length_map];omega) ?_
     rw[HT.out]
     exact⟨(m+1,out3++ [(1,sp[m],(m:Int),(m:Int),N[k])]), [(2,3)],⟨q,HD⟩,by show _-_<_-_;omega,by simp⟩
   ·rw[BY q (λh=>c1 h.1)]at i
    have HD:=Lib.hid i
    clear i u HCL cl
    repeat' first|simp(disch:=omega)only[go_sem,gN,gj,c1,wrap_i64]|((with_reducible refine ab ?_ ?_)<;>intro h<;>try first|omega|simp(disch:=omega)only[go_sem, *,gN,gj,c1,wrap_i64])
    exact⟨(m+1,out3), [],⟨q,HD⟩,by show _-_<_-_;omega,by simp⟩
  ·rw[IS (by omega),List.nil_append,H2.out]at i
   have HD:=Lib.hid i
   clear i u HCL
   repeat' first|simp(disch:=omega)only[go_sem,wrap_i64]|((with_reducible refine ab ?_ ?_)<;>intro h<;>try first|omega|simp(disch:=omega)only[go_sem, *,wrap_i64])
   exact⟨(k+1,out3), [],⟨W,HD⟩,by show _-_<_-_;omega,by simp⟩
 ·have A:=M.out
  rw[JN (by omega),List.nil_append,H1.out]at A
  have HD1:=Lib.hid A
  clear A M H8 HL HNM
  repeat' first|simp(disch:=omega)only[go_sem]|((with_reducible refine ab ?_ ?_)<;>intro h<;>try first|omega|simp(disch:=omega)only[go_sem, *])
  refine ai (λz:Nat×List Tr=>⟨[(4,.c (.ptr 0 0)),(7,.c (.ref 2)),(57,bZ dw Vr),(58,I Vr.length),(59,I z.1)], [(2,.arr 51 5 (z.2.map s7)),(0,qJ d)],3,0⟩) (λz=>z.1≤Vr.length∧Hid (R=z.2++iz d.name z.1 (Vr.drop z.1))) (λz=>Vr.length-z.1) ⟨(0,out2), [],⟨Nat.zero_le _,HD1⟩,by simp⟩ ?_
  clear HD1
  rintro⟨m,out3⟩ ⟨hm,C⟩
  simp only at hm C
  refine aa ?_
  have i:=C.out
  clear C
  by_cases q:m<Vr.length
  ·have gj:=ac (f:=dw) q
   have hH:out3.length≤1000010000:=by
    rw[i]at u
    simp only[List.length_append]at u
    omega
   by_cases c1:0≤Vr[m].2.2
   ·rw[Pw q c1]at i
    have HD:Hid (R=(out3++ [(2,Vr[m].2.2,(m:Int),(m:Int),d.name)])++iz d.name (m+1) (Vr.drop (m+1))):=Lib.hid (by rw[i];simp)
    have HT:=Lib.hid (If out3 (2,Vr[m].2.2,(m:Int),(m:Int),d.name))
    simp only at HT
    clear i u
    repeat' first|simp(disch:=omega)only[go_sem,gj,dw,wrap_i64]|((with_reducible refine ab ?_ ?_)<;>intro h<;>try first|omega|simp(disch:=omega)only[go_sem, *,gj,dw,wrap_i64])|refine aF rfl (by intro h;cases h) (ak rfl) (by simp only[List.length_cons,List.length_nil,List.length_map];omega) (by simp only[List.length_cons,List.length_nil,List.length_map];omega) ?_
    rw[HT.out]
    exact⟨(m+1,out3++ [(2,Vr[m].2.2,(m:Int),(m:Int),d.name)]), [(2,4)],⟨q,HD⟩,by show _-_<_-_;omega,by simp⟩
   ·rw[Ri q c1]at i
    have HD:=Lib.hid i
    clear i u
    repeat' first|simp(disch:=omega)only[go_sem,gj,dw,c1,wrap_i64]|((with_reducible refine ab ?_ ?_)<;>intro h<;>try first|omega|simp(disch:=omega)only[go_sem, *,gj,dw,c1,wrap_i64])
    exact⟨(m+1,out3), [],⟨q,HD⟩,by show _-_<_-_;omega,by simp⟩
  ·rw[O6 (by omega),List.append_nil]at i
   subst i
   clear u
   repeat' first|simp(disch:=omega)only[go_sem]|((with_reducible refine ab ?_ ?_)<;>intro h<;>try first|omega|simp(disch:=omega)only[go_sem, *])
   exact⟨2,rfl,rfl⟩
def tz (axs:List eU) (ext:List Int):List V3:=((axs.map (·.1)).zip ext).map λx=>(x.1,x.2,-1)
theorem MB:tz [] []= []:=rfl
theorem OM {axs:List eU} {acc:List Int} {j:Nat} {n:Int} (hj:j<axs.length) (hl:acc.length=j):(tz (axs.take j) acc).map dw++ [[pS axs[j].1,pI n,pI (-1)]]=(tz (axs.take (j+1)) (acc++ [n])).map dw:=by
 unfold tz
 rw[List.take_succ_eq_append_getElem hj,List.map_append,List.zip_append (by simp;omega)]
 simp[dw]
set_option maxHeartbeats 4000000 in
theorem fQ {axs:List eU} {env:List aH} (E: ∀a∈axs,c6 a.2) (he: ∀m∈env,aX m.2) (hl:axs.length≤1000) {ext:List Int} {e:Int} (hR:iv env (axs.map (·.2))=(ext,e)):
  (e=0∧bb Ya jk [bZ ee axs,bZ mP env] [] 0 (.tup [.c (.ref 0),I e]) [(0,.arr 134 3 ((tz axs ext).map dw))] 1)∨
  (e≠0∧bb Ya jk [bZ ee axs,bZ mP env] [] 0 (.tup [.c .nils,I e]) [] 0):=by
 have pe: ∀j (h:j<axs.length),af Ya px [f9 axs[j].2.1 axs[j].2.2,bZ mP env] (.tup [I (mB axs[j].2.1 axs[j].2.2 env).1,I (mB axs[j].2.1 axs[j].2.2 env).2]):= λj h=>pz (E _ (List.getElem_mem h)).1 (E _ (List.getElem_mem h)).2 he
 have HR:Hid (jI env [] ((axs.map (·.2)).drop 0)=(ext,e)):=Lib.hid hR
 have hS:(axs.map (·.2)).length=axs.length:=List.length_map ..
 have HG:=Lib.hid λj (h:j<(axs.map (·.2)).length) (h':j<axs.length)=>(List.getElem_map .. :(axs.map (·.2))[j]=axs[j].2)
 clear E hR
 by_cases h0:e=0
 ·refine .inl ⟨h0, ?_⟩
  refine bb.ofZ (ress:= [.c (.ref 0),I e]) mM (by simp) λ_=>aa ?_
  have HE:=Lib.hid h0
  clear h0
  simp only[jy]
  repeat' first|simp(disch:=omega)only[go_sem]|((with_reducible refine ab ?_ ?_)<;>intro h<;>try first|omega|simp(disch:=omega)only[go_sem, *])
  refine co 6 134 3 rfl (by decide) ?_
  refine ai (λx:Nat×List Int=>⟨[(1,bZ mP env),(6,.c (.ref 0)),(11,bZ ee axs),(12,I axs.length),(13,I x.1)], [(0,.arr 134 3 ((tz (axs.take x.1) x.2).map dw))],1,0⟩) (λx=>x.1≤axs.length∧x.2.length=x.1∧Hid (jI env x.2 ((axs.map (·.2)).drop x.1)=(ext,e))) (λx=>axs.length-x.1) ⟨(0, []), [],⟨Nat.zero_le _,rfl,HR⟩,by simp[MB]⟩ ?_
  clear HR
  rintro⟨j,acc⟩ ⟨hj,O,hr⟩
  refine aa ?_
  simp only at hj O
  have hd:=hr.out
  simp only at hd
  clear hr
  by_cases o:j<axs.length
  ·have g1:=ac (f:=ee) o
   have p1:=pe j o
   have hg:=HG.out j (by omega) o
   obtain⟨⟨n,e1⟩,G⟩: ∃x,x=mB axs[j].2.1 axs[j].2.2 env:=⟨_,rfl⟩
   rw[xK (n:=n) (e:=e1) (by omega) (by rw[hg];exact G.symm)]at hd
   rw[←G]at p1
   simp only at p1
   clear G pe hg HG
   by_cases h1:e1=0
   ·subst h1
    rw[if_neg (by simp)]at hd
    by_cases hn:n<1∨4096<n
    ·rw[if_pos hn]at hd
     have:=(Prod.ext_iff.1 hd).2
     rw[HE.out]at this
     cases this
    ·rw[if_neg hn]at hd
     have HD:=Lib.hid hd
     have hI:1≤n∧n≤4096:=by omega
     clear hd hn
     have HT:=Lib.hid (OM (n:=n) o O)
     have hD:((tz (axs.take j) acc).map dw).length≤2000:=by unfold tz;simp;omega
     generalize (tz (axs.take j) acc).map dw=rows at*
     repeat' first|simp(disch:=omega)only[go_sem,g1,ee,wrap_i64]|((with_reducible refine ab ?_ ?_)<;>intro h<;>try first|omega|simp(disch:=omega)only[go_sem, *,g1,ee,wrap_i64])|refine ae p1 rfl (.inl rfl) ?_|refine aF rfl (by intro h;cases h) (ak rfl) (by simp only[List.length_cons,List.length_nil];omega) (by simp only[List.length_cons,List.length_nil];omega) ?_
     rw[HT.out]
     exact⟨(j+1,acc++ [n]), [(0,2)],⟨by omega,by simp;omega,HD⟩,by show _-_<_-_;omega,by simp⟩
   ·rw[if_pos h1]at hd
    have:=(Prod.ext_iff.1 hd).2
    rw[HE.out]at this
    exact absurd this h1
  ·rw[sw (by omega)]at hd
   obtain⟨rfl,rfl⟩:=Prod.mk.injEq .. ▸hd
   rw[List.take_of_length_le (by omega)]
   clear HG pe
   repeat' first|simp(disch:=omega)only[go_sem]|((with_reducible refine ab ?_ ?_)<;>intro h<;>try first|omega|simp(disch:=omega)only[go_sem, *])
   refine⟨[], [], ?_⟩
   simp(disch:=omega)only[go_sem,bU]
   simp[dH,gO]
 ·refine .inr ⟨h0, ?_⟩
  refine bb.ofZ (ress:= [.c .nils,I e]) mM (by simp) λ_=>aa ?_
  have HE:=Lib.hid h0
  clear h0
  simp only[jy]
  repeat' first|simp(disch:=omega)only[go_sem]|((with_reducible refine ab ?_ ?_)<;>intro h<;>try first|omega|simp(disch:=omega)only[go_sem, *])
  refine co 6 134 3 rfl (by decide) ?_
  refine ai (λx:Nat×List Int=>⟨[(1,bZ mP env),(6,.c (.ref 0)),(11,bZ ee axs),(12,I axs.length),(13,I x.1)], [(0,.arr 134 3 ((tz (axs.take x.1) x.2).map dw))],1,0⟩) (λx=>x.1≤axs.length∧x.2.length=x.1∧Hid (jI env x.2 ((axs.map (·.2)).drop x.1)=(ext,e))) (λx=>axs.length-x.1) ⟨(0, []), [],⟨Nat.zero_le _,rfl,HR⟩,by simp[MB]⟩ ?_
  clear HR
  rintro⟨j,acc⟩ ⟨hj,O,hr⟩
  refine aa ?_
  simp only at hj O
  have hd:=hr.out
  simp only at hd
  clear hr
  by_cases o:j<axs.length
  ·have g1:=ac (f:=ee) o
   have p1:=pe j o
   have hg:=HG.out j (by omega) o
   obtain⟨⟨n,e1⟩,G⟩: ∃x,x=mB axs[j].2.1 axs[j].2.2 env:=⟨_,rfl⟩
   rw[xK (n:=n) (e:=e1) (by omega) (by rw[hg];exact G.symm)]at hd
   rw[←G]at p1
   simp only at p1
   clear G pe hg HG
   by_cases h1:e1=0
   ·subst h1
    rw[if_neg (by simp)]at hd
    by_cases hn:n<1∨4096<n
    ·rw[if_pos hn]at hd
     obtain⟨rfl,rfl⟩:=Prod.mk.injEq .. ▸hd
     repeat' first|simp(disch:=omega)only[go_sem,g1,ee]|((with_reducible refine ab ?_ ?_)<;>intro h<;>try first|omega|simp(disch:=omega)only[go_sem, *,g1,ee])|refine ae p1 rfl (.inl rfl) ?_
     all_goals refine⟨[], [], ?_⟩
     all_goals simp(disch:=omega)only[go_sem,bU]
     all_goals simp[dH,gO]
    ·rw[if_neg hn]at hd
     have HD:=Lib.hid hd
     have hI:1≤n∧n≤4096:=by omega
     clear hd hn
     have HT:=Lib.hid (OM (n:=n) o O)
     have hD:((tz (axs.take j) acc).map dw).length≤2000:=by unfold tz;simp;omega
     generalize (tz (axs.take j) acc).map dw=rows at*
     repeat' first|simp(disch:=omega)only[go_sem,g1,ee,wrap_i64]|((with_reducible refine ab ?_ ?_)<;>intro h<;>try first|omega|simp(disch:=omega)only[go_sem, *,g1,ee,wrap_i64])|refine ae p1 rfl (.inl rfl) ?_|refine aF rfl (by intro h;cases h) (ak rfl) (by simp only[List.length_cons,List.length_nil];omega) (by simp only[List.length_cons,List.length_nil];omega) ?_
     rw[HT.out]
     exact⟨(j+1,acc++ [n]), [(0,2)],⟨by omega,by simp;omega,HD⟩,by show _-_<_-_;omega,by simp⟩
   ·rw[if_pos h1]at hd
    obtain⟨rfl,rfl⟩:=Prod.mk.injEq .. ▸hd
    repeat' first|simp(disch:=omega)only[go_sem,g1,ee,h1]|((with_reducible refine ab ?_ ?_)<;>intro h<;>try first|omega|simp(disch:=omega)only[go_sem, *,g1,ee,h1])|refine ae p1 rfl (.inl rfl) ?_
    all_goals refine⟨[], [], ?_⟩
    all_goals simp(disch:=omega)only[go_sem,bU]
    all_goals simp[dH,gO]
  ·rw[sw (by omega)]at hd
   exact absurd (Prod.ext_iff.1 hd).2.symm HE.out
theorem mW {xs:List Int} (hl:xs.length≤1000000000):af Ya fl [bw xs] (bw xs):=by
 refine af.of ki (by simp) λ_=>aa ?_
 simp only[fh]
 have K:bV 1 (xs.map λn=> [pI n]):=aG λ_=>rfl
 cases xs with
 |nil=>
  repeat' first|simp(disch:=omega)only[go_sem]|((with_reducible refine ab ?_ ?_)<;>intro h<;>try first|omega|simp(disch:=omega)only[go_sem, *])|apply au|(with_reducible refine az (λh=> ?_) ?_)|refine gl (by intro r hr;cases hr) K (by simp) (by simp) ?_
  all_goals rfl
 |cons x r=>
  have hT:r.length≤999999999:=by simpa using hl
  repeat' first|simp(disch:=omega)only[go_sem]|((with_reducible refine ab ?_ ?_)<;>intro h<;>try first|omega|simp(disch:=omega)only[go_sem, *])|apply au|(with_reducible refine az (λh=> ?_) ?_)|refine gl (by intro r hr;cases hr) K (by simp;omega) (by simp;omega) ?_
  all_goals rfl
noncomputable def ua (p:be) (env:List aH) (ms:List Int):List (kO×List Int)→List T3→List T3×Int
 | [],L=>(L,0)
 |(x,s)::r,L=>if(ej p env x.1).2≠0 then(L,(ej p env x.1).2)else if gr ms (ej p env x.1).1 s≠0 then(L,gr ms (ej p env x.1).1 s)else ua p env ms r (L++ [(x.1,(ej p env x.1).1,s)])
theorem Hs {p:be} {env:List aH} {ms:List Int}: ∀{l:List (kO×List Int)} {L:List T3},oR p env ms l L=if(ua p env ms l L).2≠0 then([],(ua p env ms l L).2)else ua p env ms l L
 | [],L=>rfl
 |(x,s)::r,L=>by
  rw[oR,ua]
  by_cases h:(ej p env x.1).2≠0
  ·rw[if_pos h,if_pos h,if_pos h]
  ·rw[if_neg h,if_neg h]
   by_cases h':gr ms (ej p env x.1).1 s≠0
   ·rw[if_pos h',if_pos h',if_pos h']
   ·rw[if_neg h',if_neg h']
    exact Hs
theorem Rk {p:be} {env:List aH} {ms:List Int} {ins:List (List Int)} {j:Nat} {L:List T3} {ds:List Int} {e:Int} (hj:j<p.params.length) (hi:j<ins.length) (hd:ej p env p.params[j].1=(ds,e)):
  ua p env ms ((p.params.zip ins).drop j) L=if e≠0 then(L,e)else if gr ms ds ins[j]≠0 then(L,gr ms ds ins[j])else ua p env ms ((p.params.zip ins).drop (j+1)) (L++ [(p.params[j].1,ds,ins[j])]):=by
 rw[List.drop_eq_getElem_cons (by simp;omega),List.getElem_zip,ua,hd]
theorem QF {p:be} {env:List aH} {ms:List Int} {ins:List (List Int)} {j:Nat} {L:List T3} (hj:p.params.length≤j):ua p env ms ((p.params.zip ins).drop j) L=(L,0):=by
 rw[List.drop_of_length_le (by simp;omega),ua]
noncomputable def v8 (ms:List Int) (p:be) (env:List aH) (ins:List (List Int)):List T3×Int:=
 if kz ms≠0 then([],kz ms)else if(aV p).2≠0 then([],(aV p).2)else if lZ p env≠0 then([],lZ p env)else if ins.length≠p.params.length then([],24)else ua p env ms (p.params.zip ins) []
section
variable {g : T3 → List Int} {L : List T3} {s : ByteArray} {t : T3}
theorem tP (h:s∉L.map (·.1)):eC (pC g L) (.str s.data.toList)=none:=by
 rw[rB,List.find?_eq_none.2 λt ht e=>h (List.mem_map.2 ⟨t,ht,by simpa using e⟩)]
 rfl
theorem sS:(pC g L).length=L.length:=by simp[pC]
theorem BX {x:MK×List AC}:(pC g L++ [x]).length=L.length+1:=by simp[pC]
theorem wN {z:List AC} {v:PC} (hv:v=ce (g t)) (hs:t.1=s):C4 (pC g L++ [(MK.str s.data.toList,z)]) L.length [.pure v]=pC g (L++ [t]):=by
 subst hv hs
 have h:(pC g L++ [(MK.str t.1.data.toList,z)])[L.length]? =some (MK.str t.1.data.toList,z):=by
  rw[List.getElem?_append_right (by rw[sS];exact Nat.le_refl _),sS,Nat.sub_self]
  rfl
 rw[Is h,List.set_append_right _ _ (by rw[sS];exact Nat.le_refl _),sS,Nat.sub_self]
 simp[pC]
end
theorem bT {g:T3→List Int} (rl:List (Nat×Nat)): ∀L:List T3,List.map (λx:MK×List AC=>(x.1,List.map (cz rl) x.2)) (pC g L)=pC g L
 | []=>rfl
 |x::r=>by
  have ih:=bT (g:=g) rl r
  simp only[pC,List.map_cons]at ih ⊢
  rw[ih]
  rfl
theorem dm {g:T3→List Int} (N:Nat): ∀L:List T3,KE N (pC g L)
 | []=>trivial
 |x::r=>⟨⟨trivial,trivial⟩,dm N r⟩
abbrev JW (ms:List Int) (p:be) (L:List T3) (D:AC) (F:List (Nat×bm)):List (Nat×bm):=(6,.var [.mref 4,.mref 5,D])::(5,.map .str none (pC gS L))::(4,.map .str none (pC gD L))::F
abbrev M1 (ms:List Int) (p:be):List (Nat×bm):= [(3,dL p),(2,.var [.pure (ce ms)]),(1,dL p),(0,.var [.pure (ce ms)])]
set_option maxHeartbeats 4000000 in
theorem yY {ms:List Int} {p:be} {env:List aH} {ins:List (List Int)} (hf:eR p) (E:ij p) (hL:pu p) (he: ∀m∈env,aX m.2):
  bb Ya iS [.c (.ptr 6 0),mI ms,eX p,bZ mP env,bZ ep ins] (JW ms p [] .nils (M1 ms p)) 7 (I (v8 ms p env ins).2) (JW ms p (v8 ms p env ins).1 .nils (M1 ms p)) 7:=by
 refine bb.ofZ (ress:= [I (v8 ms p env ins).2]) nI (by simp) λhb=>aa ?_
 have c1:=iG ms
 have c2:=jR hf E
 have c3:=kN (p:=p) hL.1 he
 simp only[iN]
 unfold v8
 clear hb
 by_cases h1:kz ms=0
 ·rw[if_neg (not_not_intro h1)]
  rw[h1]at c1
  by_cases h2:(aV p).2=0
  ·rw[if_neg (not_not_intro h2)]
   rw[h2]at c2
   by_cases h3:lZ p env=0
   ·rw[if_neg (not_not_intro h3)]
    rw[h3]at c3
    have P:qN p env=0:=by unfold qN;rw[if_neg (not_not_intro h2),h3]
    by_cases h4:ins.length=p.params.length
    ·rw[if_neg (not_not_intro h4)]
     have J:(ins.length:Int)=p.params.length:=by omega
     have HV:=Lib.hid h2
     have HA:=Lib.hid P
     have H4:=Lib.hid h4
     have X:=(bX h2).1
     have hK:p.params.length≤64:=X.2.1
     obtain⟨Q,hQ⟩: ∃Q,Q=ua p env ms (p.params.zip ins) []:=⟨_,rfl⟩
     rw[←hQ]
     have HQ:Hid (ua p env ms ((p.params.zip ins).drop 0) []=Q):=Lib.hid hQ.symm
     have HF:=Lib.hid hf
     have H64:=Lib.hid E
     have HL:=Lib.hid hL
     have HE:=Lib.hid he
     clear hQ h1 h2 h3 h4 P X hf E hL he
     repeat' first|simp(disch:=omega)only[go_sem,J]|((with_reducible refine ab ?_ ?_)<;>intro h<;>try first|omega|simp(disch:=omega)only[go_sem, *,J])|refine ae c1 rfl (.inl rfl) ?_|refine ae c2 rfl (.inl rfl) ?_|refine ae c3 rfl (.inl rfl) ?_
     clear c1 c2 c3 J
     refine ai (λz:Nat×List T3=>⟨[(0,.c (.ptr 6 0)),(3,bZ mP env),(4,bZ ep ins),(6,.c (.ptr 7 0)),(7,.c (.ptr 8 0)),(46,bZ d7 p.params),(47,I p.params.length),(48,I z.1)],(8,dL p)::(7,.var [.pure (ce ms)])::JW ms p z.2 .nils (M1 ms p),9,7⟩) (λz=>z.1≤p.params.length∧Hid (rt p z.1 z.2)∧Hid (ua p env ms ((p.params.zip ins).drop z.1) z.2=Q)) (λz=>p.params.length-z.1) ⟨(0, []), [],⟨Nat.zero_le _,Lib.hid ⟨rfl,λt h=>by cases h⟩,HQ⟩,by simp[bT,dm]⟩ ?_
     clear HQ
     rintro⟨j,L⟩ ⟨hj,HP,hr⟩
     simp only at hj HP hr
     refine aa ?_
     have hd:=hr.out
     clear hr
     by_cases o:j<p.params.length
     ·have hE:j<ins.length:=by have:=H4.out;omega
      have g1:=ac (f:=d7) o
      have g2:=ac (f:=ep) hE
      have cD:=nq (s:=p.params[j].1) HF.out H64.out HL.out HE.out
      rw[wH HA.out]at cD
      obtain⟨⟨ds,e⟩,H⟩: ∃D,D=ej p env p.params[j].1:=⟨_,rfl⟩
      rw[←H]at cD
      simp only at cD
      rw[Rk o hE H.symm]at hd
      have cV:=vE ms ds ins[j]
      by_cases h0:e=0
      ·subst h0
       rw[if_neg (by simp)]at hd
       by_cases hs:gr ms ds ins[j]=0
       ·rw[if_neg (not_not_intro hs)]at hd
        rw[hs]at cV
        have HP2:=Lib.hid (Cg HV.out o HP.out H.symm hs)
        have hn:p.params[j].1∉L.map (·.1):= λh=>(GG HV.out o).2 (by
         rw[HP.out.1]at h
         exact List.mem_append_right _ h)
        have hU:L.length=j:=by
         have:=congrArg List.length HP.out.1
         simp at this
         omega
        have hJ:ins[j].length≤1000000000:=by
         have q1:=IP hs
         have q2:=(pK (BQ (ty:=p.params[j].2.1) (fs:=p.params[j].2.2) (J2 HV.out o) H.symm)).1
         have q3:=(HF.out.1 _ (List.getElem_mem o)).1
         omega
        have lD:=tP (g:=gD) hn
        have lS:=tP (g:=gS) hn
        have eD: ∀z,C4 (pC gD L++ [(MK.str p.params[j].1.data.toList,z)]) L.length [.pure (ce ds)]=pC gD (L++ [(p.params[j].1,ds,ins[j])]):= λz=>wN rfl rfl
        have eS: ∀z,C4 (pC gS L++ [(MK.str p.params[j].1.data.toList,z)]) L.length [.pure (ce ins[j])]=pC gS (L++ [(p.params[j].1,ds,ins[j])]):= λz=>wN rfl rfl
        have HD:=Lib.hid hd
        clear hd H hs HP HF H64 HL HE hn
        repeat' first|simp(disch:=omega)only[go_sem,g1,g2,d7,ep,wrap_i64,lD,lS,sS,BX,eD,eS]|((with_reducible refine ab ?_ ?_)<;>intro h<;>try first|omega|simp(disch:=omega)only[go_sem, *,g1,g2,d7,ep,wrap_i64,lD,lS,sS,BX,eD,eS])|apply au|(with_reducible refine az (λh=> ?_) ?_)|refine ae cD rfl (.inr rfl) ?_|refine ae cV rfl (.inl rfl) ?_|refine ae (mW hJ) rfl (.inr rfl) ?_
        all_goals exact⟨(j+1,L++ [(p.params[j].1,ds,ins[j])]), [],⟨o,HP2,HD⟩,by show _-_<_-_;omega,by simp[bT,dm]⟩
       ·rw[if_pos hs]at hd
        subst hd
        clear H HP HF H64 HL HE
        repeat' first|simp(disch:=omega)only[go_sem,g1,g2,d7,ep,hs]|((with_reducible refine ab ?_ ?_)<;>intro h<;>try first|omega|simp(disch:=omega)only[go_sem, *,g1,g2,d7,ep,hs])|refine ae cD rfl (.inr rfl) ?_|refine ae cV rfl (.inl rfl) ?_
        all_goals refine⟨[], [], ?_⟩
        all_goals simp(disch:=omega)only[go_sem,bU]
        all_goals simp[bT,dm]
      ·rw[if_pos h0]at hd
       subst hd
       clear H HP HF H64 HL HE cV
       repeat' first|simp(disch:=omega)only[go_sem,g1,d7,h0]|((with_reducible refine ab ?_ ?_)<;>intro h<;>try first|omega|simp(disch:=omega)only[go_sem, *,g1,d7,h0])|refine ae cD rfl (.inr rfl) ?_
       all_goals refine⟨[], [], ?_⟩
       all_goals simp(disch:=omega)only[go_sem,bU]
       all_goals simp[bT,dm]
     ·rw[QF (by omega)]at hd
      subst hd
      clear HP HF H64 HL HE H4
      repeat' first|simp(disch:=omega)only[go_sem]|((with_reducible refine ab ?_ ?_)<;>intro h<;>try first|omega|simp(disch:=omega)only[go_sem, *])
      all_goals refine⟨[], [], ?_⟩
      all_goals simp(disch:=omega)only[go_sem,bU]
      all_goals simp[bT,dm]
    ·rw[if_pos h4]
     have J: ¬(ins.length:Int)=p.params.length:=by omega
     clear h1 h2 h3 h4 P
     repeat' first|simp(disch:=omega)only[go_sem,J]|((with_reducible refine ab ?_ ?_)<;>intro h<;>try first|omega|simp(disch:=omega)only[go_sem, *,J])|refine ae c1 rfl (.inl rfl) ?_|refine ae c2 rfl (.inl rfl) ?_|refine ae c3 rfl (.inl rfl) ?_
     all_goals refine⟨[], [], ?_⟩
     all_goals simp(disch:=omega)only[go_sem,bU]
     all_goals simp[bT,dm]
   ·rw[if_pos h3]
    clear h1 h2
    repeat' first|simp(disch:=omega)only[go_sem,h3]|((with_reducible refine ab ?_ ?_)<;>intro h<;>try first|omega|simp(disch:=omega)only[go_sem, *,h3])|refine ae c1 rfl (.inl rfl) ?_|refine ae c2 rfl (.inl rfl) ?_|refine ae c3 rfl (.inl rfl) ?_
    all_goals refine⟨[], [], ?_⟩
    all_goals simp(disch:=omega)only[go_sem,bU]
    all_goals simp[bT,dm]
  ·rw[if_pos h2]
   clear h1
   repeat' first|simp(disch:=omega)only[go_sem,h2]|((with_reducible refine ab ?_ ?_)<;>intro h<;>try first|omega|simp(disch:=omega)only[go_sem, *,h2])|refine ae c1 rfl (.inl rfl) ?_|refine ae c2 rfl (.inl rfl) ?_
   all_goals refine⟨[], [], ?_⟩
   all_goals simp(disch:=omega)only[go_sem,bU]
   all_goals simp[bT,dm]
 ·rw[if_pos h1]
  repeat' first|simp(disch:=omega)only[go_sem,h1]|((with_reducible refine ab ?_ ?_)<;>intro h<;>try first|omega|simp(disch:=omega)only[go_sem, *,h1])|refine ae c1 rfl (.inl rfl) ?_
  all_goals refine⟨[], [], ?_⟩
  all_goals simp(disch:=omega)only[go_sem,bU]
  all_goals simp[bT,dm]
end Go.Proofs.YtjhkikmonejkjaaGreatDoor
