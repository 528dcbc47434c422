import Derived.Test.YtjhkikmonejkjaaGreatDoorV54h
import Derived.Test.YtjhkikmonejkjaaGreatDoorInZ
set_option linter.unusedVariables false
set_option linter.unusedSimpArgs false
set_option maxRecDepth 20000
namespace Go.Proofs.YtjhkikmonejkjaaGreatDoor
open Go.Abs Go.RowKit
abbrev iV:List aH:= [(sn,2)]
theorem HO {s t:ByteArray}:d8 (fV s,se, []) t↔s=t:=by
 refine⟨λh=> ?_,λh=> ?_⟩
 ·have:=h.2.2
  simpa[fV]using this
 ·subst h
  exact⟨rfl,rfl,rfl⟩
theorem UW: ¬si=sj:=by decide
theorem VE: ¬si=sk:=by decide
theorem Ux: ¬sj=si:=by decide
theorem Ve: ¬sj=sk:=by decide
theorem Va: ¬sk=si:=by decide
theorem VK: ¬sk=sj:=by decide
theorem O0: ¬sa=sb:=by decide
theorem UP: ¬sb=sa:=by decide
theorem Wm: ¬sa=sc:=by decide
theorem Wr: ¬sb=sc:=by decide
theorem Ww:mB 0 [(sn,1)] iV=(2,0):=by
 have h1:dZ [(sn,1)]:=BT TH (by decide)
 have h2: ¬ ∃m∈ [(sn,(1:Int))],lz iV m.1=none:=by
  rintro⟨m,hm,h⟩
  obtain rfl:=List.mem_singleton.1 hm
  simp[lz,iV]at h
 have h3:(0:Int)+kg (iR iV) [(sn,1)]=2:=by simp[kg,iR,lz,iV]
 rw[mB,if_neg (not_not_intro h1),if_neg h2,h3,if_pos (by decide)]
theorem VL:iv iV [fV sn,fV sn]=([2,2],0):=by
 have e:mB (fV sn).1 (fV sn).2 iV=(2,0):=Ww
 simp[iv,jI,e]
theorem Uo:iv iV [fV sn]=([2],0):=by
 have e:mB (fV sn).1 (fV sn).2 iV=(2,0):=Ww
 simp[iv,jI,e]
theorem Q8:aZ iT sa=some (FY, [fV sn,fV sn]):=by simp[aZ,iT]
theorem R9:aZ iT sb=some (FY, [fV sn,fV sn]):=by simp[aZ,iT,O0]
theorem RY:aZ iT sc=some (FY, [fV sn,fV sn]):=by simp[aZ,iT,Wm,Wr,no]
theorem Th {s:ByteArray} (h:aZ iT s=some (FY, [fV sn,fV sn])):ej iT iV s=([2,2],0):=by
 rw[ej,h]
 simp[VL,gy]
theorem MD {a b:Int} (h:a=0∧b= -1∨a= -1∧b= -1∨a= -1∧b=0):gr [2] [2,2] [a,b]=0:=by
 have h0:lA [2]:=by decide
 have h1:Jx [2,2]=0:=by decide
 have h2:De [(2:Int)].length [a,b]:=by
  intro i hi g
  have:i=0∨i=1:=by simp at hi;omega
  rcases h with⟨rfl,rfl⟩|⟨rfl,rfl⟩|⟨rfl,rfl⟩<;>rcases this with rfl|rfl<;>simp
 have h3:Ev [2] [2,2] [a,b]:=by
  intro i hi g hz
  have:i=0∨i=1:=by simp at hi;omega
  rcases h with⟨rfl,rfl⟩|⟨rfl,rfl⟩|⟨rfl,rfl⟩<;>rcases this with rfl|rfl<;>simp at hz ⊢
 rw[gr,if_neg (not_not_intro h0),if_neg (not_not_intro h1),if_neg (not_not_intro ⟨rfl,h2⟩),if_pos h3]
theorem U0:lZ iT iV=0:=by
 have h: ¬Hh iV sn:=by simp[Hh,lz,iV]
 show(if iV.length≠iT.sizes.length then(15:Int)else qI iV [] [sn])=0
 rw[if_neg (by simp[iV,iT]),qI,if_neg h,qI,MZ]
theorem TP:eJ iT iV no=([2,2,2],0):=by
 have h1:ej iT iV no.name=([2,2],0):=Th RY
 have h2:iv iV (no.red.map (·.2))=([2],0):=Uo
 rw[eJ,h1,h2]
 rfl
theorem UH (i:Nat):py no i:=by
 by_cases h:i<2
 ·exact .inl ⟨h,.inl (by decide)⟩
 ·exact .inr ⟨by show 2≤i;omega,Mf,.inr (.inr ⟨.inl rfl,by decide⟩)⟩
abbrev LP (s t:List Int):List T3:= [(sa, [2,2],s),(sb, [2,2],t)]
theorem RX {s t:List Int}:iE (LP s t) (jo sa si sk)= [(fV si,se, []),(fV sk,se, [])].zip ([2,2].zip s):=by
 simp[iE,dQ,jo,Ex.name,Ex.idx]
theorem Q0 {s t:List Int}:iE (LP s t) (jo sb sk sj)= [(fV sk,se, []),(fV sj,se, [])].zip ([2,2].zip t):=by
 simp[iE,dQ,jo,Ex.name,Ex.idx,O0]
theorem VN {s t:List Int} {u:ByteArray} {l:List Int}:ef (LP s t) u 2 l no.body.pre=rf u 2 l ([(fV si,se, []),(fV sk,se, [])].zip ([2,2].zip s)) (rf u 2 l ([(fV sk,se, []),(fV sj,se, [])].zip ([2,2].zip t)) (-1)):=by
 show ef (LP s t) u 2 l lT.pre=_
 rw[tM,ef,if_neg (by simp[lT,Ex.op]),ef,if_pos (show(jo sa si sk).op=3 from rfl),RX,ef,if_pos (show(jo sb sk sj).op=3 from rfl),Q0,ef]
 rfl
theorem UB {s t:List Int}:fE (LP s t) no [2,2,2]=sO (LP s t) no [(si,2),(sj,2),(sk,2)] []:=rfl
theorem Vn:fE (LP [0,-1] [-1,-1]) no [2,2,2]= [(si,2,0),(sj,2,-1),(sk,2,-1)]:=by
 rw[UB]
 simp[sO,UH,VN,rf,Ea,HO,UW,VE,Ux,Ve,Va,VK]
theorem VC:fE (LP [-1,0] [0,-1]) no [2,2,2]= [(si,2,-1),(sj,2,-1),(sk,2,0)]:=by
 rw[UB]
 simp[sO,UH,VN,rf,Ea,HO,UW,VE,Ux,Ve,Va,VK]
theorem Sa:cH sa sb=true:=by rw[cH,show sa.toList= [97] by rw[ByteArray.toList_eq],show sb.toList= [98] by rw[ByteArray.toList_eq]];decide
theorem Ui:ff (ld no.body.pre)= [sa,sb]:=by
 have:ld no.body.pre= [sa,sb]:=by
  show ld lT.pre=_
  rw[tM]
  simp[ld,SA,lT,jo,Ex.op,Ex.idx,Ex.name]
 rw[this]
 simp[ff,gA,Sa,UP]
theorem GY {V:List V3} {j:Nat} {x:Int} {s u:ByteArray} {c:Ex} (hs:s=sa∧c=jo sa si sk∨s=sb∧c=jo sb sk sj) (hu:u≠mC) (h1:c.idx[j]? =some (fV u,se, [])) (h: ∃v∈V,v.1=u∧v.2.2=x):jT no.body.pre V s j x:=by
 have hp:no.body.pre= [lT,jo sa si sk,jo sb sk sj]:=tM
 rw[hp]
 have hn:se≠s:=by rcases hs with⟨rfl,_⟩|⟨rfl,_⟩<;>decide
 refine⟨λa ha i hi=> ?_,u,hu,λa ha h3 he=>⟨(fV u,se, []), ?_,HO.2 rfl⟩,h⟩
 ·simp only[List.mem_cons,List.not_mem_nil,or_false]at ha
  rcases ha with rfl|rfl|rfl
  ·simp[lT,Ex.idx]at hi
  ·simp only[jo,Ex.idx,List.mem_cons,List.not_mem_nil,or_false]at hi
   rcases hi with rfl|rfl<;>exact hn
  ·simp only[jo,Ex.idx,List.mem_cons,List.not_mem_nil,or_false]at hi
   rcases hi with rfl|rfl<;>exact hn
 ·simp only[List.mem_cons,List.not_mem_nil,or_false]at ha
  rcases ha with rfl|rfl|rfl
  ·simp[lT,Ex.op]at h3
  ·rcases hs with⟨rfl,rfl⟩|⟨rfl,rfl⟩
   ·exact h1
   ·exact absurd he O0
  ·rcases hs with⟨rfl,rfl⟩|⟨rfl,rfl⟩
   ·exact absurd he UP
   ·exact h1
abbrev LQ (s t r:List Int):List T3:=LP s t++ [(sc, [2,2],r)]
theorem S5 {r:List Int}:fp (LQ [0,-1] [-1,-1] r) no [(si,2,0),(sj,2,-1),(sk,2,-1)]= []:=by
 have a1:jT no.body.pre [(si,2,0),(sj,2,-1),(sk,2,-1)] sa 0 0:=GY (c:=jo sa si sk) (u:=si) (.inl ⟨rfl,rfl⟩) (by decide) rfl ⟨_,List.mem_cons_self,rfl,rfl⟩
 rw[fp,Ui]
 have b1:jT lT.pre _ sa 0 0:=a1
 simp[nk,dQ,O0,pg,b1,iz,no]
theorem TJ {r:List Int}:fp (LQ [-1,0] [0,-1] r) no [(si,2,-1),(sj,2,-1),(sk,2,0)]= [(2,0,0,0,sc)]:=by
 have a1:jT no.body.pre [(si,2,-1),(sj,2,-1),(sk,2,0)] sa 1 0:=GY (c:=jo sa si sk) (u:=sk) (.inl ⟨rfl,rfl⟩) (by decide) rfl ⟨(sk,2,0),by simp,rfl,rfl⟩
 have a2:jT no.body.pre [(si,2,-1),(sj,2,-1),(sk,2,0)] sb 0 0:=GY (c:=jo sb sk sj) (u:=sk) (.inr ⟨rfl,rfl⟩) (by decide) rfl ⟨(sk,2,0),by simp,rfl,rfl⟩
 rw[fp,Ui]
 have b1:jT lT.pre _ sa 1 0:=a1
 have b2:jT lT.pre _ sb 0 0:=a2
 simp[nk,dQ,O0,pg,b1,b2,iz,no]
theorem Rt {s t:List Int} (h1:gr [2] [2,2] s=0) (h2:gr [2] [2,2] t=0):oR iT iV [2] (iT.params.zip [s,t]) []=(LP s t,0):=by
 show oR iT iV [2] [((sa,FY, [fV sn,fV sn]),s),((sb,FY, [fV sn,fV sn]),t)] []=_
 simp[oR,Th Q8,Th R9,h1,h2]
theorem Up {s t:List Int} (h1:gr [2] [2,2] s=0) (h2:gr [2] [2,2] t=0):jZ [2] iT iV [s,t]=((LP s t++ [(sc, [2,2],((fE (LP s t) no [2,2,2]).take 2).map (·.2.2))], [fE (LP s t) no [2,2,2]]),0):=by
 have h0:kz [2]=0:=ow (by decide)
 have h3:(aV iT).2=0:=by rw[M0]
 have h4: ¬ [s,t].length≠iT.params.length:=by simp[iT]
 have h5:G9 (LP s t) iT iV no=fE (LP s t) no [2,2,2]:=by rw[G9,TP]
 have h6:ue (LP s t) iT iV no=(sc, [2,2],((fE (LP s t) no [2,2,2]).take 2).map (·.2.2)):=by rw[ue,TP,h5];rfl
 rw[jZ,if_neg (not_not_intro h0),if_neg (not_not_intro h3),if_neg (not_not_intro U0),if_neg h4,Rt h1 h2,if_neg (by simp)]
 show kZ iT iV [no] (LP s t) []=_
 rw[kZ,TP,if_neg (by simp),kZ,h5,h6]
 rfl
theorem Vq:jw [2] iT iV [[0,-1], [-1,-1]]=(([[0,-1]], []),0):=by
 have h:=Up (s:= [0,-1]) (t:= [-1,-1]) (MD (.inl ⟨rfl,rfl⟩)) (MD (.inr (.inl ⟨rfl,rfl⟩)))
 rw[Vn]at h
 rw[jw,h,if_neg (by simp)]
 show(([[0,-1]],fp (LQ [0,-1] [-1,-1] [0,-1]) no [(si,2,0),(sj,2,-1),(sk,2,-1)]++ []),(0:Int))=_
 rw[S5]
 rfl
theorem US:jw [2] iT iV [[-1,0], [0,-1]]=(([[-1,-1]], [(2,0,0,0,sc)]),0):=by
 have h:=Up (s:= [-1,0]) (t:= [0,-1]) (MD (.inr (.inr ⟨rfl,rfl⟩))) (MD (.inl ⟨rfl,rfl⟩))
 rw[VC]at h
 rw[jw,h,if_neg (by simp)]
 show(([[-1,-1]],fp (LQ [-1,0] [0,-1] [-1,-1]) no [(si,2,-1),(sj,2,-1),(sk,2,0)]++ []),(0:Int))=_
 rw[TJ]
 rfl
theorem ME:eR iT:=by
 refine⟨λx hx=> ?_,λd hd=> ?_⟩
 ·simp only[iT,List.mem_cons,List.not_mem_nil,or_false]at hx
  rcases hx with rfl|rfl<;>simp[fV]
 ·obtain rfl:=List.mem_singleton.1 hd
  simp[no,fV]
theorem SL {s i j:ByteArray}: ∀l∈(jo s i j).forms,c6 l:= λl hl=>by
 simp only[jo,Ex.forms,Ex.lin,Ex.idx,List.flatMap_cons,List.flatMap_nil,List.append_nil,List.cons_append,List.nil_append,List.mem_cons,List.not_mem_nil,or_false]at hl
 rcases hl with rfl|rfl|rfl<;>simp[c6,fV,aX]
theorem NY:ij iT:= λd hd a ha=>by
 obtain rfl:=List.mem_singleton.1 hd
 have ha:a∈lT.pre:=ha
 rw[tM]at ha
 simp only[List.mem_cons,List.not_mem_nil,or_false]at ha
 rcases ha with rfl|rfl|rfl<;>simp[lT,jo,Ex.val,o9,aX]
theorem Sj:pu iT:=by
 refine⟨λc hc=>by simp[iT]at hc,λx hx l hl=> ?_,λd hd=> ?_⟩
 ·simp only[iT,List.mem_cons,List.not_mem_nil,or_false]at hx
  rcases hx with rfl|rfl<;>
  ·simp only[List.mem_cons,List.not_mem_nil,or_false]at hl
   rcases hl with rfl|rfl<;>simp[c6,fV,aX]
 ·obtain rfl:=List.mem_singleton.1 hd
  refine⟨λa ha=> ?_,λe he=> ?_⟩
  ·simp only[no,List.cons_append,List.nil_append,List.mem_cons,List.not_mem_nil,or_false]at ha
   rcases ha with rfl|rfl|rfl<;>simp[c6,fV,aX]
  ·have he:e∈lT.pre:=he
   rw[tM]at he
   simp only[List.mem_cons,List.not_mem_nil,or_false]at he
   rcases he with rfl|rfl|rfl
   ·intro l hl
    simp[lT,Ex.forms,Ex.lin,Ex.idx]at hl
    subst hl
    simp[c6,aX]
   ·exact SL
   ·exact SL
set_option maxHeartbeats 4000000 in
theorem Ck:af Tryz.prog xO [] (Go.Abs.B true):=by
 refine af.of Fy (by simp) λhb=>aa ?_
 simp only[xc]
 clear hb
 have he: ∀m∈iV,aX m.2:= λm hm=>by
  obtain rfl:=List.mem_singleton.1 hm
  decide
 have c0:=xR
 have c1:=lr (ms:= [2]) (ins:= [[0,-1], [-1,-1]]) ME NY Sj he
 have c2:=lr (ms:= [2]) (ins:= [[-1,0], [0,-1]]) ME NY Sj he
 rw[Vq]at c1
 rw[US]at c2
 have c3:=f8 [[0,-1]] [[0,-1]]
 have c4:=f8 [[-1,-1]] [[-1,-1]]
 have c5:=mA [(2,0,0,0,sc)] [(2,0,0,0,sc)]
 rw[decide_eq_true rfl]at c3 c4 c5
 clear he
 repeat' first|simp(disch:=omega)only[go_sem]|((with_reducible refine ab ?_ ?_)<;>intro h<;>try first|omega|simp(disch:=omega)only[go_sem, *])|apply au|(with_reducible refine az (λh=> ?_) ?_)|refine ae c0 rfl (.inr rfl) ?_|refine ae c1 rfl (.inr rfl) ?_|refine ae c2 rfl (.inr rfl) ?_|refine ae c3 rfl (.inr rfl) ?_|refine ae c4 rfl (.inr rfl) ?_|refine ae c5 rfl (.inr rfl) ?_
 all_goals rfl
theorem zu {ms:List Int} {ins:List (List Int)} {p:be} {env:List aH} (f:ij p) (hL:pu p) (he: ∀m∈env,aX m.2):af Tryz.prog lV [.agg [.pure (ce ms),.pure (cZ ep ins)],eX p,bZ mP env] (Go.Abs.B true):=by
 refine af.of tZ (by simp) λ_=>aa ?_
 simp only[mf]
 have pf:=E4 ms p env ins
 have ha:=Ck
 by_cases hs:K0 ms p env ins
 ·rw[decide_eq_true hs]at pf
  have hf:=Tq hs.2.2.2.1
  have p1:=lr (ms:=ms) (ins:=ins) hf f hL he
  have p2:=A2 (ms:=ms) (ins:=ins) hf f hL he
  clear hs hf f hL he
  generalize jw ms p env ins=Z at*
  have p3:=f8 Z.1.1 Z.1.1
  have p4:=mA Z.1.2 Z.1.2
  rw[decide_eq_true rfl]at p3 p4
  repeat' first|simp(disch:=omega)only[go_sem]|((with_reducible refine ab ?_ ?_)<;>intro h<;>try first|omega|simp(disch:=omega)only[go_sem, *])|apply au|(with_reducible refine az (λh=> ?_) ?_)|refine ae pf rfl (.inr rfl) ?_|refine ae p1 rfl (.inr rfl) ?_|refine ae p2 rfl (.inr rfl) ?_|refine ae p3 rfl (.inr rfl) ?_|refine ae p4 rfl (.inr rfl) ?_|refine ae ha rfl (.inr rfl) ?_
  all_goals rfl
 ·rw[decide_eq_false hs]at pf
  clear hs f hL he
  repeat' first|simp(disch:=omega)only[go_sem]|((with_reducible refine ab ?_ ?_)<;>intro h<;>try first|omega|simp(disch:=omega)only[go_sem, *])|apply au|(with_reducible refine az (λh=> ?_) ?_)|refine ae pf rfl (.inr rfl) ?_|refine ae ha rfl (.inr rfl) ?_
  all_goals rfl
theorem Cx {xs ps qs:List PC} (h0:nr [.slice [.int .i64],.slice [.slice [.int .i64]]] xs) (h:nW S3 ps) (hq:nr [.slice [.str,.int .i64]] qs):af Tryz.prog 3 [Sb true xs,.agg (ps.map .pure),Sb false qs] (Go.Abs.B true):=by
 obtain⟨_,_,rfl,k0,k2⟩:=cN h0
 obtain⟨_,rfl,k3⟩:=ot k2
 obtain⟨ms,rfl,_,_⟩:=N7 k0
 obtain⟨ins,rfl,_,_⟩:=nz ep (λ_=>True) (λr hr=>by
  obtain⟨p,rfl,hp⟩:=ot hr
  obtain⟨s,rfl,_,_⟩:=N7 hp
  exact⟨s,rfl,trivial⟩) k3
 obtain⟨p,rfl,f,hL⟩:=VG h
 obtain⟨_,rfl,k1⟩:=ot hq
 obtain⟨env,rfl,he,_⟩:=nz mP (λm=>aX m.2) (λr hr=>by
  obtain⟨p,r,rfl,hp,hr⟩:=cN hr
  obtain⟨q,rfl,hq⟩:=ot hr
  obtain⟨s,rfl,_⟩:=yo hp
  obtain⟨n,rfl,hn⟩:=de hq
  exact⟨(s,n),rfl,hn⟩) k1
 exact zu f hL he
end Go.Proofs.YtjhkikmonejkjaaGreatDoor
