import Derived.Test.YtjhkikmonejkjaaGreatDoorV55g
set_option linter.unusedVariables false
set_option linter.unusedSimpArgs false
set_option maxRecDepth 20000
namespace Go.Abs
open Go.RowKit
theorem mh.fresh {P:Program} {f:FuncId} {args:List AV} {e sz:Nat} {rows:List (List PC)} (h:mh P f args e sz rows) (hT:oN rows):Lg P f args (.c (.pure (.slice rows))):=by
 refine⟨h.1,λw U vs hG hr=>(h.2 w U vs hG hr).mono ?_⟩
 rintro en w' ⟨v,cells,rfl,h0,G,hm,J,hD⟩
 refine⟨v,rfl,.c (.pure ?_),hD⟩
 have ho:=G
 rcases G.2 with⟨rfl,h1⟩|⟨g,cap,cur,rfl,hg,_⟩
 ·obtain rfl:=List.length_eq_zero_iff.1 h1
  exact .nil
 ·exact yD ho rfl (J.flat hT) hg hm
theorem IZ {P:Program} {g z:Bool} {f:FuncId} {args pargs:List AV} {σ:St} {K:qD (AV→St→Prop)} {res:AV} (h:Lg P f pargs res) (hp:ba σ.mem args=some pargs) (hk:K.out res σ): @AD P g z f args σ K:=
 ⟨[],σ,args,.inl rfl,rfl,.inl ⟨pargs,hp,res,.inr h,hk⟩⟩
end Go.Abs
namespace Go.Proofs.YtjhkikmonejkjaaGreatDoor
open Go.Abs Go.RowKit
set_option maxHeartbeats 4000000 in
theorem CZ {ms:List Int} {p:be} {env:List aH} {i:Nat} {L:List T3} {rows:List (List PC)} (hf:eR p) (o:ij p) (hL:pu p) (he: ∀m∈env,aX m.2) (hv:(aV p).2=0) (ha:qN p env=0) (hi:i<p.defs.length) (h0:(eJ p env p.defs[i]).2≠0):
  bb Tryz.prog eO [.c (.ptr 6 0),eX p,bZ mP env,sK p.defs[i]] (TM ms p p.defs[i] rows L) 9 (fZ [.agg [.nils,.nils,.nils],I (eJ p env p.defs[i]).2]) (TM ms p p.defs[i] rows L) 9:=by
 refine bb.ofZ hZ (by simp) λhb=>aa ?_
 simp only[eP]
 clear hb
 have cD:=nq (s:=p.defs[i].name) hf o hL he
 rw[wH ha]at cD
 have hy:=hf.2 _ (List.getElem_mem hi)
 have A:=(hL.2.2 _ (List.getElem_mem hi)).1
 have O:=wA hv hi
 obtain⟨⟨ds,e⟩,F⟩: ∃D,ej p env p.defs[i].name=D:=⟨_,rfl⟩
 unfold eJ at h0 ⊢
 rw[F]at cD h0 ⊢
 simp only at cD h0 ⊢
 by_cases h1:e=0
 ·subst h1
  rw[if_neg (by simp)]at h0 ⊢
  have x2:=BQ O F
  obtain⟨⟨rs,e2⟩,X⟩: ∃D,iv env (p.defs[i].red.map (·.2))=D:=⟨_,rfl⟩
  rw[X]at h0 ⊢
  simp only at h0 ⊢
  by_cases h2:e2=0
  ·subst h2
   exact absurd (by rw[if_neg (by simp)]) h0
  ·rw[if_pos h2]
   simp only
   have cV:=(fQ (axs:=p.defs[i].dims) (env:=env) (λa ha=>A a (List.mem_append_left _ ha)) he (by omega) x2).resolve_right λh=>h.1 rfl
   have cW:=(fQ (axs:=p.defs[i].red) (env:=env) (λa ha=>A a (List.mem_append_right _ ha)) he (by omega) X).resolve_left λh=>h2 h.1
   obtain⟨_,cV⟩:=cV
   obtain⟨_,cW⟩:=cW
   clear A O F x2 X h0 o hL he hv ha hf
   generalize p.defs[i]=d at*
   repeat' first|simp(disch:=omega)only[go_sem,h2]|((with_reducible refine ab ?_ ?_)<;>intro h<;>try first|omega|simp(disch:=omega)only[go_sem, *,h2])|refine ae cD rfl (.inr rfl) ?_|refine aU (cV.lift1 rfl rfl rfl) ?_|refine aU (cW.lift0 rfl rfl) ?_
   all_goals refine⟨[], [], ?_⟩
   all_goals simp(disch:=omega)only[go_sem,bU]
   all_goals simp[bT,dm]
 ·rw[if_pos h1]
  simp only
  clear A O F h0 o hL he hv ha hf
  generalize p.defs[i]=d at*
  repeat' first|simp(disch:=omega)only[go_sem,h1]|((with_reducible refine ab ?_ ?_)<;>intro h<;>try first|omega|simp(disch:=omega)only[go_sem, *,h1])|refine ae cD rfl (.inr rfl) ?_
  all_goals refine⟨[], [], ?_⟩
  all_goals simp(disch:=omega)only[go_sem,bU]
  all_goals simp[bT,dm]
noncomputable def U6 (L:List T3) (x:jA×List V3):List PC:= [cZ dw (x.2.take x.1.dims.length),cZ dw (x.2.drop x.1.dims.length),.slice ((fp L x.1 x.2).map s7)]
theorem JE {L L':List T3} {l:List Ex} {V:List V3}: ∀{N:List ByteArray},(∀s∈N,dQ L s=dQ L' s)→nk L l V N=nk L' l V N
 | [],_=>rfl
 |s::r,h=>by rw[nk,nk,h s (List.mem_cons_self ..),JE λx hx=>h x (List.mem_cons_of_mem _ hx)]
theorem Nn {L L':List T3} {d:jA} {V:List V3} (h: ∀s∈ld d.body.pre,dQ L s=dQ L' s):fp L d V=fp L' d V:=by
 unfold fp
 rw[JE λs hs=>h s (tA.1 hs)]
theorem Kd {p:be} {env:List aH}: ∀{l:List jA} {L L':List T3} {W W':List (List V3)},kZ p env l L W=((L',W'),0)→ ∃M,L'=L++M
 |[],L,L',W,W',h=>by
  rw[kZ]at h
  cases h
  exact⟨[],by simp⟩
 |d::r,L,L',W,W',h=>by
  rw[kZ]at h
  split at h
  ·rename_i h0
   exact absurd (Prod.ext_iff.1 h).2 h0
  ·obtain⟨M,hM⟩:=Kd h
   exact⟨[ue L p env d]++M,by rw[hM,List.append_assoc]⟩
theorem IF {ms:List Int} {p:be} {env:List aH} {ins:List (List Int)}:jZ ms p env ins=if(v8 ms p env ins).2≠0 then(([], []),(v8 ms p env ins).2)else kZ p env p.defs (v8 ms p env ins).1 []:=by
 unfold jZ v8
 by_cases h1:kz ms≠0
 ·rw[if_pos h1,if_pos h1,if_pos h1]
 ·rw[if_neg h1,if_neg h1]
  by_cases h2:(aV p).2≠0
  ·rw[if_pos h2,if_pos h2,if_pos h2]
  ·rw[if_neg h2,if_neg h2]
   by_cases h3:lZ p env≠0
   ·rw[if_pos h3,if_pos h3,if_pos h3]
   ·rw[if_neg h3,if_neg h3]
    by_cases h4:ins.length≠p.params.length
    ·rw[if_pos h4,if_pos h4,if_pos (by decide)]
    ·rw[if_neg h4,if_neg h4,Hs]
     by_cases h5:(ua p env ms (p.params.zip ins) []).2≠0
     ·rw[if_pos h5,if_pos h5,if_pos h5]
     ·rw[if_neg h5,if_neg h5]
theorem J9 {ms:List Int} {p:be} {env:List aH} {ins:List (List Int)} (h:(v8 ms p env ins).2=0):(aV p).2=0∧qN p env=0∧ip p 0 (v8 ms p env ins).1:=by
 unfold v8 at*
 by_cases h1:kz ms≠0
 ·rw[if_pos h1]at h
  exact absurd h h1
 ·rw[if_neg h1]at h ⊢
  by_cases h2:(aV p).2≠0
  ·rw[if_pos h2]at h
   exact absurd h h2
  ·rw[if_neg h2]at h ⊢
   by_cases h3:lZ p env≠0
   ·rw[if_pos h3]at h
    exact absurd h h3
   ·rw[if_neg h3]at h ⊢
    by_cases h4:ins.length≠p.params.length
    ·rw[if_pos h4]at h
     cases h
    ·rw[if_neg h4]at h ⊢
     have hE:=Classical.not_not.1 h2
     have hU:=Classical.not_not.1 h4
     have hp:oR p env ms (p.params.zip ins) []=((ua p env ms (p.params.zip ins) []).1,0):=by
      rw[Hs,if_neg (not_not_intro h)]
      exact Prod.ext rfl h
     exact⟨hE,by unfold qN;rw[if_neg h2,Classical.not_not.1 h3],(zb hE hU _ 0 rfl (Nat.zero_le _) ⟨rfl,λt h=>by cases h⟩ hp).ok⟩
abbrev m0 (ms:List Int) (p:be):List (Nat×bm):= [(1,dL p),(0,.var [.pure (ce ms)])]
noncomputable def kL (Lf:List T3) (p:be) (W:List (List V3)) (i:Nat):List (List PC):=((p.defs.take i).zip W).map (U6 Lf)
theorem KB {Lf:List T3} {p:be} {W:List (List V3)} {i:Nat} (hi:i<p.defs.length) (hW:W.length=i) (V:List V3):kL Lf p W i++ [U6 Lf (p.defs[i],V)]=kL Lf p (W++ [V]) (i+1):=by
 unfold kL
 rw[List.take_succ_eq_append_getElem hi,List.zip_append (by simp;omega),List.map_append]
 rfl
theorem Nq {Lf:List T3} {p:be} {W:List (List V3)} {i:Nat}:(kL Lf p W i).length≤i:=by
 simp[kL]
 omega
set_option maxHeartbeats 4000000 in
theorem EF {ms:List Int} {p:be} {env:List aH} {ins:List (List Int)} {Lf:List T3} {Wf:List (List V3)} (hf:eR p) (o:ij p) (hL:pu p) (he: ∀m∈env,aX m.2) (b:jZ ms p env ins=((Lf,Wf),0)):
  bb Tryz.prog pY [mI ms,eX p,bZ mP env,bZ ep ins] (m0 ms p) 2 (fZ [.c (.ptr 6 0),I 0]) ((7,.arr 77 3 (kL Lf p Wf p.defs.length))::JW ms p Lf (.ref 7) (m0 ms p)) 8:=by
 refine bb.ofZ uI (by simp) λhb=>aa ?_
 have cC:=yY (ms:=ms) (ins:=ins) hf o hL he
 simp only[pT]
 clear hb
 rw[IF]at b
 by_cases h0:(v8 ms p env ins).2=0
 ·rw[if_neg (not_not_intro h0)]at b
  obtain⟨h2,u,y⟩:=J9 h0
  rw[h0]at cC
  generalize (v8 ms p env ins).1=L0 at*
  have H:=(bX h2).1.2.2.1
  have HK:=Lib.hid y
  have HR:Hid (kZ p env (p.defs.drop 0) L0 []=((Lf,Wf),0)):=Lib.hid b
  have HV:=Lib.hid h2
  have HA:=Lib.hid u
  have HF:=Lib.hid hf
  have H64:=Lib.hid o
  have HL:=Lib.hid hL
  have HE:=Lib.hid he
  have hF:kL Lf p [] 0= []:=rfl
  clear y b h2 u hf o hL he h0
  repeat' first|simp(disch:=omega)only[go_sem]|((with_reducible refine ab ?_ ?_)<;>intro h<;>try first|omega|simp(disch:=omega)only[go_sem, *])|refine aU cC ?_
  clear cC
  refine jn 6 2 77 3 _ rfl rfl (by decide) ?_
  refine ai (λz:Nat×List T3×List (List V3)=>⟨[(2,bZ mP env),(5,.c (.ptr 3 0)),(10,.c (.ptr 6 0)),(30,bZ br p.defs),(31,I p.defs.length),(32,I z.1)],(7,.arr 77 3 (kL Lf p z.2.2 z.1))::JW ms p z.2.1 (.ref 7) (M1 ms p),8,2⟩) (λz=>z.1≤p.defs.length∧z.2.2.length=z.1∧Hid (ip p z.1 z.2.1)∧Hid (kZ p env (p.defs.drop z.1) z.2.1 z.2.2=((Lf,Wf),0))) (λz=>p.defs.length-z.1) ⟨(0,L0, []), [],⟨Nat.zero_le _,rfl,HK,HR⟩,by simp[bT,dm,hF]⟩ ?_
  clear HK HR
  rintro⟨i,L,W⟩ ⟨hi,C,HK,hr⟩
  simp only at hi C HK hr
  refine aa ?_
  have hd:=hr.out
  clear hr
  by_cases k:i<p.defs.length
  ·have g1:=ac (f:=br) k
   rw[BP k]at hd
   by_cases h0:(eJ p env p.defs[i]).2=0
   ·rw[if_neg (not_not_intro h0)]at hd
    have hx:eJ p env p.defs[i]=((eJ p env p.defs[i]).1,0):=Prod.ext rfl h0
    have cP:=uo (ms:=ms) (rows:=kL Lf p W i) HF.out H64.out HL.out HE.out HV.out HA.out k HK.out hx
    have hs:=xw HV.out k HK.out h0
    have q:=tI HV.out HF.out (Nat.le_succ i) k (L0:=L) hs hx
    obtain⟨M,hM⟩:=Kd hd
    obtain⟨y1,y2⟩:=tS HV.out k hx
    have Y:=mo (L:=L) y1
    have E:fp (L++ [ue L p env p.defs[i]]) p.defs[i] (fE L p.defs[i] (eJ p env p.defs[i]).1)=fp Lf p.defs[i] (fE L p.defs[i] (eJ p env p.defs[i]).1):=Nn λs hV=>by
     obtain⟨ds,sp,q1,_⟩:=q.2.2.2.2.2.2.2 s hV
     rw[hM]
     refine(MO ?_).symm
     unfold dQ at q1
     obtain⟨t,ht,_⟩:=Option.map_eq_some_iff.1 q1
     exact List.mem_map.2 ⟨t,List.mem_of_find?_eq_some ht,by simpa using List.find?_some ht⟩
    unfold G9 at hd
    generalize ue L p env p.defs[i]=T at*
    generalize fE L p.defs[i] (eJ p env p.defs[i]).1=V at*
    have cT:=oY (D:= .slice (kL Lf p W i)) (T:= []) (Vd:=V.take p.defs[i].dims.length) (Vr:=V.drop p.defs[i].dims.length) (by rw[List.take_append_drop];exact q) (by rw[List.length_take];omega)
    rw[List.take_append_drop,E]at cT
    have HT:=Lib.hid (KB (Lf:=Lf) k C V)
    have HS:=Lib.hid hs
    have HD:=Lib.hid hd
    have hz:=Nq (Lf:=Lf) (p:=p) (W:=W) (i:=i)
    simp only[U6]at HT
    clear E hM q hx hs hd h0 HK HF H64 HL HE HA HV y1 y2 Y
    repeat' first|simp(disch:=omega)only[go_sem,g1,br,wrap_i64]|((with_reducible refine ab ?_ ?_)<;>intro h<;>try first|omega|simp(disch:=omega)only[go_sem, *,g1,br,wrap_i64])|refine aU cP ?_|refine IZ (cT.fresh Hi) (lh rfl rfl rfl rfl rfl) ?_|refine aF rfl (by intro h;cases h) (ak rfl) (by simp only[List.length_cons,List.length_nil];omega) (by simp only[List.length_cons,List.length_nil];omega) ?_
    rw[HT.out]
    exact⟨(i+1,L++ [T],W++ [V]), [(7,10)],⟨k,by simp[C],HS,HD⟩,by show _-_<_-_;omega,by simp[bT,dm]⟩
   ·rw[if_pos h0]at hd
    exact absurd (Prod.ext_iff.1 hd).2 h0
  ·rw[wK (by omega)]at hd
   cases hd
   obtain rfl:i=p.defs.length:=by omega
   clear HK HF H64 HL HE HA HV
   repeat' first|simp(disch:=omega)only[go_sem]|((with_reducible refine ab ?_ ?_)<;>intro h<;>try first|omega|simp(disch:=omega)only[go_sem, *])
   refine⟨[], [], ?_⟩
   simp(disch:=omega)only[go_sem,bU]
   simp[bT,dm]
 ·rw[if_pos h0]at b
  exact absurd (Prod.ext_iff.1 b).2 h0
set_option maxHeartbeats 4000000 in
theorem Cr {ms:List Int} {p:be} {env:List aH} {ins:List (List Int)} {e:Int} (hf:eR p) (o:ij p) (hL:pu p) (he: ∀m∈env,aX m.2) (b:(jZ ms p env ins).2=e) (hH:e≠0):
  bb Tryz.prog pY [mI ms,eX p,bZ mP env,bZ ep ins] (m0 ms p) 2 (fZ [.c (.pure (.val (.pointer none))),I e]) (m0 ms p) 2:=by
 refine bb.ofZ uI (by simp) λhb=>aa ?_
 have cC:=yY (ms:=ms) (ins:=ins) hf o hL he
 simp only[pT]
 clear hb
 rw[IF]at b
 by_cases h0:(v8 ms p env ins).2=0
 ·rw[if_neg (not_not_intro h0)]at b
  obtain⟨h2,u,y⟩:=J9 h0
  rw[h0]at cC
  generalize (v8 ms p env ins).1=L0 at*
  have H:=(bX h2).1.2.2.1
  have HK:=Lib.hid y
  have HR:Hid ((kZ p env (p.defs.drop 0) L0 []).2=e):=Lib.hid b
  have HV:=Lib.hid h2
  have HA:=Lib.hid u
  have HF:=Lib.hid hf
  have H64:=Lib.hid o
  have HL:=Lib.hid hL
  have HE:=Lib.hid he
  have H0:=Lib.hid hH
  have hF:kL L0 p [] 0= []:=rfl
  clear y b h2 u hf o hL he h0 hH
  repeat' first|simp(disch:=omega)only[go_sem]|((with_reducible refine ab ?_ ?_)<;>intro h<;>try first|omega|simp(disch:=omega)only[go_sem, *])|refine aU cC ?_
  clear cC
  refine jn 6 2 77 3 _ rfl rfl (by decide) ?_
  refine ai (λz:Nat×List T3×List (List PC)=>⟨[(2,bZ mP env),(5,.c (.ptr 3 0)),(10,.c (.ptr 6 0)),(30,bZ br p.defs),(31,I p.defs.length),(32,I z.1)],(7,.arr 77 3 z.2.2)::JW ms p z.2.1 (.ref 7) (M1 ms p),8,2⟩) (λz=>z.1≤p.defs.length∧z.2.2.length=z.1∧Hid (ip p z.1 z.2.1)∧Hid (∃W,(kZ p env (p.defs.drop z.1) z.2.1 W).2=e)) (λz=>p.defs.length-z.1) ⟨(0,L0, []), [],⟨Nat.zero_le _,rfl,HK,Lib.hid ⟨[],HR.out⟩⟩,by simp[bT,dm]⟩ ?_
  clear HK HR
  rintro⟨i,L,rows⟩ ⟨hi,C,HK,hr⟩
  simp only at hi C HK hr
  refine aa ?_
  obtain⟨W,hd⟩:=hr.out
  clear hr
  by_cases k:i<p.defs.length
  ·have g1:=ac (f:=br) k
   rw[BP k]at hd
   by_cases h0:(eJ p env p.defs[i]).2=0
   ·rw[if_neg (not_not_intro h0)]at hd
    have hx:eJ p env p.defs[i]=((eJ p env p.defs[i]).1,0):=Prod.ext rfl h0
    have cP:=uo (ms:=ms) (rows:=rows) HF.out H64.out HL.out HE.out HV.out HA.out k HK.out hx
    have hs:=xw HV.out k HK.out h0
    have q:=tI HV.out HF.out (Nat.le_succ i) k (L0:=L) hs hx
    obtain⟨y1,y2⟩:=tS HV.out k hx
    have Y:=mo (L:=L) y1
    have HD:Hid (∃W,(kZ p env (p.defs.drop (i+1)) (L++ [ue L p env p.defs[i]]) W).2=e):=Lib.hid ⟨_,hd⟩
    generalize ue L p env p.defs[i]=T at*
    generalize fE L p.defs[i] (eJ p env p.defs[i]).1=V at*
    have cT:=oY (D:= .slice rows) (T:= []) (Vd:=V.take p.defs[i].dims.length) (Vr:=V.drop p.defs[i].dims.length) (by rw[List.take_append_drop];exact q) (by rw[List.length_take];omega)
    generalize fp (L++ [T]) p.defs[i] (V.take p.defs[i].dims.length++V.drop p.defs[i].dims.length)=Q at*
    have HS:=Lib.hid hs
    clear q hx hs hd h0 HK HF H64 HL HE HA HV y1 y2 Y
    repeat' first|simp(disch:=omega)only[go_sem,g1,br,wrap_i64]|((with_reducible refine ab ?_ ?_)<;>intro h<;>try first|omega|simp(disch:=omega)only[go_sem, *,g1,br,wrap_i64])|refine aU cP ?_|refine IZ (cT.fresh Hi) (lh rfl rfl rfl rfl rfl) ?_|refine aF rfl (by intro h;cases h) (ak rfl) (by simp only[List.length_cons,List.length_nil];omega) (by simp only[List.length_cons,List.length_nil];omega) ?_
    exact⟨(i+1,L++ [T],rows++ [[cZ dw (V.take p.defs[i].dims.length),cZ dw (V.drop p.defs[i].dims.length),.slice (Q.map s7)]]), [(7,10)],⟨k,by simp[C],HS,HD⟩,by show _-_<_-_;omega,by simp[bT,dm]⟩
   ·rw[if_pos h0]at hd
    simp only at hd
    have cP:=CZ (ms:=ms) (L:=L) (rows:=rows) HF.out H64.out HL.out HE.out HV.out HA.out k h0
    rw[hd]at h0 cP
    clear HK HF H64 HL HE HA HV hd H0
    repeat' first|simp(disch:=omega)only[go_sem,g1,br,h0]|((with_reducible refine ab ?_ ?_)<;>intro h<;>try first|omega|simp(disch:=omega)only[go_sem, *,g1,br,h0])|refine aU cP ?_
    all_goals refine⟨[], [], ?_⟩
    all_goals simp(disch:=omega)only[go_sem,bU]
    all_goals simp[bT,dm]
  ·rw[wK (by omega)]at hd
   exact absurd hd.symm H0.out
 ·rw[if_pos h0]at b
  simp only at b
  rw[b]at cC h0
  clear b hf o hL he
  repeat' first|simp(disch:=omega)only[go_sem,h0]|((with_reducible refine ab ?_ ?_)<;>intro h<;>try first|omega|simp(disch:=omega)only[go_sem, *,h0])|refine aU cC ?_
  all_goals refine⟨[], [], ?_⟩
  all_goals simp(disch:=omega)only[go_sem,bU]
  all_goals simp[bT,dm]
set_option maxRecDepth 20000
def JS (Lf:List T3) (n i:Nat):List (List Int):=(Lf.drop (n+i)).map λt=>t.2.2
theorem QX {Lf:List T3} {n i:Nat} (h:n+i<Lf.length):JS Lf n i=Lf[n+i].2.2::JS Lf n (i+1):=by
 unfold JS
 rw[List.drop_eq_getElem_cons h]
 rfl
theorem Pe {Lf:List T3} {p:be} {Wf:List (List V3)} (hW:Wf.length=p.defs.length) {i:Nat} (hi:i<p.defs.length) (h6:i<Wf.length):(kL Lf p Wf p.defs.length)[i]? =some (U6 Lf (p.defs[i],Wf[i])):=by
 unfold kL
 rw[List.take_length,List.getElem?_map,List.getElem?_eq_getElem (by simp;omega),List.getElem_zip]
 rfl
theorem Rq {p:be} {Lf:List T3} (h:ip p p.defs.length Lf) (hv:(aV p).2=0) {i:Nat} (hi:i<p.defs.length) (hl:p.params.length+i<Lf.length):eC (pC gS Lf) (.str p.defs[i].name.data.toList)=some [.pure (ce Lf[p.params.length+i].2.2)]:=by
 have hI: ∀j (hj:j<Lf.length),some Lf[j].1=(tm p p.defs.length)[j]? := λj hj=>by
  rw[←h.1,List.getElem?_map,List.getElem?_eq_getElem hj]
  rfl
 have hN:tm p p.defs.length=p.params.map (·.1)++p.defs.map (·.name):=by unfold tm;rw[List.take_length]
 have hY:Lf[p.params.length+i].1=p.defs[i].name:=by
  have:=hI _ hl
  rw[hN,List.getElem?_append_right (by simp),List.length_map,Nat.add_sub_cancel_left,List.getElem?_map,List.getElem?_eq_getElem hi]at this
  exact Option.some.inj this
 rw[rB,(List.find?_eq_some_iff_getElem.2 ⟨by simpa using hY,p.params.length+i,hl,rfl,λj hj=> ?_⟩:Lf.find? (λt=>decide (t.1=p.defs[i].name))=some Lf[p.params.length+i])]
 ·rfl
 ·have hc:j<Lf.length:=by omega
  have h1:=hI j hc
  have:Lf[j].1∈tm p i:=by
   rw[hN]at h1
   unfold tm
   by_cases Z:j<p.params.length
   ·rw[List.getElem?_append_left (by simpa using Z),List.getElem?_map,List.getElem?_eq_getElem Z]at h1
    rw[Option.some.inj h1]
    exact List.mem_append_left _ (List.mem_map_of_mem (List.getElem_mem Z))
   ·have hh:j-p.params.length<p.defs.length:=by omega
    rw[List.getElem?_append_right (by simp;omega),List.length_map,List.getElem?_map,List.getElem?_eq_getElem hh]at h1
    rw[Option.some.inj h1]
    exact List.mem_append_right _ (List.mem_map.2 ⟨_,List.mem_take_iff_getElem.2 ⟨j-p.params.length,by omega,rfl⟩,rfl⟩)
  have hf:=(tO hv hi).2
  simp only[Bool.not_eq_true',decide_eq_false_iff_not]
  intro e
  rw[e]at this
  exact hf (J1 this)
theorem KO {Lf:List T3} {p:be} {Wf:List (List V3)} (hW:Wf.length=p.defs.length):(kL Lf p Wf p.defs.length).length=p.defs.length:=by
 simp[kL,hW]
theorem Ra {l:List Tr}:bV 5 (l.map s7):=by
 intro r hr
 obtain⟨n,_,rfl⟩:=List.mem_map.1 hr
 rfl
set_option maxHeartbeats 4000000 in
theorem lr {ms:List Int} {p:be} {env:List aH} {ins:List (List Int)} (hf:eR p) (o:ij p) (hL:pu p) (he: ∀m∈env,aX m.2):
  af Tryz.prog xk [mI ms,eX p,bZ mP env,bZ ep ins] (.tup [bZ ep (jw ms p env ins).1.1,bZ s7 (jw ms p env ins).1.2,I (jw ms p env ins).2]):=by
 refine af.of Fw (by simp) λhb=>aa ?_
 simp only[xf]
 clear hb
 unfold jw
 by_cases h0:(jZ ms p env ins).2=0
 ·rw[if_neg (not_not_intro h0)]
  obtain⟨L,hA⟩: ∃L,L=(jZ ms p env ins).1.1:=⟨_,rfl⟩
  obtain⟨W,hB⟩: ∃W,W=(jZ ms p env ins).1.2:=⟨_,rfl⟩
  have b:jZ ms p env ins=((L,W),0):=by rw[hA,hB,←h0]
  rw[←hA,←hB]
  have cI:=EF hf o hL he b
  obtain⟨_,h2,_,_,k1,k2,k3⟩:=FN b
  have q: ∀i (h:i<p.defs.length) (h':i<W.length),v6 L p.defs[i] W[i]:= λi h h'=>by
   obtain⟨L0,ext,x1,x2⟩:=k3 i h' h
   rw[x2]
   exact tI h2 hf (Nat.le_of_lt h) h k1 x1
  have H:=(bX h2).1.2.2.1
  have hw:=(bX h2).1.2.1
  have h7:=k1.len (Nat.le_refl _)
  have E:=zl (L:=L) (l:=p.defs.zip W) λx hx=>by
   obtain⟨i,hi,rfl⟩:=List.mem_iff_getElem.1 hx
   rw[List.length_zip]at hi
   rw[List.getElem_zip]
   exact q i (by omega) (by omega)
  rw[List.length_zip]at E
  obtain⟨R,hR⟩: ∃R,R= []++gZ L ((p.defs.zip W).drop 0):=⟨_,rfl⟩
  have hn:gZ L (p.defs.zip W)=R:=hR.symm
  obtain⟨S,hS⟩: ∃S,S= []++JS L p.params.length 0:=⟨_,rfl⟩
  have hu:((L.drop p.params.length).map λt=>t.2.2)=S:=hS.symm
  rw[hn]at E ⊢
  rw[hu]
  have HR:=Lib.hid hR
  have HS:=Lib.hid hS
  have HK:=Lib.hid k1
  have HV:=Lib.hid h2
  have HK3:Hid (∀i (h:i<p.defs.length) (h':p.params.length+i<L.length),L[p.params.length+i].2.2.length≤1000000000):=Lib.hid λi h h'=>by
   obtain⟨q1,ty,fs,q2,q3⟩:=k1.2 _ (List.getElem_mem h')
   have:=FX hf q2
   omega
  clear b hA hB h0 k3 q o hL he hR hS hf
  repeat' first|simp(disch:=omega)only[go_sem]|((with_reducible refine ab ?_ ?_)<;>intro h<;>try first|omega|simp(disch:=omega)only[go_sem, *])|refine aU cI ?_
  clear cI
  refine co 13 45 1 rfl (by decide) ?_
  refine co 14 51 5 rfl (by decide) ?_
  refine ai (λz:Nat×List (List Int)×List Tr=>⟨[(11,.c (.ptr 6 0)),(13,.c (.ref 8)),(14,.c (.ref 9)),(29,bZ br p.defs),(30,I p.defs.length),(31,I z.1)],(9,.arr 51 5 (z.2.2.map s7))::(8,.arr 45 1 (z.2.1.map ep))::(7,.arr 77 3 (kL L p W p.defs.length))::JW ms p L (.ref 7) (m0 ms p),10,0⟩) (λz=>z.1≤p.defs.length∧z.2.1.length=z.1∧Hid (R=z.2.2++gZ L ((p.defs.zip W).drop z.1))∧Hid (S=z.2.1++JS L p.params.length z.1)) (λz=>p.defs.length-z.1) ⟨(0, [], []), [],⟨Nat.zero_le _,rfl,HR,HS⟩,by simp[bT,dm]⟩ ?_
  clear HR HS
  rintro⟨i,sp,out⟩ ⟨hi,hJ,hr,hs⟩
  simp only at hi hJ hr hs
  refine aa ?_
  by_cases k:i<p.defs.length
  ·have hK:i<W.length:=by omega
   have hC:p.params.length+i<L.length:=by omega
   have g1:=ac (f:=br) k
   have g7:=Pe (Lf:=L) k2 k hK
   have lS:=Rq HK.out HV.out k hC
   have hd:=hr.out
   rw[JF k hK]at hd
   have hq:=hs.out
   rw[QX hC]at hq
   have cC:=mW (HK3.out i k hC)
   have h8:out.length+(fp L p.defs[i] W[i]).length≤1000010000*64:=by
    have:=congrArg List.length hd
    simp only[List.length_append]at this
    have:1000010000*min p.defs.length W.length≤1000010000*64:=Nat.mul_le_mul_left _ (by omega)
    omega
   generalize L[p.params.length+i].2.2=s0 at*
   simp only[U6]at g7
   generalize fp L p.defs[i] W[i]=Q at*
   have HD:Hid (R=(out++Q)++gZ L ((p.defs.zip W).drop (i+1))):=Lib.hid (by rw[hd,List.append_assoc])
   have HQ:Hid (S=(sp++ [s0])++JS L p.params.length (i+1)):=Lib.hid (by rw[hq,List.append_assoc];rfl)
   have e1:Hid (out.map s7++Q.map s7=(out++Q).map s7):=Lib.hid (by rw[List.map_append])
   have e2:Hid (sp.map ep++ [[ce s0]]=(sp++ [s0]).map ep):=Lib.hid (by rw[List.map_append];rfl)
   have y:=Ra (l:=Q)
   have hQ:=KO (Lf:=L) k2
   clear hd hr hs hq HK HV HK3 E
   repeat' first|simp(disch:=omega)only[go_sem,g1,g7,br,lS,hQ,wrap_i64,Option.map_some]|((with_reducible refine ab ?_ ?_)<;>intro h<;>try first|omega|simp(disch:=omega)only[go_sem, *,g1,g7,br,lS,hQ,wrap_i64,Option.map_some])|refine ae cC rfl (.inr rfl) ?_|refine aF rfl (by intro h;cases h) (ak rfl) (by simp only[List.length_cons,List.length_nil,List.length_map];omega) (by simp only[List.length_cons,List.length_nil,List.length_map];omega) ?_|refine aF rfl (by intro h;cases h) y (by simp only[List.length_map];omega) (by simp only[List.length_map];omega) ?_
   rw[e1.out,e2.out]
   exact⟨(i+1,sp++ [s0],out++Q), [(8,11),(9,12)],⟨k,by simp[hJ],HD,HQ⟩,by show _-_<_-_;omega,by simp[bT,dm]⟩
  ·have hd:=hr.out
   rw[List.drop_of_length_le (by simp;omega),gZ,List.append_nil]at hd
   have hq:=hs.out
   rw[show JS L p.params.length i= [] by unfold JS;rw[List.drop_of_length_le (by omega)];rfl,List.append_nil]at hq
   subst hd
   subst hq
   clear HK HV HK3 hr hs
   repeat' first|simp(disch:=omega)only[go_sem]|((with_reducible refine ab ?_ ?_)<;>intro h<;>try first|omega|simp(disch:=omega)only[go_sem, *])
   all_goals rfl
 ·rw[if_pos h0]
  have cI:=Cr hf o hL he rfl h0
  generalize (jZ ms p env ins).2=e at*
  clear hf o hL he
  repeat' first|simp(disch:=omega)only[go_sem,h0]|((with_reducible refine ab ?_ ?_)<;>intro h<;>try first|omega|simp(disch:=omega)only[go_sem, *,h0])|refine aU cI ?_
  all_goals rfl
end Go.Proofs.YtjhkikmonejkjaaGreatDoor
