import Derived.Test.YtjhkikmonejkjaaGreatDoorV55f
set_option linter.unusedVariables false
set_option linter.unusedSimpArgs false
set_option maxRecDepth 20000
namespace Go.Abs
open Go.RowKit
theorem T6 {P:Program} {nt:Nat} {σ:St} {c:ah} {Q:bk→St→Prop} (σ':St) (h1:AW P nt c σ' Q→AW P nt c σ Q) (h2:AW P nt c σ' Q):AW P nt c σ Q:=h1 h2
theorem Rp {P:Program} {nt:Nat} {σ:St} {c:ah} {Q:bk→St→Prop} (t:Nat) (rows:List (List PC)) (ht:aL σ.fr t= .c (.tsl rows)) (h:AW P nt c {σ with fr:=(t,.c (.pure (.slice rows)))::σ.fr} Q):AW P nt c σ Q:=by
 intro c' hc w0 U rd ds ι a w R hs hz
 refine h c' hc w0 U rd ds ι a w R ⟨λs=> ?_,hs.defers,hs.names,hs.box,hs.apart,hs.below,hs.keep,hs.base⟩ hz
 show aK w (aB w0.heap.size U ι σ.mem) ι σ.nx (aL ((t,.c (.pure (.slice rows)))::σ.fr) s) _
 rw[dF]
 by_cases es:t=s
 ·subst es
  rw[if_pos rfl]
  have hv:=hs.val t
  rw[ht]at hv
  generalize a.tmps.getD t undef=v at hv
  cases hv with
  |c hv=>cases hv with|tsl h=>exact .c (.pure h)
 ·rw[if_neg es]
  exact hs.val s
end Go.Abs
namespace Go.Proofs.YtjhkikmonejkjaaGreatDoor
open Go.Abs Go.RowKit
def GO (V V0:List V3) (k:Nat):List (List PC):=(V.take k++V0.drop k).map dw
section
variable {V V0 : List V3} {k : Nat}
theorem Ii (hl:V.length=V0.length) (h:k<V0.length):(GO V V0 k)[k]? =some (dw V0[k]):=by
 unfold GO
 rw[List.getElem?_map,List.getElem?_append_right (by simp;omega),List.length_take,Nat.min_eq_left (by omega),Nat.sub_self,List.getElem?_drop,Nat.add_zero,List.getElem?_eq_getElem h]
 rfl
theorem Il (hl:V.length=V0.length) (h:k<V0.length) (h':k<V.length):(GO V V0 k).set k (dw V[k])=GO V V0 (k+1):=by
 unfold GO
 rw[←List.map_set,List.set_append_right _ _ (by simp;omega),List.length_take,Nat.min_eq_left (by omega),Nat.sub_self,List.drop_eq_getElem_cons h,List.set_cons_zero,List.take_succ_eq_append_getElem h',List.append_assoc]
 rfl
theorem Kl:GO V V0 0=V0.map dw:=by simp[GO]
theorem Mh (hl:V.length=V0.length) (h:k=V0.length):GO V V0 k=V.map dw:=by
 subst h
 rw[GO,List.drop_of_length_le (Nat.le_refl _),List.append_nil,List.take_of_length_le (by omega)]
theorem BR (hl:V.length=V0.length):(GO V V0 k).length=V0.length:=by
 simp[GO]
 omega
end
theorem L9 {axs:List eU} {ext:List Int} (h:ext.length=axs.length):(tz axs ext).length=axs.length:=by
 simp[tz]
 omega
theorem LJ {axs:List eU} {ext:List Int} (h:ext.length=axs.length) {k:Nat} (hk:k<axs.length) (he:k<ext.length) (hv:k<(tz axs ext).length):(tz axs ext)[k]=(axs[k].1,ext[k],-1):=by
 simp[tz]
theorem lh {mem:List (Nat×bm)} {L:List T3} {e sz:Nat} {rows:List (List PC)} {rest rest':List AV} (h6:am mem 6=some (.var [.mref 4,.mref 5,.ref 7])) (h5:am mem 5=some (.map .str none (pC gS L))) (h4:am mem 4=some (.map .str none (pC gD L))) (h7:am mem 7=some (.arr e sz rows)) (hr:ba mem rest=some rest'):ba mem (.c (.ptr 6 0)::rest)=some (Pa L (.slice rows)::rest'):=by
 simp[ba,c9,dk,dh,h6,bC,dn,cG,h5,h4,h7,IM,hr]
abbrev Ta:bm:= .var [.nils,.nils,.nils]
abbrev TM (ms:List Int) (p:be) (d:jA) (rows:List (List PC)) (L:List T3):List (Nat×bm):=(8,qJ d)::(7,.arr 77 3 rows)::JW ms p L (.ref 7) (M1 ms p)
theorem Jc {V V0:List V3} {k:Nat} (h':k<V.length):(GO V V0 (k+1))[k]? =some (dw V[k]):=by
 unfold GO
 rw[List.getElem?_map,List.getElem?_append_left (by simp;omega),List.getElem?_take_of_lt (by omega),List.getElem?_eq_getElem h']
 rfl
theorem D1 {V V0:List V3} {k:Nat} (hl:V.length=V0.length) (h:k<V0.length) (h':k<V.length) (e:V[k]=V0[k]):GO V V0 (k+1)=GO V V0 k:=by
 rw[←Il hl h h']
 have:=Ii hl h
 rw[←e]at this
 refine List.ext_getElem? λj=> ?_
 rw[List.getElem?_set]
 split
 ·rename_i e2
  subst e2
  split
  ·exact this.symm
  ·rename_i h3
   rw[List.getElem?_eq_none (by omega)]at this
   cases this
 ·rfl
def axs (V:List V3) (k:Nat):List (List PC):=((V.take k).map (·.2.2)).map λn=> [pI n]
theorem jH {V:List V3} {k:Nat} (h:k<V.length) {x:Int} (e:V[k].2.2=x):axs V k++ [[pI x]]=axs V (k+1):=by
 subst e
 exact Mk h
theorem Hd {g:T3→List Int} (n:Nat) (rows:List (List PC)): ∀L:List T3,List.map (λx:MK×List AC=>(x.1,List.map (zF n rows) x.2)) (pC g L)=pC g L
 | []=>rfl
 |x::r=>by
  have ih:=Hd (g:=g) n rows r
  simp only[pC,List.map_cons]at ih ⊢
  rw[ih]
  rfl
theorem Mn {V:List V3} {k:Nat}:(axs V k).length≤k:=by simp[axs];omega
def Ul:Nat→AV
 |0=> .c (.tsl [])
 |_+1=> .c (.ref 16)
def Vy (V:List V3):Nat→List (Nat×bm)→List (Nat×bm)
 |0,r=>r
 |k+1,r=>(16,.arr 3 1 (axs V (k+1)))::r
def SK:Nat→Nat
 |0=>16
 |_+1=>17
theorem Uj:Ul 0= .c (.tsl []):=rfl
theorem VO {V:List V3} {r:List (Nat×bm)}:Vy V 0 r=r:=rfl
theorem UM:SK 0=16:=rfl
theorem Gg {k:Nat}:Ul (k+1)= .c (.ref 16):=rfl
theorem Gn {V:List V3} {k:Nat} {r:List (Nat×bm)}:Vy V (k+1) r=(16,.arr 3 1 (axs V (k+1)))::r:=rfl
theorem FD {k:Nat}:SK (k+1)=17:=rfl
theorem Sq {k:Nat} (h:k=0):Ul k= .c (.tsl []):=h▸rfl
theorem SI {V:List V3} {k:Nat} {r:List (Nat×bm)} (h:k=0):Vy V k r=r:=h▸rfl
theorem SU {k:Nat} (h:k=0):SK k=16:=h▸rfl
theorem Su {V:List V3} {k:Nat} (h:k=0):axs V k= []:=h▸rfl
theorem Sv {k:Nat} (h:k≠0):Ul k= .c (.ref 16):=by cases k with|zero=>exact absurd rfl h|succ k=>rfl
theorem So {V:List V3} {k:Nat} {r:List (Nat×bm)} (h:k≠0):Vy V k r=(16,.arr 3 1 (axs V k))::r:=by cases k with|zero=>exact absurd rfl h|succ k=>rfl
theorem SG {k:Nat} (h:k≠0):SK k=17:=by cases k with|zero=>exact absurd rfl h|succ k=>rfl
set_option maxHeartbeats 8000000 in
theorem uo {ms:List Int} {p:be} {env:List aH} {i:Nat} {L:List T3} {ext:List Int} {rows:List (List PC)} (hf:eR p) (Y:ij p) (hL:pu p) (he: ∀m∈env,aX m.2) (hv:(aV p).2=0) (ha:qN p env=0) (hi:i<p.defs.length) (J:ip p i L) (hx:eJ p env p.defs[i]=(ext,0)):
  bb Tryz.prog eO [.c (.ptr 6 0),eX p,bZ mP env,sK p.defs[i]] (TM ms p p.defs[i] rows L) 9 (fZ [.agg [.pure (cZ dw ((fE L p.defs[i] ext).take p.defs[i].dims.length)),.pure (cZ dw ((fE L p.defs[i] ext).drop p.defs[i].dims.length)),.nils],I 0]) (TM ms p p.defs[i] rows (L++ [ue L p env p.defs[i]])) 9:=by
 refine bb.ofZ hZ (by simp) λhb=>aa ?_
 simp only[eP]
 clear hb
 obtain⟨ds,rs,x1,x2,x3,rfl,x5,x6⟩:=Ml hv hi hx
 have cD:=nq (s:=p.defs[i].name) hf Y hL he
 rw[wH ha,x1]at cD
 simp only at cD
 have hJ:=hf.2 _ (List.getElem_mem hi)
 have N:=(hL.2.2 _ (List.getElem_mem hi)).1
 have cV:=(fQ (axs:=p.defs[i].dims) (env:=env) (λa ha=>N a (List.mem_append_left _ ha)) he (by omega) x2).resolve_right λh=>h.1 rfl
 have cW:=(fQ (axs:=p.defs[i].red) (env:=env) (λa ha=>N a (List.mem_append_right _ ha)) he (by omega) x3).resolve_right λh=>h.1 rfl
 obtain⟨_,cV⟩:=cV
 obtain⟨_,cW⟩:=cW
 have R:=Qs hv hi J
 obtain⟨b1,b2,b3⟩:=Dd hv hi
 have cA:= λ(s:ByteArray) (hs:s∈ar p.defs[i]) (n y:Int) (used:List Int) (D:PC)=>By (L:=L) (D:=D) (s:=s) (n:=n) (y:=y) (used:=used) R (λa ha=>by have:=(b2 a ha).1;omega) (b3 s hs)
 have hn:p.defs[i].name∉L.map (·.1):= λh=>(tO hv hi).2 (J1 (by rw[J.1]at h;exact h))
 have lD:=tP (g:=gD) hn
 have lS:=tP (g:=gS) hn
 obtain⟨V,hV⟩: ∃V,V=fE L p.defs[i] (ds++rs):=⟨_,rfl⟩
 obtain⟨y1,y2⟩:=tS hv hi hx
 have O:=mo (L:=L) y1
 have Z:= λ(k:Nat) (h1:k<(ds++rs).length) (h2:k<(fE L p.defs[i] (ds++rs)).length)=>L1 (L:=L) y1 h1 h2
 have eT:ue L p env p.defs[i]=(p.defs[i].name,ds,(V.take p.defs[i].dims.length).map (·.2.2)):=by
  unfold ue G9
  rw[hx,hV]
  simp only
  rw[←x5,List.take_left]
 rw[eT]
 rw[←hV]at O ⊢
 have HAT:Hid (∀(k:Nat) (h0:k<(ar p.defs[i]).length) (h1:k<(ds++rs).length) (h2:k<V.length),V[k]=((ar p.defs[i])[k],(ds++rs)[k],if py p.defs[i] k then ef L (ar p.defs[i])[k] (ds++rs)[k] ((V.take k).map (·.2.2)) p.defs[i].body.pre else-1)):=Lib.hid (by subst hV;exact λk h0 h1 h2=>Z k h1 h2)
 have hK:=J.len (Nat.le_of_lt hi)
 have hH:=(bX hv).1.2.1
 have hI:=(bX hv).1.2.2.1
 have HCA:=Lib.hid cA
 have eD: ∀z,C4 (pC gD L++ [(MK.str p.defs[i].name.data.toList,z)]) L.length [.pure (ce ds)]=pC gD (L++ [(p.defs[i].name,ds,(V.take p.defs[i].dims.length).map (·.2.2))]):= λz=>wN rfl rfl
 have eS: ∀z,C4 (pC gS L++ [(MK.str p.defs[i].name.data.toList,z)]) L.length [.pure (ce ((V.take p.defs[i].dims.length).map (·.2.2)))]=pC gS (L++ [(p.defs[i].name,ds,(V.take p.defs[i].dims.length).map (·.2.2))]):= λz=>wN rfl rfl
 have hM:(ar p.defs[i]).length=p.defs[i].dims.length+p.defs[i].red.length:=by unfold ar;simp
 have HIX:Hid ((∀k (h:k<p.defs[i].dims.length) (h0:k<(ar p.defs[i]).length),(ar p.defs[i])[k]=p.defs[i].dims[k].1)∧ ∀k (h:k<p.defs[i].red.length) (h0:p.defs[i].dims.length+k<(ar p.defs[i]).length),(ar p.defs[i])[p.defs[i].dims.length+k]=p.defs[i].red[k].1):=Lib.hid ⟨λk h h0=>by unfold ar;simp[h],λk h h0=>by unfold ar;simp⟩
 have HEQ:=Lib.hid (And.intro eD eS)
 have HLK:=Lib.hid (And.intro lD lS)
 clear cA Z hV eT R b1 b2 b3 hn J N hx x1 x2 x3 Y hL he hv ha hf eD eS lD lS
 generalize p.defs[i]=d at*
 repeat' first|simp(disch:=omega)only[go_sem]|((with_reducible refine ab ?_ ?_)<;>intro h<;>try first|omega|simp(disch:=omega)only[go_sem, *])|refine ae cD rfl (.inr rfl) ?_|refine aU (cV.lift1 rfl rfl rfl) ?_|refine aU (cW.lift1 rfl rfl rfl) ?_
 refine co 13 3 1 rfl (by decide) ?_
 have l:=L9 x5
 have F:(V.take d.dims.length).length=(tz d.dims ds).length:=by rw[List.length_take,l,O,List.length_append];omega
 refine ai (λk:Nat=>⟨[(0,.c (.ptr 6 0)),(3,sK d),(7,.c (.ptr 10 0)),(8,.c (.ptr 11 0)),(10,bw ds),(12,.c (.ptr 12 0)),(13,.c (.ref 15)),(14,Ul k),(56,I d.dims.length),(57,I k)],Vy V k ((15,.arr 3 1 (axs V k))::(14,.arr 134 3 ((tz d.red rs).map dw))::(13,.arr 134 3 (GO (V.take d.dims.length) (tz d.dims ds) k))::(12,.var [.ref 13,.ref 14,.nils])::(11,Ta)::(10,qJ d)::TM ms p d rows L),SK k,9⟩) (λk=>k≤d.dims.length) (λk=>d.dims.length-k) ⟨0, [],Nat.zero_le _, ?start⟩ ?_
 case start=>
  rw[l,←Kl (V:=V.take d.dims.length) (V0:=tz d.dims ds)]
  simp only[Uj,VO,UM]
  simp[bT,dm,axs]
 clear cD cV cW
 intro k hk
 by_cases o:k<d.dims.length
 ·refine aa ?_
  have A:k<(tz d.dims ds).length:=by omega
  have C:k<(V.take d.dims.length).length:=by omega
  have q:k<V.length:=by rw[O,List.length_append];omega
  have T:k<ds.length:=by omega
  have X:k<(ds++rs).length:=by rw[List.length_append];omega
  have f:=HAT.out k (by omega) X q
  have G:=HIX.out.1 k o (by omega)
  have E:d.dims[k].1∈ar d:=by rw[←G];exact List.getElem_mem _
  rw[G,List.getElem_append_left T]at f
  have cA:=HCA.out _ E ds[k] (-1) ((V.take k).map (·.2.2)) (.slice rows)
  have K:=LJ x5 o T A
  have g1:=Ii F A
  rw[K]at g1
  have st:=Il F A C
  have g3:=Jc (V0:=tz d.dims ds) C
  have b:(V.take d.dims.length)[k]=V[k]:=List.getElem_take ..
  rw[f]at b
  have hC:=Mn (V:=V) (k:=k)
  have hD:=BR (k:=k) F
  have hA:=BR (k:=k+1) F
  have wl:IntKind.wrap .i64 ((d.dims.length:Int)-1)=d.dims.length-1:=wrap_i64 (by omega)
  generalize ef L d.dims[k].1 ds[k] ((V.take k).map (·.2.2)) d.body.pre=x at*
  clear HAT HCA HIX HEQ HLK E G
  by_cases hz:k=0
  ·have ea:=Sq hz
   have em:= λr=>SI (V:=V) (r:=r) hz
   have en:=SU hz
   have ez:=Su (V:=V) hz
   clear hz
   by_cases c2:d.fold=5
   ·have c2':(d.fold=5)=True:=eq_true c2
    by_cases c3:k+1<d.dims.length
    ·rw[if_pos (jE (.inl ⟨o,.inr c3⟩))]at f b
     rw[b]at st g3
     have HT:=Lib.hid (jH (x:=x) q (by rw[f]))
     simp only[dw]at st g3 g1
     repeat' first|simp(disch:=omega)only[go_sem,g1,c2',st,g3,wrap_i64,wl,l,ea,em,en]|((with_reducible refine ab ?_ ?_)<;>intro h<;>try first|omega|simp(disch:=omega)only[go_sem, *,g1,c2',st,g3,wrap_i64,wl,l,ea,em,en])|apply au|(with_reducible refine az (λh=> ?_) ?_)|refine ae cA (lh rfl rfl rfl rfl rfl) (.inl rfl) ?_|refine aF rfl (by intro h;cases h) (ak rfl) (by simp only[List.length_cons,List.length_nil];omega) (by simp only[List.length_cons,List.length_nil];omega) ?_|refine cQ (by intro r hr;cases hr) (ak rfl) (by simp) (by simp) (by simp) ?_
     all_goals try rw[HT.out]
     all_goals try rw[show [[pI x]]=axs V (k+1)from HT.out▸(by rw[ez];rfl)]
     all_goals exact⟨k+1, [(15,17)],o,by omega,by simp[Gg,Gn,FD,bT,dm]⟩
    ·rw[if_neg (show ¬py d k from λh=>by rcases h with h|h;exact h.2.elim (λh=>h c2) c3;omega)]at f b
     have es:=D1 F A C (by rw[b,K])
     rw[b]at g3
     have gq:=g3
     rw[es]at gq
     have HT:=Lib.hid (jH (x:= -1) q (by rw[f]))
     simp only[dw]at gq g1
     repeat' first|simp(disch:=omega)only[go_sem,g1,c2',gq,wrap_i64,wl,l,ea,em,en]|((with_reducible refine ab ?_ ?_)<;>intro h<;>try first|omega|simp(disch:=omega)only[go_sem, *,g1,c2',gq,wrap_i64,wl,l,ea,em,en])|refine ae cA (lh rfl rfl rfl rfl rfl) (.inl rfl) ?_|refine aF rfl (by intro h;cases h) (ak rfl) (by simp only[List.length_cons,List.length_nil];omega) (by simp only[List.length_cons,List.length_nil];omega) ?_|refine cQ (by intro r hr;cases hr) (ak rfl) (by simp) (by simp) (by simp) ?_
     all_goals try rw[HT.out]
     all_goals try rw[show [[pI (-1)]]=axs V (k+1)from HT.out▸(by rw[ez];rfl)]
     all_goals exact⟨k+1, [(15,17)],o,by omega,by simp[Gg,Gn,FD,bT,dm,es]⟩
   ·rw[if_pos (jE (.inl ⟨o,.inl c2⟩))]at f b
    rw[b]at st g3
    have HT:=Lib.hid (jH (x:=x) q (by rw[f]))
    simp only[dw]at st g3 g1
    repeat' first|simp(disch:=omega)only[go_sem,g1,c2,st,g3,wrap_i64,wl,l,ea,em,en]|((with_reducible refine ab ?_ ?_)<;>intro h<;>try first|omega|simp(disch:=omega)only[go_sem, *,g1,c2,st,g3,wrap_i64,wl,l,ea,em,en])|apply au|(with_reducible refine az (λh=> ?_) ?_)|refine ae cA (lh rfl rfl rfl rfl rfl) (.inl rfl) ?_|refine aF rfl (by intro h;cases h) (ak rfl) (by simp only[List.length_cons,List.length_nil];omega) (by simp only[List.length_cons,List.length_nil];omega) ?_|refine cQ (by intro r hr;cases hr) (ak rfl) (by simp) (by simp) (by simp) ?_
    all_goals try rw[HT.out]
    all_goals try rw[show [[pI x]]=axs V (k+1)from HT.out▸(by rw[ez];rfl)]
    all_goals exact⟨k+1, [(15,17)],o,by omega,by simp[Gg,Gn,FD,bT,dm]⟩
  ·have ea:=Sv hz
   have em:= λr=>So (V:=V) (r:=r) hz
   have en:=SG hz
   by_cases c2:d.fold=5
   ·have c2':(d.fold=5)=True:=eq_true c2
    by_cases c3:k+1<d.dims.length
    ·rw[if_pos (jE (.inl ⟨o,.inr c3⟩))]at f b
     rw[b]at st g3
     have HT:=Lib.hid (jH (x:=x) q (by rw[f]))
     simp only[dw]at st g3 g1
     repeat' first|simp(disch:=omega)only[go_sem,g1,c2',st,g3,wrap_i64,wl,l,ea,em,en]|((with_reducible refine ab ?_ ?_)<;>intro h<;>try first|omega|simp(disch:=omega)only[go_sem, *,g1,c2',st,g3,wrap_i64,wl,l,ea,em,en])|apply au|(with_reducible refine az (λh=> ?_) ?_)|refine ae cA (lh rfl rfl rfl rfl rfl) (.inl rfl) ?_|refine aF rfl (by intro h;cases h) (ak rfl) (by simp only[List.length_cons,List.length_nil];omega) (by simp only[List.length_cons,List.length_nil];omega) ?_|refine cQ (by intro r hr;cases hr) (ak rfl) (by simp) (by simp) (by simp) ?_
     all_goals try rw[HT.out]
     all_goals exact⟨k+1, [(16,17),(15,18)],o,by omega,by simp[Gg,Gn,FD,bT,dm]⟩
    ·rw[if_neg (show ¬py d k from λh=>by rcases h with h|h;exact h.2.elim (λh=>h c2) c3;omega)]at f b
     have es:=D1 F A C (by rw[b,K])
     rw[b]at g3
     have gq:=g3
     rw[es]at gq
     have HT:=Lib.hid (jH (x:= -1) q (by rw[f]))
     simp only[dw]at gq g1
     repeat' first|simp(disch:=omega)only[go_sem,g1,c2',gq,wrap_i64,wl,l,ea,em,en]|((with_reducible refine ab ?_ ?_)<;>intro h<;>try first|omega|simp(disch:=omega)only[go_sem, *,g1,c2',gq,wrap_i64,wl,l,ea,em,en])|refine ae cA (lh rfl rfl rfl rfl rfl) (.inl rfl) ?_|refine aF rfl (by intro h;cases h) (ak rfl) (by simp only[List.length_cons,List.length_nil];omega) (by simp only[List.length_cons,List.length_nil];omega) ?_|refine cQ (by intro r hr;cases hr) (ak rfl) (by simp) (by simp) (by simp) ?_
     all_goals try rw[HT.out]
     all_goals exact⟨k+1, [(16,17),(15,18)],o,by omega,by simp[Gg,Gn,FD,bT,dm,es]⟩
   ·rw[if_pos (jE (.inl ⟨o,.inl c2⟩))]at f b
    rw[b]at st g3
    have HT:=Lib.hid (jH (x:=x) q (by rw[f]))
    simp only[dw]at st g3 g1
    repeat' first|simp(disch:=omega)only[go_sem,g1,c2,st,g3,wrap_i64,wl,l,ea,em,en]|((with_reducible refine ab ?_ ?_)<;>intro h<;>try first|omega|simp(disch:=omega)only[go_sem, *,g1,c2,st,g3,wrap_i64,wl,l,ea,em,en])|apply au|(with_reducible refine az (λh=> ?_) ?_)|refine ae cA (lh rfl rfl rfl rfl rfl) (.inl rfl) ?_|refine aF rfl (by intro h;cases h) (ak rfl) (by simp only[List.length_cons,List.length_nil];omega) (by simp only[List.length_cons,List.length_nil];omega) ?_|refine cQ (by intro r hr;cases hr) (ak rfl) (by simp) (by simp) (by simp) ?_
    all_goals try rw[HT.out]
    all_goals exact⟨k+1, [(16,17),(15,18)],o,by omega,by simp[Gg,Gn,FD,bT,dm]⟩
 ·obtain rfl:k=d.dims.length:=by omega
  have u:=L9 x6
  have M:(V.drop d.dims.length).length=(tz d.red rs).length:=by rw[List.length_drop,u,O,List.length_append];omega
  have hE:GO (V.take d.dims.length) (tz d.dims ds) d.dims.length=(V.take d.dims.length).map dw:=Mh F l.symm
  have hF:(GO (V.drop d.dims.length) (tz d.red rs) 0)=(tz d.red rs).map dw:=Kl
  refine T6 ⟨[(0,.c (.ptr 6 0)),(3,sK d),(7,.c (.ptr 10 0)),(8,.c (.ptr 11 0)),(10,bw ds),(12,.c (.ptr 12 0)),(13,.c (.ref 15)),(14,.c (.pure (.slice (axs V d.dims.length)))),(56,I d.dims.length),(57,I d.dims.length)],(15,.arr 3 1 (axs V d.dims.length))::(14,.arr 134 3 ((tz d.red rs).map dw))::(13,.arr 134 3 ((V.take d.dims.length).map dw))::(12,.var [.ref 13,.ref 14,.nils])::(11,Ta)::(10,qJ d)::TM ms p d rows L,16,9⟩ (λH=> ?_) ?_
  ·rw[hE]
   by_cases hz:d.dims.length=0
   ·have EZ:=Lib.hid (Su (V:=V) hz)
    rw[Sq hz,SI hz,SU hz]
    clear hz
    refine Rp 14 (axs V d.dims.length) (by rw[EZ.out];rfl) ?_
    clear EZ
    exact ST [] (by simp[bT,dm]) H
   ·rw[Sv hz,So hz,SG hz]
    clear hz
    refine T7 [16] (ST [] ?_ H)
    simp(disch:=omega)only[go_sem,bU]
    simp[bT,dm,Hd]
  refine aa ?_
  repeat' first|simp(disch:=omega)only[go_sem]|((with_reducible refine ab ?_ ?_)<;>intro h<;>try first|omega|simp(disch:=omega)only[go_sem, *])
  refine ai (λm:Nat=>⟨[(0,.c (.ptr 6 0)),(3,sK d),(7,.c (.ptr 10 0)),(8,.c (.ptr 11 0)),(10,bw ds),(12,.c (.ptr 12 0)),(13,.c (.ref 15)),(14,.c (.pure (.slice (axs V d.dims.length)))),(107,I d.red.length),(108,I m)],(15,.arr 3 1 (axs V (d.dims.length+m)))::(14,.arr 134 3 (GO (V.drop d.dims.length) (tz d.red rs) m))::(13,.arr 134 3 ((V.take d.dims.length).map dw))::(12,.var [.ref 13,.ref 14,.nils])::(11,Ta)::(10,qJ d)::TM ms p d rows L,16,9⟩) (λm=>m≤d.red.length) (λm=>d.red.length-m) ⟨0, [],Nat.zero_le _,by simp[u,hF,bT,dm]⟩ ?_
  intro m hm
  refine aa ?_
  by_cases W:m<d.red.length
  ·have A:m<(tz d.red rs).length:=by omega
   have C:m<(V.drop d.dims.length).length:=by omega
   have q:d.dims.length+m<V.length:=by rw[O,List.length_append];omega
   have T:m<rs.length:=by omega
   have X:d.dims.length+m<(ds++rs).length:=by rw[List.length_append];omega
   have f:=HAT.out (d.dims.length+m) (by omega) X q
   have G:=HIX.out.2 m W (by omega)
   have E:d.red[m].1∈ar d:=by rw[←G];exact List.getElem_mem _
   have hB:(ds++rs)[d.dims.length+m]=rs[m]:=by rw[List.getElem_append_right (by omega)];simp only[x5,Nat.add_sub_cancel_left]
   rw[G,hB]at f
   have cA:=HCA.out _ E rs[m] (-1) ((V.take (d.dims.length+m)).map (·.2.2)) (.slice rows)
   have cR:=qM d.fold d.ty
   have K:=LJ x6 W T A
   have g1:=Ii M A
   rw[K]at g1
   have st:=Il M A C
   have g3:=Jc (V0:=tz d.red rs) C
   have b:(V.drop d.dims.length)[m]=V[d.dims.length+m]:=List.getElem_drop ..
   rw[f]at b
   have hC:=Mn (V:=V) (k:=d.dims.length+m)
   have hD:=BR (k:=m) M
   have hA:=BR (k:=m+1) M
   generalize ef L d.red[m].1 rs[m] ((V.take (d.dims.length+m)).map (·.2.2)) d.body.pre=x at*
   clear HAT HCA HIX HEQ HLK E G hB
   by_cases c4:eM d.fold d.ty
   ·rw[decide_eq_true c4]at cR
    rw[if_pos (jE (.inr ⟨by omega,c4⟩))]at f b
    rw[b]at st g3
    have HT:Hid (axs V (d.dims.length+m)++ [[pI x]]=axs V (d.dims.length+(m+1))):=Lib.hid (jH (x:=x) q (by rw[f]))
    simp only[dw]at st g3 g1
    repeat' first|simp(disch:=omega)only[go_sem,g1,st,g3,wrap_i64,u]|((with_reducible refine ab ?_ ?_)<;>intro h<;>try first|omega|simp(disch:=omega)only[go_sem, *,g1,st,g3,wrap_i64,u])|apply au|(with_reducible refine az (λh=> ?_) ?_)|refine ae cR rfl (.inl rfl) ?_|refine ae cA (lh rfl rfl rfl rfl rfl) (.inl rfl) ?_|refine aF rfl (by intro h;cases h) (ak rfl) (by simp only[List.length_cons,List.length_nil];omega) (by simp only[List.length_cons,List.length_nil];omega) ?_
    all_goals try rw[HT.out]
    all_goals exact⟨m+1, [(15,16)],W,by omega,by simp[bT,dm]⟩
   ·rw[decide_eq_false c4]at cR
    rw[if_neg (show ¬py d (d.dims.length+m)from λh=>by rcases h with h|h;omega;exact c4 h.2)]at f b
    have es:=D1 M A C (by rw[b,K])
    rw[b]at g3
    have HT:Hid (axs V (d.dims.length+m)++ [[pI (-1)]]=axs V (d.dims.length+(m+1))):=Lib.hid (jH (x:= -1) q (by rw[f]))
    have gq:=g3
    rw[es]at gq
    simp only[dw]at gq g1
    repeat' first|simp(disch:=omega)only[go_sem,g1,gq,wrap_i64,u]|((with_reducible refine ab ?_ ?_)<;>intro h<;>try first|omega|simp(disch:=omega)only[go_sem, *,g1,gq,wrap_i64,u])|refine ae cR rfl (.inl rfl) ?_|refine aF rfl (by intro h;cases h) (ak rfl) (by simp only[List.length_cons,List.length_nil];omega) (by simp only[List.length_cons,List.length_nil];omega) ?_
    all_goals try rw[HT.out]
    all_goals exact⟨m+1, [(15,16)],W,by omega,by simp[bT,dm,es]⟩
  ·obtain rfl:m=d.red.length:=by omega
   have hG:GO (V.drop d.dims.length) (tz d.red rs) d.red.length=(V.drop d.dims.length).map dw:=Mh M u.symm
   obtain⟨eD,eS⟩:=HEQ.out
   obtain⟨lD,lS⟩:=HLK.out
   have eS': ∀z,C4 (pC gS L++ [(MK.str d.name.data.toList,z)]) L.length [.pure (.slice (axs V d.dims.length))]=pC gS (L++ [(d.name,ds,(V.take d.dims.length).map (·.2.2))]):=eS
   clear HAT HCA HIX HEQ HLK eS
   rw[hG]
   repeat' first|simp(disch:=omega)only[go_sem,wrap_i64,lD,lS,sS,BX,eD,eS']|((with_reducible refine ab ?_ ?_)<;>intro h<;>try first|omega|simp(disch:=omega)only[go_sem, *,wrap_i64,lD,lS,sS,BX,eD,eS'])|apply au|(with_reducible refine az (λh=> ?_) ?_)
   all_goals refine⟨[13,14], [], ?_⟩
   all_goals simp(disch:=omega)only[go_sem,bU,eD,eS',Hd]
   all_goals simp[bT,dm,Hd]
end Go.Proofs.YtjhkikmonejkjaaGreatDoor
