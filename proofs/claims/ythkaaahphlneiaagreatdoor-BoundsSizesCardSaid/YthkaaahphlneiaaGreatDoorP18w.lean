import Derived.Test.YthkaaahphlneiaaGreatDoorV18m
import Derived.Test.YthkaaahphlneiaaGreatDoorVCq
import Derived.Test.YthkaaahphlneiaaGreatDoorV17m
import Derived.Test.YthkaaahphlneiaaGreatDoorV17x
set_option linter.unusedVariables false
set_option linter.unusedSimpArgs false
set_option maxRecDepth 20000
set_option maxHeartbeats 4000000
set_option maxRecDepth 1000000
namespace Go.Proofs.YthkaaahphlneiaaGreatDoor
open Go.Abs Go.RowKit
def PS (p:bK):Prop:=(∀c∈p.wher,bj c.1)∧(∀x∈p.params,∀l∈x.2.2,bj l)∧ ∀d∈p.defs,(∀a∈d.dims++d.red,bj a.2)∧ ∀e∈d.body.pre,∀l∈e.forms,bj l
theorem rJ (d:zH) (h1:d.dims.length≤1000) (h2:d.red.length≤1000):ac Tryz.prog oz [JI d] (d8 ed (d.dims++d.red)):=by
 refine ac.of FI (by simp) fun hb=>aa ?_
 conv in wC=>cbv
 have hd:bl 3 (d.dims.map ed):=ar fun x=>rfl
 have hr:bl 3 (d.red.map ed):=ar fun x=>rfl
 have tk:(d.dims.map ed).take d.dims.length=d.dims.map ed:=List.take_of_length_le (by simp)
 by_cases h:d.red= []
 ·have hl:d.red.map ed= []:=by rw[h];rfl
  have e:d.dims++d.red=d.dims:=by rw[h,List.append_nil]
  rw[e]
  clear h e
  repeat' first|simp(disch:=omega) only[go_sem, *,hd,hl,tk,Int.toNat_zero,Option.getD_none,Option.getD_some]|((with_reducible refine ab ?_ ?_)<;>intro h<;>try omega)|(with_reducible refine af ?_ ?_)|(with_reducible refine ag (fun h=> ?_) ?_)|(refine dN hd ?_)
  all_goals rfl
 ·have hne:d.red.map ed≠ []:=by simpa using h
  rw[show d8 ed (d.dims++d.red)= .c (.pure (.slice (d.dims.map ed++d.red.map ed))) by show AV.c (.pure (.slice (List.map ed (_++_))))=_;rw[List.map_append]]
  clear h
  repeat' first|simp(disch:=omega) only[go_sem, *,hd,tk,Int.toNat_zero,Option.getD_none,Option.getD_some]|((with_reducible refine ab ?_ ?_)<;>intro h<;>try omega)|(with_reducible refine af ?_ ?_)|(with_reducible refine ag (fun h=> ?_) ?_)|(refine dI hd hr hne (by simp;omega) (by simp;omega) ?_)
  all_goals rfl
theorem W7 {L:List ByteArray}: ∀{l:List ByteArray},l.Nodup→(∀x∈l,x∈L)→l.length≤L.length:=by
 intro l
 induction l generalizing L with
 |nil=>intro _ _;simp
 |cons x r ih=>
  intro hn hs
  obtain⟨s,t,rfl⟩:=List.append_of_mem (hs x List.mem_cons_self)
  have h1:=ih (L:=s++t) (List.nodup_cons.1 hn).2 fun y hy=>by
   have hne: ¬y=x:=fun e=>(List.nodup_cons.1 hn).1 (e▸hy)
   have:=hs y (List.mem_cons_of_mem _ hy)
   simp only[List.mem_append,List.mem_cons]at this ⊢
   rcases this with h|h|h
   ·exact .inl h
   ·exact absurd h hne
   ·exact .inr h
  simp only[List.length_append,List.length_cons]at h1 ⊢
  omega
theorem Oi {l:List aP} (h:Sd l) {L:List ByteArray} (hk: ∀m∈l,m.1∈L):l.length≤L.length:=by
 have h1:(l.map (·.1)).Nodup:=by
  rw[List.Nodup,List.pairwise_map]
  exact h.imp fun h=>sY h
 have:=W7 h1 (L:=L) fun x hx=>by
  obtain⟨m,hm,rfl⟩:=List.mem_map.1 hx
  exact hk m hm
 simpa using this
section
variable {p : bK}
theorem uM (h:(c7 p).2=0):jE p∧(∀s∈p.sizes,fp s)∧(∀j,j<p.params.length→x5 p j=0)∧ ∀j,j<p.defs.length→yR p j=0:=by
 have h0:jE p:=Classical.byContradiction fun hn=>by rw[xp hn]at h;cases h
 have h1:mN p=0:=Classical.byContradiction fun hn=>by rw[zK h0 rfl hn]at h;exact hn h
 have h2:ua p=0:=Classical.byContradiction fun hn=>by rw[Aj h0 h1 rfl hn]at h;exact hn h
 have h3: ∀j,j<p.params.length→x5 p j=0:=by
  intro j
  induction j using Nat.strongRecOn with
  |_ j ih=>
   intro hj
   refine Classical.byContradiction fun hn=> ?_
   rw[xC h0 h1 h2 hj (fun i hi=>ih i hi (by omega)) rfl hn]at h
   exact hn h
 have h4: ∀j,j<p.defs.length→yR p j=0:=by
  intro j
  induction j using Nat.strongRecOn with
  |_ j ih=>
   intro hj
   refine Classical.byContradiction fun hn=> ?_
   rw[xR h0 h1 h2 h3 hj (fun i hi=>ih i hi (by omega)) rfl hn]at h
   exact hn h
 refine⟨h0,fun s hs=> ?_,h3,h4⟩
 obtain⟨j,hj,rfl⟩:=List.mem_iff_getElem.1 hs
 have h5:S5 p j=0:=kn h1 _ (List.mem_map.2 ⟨j,List.mem_range.2 hj,rfl⟩)
 rw[Nd hj]at h5
 unfold aO at h5
 exact Classical.byContradiction fun hn=>by rw[if_pos hn]at h5;cases h5
theorem Hu {sizes:List ByteArray}: ∀{l:List eY} {taken:List ByteArray},bk sizes taken l=0→ ∀a∈l,fp a.1∧cd a.2.2∧eU [] sizes a.2
 | [],_,_,a,ha=>by cases ha
 |x::r,taken,h,a,ha=>by
  unfold bk at h
  split at h
  ·rename_i hn;exact absurd h hn
  ·rename_i hn
   split at h
   ·rename_i hf;exact absurd h hf
   ·rename_i hf
    rcases List.mem_cons.1 ha with rfl|ha
    ·have hn:=Classical.not_not.1 hn
     have hf:=Classical.not_not.1 hf
     unfold aO at hn
     unfold bq at hf
     refine⟨Classical.byContradiction fun h=>(by rw[if_pos h]at hn;cases hn),Classical.byContradiction fun h=>(by rw[if_pos h]at hf;cases hf),Classical.byContradiction fun h=> ?_⟩
     split at hf
     ·cases hf
     ·first|(cases hf;done)|(rw[if_pos h]at hf;cases hf)
    ·exact Hu h a ha
theorem HZ {k:Nat} (hk:k<p.defs.length) (h:yR p k=0):(∀a∈p.defs[k].dims++p.defs[k].red,fp a.1∧cd a.2.2∧eU [] p.sizes a.2)∧(bi (ce p k) (aT p.defs[k]) p.defs[k].body).2=0:=by
 rw[CL hk]at h
 unfold bh at h
 split at h
 ·contradiction
 ·split at h
  ·cases h
  ·split at h
   ·cases h
   ·split at h
    ·contradiction
    ·rename_i h1
     split at h
     ·contradiction
     ·split at h
      ·contradiction
      ·rename_i h2
       exact⟨Hu (Classical.not_not.1 h1),Classical.not_not.1 h2⟩
theorem Iy {q:bK} {vars:List ByteArray} {e:Ex} (h:(bi q vars e).2=0):gT e=0∧(d9 q vars e).2=0:=by
 unfold bi at h
 split at h
 ·contradiction
 ·rename_i h1
  split at h
  ·cases h
  ·split at h
   ·contradiction
   ·rename_i h2
    exact⟨Classical.not_not.1 h1,Classical.not_not.1 h2⟩
theorem Ii {q:bK} {vars:List ByteArray}: ∀{l:List Ex} {ts:List Ty},dF q vars l= .inr ts→ ∀a∈l,(d9 q vars a).2=0
 | [],_,_,a,ha=>by cases ha
 |e::l,ts,h,a,ha=>by
  simp only[dF]at h
  split at h
  ·cases h
  ·rename_i h1
   split at h
   ·cases h
   ·rename_i l' hl
    rcases List.mem_cons.1 ha with rfl|ha
    ·exact Classical.not_not.1 h1
    ·exact Ii hl a ha
theorem Hx {q:bK} {vars:List ByteArray} {e:Ex} (h:(d9 q vars e).2=0):(∀a∈e.args,(d9 q vars a).2=0)∧ ∃l,(aR q vars e l).2=0:=by
 rw[nM]at h
 split at h
 ·rename_i err hx
  exfalso
  have key: ∀{l:List Ex} {x:Int},dF q vars l= .inl x→x≠0:=by
   intro l
   induction l with
   |nil=>intro x h;cases h
   |cons e r ih=>
    intro x h
    simp only[dF]at h
    split at h
    ·rename_i h1;cases h;exact h1
    ·split at h
     ·rename_i h2;cases h;exact ih h2
     ·cases h
  exact key hx h
 ·rename_i l hx
  exact⟨Ii hx,l,h⟩
theorem BH {q:bK} {vars:List ByteArray} (e:Ex):iE e→(∀a∈e.pre,qz a)→(d9 q vars e).2=0→ ∀a∈e.pre,∀l∈a.forms,eU vars q.sizes l:=by
 refine Ex.ind (p:=fun e=>iE e→(∀a∈e.pre,qz a)→(d9 q vars e).2=0→ ∀a∈e.pre,∀l∈a.forms,eU vars q.sizes l) (fun e ih hr hs ht=> ?_) e
 obtain⟨h1,ts,h2⟩:=Hx ht
 intro a ha
 rw[Ex.pre_eq]at ha
 rcases List.mem_cons.1 ha with rfl|ha
 ·have hsa:=hs a (by rw[Ex.pre_eq];exact List.mem_cons_self)
  obtain⟨s1,s2,s3,s4,s5,s6⟩:=hsa
  have nilK: ∀{l:ca},Ei l→eU vars q.sizes l:=fun h m hm=>by
   have:=List.eq_nil_of_length_eq_zero h.2
   rw[this]at hm;cases hm
  intro l hl
  rcases List.mem_cons.1 hl with rfl|hl
  ·by_cases h0:a.op=2
   ·unfold aR at h2
    rw[if_neg (by omega),if_pos h0]at h2
    unfold dQ at h2
    exact Classical.byContradiction fun hn=>by rw[if_neg (fun h=>hn (h _ List.mem_cons_self))]at h2;cases h2
   ·exact nilK (s4 h0)
  ·obtain⟨x,hx,hl⟩:=List.mem_flatMap.1 hl
   by_cases h0:a.op=3
   ·unfold aR at h2
    rw[if_neg (by omega),if_neg (by omega),if_pos h0]at h2
    unfold f7 at h2
    split at h2
    ·cases h2
    ·split at h2
     ·cases h2
     ·split at h2
      ·contradiction
      ·rename_i hz
       have hix:=kn (Classical.not_not.1 hz) _ (List.mem_map.2 ⟨x,hx,rfl⟩)
       unfold gD at hix
       split at hix
       ·rename_i hf
        rcases List.mem_cons.1 hl with rfl|hl
        ·unfold dQ at hix
         exact Classical.byContradiction fun hn=>by rw[if_neg (fun h=>hn (h _ List.mem_cons_self))]at hix;cases hix
        ·have:=List.eq_nil_of_length_eq_zero ((s6 x hx).1 hf)
         rw[this]at hl;cases hl
       ·rename_i hf
        rcases List.mem_cons.1 hl with rfl|hl
        ·exact nilK ((s6 x hx).2 hf)
        ·split at hix
         ·cases hix
         ·split at hix
          ·cases hix
          ·split at hix
           ·cases hix
           ·unfold dQ at hix
            exact Classical.byContradiction fun hn=>by rw[if_neg (fun h=>hn (h _ hl))]at hix;cases hix
   ·have:=List.eq_nil_of_length_eq_zero (s5 h0).2
    rw[this]at hx;cases hx
 ·
  have key: ∀l:List Ex,a∈Ex.pres l→ ∃b∈l,a∈b.pre:=by
   intro l
   induction l with
   |nil=>intro h;simp[Ex.pres]at h
   |cons b r ihr=>
    intro h
    rw[Ex.pres]at h
    rcases List.mem_append.1 h with h|h
    ·exact⟨b,List.mem_cons_self,h⟩
    ·obtain⟨c,hc,h⟩:=ihr h
     exact⟨c,List.mem_cons_of_mem _ hc,h⟩
  obtain⟨b,hb,hab⟩:=key _ ha
  exact ih b hb (iJ hr hb) (fun c hc=>hs c (by
   rw[Ex.pre_eq]
   refine List.mem_cons_of_mem _ ?_
   clear key ha hab ih h1 h2 hr hs ht
   generalize e.args=l at hb
   induction l with
   |nil=>cases hb
   |cons y r ihr=>
    rw[Ex.pres]
    rcases List.mem_cons.1 hb with rfl|hb
    ·exact List.mem_append_left _ hc
    ·exact List.mem_append_right _ (ihr hb))) (h1 b hb) a hab
theorem Tv (hl: ¬lR p) (h:(c7 p).2=0):X0 p:=by
 obtain⟨⟨c1,c2,c3,c4,c5⟩,hs,hp,hd⟩:=uM h
 have hf:=Aq hl
 refine⟨⟨by omega,by omega,by omega,by omega,by omega⟩,fun c hc=> ?_,fun x hx=>⟨by have:=(hf.1 x hx).1;omega,fun l hlm=>by have:=(hf.1 x hx).2 l hlm;omega⟩,fun d hdm=> ?_⟩
 ·have: ¬20<c.1.2.length:=fun hh=>hl (.inr (.inl ⟨c,hc,hh⟩))
  omega
 ·obtain⟨f1,f2,f3,f4⟩:=hf.2 d hdm
  refine⟨⟨by omega,fun a ha=>by have:=f3 a ha;omega⟩,⟨by omega,fun a ha=>by have:=f4 a ha;omega⟩, ?_⟩
  obtain⟨k,hk,rfl⟩:=List.mem_iff_getElem.1 hdm
  obtain⟨_,ht⟩:=HZ hk (hd k hk)
  obtain⟨t1,t2⟩:=Iy ht
  have hr:=vj t1
  have hz: ∀a∈p.defs[k].body.pre,ba a=0:=by
   intro a ha
   unfold gT at t1
   split at t1
   ·cases t1
   ·split at t1
    ·cases t1
    ·exact kn t1 _ (List.mem_map.2 ⟨a,ha,rfl⟩)
  have hkn:=BH _ hr (fun a ha=>(m4 (hz a ha)).1) t2
  intro a ha
  obtain⟨r1,r2,r3,r4,r5⟩:=hr a ha
  have har:jn a.op≤3:=by unfold jn;(repeat' split)<;>omega
  refine⟨by omega,by omega,fun l hlm=> ?_,fun x hx=>by have:=r5 x hx;omega⟩
  have hsr:=(mB.1 ((m4 (hz a ha)).2.2.2.2.2 l hlm)).1
  have:=Oi hsr (L:=aT p.defs[k]++p.sizes) fun m hm=>by
   rcases hkn a ha l hlm m hm with h|h
   ·exact List.mem_append_left _ h
   ·exact List.mem_append_right _ h
  have hln:(aT p.defs[k]).length≤24:=by unfold aT;simp;omega
  simp only[List.length_append]at this
  omega
end
set_option maxRecDepth 20000
open Go.Abs Go.RowKit
abbrev sn:ByteArray:=⟨⟨[110]⟩⟩
abbrev si:ByteArray:=⟨⟨[105]⟩⟩
abbrev sa:ByteArray:=⟨⟨[97]⟩⟩
abbrev sb:ByteArray:=⟨⟨[98]⟩⟩
abbrev se:ByteArray:=⟨⟨[]⟩⟩
def TQ:Ty:=(1,0,0,0,0)
def fN:ca:=(0, [(sn,1)])
def Yu (k:Int):ca:=(k, [(si,1)])
def oF (k:Int):Ex:= .mk 3 sa (0,0) (0,0,0,0,0) (0, []) [(Yu k,se, [])] []
def Mv (k:Int):zH:=⟨sb,TQ, [(si,fN)], [],0,oF k⟩
def sH (k:Int):bK:=⟨[sn], [], [(sa,TQ, [fN])], [Mv k], [sb]⟩
theorem Jm {c:UInt8} (h1:97≤c.toNat) (h2:c.toNat≤122):fp ⟨⟨[c]⟩⟩:=by
 refine⟨by simp[ByteArray.size],by simp[ByteArray.size], ?_,fun i h=> ?_⟩
 ·intro h
  simp[wm]at h
 ·obtain rfl:i=0:=by simp[ByteArray.size]at h;omega
  exact .inl ⟨h1,h2⟩
theorem Wf:fp sn:=Jm (by decide) (by decide)
theorem Xn:fp si:=Jm (by decide) (by decide)
theorem X3:fp sa:=Jm (by decide) (by decide)
theorem Y7:fp sb:=Jm (by decide) (by decide)
theorem OV {s:ByteArray} {k:Int} (h:fp s) (hk:k≠0):cd [(s,k)]:=by
 intro i hi hi2
 obtain rfl:i=0:=by simpa using hi2
 exact⟨h,hk,fun h=>by omega⟩
theorem Wo:cd []:=fun i hi=>absurd hi (by simp)
theorem NU {sizes:List ByteArray} {f:ca} {s:ByteArray} {c k:Int} (e:f=(c, [(s,k)])) (h:fp s) (hk:k≠0) (hs:s∈sizes):bq sizes f=0:=by
 subst e
 unfold bq
 have hn:eU [] sizes (c, [(s,k)]):=fun m hm=>by
  obtain rfl:=List.mem_singleton.1 hm
  exact .inr hs
 rw[if_neg (not_not_intro (OV h hk)),if_neg (not_not_intro hn)]
theorem JQ {l:List ByteArray} {s:ByteArray} (h:fp s) (hs: ¬s∈l):aO l s=0:=by
 unfold aO
 rw[if_neg (not_not_intro h),if_neg hs]
theorem Ve:l8 TQ:= .inl ⟨.inl rfl,rfl,rfl,rfl,rfl⟩
theorem Yb (k:Int):gT (oF k)=0:=by
 have e1:(oF k).dep=1:=by simp[oF,Ex.dep,Ex.deps]
 have e2:(oF k).sz=1:=by simp[oF,Ex.sz,Ex.szs]
 have e3:(oF k).pre= [oF k]:=by rw[oF,Ex.pre,Ex.pres]
 unfold gT jt
 rw[e1,e2,e3,if_neg (by decide),if_neg (by decide)]
 have h1:qz (oF k):=⟨⟨by simp[oF,Ex.op],by simp[oF,Ex.op]⟩,fun _=>⟨rfl,rfl⟩,fun _ _=>⟨rfl,rfl,rfl,rfl,rfl⟩,fun _=>⟨rfl,rfl⟩,fun h=>absurd rfl h,fun x hx=>by
  obtain rfl:=List.mem_singleton.1 hx
  exact⟨fun _=>rfl,fun h=>absurd rfl h⟩⟩
 have h2:tG (oF k):=⟨fun _=>X3,fun x hx h=>by
  obtain rfl:=List.mem_singleton.1 hx
  exact absurd rfl h⟩
 have h3:tg (oF k):=⟨rfl,by simp[oF,Ex.idx],fun x hx=>by
  obtain rfl:=List.mem_singleton.1 hx
  simp⟩
 have h4:nv (oF k):=⟨fun h=>by simp[oF,Ex.op]at h,fun i h=>by simp[oF,Ex.args]at h⟩
 have h5:tO (oF k):=by
  refine⟨fun h=>by simp[oF,Ex.op]at h,fun l hl=> ?_⟩
  simp[oF,Ex.forms,Ex.lin,Ex.idx]at hl
  rcases hl with rfl|rfl
  ·exact Wo
  ·exact OV Xn (by decide)
 have h:ba (oF k)=0:=by
  unfold ba
  rw[if_neg (not_not_intro h1),if_neg (not_not_intro h2),if_neg (not_not_intro h3),if_neg (not_not_intro h4),if_neg (not_not_intro h5)]
 simp[cQ,h]
theorem Ww (k:Int) {q:bK} (hs:q.sizes= [sn]) (hp:q.params= [(sa,TQ, [fN])]):bi q [si] (oF k)=(TQ,0):=by
 have hf:c8 q sa=some (TQ, [fN]):=by simp[c8,hp]
 have hi:gD q [si] (Yu k,se, [])=0:=by
  unfold gD dQ
  rw[if_pos rfl,if_pos]
  intro x hx m hm
  obtain rfl:=List.mem_singleton.1 hx
  obtain rfl:=List.mem_singleton.1 hm
  exact .inl (List.mem_singleton.2 rfl)
 have hr:f7 q [si] (oF k)=(TQ,0):=by
  unfold f7
  rw[show(oF k).name=sa from rfl,hf]
  simp only
  rw[if_neg (by simp[oF,Ex.idx]),if_neg]
  show ¬cQ ([(Yu k,se, [])].map (gD q [si]))≠0
  simp[cQ,hi]
 have he:d9 q [si] (oF k)=(TQ,0):=by
  rw[nM,show(oF k).args= []from rfl,dF]
  simp only
  unfold aR
  rw[show(oF k).op=3 from rfl]
  simp[hr]
 unfold bi
 rw[if_neg (not_not_intro (Yb k)),if_neg (by simp[oF,Ex.op,lF]),he]
 simp
theorem GQ (k:Int):c7 (sH k)=(0,0):=by
 refine zZ (by simp[jE,sH]) (DY fun j hj=> ?_) (by simp[ua,sH,cQ]) (fun j hj=> ?_) (fun j hj=> ?_) fun j hj=> ?_
 ·obtain rfl:j=0:=by simpa[sH]using hj
  exact JQ Wf (by simp)
 ·obtain rfl:j=0:=by simpa[sH]using hj
  rw[JZ hj]
  have h1:aO (dM (sH k) 0) sa=0:=JQ X3 (by simp[dM,sH])
  have h2:bq [sn] fN=0:=NU rfl Wf (by decide) (List.mem_singleton.2 rfl)
  show dC [sn] (dM (sH k) 0) (sa,TQ, [fN])=0
  unfold dC
  simp[h1,h2,Ve,cQ]
 ·obtain rfl:j=0:=by simpa[sH]using hj
  rw[CL hj]
  have h1:aO (dV (sH k) 0) sb=0:=JQ Y7 (by simp[dV,sH])
  have h2:bq [sn] fN=0:=NU rfl Wf (by decide) (List.mem_singleton.2 rfl)
  have h3:aO [sn] si=0:=JQ Xn (by simp)
  show bh (sH k) 0 (dV (sH k) 0) (Mv k)=0
  have h4:bk [sn] [sn] [(si,fN)]=0:=by simp[bk,h3,h2]
  have h5:f8 (Mv k)=0:=by simp[f8,Mv]
  have h6:=Ww k (q:=⟨[sn], [],(sH k).params,(sH k).defs.take 0, []⟩) rfl rfl
  unfold bh
  rw[show(Mv k).name=sb from rfl,show(Mv k).ty=TQ from rfl,show(Mv k).dims= [(si,fN)]from rfl,show(Mv k).red= []from rfl,show(sH k).sizes= [sn]from rfl,show aT (Mv k)= [si]from rfl,show(Mv k).body=oF k from rfl,List.append_nil]
  rw[h1,h4,h5,h6]
  simp[Ve]
 ·obtain rfl:j=0:=by simpa[sH]using hj
  rw[Jx hj]
  have:c8 (sH k) sb≠none:=by simp[c8,sH,Mv]
  show(if c8 (sH k) sb=none then(9:Int)else if sb∈ []then 8 else 0)=0
  rw[if_neg this]
  simp
theorem Hj {k:Int}: ¬lR (sH k):=by
 have hw:mQ (oF k) 300=3:=by
  rw[LZ]
  have e1:w0 (oF k)=2:=by unfold w0;simp[oF,Ex.idx,Ex.lin,wrap_i64]
  rw[show(oF k).args= []from rfl,show(oF k).idx= [(Yu k,se, [])]from rfl,e1]
  simp[rL,An,Qp,Yu,wrap_i64]
 rintro((h|h|h|h|h)|⟨c,hc,_⟩|⟨x,hx,h⟩|⟨d,hd,h⟩)
 ·simp[sH]at h
 ·simp[sH]at h
 ·simp[sH]at h
 ·simp[sH]at h
 ·simp[sH]at h
 ·simp[sH]at hc
 ·obtain rfl:=List.mem_singleton.1 hx
  rcases h with h|⟨l,hl,h⟩
  ·simp at h
  ·obtain rfl:=List.mem_singleton.1 hl
   simp[fN]at h
 ·obtain rfl:=List.mem_singleton.1 hd
  rcases h with h|h|h|⟨a,ha,h⟩
  ·simp[Mv]at h
  ·simp[Mv]at h
  ·rw[show(Mv k).body=oF k from rfl,hw]at h
   omega
  ·obtain rfl:a=(si,fN):=by simpa[Mv]using ha
   simp[fN]at h
theorem V0 {k:Int}:sd (sH k):=by
 intro d hd a ha
 obtain rfl:=List.mem_singleton.1 hd
 rw[show(Mv k).body=oF k from rfl,show(oF k).pre= [oF k] by rw[oF,Ex.pre,Ex.pres]]at ha
 obtain rfl:=List.mem_singleton.1 ha
 exact⟨by simp[oF,Ex.val,aA],by simp[oF,Ex.val,aA]⟩
end Go.Proofs.YthkaaahphlneiaaGreatDoor
