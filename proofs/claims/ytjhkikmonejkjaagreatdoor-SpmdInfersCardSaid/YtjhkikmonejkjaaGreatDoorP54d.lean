import Derived.Test.YtjhkikmonejkjaaGreatDoorP54b
set_option linter.unusedVariables false
set_option linter.unusedSimpArgs false
namespace Go.Proofs.YtjhkikmonejkjaaGreatDoor
open Go.Abs Go.RowKit
def sQ (a:Ex) (s:ByteArray):Prop:=a.op=3∧a.name=s
def G7 (pre:List Ex) (s:ByteArray) (j:Nat) (Q:ByteArray→Prop) (k:Nat) (u:ByteArray):Prop:=
 (∀i (h:i<pre.length),i<k→ ∀y∈pre[i].idx,y.2.1≠s)∧
 ((u=mC∧ ∀i (h:i<pre.length),i<k→ ¬sQ pre[i] s)∨
  (u≠mC∧(∀i (h:i<pre.length),i<k→sQ pre[i] s→ ∃y,pre[i].idx[j]? =some y∧d8 y u)∧(∃i,∃h:i<pre.length,i<k∧sQ pre[i] s)∧Q u))
section
variable {pre : List Ex} {V : List V3} {s u w : ByteArray} {j k : Nat} {x : Int} {Q : ByteArray → Prop}
theorem F5:G7 pre s j Q 0 mC:=⟨λi _ h=>absurd h (by omega),.inl ⟨rfl,λi _ h=>absurd h (by omega)⟩⟩
theorem tN (hk:k<pre.length) (hi:G7 pre s j Q k u) (hF: ∀y∈pre[k].idx,y.2.1≠s) (hn: ¬sQ pre[k] s):G7 pre s j Q (k+1) u:=by
 obtain⟨h1,h2⟩:=hi
 have e: ∀i,i<k+1→i<k∨i=k:= λi h=>by omega
 refine⟨λi h h'=> ?_, ?_⟩
 ·rcases e i h' with h'|rfl
  ·exact h1 i h h'
  ·exact hF
 ·rcases h2 with⟨h2,h3⟩|⟨h2,h3,⟨i0,h4,h5,h6⟩,h7⟩
  ·refine .inl ⟨h2,λi h h'=> ?_⟩
   rcases e i h' with h'|rfl
   ·exact h3 i h h'
   ·exact hn
  ·refine .inr ⟨h2,λi h h' hr=> ?_,⟨i0,h4,by omega,h6⟩,h7⟩
   rcases e i h' with h'|rfl
   ·exact h3 i h h' hr
   ·exact absurd hr hn
theorem tQ {y:Ix} (hk:k<pre.length) (hi:G7 pre s j Q k u) (hF: ∀y∈pre[k].idx,y.2.1≠s) (hr:sQ pre[k] s) (hy:pre[k].idx[j]? =some y) (hu:d8 y w) (hw:w≠mC) (hv:Q w) (he:u=mC∨u=w):G7 pre s j Q (k+1) w:=by
 obtain⟨h1,h2⟩:=hi
 have e: ∀i,i<k+1→i<k∨i=k:= λi h=>by omega
 refine⟨λi h h'=> ?_,.inr ⟨hw,λi h h' g=> ?_,⟨k,hk,by omega,hr⟩,hv⟩⟩
 ·rcases e i h' with h'|rfl
  ·exact h1 i h h'
  ·exact hF
 ·rcases e i h' with h'|rfl
  ·rcases h2 with⟨h2,h3⟩|⟨h2,h3,_⟩
   ·exact absurd g (h3 i h h')
   ·rcases he with he|he
    ·exact absurd he h2
    ·rw[←he]
     exact h3 i h h' g
  ·exact⟨y,hy,hu⟩
theorem Py (hs:s∈ld pre): ∃i,∃h:i<pre.length,sQ pre[i] s∨ ∃y∈pre[i].idx,y.2.1=s:=by
 obtain⟨a,ha,h⟩:=List.mem_flatMap.1 hs
 obtain⟨i,hi,rfl⟩:=List.mem_iff_getElem.1 ha
 refine⟨i,hi, ?_⟩
 unfold SA at h
 rcases List.mem_append.1 h with h|h
 ·split at h
  ·exact .inl ⟨‹_›,(List.mem_singleton.1 h).symm⟩
  ·cases h
 ·obtain⟨y,hy,e⟩:=List.mem_map.1 (List.mem_filter.1 h).1
  exact .inr ⟨y,hy,e⟩
theorem Kg (hi:G7 pre s j Q pre.length u) (hs:s∈ld pre):u≠mC∧Q u∧(jT pre V s j x↔ ∃v∈V,v.1=u∧v.2.2=x):=by
 obtain⟨h1,h2⟩:=hi
 obtain⟨i,h,hr⟩:=Py hs
 have hr:sQ pre[i] s:=by
  rcases hr with hr|⟨y,hy,e⟩
  ·exact hr
  ·exact absurd e (h1 i h h y hy)
 rcases h2 with⟨_,h3⟩|⟨h2,h3,_,h4⟩
 ·exact absurd hr (h3 i h h)
 ·refine⟨h2,h4,λha=> ?_,λhv=>⟨λa ha=> ?_,u,h2,λa ha r hn=> ?_,hv⟩⟩
  ·obtain⟨_,u',h5,h6,h7⟩:=ha
   obtain⟨y,hy,hu⟩:=h3 i h h hr
   obtain⟨y',b,c⟩:=h6 _ (List.getElem_mem h) hr.1 hr.2
   rw[hy]at b
   cases b
   rw[zI hu c]
   exact h7
  ·obtain⟨m,hm,rfl⟩:=List.mem_iff_getElem.1 ha
   exact h1 m hm hm
  ·obtain⟨m,hm,rfl⟩:=List.mem_iff_getElem.1 ha
   exact h3 m hm hm ⟨r,hn⟩
theorem IX {y:Ix} (hk:k<pre.length) (hy:y∈pre[k].idx) (he:y.2.1=s): ¬jT pre V s j x:= λh=>h.1 _ (List.getElem_mem hk) y hy he
theorem RV {y:Ix} (hk:k<pre.length) (hr:sQ pre[k] s) (hy:pre[k].idx[j]? =some y) (hn: ∀v∈V,¬(d8 y v.1∧v.2.2=x)): ¬jT pre V s j x:= λh=>by
 obtain⟨_,u',h5,h6,v,hv,h7,h8⟩:=h
 obtain⟨y',b,c⟩:=h6 _ (List.getElem_mem hk) hr.1 hr.2
 rw[hy]at b
 cases b
 exact hn v hv ⟨h7▸c,h8⟩
theorem Qq {y:Ix} (hk:k<pre.length) (hr:sQ pre[k] s) (hy:pre[k].idx[j]? =some y) (hn:mc y=mC): ¬jT pre V s j x:= λh=>by
 obtain⟨_,u',h5,h6,_⟩:=h
 obtain⟨y',b,c⟩:=h6 _ (List.getElem_mem hk) hr.1 hr.2
 rw[hy]at b
 cases b
 exact h5 ((DO c).symm.trans hn)
theorem LZ {y:Ix} (hk:k<pre.length) (hi:G7 pre s j Q k u) (h0:u≠mC) (hr:sQ pre[k] s) (hy:pre[k].idx[j]? =some y) (hu:d8 y w) (he:u≠w): ¬jT pre V s j x:= λh=>by
 obtain⟨_,u',h5,h6,_⟩:=h
 obtain⟨y',b,c⟩:=h6 _ (List.getElem_mem hk) hr.1 hr.2
 rw[hy]at b
 cases b
 rcases hi.2 with⟨h2,_⟩|⟨_,h3,⟨i,o,t,f⟩,_⟩
 ·exact h0 h2
 ·obtain⟨z,hz,A⟩:=h3 i o t f
  obtain⟨z',p,q⟩:=h6 _ (List.getElem_mem o) f.1 f.2
  rw[hz]at p
  cases p
  exact he ((zI A q).trans (zI c hu))
end
theorem IK {l:List Ex} {V:List V3} {s:ByteArray} {sp:List Int} {m:Nat} (h:m<sp.length) (hc:0≤sp[m]∧ ¬jT l V s m sp[m]):pg l V s m (sp.drop m)=(1,sp[m],(m:Int),(m:Int),s)::pg l V s (m+1) (sp.drop (m+1)):=by
 rw[List.drop_eq_getElem_cons h,pg,if_pos hc]
 rfl
theorem BY {l:List Ex} {V:List V3} {s:ByteArray} {sp:List Int} {m:Nat} (h:m<sp.length) (hc: ¬(0≤sp[m]∧ ¬jT l V s m sp[m])):pg l V s m (sp.drop m)=pg l V s (m+1) (sp.drop (m+1)):=by
 rw[List.drop_eq_getElem_cons h,pg,if_neg hc]
 rfl
theorem IS {l:List Ex} {V:List V3} {s:ByteArray} {sp:List Int} {m:Nat} (h:sp.length≤m):pg l V s m (sp.drop m)= []:=by
 rw[List.drop_of_length_le h,pg]
theorem LR {L:List T3} {l:List Ex} {V:List V3} {N:List ByteArray} {k:Nat} {ds sp:List Int} (h:k<N.length) (hf:dQ L N[k]=some (ds,sp)):nk L l V (N.drop k)=pg l V N[k] 0 (sp.drop 0)++nk L l V (N.drop (k+1)):=by
 rw[List.drop_eq_getElem_cons h,nk,hf]
 rfl
theorem JN {L:List T3} {l:List Ex} {V:List V3} {N:List ByteArray} {k:Nat} (h:N.length≤k):nk L l V (N.drop k)= []:=by
 rw[List.drop_of_length_le h,nk]
theorem OT {nm:ByteArray} {V:List V3} {n m:Nat} (h:n+m<V.length) (hc:0≤V[n+m].2.2):iz nm m (V.drop (n+m))=(2,V[n+m].2.2,(m:Int),(m:Int),nm)::iz nm (m+1) (V.drop (n+(m+1))):=by
 rw[List.drop_eq_getElem_cons h,iz,if_pos hc]
 rfl
theorem RO {nm:ByteArray} {V:List V3} {n m:Nat} (h:n+m<V.length) (hc: ¬0≤V[n+m].2.2):iz nm m (V.drop (n+m))=iz nm (m+1) (V.drop (n+(m+1))):=by
 rw[List.drop_eq_getElem_cons h,iz,if_neg hc]
 rfl
theorem Pg {nm:ByteArray} {V:List V3} {n m:Nat} (h:V.length≤n+m):iz nm m (V.drop (n+m))= []:=by
 rw[List.drop_of_length_le h,iz]
theorem JF {L:List T3} {D:List jA} {W:List (List V3)} {i:Nat} (h:i<D.length) (h':i<W.length):gZ L ((D.zip W).drop i)=fp L D[i] W[i]++gZ L ((D.zip W).drop (i+1)):=by
 rw[List.drop_eq_getElem_cons (by simp;omega),gZ,List.getElem_zip]
theorem ND {L:List T3} {D:List jA} {W:List (List V3)} {i:Nat} (h:D.length≤i):gZ L ((D.zip W).drop i)= []:=by
 rw[List.drop_of_length_le (by simp;omega),gZ]
def v6 (L:List T3) (d:jA) (V:List V3):Prop:=
 d.body.sz≤100000∧(∀a∈d.body.pre,a.idx.length≤1000)∧(ld d.body.pre).length≤1000000∧(∀v∈V,v.1≠mC)∧V.length=d.dims.length+d.red.length∧d.dims.length≤1000∧d.red.length≤1000∧
 ∀s∈ld d.body.pre,∃ds sp,dQ L s=some (ds,sp)∧sp.length≤1000∧ ∀a∈d.body.pre,sQ a s→a.idx.length=sp.length
end Go.Proofs.YtjhkikmonejkjaaGreatDoor
