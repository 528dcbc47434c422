import Derived.Test.YthkaaahphlneiaaGreatDoorCodesB
import Derived.Test.YthkaaahphlneiaaGreatDoorShelf
import Derived.Test.YthkaaahphlneiaaGreatDoorLaw
import Derived.Sort.OwnSorted
import Derived.Lib.OwnBridge
set_option linter.unusedVariables false
set_option linter.unusedSimpArgs false
namespace Go.Abs
open Go.RowKit Go.Sort
theorem bA.regrow {w0 w w':World} {U:Gh} {σ:St} {ι:Pl} {a:Act} (hs:bA w0 U σ ι a w) {nm e sz:Nat} {rows rows':List (List PC)} {cells:List Value} (hf:ak σ.mem nm=some (.arr e sz rows)) (hg:w.grownBy w' (bt (ι nm)))
  (h0:0<sz) (how:w'.ownsRow w0.heap.size e sz (ι nm) rows'.length cells) (hm:rows'.length≤9223372036854775807) (hrows:aY w (aD w0.heap.size U ι σ.mem) sz rows' cells) (hbelow:Below w0.heap.size w0 w'):
  bA w0 U {σ with mem:=cE σ.mem nm (.arr e sz rows')} ι a w':=by
 have hfree: ∀c,aD w0.heap.size U ι σ.mem c→aD w0.heap.size U ι (cE σ.mem nm (.arr e sz rows')) c:=fun c h=>vg.2 h
 have hw: ∀b,b<w.heap.size→aD w0.heap.size U ι σ.mem b→w'.heap[b]? =w.heap[b]? :=fun b hb h=>hg.block b hb (fun e=>h.2 _ _ hf e.symm)
 have hdom: ∀n bx,ak (cE σ.mem nm (.arr e sz rows')) n=some bx→(n=nm∧bx= .arr e sz rows')∨(n≠nm∧ak σ.mem n=some bx):=by
  intro n bx hn
  rw[aB]at hn
  by_cases e:nm=n
  ·subst e
   rw[if_pos rfl,hf]at hn
   cases hn
   exact .inl ⟨rfl,rfl⟩
  ·rw[if_neg e]at hn
   exact .inr ⟨fun h=>e h.symm,hn⟩
 have hold: ∀n bx,ak (cE σ.mem nm (.arr e sz rows')) n=some bx→ ∃by',ak σ.mem n=some by':=fun n bx hn=>by
  rcases hdom n bx hn with⟨rfl,_⟩|⟨_,h⟩
  ·exact⟨_,hf⟩
  ·exact⟨_,h⟩
 refine⟨fun t=>(hs.val t).mono (fun c _ h=>hfree c h) hw (fun _ _=>rfl) (Nat.le_refl _),hs.defers,fun n bx hn=> ?_,fun n bx hn=> ?_,fun n n' b1 b2 c h1 h2 h3 h4=> ?_,hbelow,U.mono _ _ _ _ hs.keep (fun c _ h=>hfree c h) hw,hs.base⟩
 ·obtain⟨_,h⟩:=hold n bx hn
  exact hs.names _ _ h
 ·rcases hdom n bx hn with⟨rfl,rfl⟩|⟨h1,h3⟩
  ·exact⟨cells,h0,how,hm,hrows.mono (fun c _ h=>hfree c h) hw⟩
  ·have hbn: ∀c,bt (ι n)=some c→bt (ι nm)≠some c:=fun c hc e'=>h1 (hs.apart _ _ _ _ c h3 hf hc e')
   have hbx:=hs.box _ _ h3
   cases bx with
   |var xs=>
    obtain⟨b',vs,T,g1,g2,g3,g4⟩:=hbx
    refine⟨b',vs,T,g1,g2, ?_,g4.mono fun _ _ h=>h.mono (fun c _ h=>hfree c h) hw (fun _ _=>rfl) (Nat.le_refl _)⟩
    rw[hg.block b' (Array.getElem?_eq_some_iff.1 g3).1 (fun e=>hbn b' (by rw[g1];rfl) e.symm)]
    exact g3
   |arr e' sz' rows0=>
    obtain⟨cells',k0,k1,k2,k3⟩:=hbx
    refine⟨cells',k0,World.ownsRow.kept k1 hg ?_,k2,k3.mono (fun c _ h=>hfree c h) hw⟩
    rcases k1.2 with⟨h,_⟩|⟨g,cap,cur,h,_⟩
    ·rw[h];exact .inl rfl
    ·right
     intro e1
     have hb1:bt (ι n)=some g:=by rw[h];rfl
     rw[h]at e1
     simp[Value.ownBlock]at e1
     exact hbn g hb1 e1.symm
   |arn e' sz' rows0=>
    obtain⟨cells',k0,k1,k2,k3⟩:=hbx
    refine⟨cells',k0,World.ownsRow.kept k1 hg ?_,k2,k3.mono (fun c _ h=>hfree c h) hw (fun _ _=>rfl) (Nat.le_refl _)⟩
    rcases k1.2 with⟨h,_⟩|⟨g,cap,cur,h,_⟩
    ·rw[h];exact .inl rfl
    ·right
     intro e1
     have hb1:bt (ι n)=some g:=by rw[h];rfl
     rw[h]at e1
     simp[Value.ownBlock]at e1
     exact hbn g hb1 e1.symm
   |map kt m ents=>
    obtain⟨b',es,clock,g1,g2,g3,g4⟩:=hbx
    refine⟨b',es,clock,g1,g2, ?_,g4.mono fun _ _ h=>h.mono (fun c _ h=>hfree c h) hw (fun _ _=>rfl) (Nat.le_refl _)⟩
    rw[hg.block b' (Array.getElem?_eq_some_iff.1 g3).1 (fun e=>hbn b' (by rw[g1];rfl) e.symm)]
    exact g3
 ·obtain⟨_,h1'⟩:=hold n b1 h1
  obtain⟨_,h2'⟩:=hold n' b2 h2
  exact hs.apart _ _ _ _ _ h1' h2' h3 h4
end Go.Abs
namespace Go.Proofs.YthkaaahphlneiaaGreatDoor
open Go.Abs Go.RowKit Go.Sort
def bm (l:List ByteArray):List (List UInt8):=l.map fun s=>s.data.toList
def jX (l:List (List UInt8)):List ByteArray:=l.map fun b=>⟨b.toArray⟩
def BN (l:List ByteArray):List ByteArray:=jX ((bm l).mergeSort fun x y=>decide (x≤y))
def yU (l:List ByteArray):List ByteArray:=jX (Lib.compact (bm l))
abbrev cg (l:List ByteArray):List (List PC):=l.map fun s=> [pS s]
theorem Bo {w:World} {V:Nat→Prop} {l:List (List UInt8)}:aY w V 1 (cg (jX l)) (l.map Proofs.encStr):=by
 refine⟨by simp[jX],fun i row hi=> ?_,fun i row j p hi hj=> ?_⟩
 ·simp only[cg,List.getElem?_map]at hi
  obtain⟨s,_,rfl⟩:=Option.map_eq_some_iff.1 hi
  rfl
 ·simp only[cg,jX,List.map_map,List.getElem?_map]at hi
  obtain⟨b,hb,rfl⟩:=Option.map_eq_some_iff.1 hi
  cases j with
  |zero=>
   simp at hj
   subst hj
   exact⟨_,by rw[Nat.mul_one,Nat.add_zero,List.getElem?_map,hb];rfl,.val rfl⟩
  |succ j=>simp at hj
theorem wE {w:World} {V:Nat→Prop} {l:List ByteArray} {cells:List Value} (h:aY w V 1 (cg l) cells):cells=(bm l).map Proofs.encStr:=by
 obtain⟨h1,h2,h3⟩:=h
 refine List.ext_getElem? fun i=> ?_
 by_cases hi:i<l.length
 ·obtain⟨v,hv,hr⟩:=h3 i [pS l[i]] 0 (pS l[i]) (by simp[cg,hi]) rfl
  rw[Nat.mul_one,Nat.add_zero]at hv
  rw[hv,List.getElem?_map,bm,List.getElem?_map,List.getElem?_eq_getElem hi]
  cases hr with
  |val h=>
   cases h
   rfl
 ·rw[List.getElem?_eq_none (by simp[cg]at h1;omega),List.getElem?_eq_none (by simp[bm];omega)]
theorem WP {mem:List (Nat×aS)} {nx nm e:Nat} {l:List ByteArray} (hf:ak mem nm=some (.arr e 1 (cg l))) (hlen:l.length<4611686018427387904):
  am Tryz.prog f6 [.c (.ref nm)] mem nx (gE []) (cE mem nm (.arr e 1 (cg (BN l)))) nx:=by
 obtain⟨fn,c,h1,h2,h3,_⟩:=lz.is
 refine⟨⟨fn,h1,by rw[h2];rfl,h3⟩,fun w0 U ι w vs hs hr=> ?_⟩
 obtain⟨cells,k0,k1,k2,k3⟩:=hs.box _ _ hf
 obtain⟨v,hv⟩: ∃v,vs= #[v]∧v=ι nm:=by
  have:=hr
  obtain⟨l0⟩:=vs
  cases this with
  |cons a b=>
   cases b
   exact⟨_,rfl,ub a⟩
 obtain⟨rfl,rfl⟩:=hv
 have hc:=wE k3
 subst hc
 have hsz:(cg l).length=(bm l).length:=by simp[cg,bm]
 have hres: ∀{w':World} {ι':Pl} {V:Nat→Prop},aM w' V ι' nx (gE []) (.tuple #[]):= .tup rfl (fun i=>by simp)
 rcases k1.2 with⟨e0,e1⟩|⟨g,cap,cur,e0,hbase,hb,c1,c2,c3,c4⟩
 ·have hl0:l= []:=by
   have:l.length=0:=by simpa[cg]using e1
   exact List.eq_nil_of_length_eq_zero this
  subst hl0
  rw[e0]
  have hs0:cg (BN [])=cg []:=by simp[BN,bm,jX]
  rw[hs0]
  refine(Tryz.slices_Sort_string_none none 0 w).mono ?_
  rintro en w' ⟨rfl,rfl⟩
  exact⟨_,ι,rfl,hs.regrow hf ⟨rfl,rfl,rfl,Nat.le_refl _,fun _ _ _=>rfl⟩ k0 k1 k2 k3 hs.below,hres⟩
 ·rw[e0,hsz]
  have c4':cur.toList.take (bm l).length=(bm l).map Proofs.encStr:=by rw[hsz,Nat.mul_one]at c4;exact c4
  refine(Tryz.slices_Sort_string g 0 cap (bm l) w (holds_of_block hb c4') (Array.getElem?_eq_some_iff.1 hb).1 (by simp[bm];omega)).mono ?_
  rintro en w' ⟨rfl,n,os,rfl⟩
  have hl2:((bm l).mergeSort fun x y=>decide (x≤y)).length=(bm l).length:=List.length_mergeSort _
  have hgr:w.grownBy (grow (putRow Proofs.encStr (Sort.ahead w n) g 0 ((bm l).mergeSort fun x y=>decide (x≤y)).toArray) os) (bt (ι nm)):=by
   rw[e0]
   exact grownBy_sorted _
  have hlen2:(cg (BN l)).length=(bm l).length:=by simp[cg,BN,jX]
  refine⟨_,ι,rfl,hs.regrow hf hgr k0 (cells:=((bm l).mergeSort fun x y=>decide (x≤y)).map Proofs.encStr) ?_ (by rw[hlen2,←hsz];exact k2) Bo ?_,hres⟩
  ·rw[e0,hlen2,hsz]
   exact ownsRow_sorted hl2 hbase hb (by rw[←hsz];exact c1) c2 c3
  ·exact hs.below.grown hgr hs.below.size (fun k hk=>by rw[e0]at hk;cases hk;exact hbase)
theorem Pk {mem:List (Nat×aS)} {nx nm e:Nat} {l:List ByteArray} (hf:ak mem nm=some (.arr e 1 (cg l))):
  am Tryz.prog 225 [.c (.ref nm)] mem nx (.c (.ref nx)) ((nx,.arr e 1 (cg (yU l)))::lJ mem nm) (nx+1):=by
 refine⟨⟨_,Tryz.func225,rfl,by kernel_rfl⟩,fun w0 U ι w vs hs hr=> ?_⟩
 obtain⟨cells,k0,k1,k2,k3⟩:=hs.box _ _ hf
 obtain⟨v,hv⟩: ∃v,vs= #[v]∧v=ι nm:=by
  have:=hr
  obtain⟨l0⟩:=vs
  cases this with
  |cons a b=>
   cases b
   exact⟨_,rfl,ub a⟩
 obtain⟨rfl,rfl⟩:=hv
 have hc:=wE k3
 subst hc
 have hsz:(cg l).length=(bm l).length:=by simp[cg,bm]
 have hle:=Lib.compact_length_le (bm l)
 have hlen2:(cg (yU l)).length=(Lib.compact (bm l)).length:=by simp[cg,yU,jX]
 rcases k1.2 with⟨e0,e1⟩|⟨g,cap,cur,e0,hbase,hb,c1,c2,c3,c4⟩
 ·have hl0:l= []:=by
   have:l.length=0:=by simpa[cg]using e1
   exact List.eq_nil_of_length_eq_zero this
  subst hl0
  rw[e0]
  refine(Tryz.slices_Compact_string_empty none 0 w).mono ?_
  rintro en w' ⟨rfl,rfl⟩
  have hc0:cg (yU [])= []:=by simp[cg,yU,jX,bm,Lib.compact,Lib.compactUpTo]
  rw[hc0]
  obtain⟨ι',i1,_,i3⟩:=hs.replace (w':=w') (rows':= []) (pv:= .slice none 0 0) (cells:= []) hf ⟨rfl,rfl,rfl,Nat.le_refl _,fun _ _ _=>rfl⟩ (fun b hb=>by cases hb) ⟨_,_,_,rfl⟩ k0 ⟨rfl,.inl ⟨rfl,rfl⟩⟩ (by simp)
   ⟨rfl,fun i row hi=>by simp at hi,fun i row j p hi=>by simp at hi⟩ hs.below
  refine⟨_,ι',rfl,i3, ?_⟩
  rw[←i1]
  exact .c (.ref (Nat.lt_succ_self _) ⟨_,_,_,i1⟩)
 ·rw[e0,hsz]
  have c4':cur.toList.take (bm l).length=(bm l).map Proofs.encStr:=by rw[hsz,Nat.mul_one]at c4;exact c4
  refine(Tryz.slices_Compact_string g 0 cap (bm l) w (holds_of_block hb c4') (by rw[←hsz];exact k2) (by rw[←hsz];exact c1)).mono ?_
  rintro en w' ⟨rfl,q,rfl⟩
  have hgr:w.grownBy (putRow Proofs.encStr (Sort.ahead w q) g 0 (Lib.compact (bm l)++List.replicate ((bm l).length-(Lib.compact (bm l)).length) []).toArray) (bt (ι nm)):=by
   rw[e0]
   have hg0: ∀v:World,grow v #[]=v:=fun v=>by unfold grow;rw[Array.append_empty]
   rw[←hg0 (putRow _ _ _ _ _)]
   exact grownBy_sorted _
  have how:=Lib.ownsRow_putRow (q:=q) (k:=(Lib.compact (bm l)).length) (ys:=Lib.compact (bm l)++List.replicate ((bm l).length-(Lib.compact (bm l)).length) []) (by rw[e0,hsz]at k1;exact k1) (by simp;omega) hle
  rw[List.take_left]at how
  obtain⟨ι',i1,_,i3⟩:=hs.replace (rows':=cg (yU l)) (pv:= .slice (some ⟨g,0,none⟩) (Lib.compact (bm l)).length cap) (cells:=(Lib.compact (bm l)).map Proofs.encStr) hf hgr (fun b hb=> .inl (by rw[e0];exact hb)) ⟨_,_,_,rfl⟩ k0 (by rw[hlen2];exact how) (by rw[hlen2];omega) Bo
   (hs.below.grown hgr hs.below.size (fun k hk=>by rw[e0]at hk;cases hk;exact hbase))
  refine⟨_,ι',rfl,i3, ?_⟩
  rw[←i1]
  exact .c (.ref (Nat.lt_succ_self _) ⟨_,_,_,i1⟩)
end Go.Proofs.YthkaaahphlneiaaGreatDoor
