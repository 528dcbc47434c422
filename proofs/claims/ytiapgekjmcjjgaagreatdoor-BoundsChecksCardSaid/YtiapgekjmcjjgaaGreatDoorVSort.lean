import Derived.Shelf.Strings.Fields
import Derived.Test.YtiapgekjmcjjgaaGreatDoorProg
import Derived.Shelf.Small.Bits
import Derived.Shelf.Strconv.Itoa0
import Derived.Shelf.Sort.Plain
import Derived.Shelf.Unicode.Latin
import Derived.Shelf.Unicode.Is16White
import Derived.Shelf.Unicode.IsSpaceAny
import Derived.Shelf.Unicode.Is16WhiteD
import Derived.Shelf.Unicode.IsSpaceAnyD
import Derived.Shelf.Strings.FieldsAny
import Derived.Shelf.Strings.FieldsFuncAny
import Derived.Shelf.Unicode.Is16Any
import Derived.Shelf.Unicode.Is32Any
import Derived.Shelf.Unicode.ExclAny
import Derived.Shelf.Slices.CompactS
import Derived.Shelf.Slices.In.SortNone
import Derived.Test.YtiapgekjmcjjgaaGreatDoorLaw
import Derived.Sort.OwnSorted
import Derived.Lib.OwnBridge
set_option linter.unusedVariables false
set_option linter.unusedSimpArgs false
open Go.Proofs.Tryz renaming prog→Ya
namespace Go.Proofs
open Go.Shelf
def Tryz.lays157_ren:Go.Shelf.Ren:=⟨λ|157=>193|229=>219|199=>220|261=>238|311=>257|312=>258|n=>n,λ|9=>9|31=>22|3=>3|5=>5|4=>4|119=>256|0=>0|40=>179|152=>267|21=>21|154=>269|51=>270|141=>272|196=>289|193=>286|198=>292|49=>290|194=>287|201=>295|226=>304|46=>266|227=>305|n=>n,λ|0=>0|6=>1|n=>n⟩
theorem Tryz.lays157:Go.Proofs.Lays.n157 Ya Tryz.lays157_ren:={
  mixed:=by kernel_rfl
  f157:=Tryz.func193.trans (congrArg some (by kernel_rfl))
  f199:=Tryz.func220.trans (congrArg some (by kernel_rfl))
  f229:=Tryz.func219.trans (congrArg some (by kernel_rfl))
  f261:=Tryz.func238.trans (congrArg some (by kernel_rfl))
  f311:=Tryz.func257.trans (congrArg some (by kernel_rfl))
  f312:=Tryz.func258.trans (congrArg some (by kernel_rfl))
  t0:=Tryz.underlying0
  a0:=Tryz.isAgg0
  z0:=Tryz.sizeOf0
  v0:=Tryz.zeroValue0
  t3:=Tryz.underlying3
  a3:=Tryz.isAgg3
  z3:=Tryz.sizeOf3
  v3:=Tryz.zeroValue3
  t4:=Tryz.underlying4
  a4:=Tryz.isAgg4
  z4:=Tryz.sizeOf4
  v4:=Tryz.zeroValue4
  t5:=Tryz.underlying5
  a5:=Tryz.isAgg5
  z5:=Tryz.sizeOf5
  v5:=Tryz.zeroValue5
  t9:=Tryz.underlying9
  a9:=Tryz.isAgg9
  z9:=Tryz.sizeOf9
  v9:=Tryz.zeroValue9
  t21:=Tryz.underlying21
  a21:=Tryz.isAgg21
  z21:=Tryz.sizeOf21
  v21:=Tryz.zeroValue21
  t31:=Tryz.underlying22
  a31:=Tryz.isAgg22
  z31:=Tryz.sizeOf22
  v31:=Tryz.zeroValue22
  t40:=Tryz.underlying179
  a40:=Tryz.isAgg179
  z40:=Tryz.sizeOf179
  v40:=Tryz.zeroValue179
  t46:=Tryz.underlying266
  a46:=Tryz.isAgg266
  z46:=Tryz.sizeOf266
  v46:=Tryz.zeroValue266
  t49:=Tryz.underlying290
  a49:=Tryz.isAgg290
  z49:=Tryz.sizeOf290
  v49:=Tryz.zeroValue290
  t51:=Tryz.underlying270
  a51:=Tryz.isAgg270
  z51:=Tryz.sizeOf270
  v51:=Tryz.zeroValue270
  t119:=Tryz.underlying256
  a119:=Tryz.isAgg256
  z119:=Tryz.sizeOf256
  t141:=Tryz.underlying272
  a141:=Tryz.isAgg272
  z141:=Tryz.sizeOf272
  v141:=Tryz.zeroValue272
  t152:=Tryz.underlying267
  a152:=Tryz.isAgg267
  z152:=Tryz.sizeOf267
  v152:=Tryz.zeroValue267
  t154:=Tryz.underlying269
  a154:=Tryz.isAgg269
  z154:=Tryz.sizeOf269
  v154:=Tryz.zeroValue269
  t193:=Tryz.underlying286
  a193:=Tryz.isAgg286
  z193:=Tryz.sizeOf286
  v193:=Tryz.zeroValue286
  t194:=Tryz.underlying287
  a194:=Tryz.isAgg287
  z194:=Tryz.sizeOf287
  v194:=Tryz.zeroValue287
  t196:=Tryz.underlying289
  a196:=Tryz.isAgg289
  z196:=Tryz.sizeOf289
  v196:=Tryz.zeroValue289
  t198:=Tryz.underlying292
  a198:=Tryz.isAgg292
  z198:=Tryz.sizeOf292
  v198:=Tryz.zeroValue292
  t201:=Tryz.underlying295
  a201:=Tryz.isAgg295
  z201:=Tryz.sizeOf295
  v201:=Tryz.zeroValue295
  t226:=Tryz.underlying304
  a226:=Tryz.isAgg304
  z226:=Tryz.sizeOf304
  v226:=Tryz.zeroValue304
  t227:=Tryz.underlying305
  a227:=Tryz.isAgg305
  z227:=Tryz.sizeOf305
  v227:=Tryz.zeroValue305
  g0:=by kernel_rfl
  g6:=by kernel_rfl}
def Tryz.lays190_ren:Go.Shelf.Ren:=⟨λ|190=>205|125=>234|258=>233|128=>254|129=>255|302=>245|303=>246|304=>247|305=>248|306=>249|307=>250|308=>251|309=>252|310=>253|333=>260|329=>261|330=>262|334=>263|335=>264|336=>265|344=>266|n=>n,λ|31=>22|9=>9|3=>3|46=>266|0=>0|51=>270|53=>227|4=>4|183=>277|182=>276|131=>282|5=>5|218=>298|222=>302|228=>306|229=>307|n=>n,λ|n=>n⟩
theorem Tryz.lays190:Go.Proofs.Lays.n190 Ya Tryz.lays190_ren:={
  mixed:=by kernel_rfl
  f125:=Tryz.func234.trans (congrArg some (by kernel_rfl))
  f128:=Tryz.func254.trans (congrArg some (by kernel_rfl))
  f129:=Tryz.func255.trans (congrArg some (by kernel_rfl))
  f190:=Tryz.func205.trans (congrArg some (by kernel_rfl))
  f258:=Tryz.func233.trans (congrArg some (by kernel_rfl))
  f302:=Tryz.func245.trans (congrArg some (by kernel_rfl))
  f303:=Tryz.func246.trans (congrArg some (by kernel_rfl))
  f304:=Tryz.func247.trans (congrArg some (by kernel_rfl))
  f305:=Tryz.func248.trans (congrArg some (by kernel_rfl))
  f306:=Tryz.func249.trans (congrArg some (by kernel_rfl))
  f307:=Tryz.func250.trans (congrArg some (by kernel_rfl))
  f308:=Tryz.func251.trans (congrArg some (by kernel_rfl))
  f309:=Tryz.func252.trans (congrArg some (by kernel_rfl))
  f310:=Tryz.func253.trans (congrArg some (by kernel_rfl))
  f329:=Tryz.func261.trans (congrArg some (by kernel_rfl))
  f330:=Tryz.func262.trans (congrArg some (by kernel_rfl))
  f333:=Tryz.func260.trans (congrArg some (by kernel_rfl))
  f334:=Tryz.func263.trans (congrArg some (by kernel_rfl))
  f335:=Tryz.func264.trans (congrArg some (by kernel_rfl))
  f336:=Tryz.func265.trans (congrArg some (by kernel_rfl))
  f344:=Tryz.func266.trans (congrArg some (by kernel_rfl))
  t0:=Tryz.underlying0
  a0:=Tryz.isAgg0
  z0:=Tryz.sizeOf0
  v0:=Tryz.zeroValue0
  t3:=Tryz.underlying3
  a3:=Tryz.isAgg3
  z3:=Tryz.sizeOf3
  v3:=Tryz.zeroValue3
  t4:=Tryz.underlying4
  a4:=Tryz.isAgg4
  z4:=Tryz.sizeOf4
  v4:=Tryz.zeroValue4
  t5:=Tryz.underlying5
  a5:=Tryz.isAgg5
  z5:=Tryz.sizeOf5
  v5:=Tryz.zeroValue5
  t9:=Tryz.underlying9
  a9:=Tryz.isAgg9
  z9:=Tryz.sizeOf9
  v9:=Tryz.zeroValue9
  t31:=Tryz.underlying22
  a31:=Tryz.isAgg22
  z31:=Tryz.sizeOf22
  v31:=Tryz.zeroValue22
  t46:=Tryz.underlying266
  a46:=Tryz.isAgg266
  z46:=Tryz.sizeOf266
  v46:=Tryz.zeroValue266
  t51:=Tryz.underlying270
  a51:=Tryz.isAgg270
  z51:=Tryz.sizeOf270
  v51:=Tryz.zeroValue270
  t53:=Tryz.underlying227
  a53:=Tryz.isAgg227
  z53:=Tryz.sizeOf227
  v53:=Tryz.zeroValue227
  t131:=Tryz.underlying282
  a131:=Tryz.isAgg282
  z131:=Tryz.sizeOf282
  v131:=Tryz.zeroValue282
  t182:=Tryz.underlying276
  a182:=Tryz.isAgg276
  z182:=Tryz.sizeOf276
  v182:=Tryz.zeroValue276
  t183:=Tryz.underlying277
  a183:=Tryz.isAgg277
  z183:=Tryz.sizeOf277
  v183:=Tryz.zeroValue277
  t218:=Tryz.underlying298
  a218:=Tryz.isAgg298
  z218:=Tryz.sizeOf298
  v218:=Tryz.zeroValue298
  t222:=Tryz.underlying302
  a222:=Tryz.isAgg302
  z222:=Tryz.sizeOf302
  v222:=Tryz.zeroValue302
  t228:=Tryz.underlying306
  a228:=Tryz.isAgg306
  z228:=Tryz.sizeOf306
  v228:=Tryz.zeroValue306
  t229:=Tryz.underlying307
  a229:=Tryz.isAgg307
  z229:=Tryz.sizeOf307
  v229:=Tryz.zeroValue307}
open Go.Sort Go.RowKit in
theorem Tryz.slices_Sort_string (blk off cap:Nat) (ss:List (List UInt8)) (w:World) (hH:Holds encStr w blk off ss.toArray) (L:blk<w.heap.size) (d:ss.length<4611686018427387904):
    Calls Ya 205 #[.slice (some ⟨blk,off,none⟩) ss.length cap] w λe w'=>
      e= .returned (.tuple #[])∧ ∃n os,w'=grow (putRow encStr (Sort.ahead w n) blk off (ss.mergeSort λx y=>decide (x≤y)).toArray) os:=Any.slices_Sort_string Tryz.lays190 blk off cap ss w hH L d
def Tryz.lays194_ren:Go.Shelf.Ren:=⟨λ|194=>206|n=>n,λ|31=>22|9=>9|3=>3|4=>4|0=>0|n=>n,λ|n=>n⟩
theorem Tryz.lays194:Go.Proofs.Lays.n194 Ya Tryz.lays194_ren:={
  mixed:=by kernel_rfl
  f194:=Tryz.func206.trans (congrArg some (by kernel_rfl))
  t0:=Tryz.underlying0
  a0:=Tryz.isAgg0
  z0:=Tryz.sizeOf0
  v0:=Tryz.zeroValue0
  t3:=Tryz.underlying3
  a3:=Tryz.isAgg3
  z3:=Tryz.sizeOf3
  v3:=Tryz.zeroValue3
  t4:=Tryz.underlying4
  a4:=Tryz.isAgg4
  z4:=Tryz.sizeOf4
  v4:=Tryz.zeroValue4
  t9:=Tryz.underlying9
  a9:=Tryz.isAgg9
  z9:=Tryz.sizeOf9
  v9:=Tryz.zeroValue9
  t31:=Tryz.underlying22
  a31:=Tryz.isAgg22
  z31:=Tryz.sizeOf22
  v31:=Tryz.zeroValue22}
open Go.RowKit Go.Lib Go.Sort in
theorem Tryz.slices_Compact_string (blk off cap:Nat) (zs:List (List UInt8)) (w:World) (hH:Holds encStr w blk off zs.toArray) (d:zs.length≤9223372036854775807) (M:zs.length≤cap):
    Calls Ya 206 #[.slice (some ⟨blk,off,none⟩) zs.length cap] w λe w'=>e= .returned (.slice (some ⟨blk,off,none⟩) (Lib.compact zs).length cap)∧ ∃q,w'=putRow encStr (Sort.ahead w q) blk off (Lib.compact zs++List.replicate (zs.length-(Lib.compact zs).length) []).toArray:=Any.slices_Compact_string Tryz.lays194 blk off cap zs w hH d M
open Go.RowKit Go.Lib Go.Sort in
theorem Tryz.slices_Compact_string_empty (a:Option Addr) (cap:Nat) (w:World):
    Calls Ya 206 #[.slice a 0 cap] w λe w'=>e= .returned (.slice a 0 cap)∧w'=w:=Any.slices_Compact_string_empty Tryz.lays194 a cap w
open Go.RowKit Go.Sort in
theorem Tryz.slices_Sort_string_none (p:Option Addr) (cap:Nat) (w:World):
    Calls Ya 205 #[.slice p 0 cap] w λe w'=>e= .returned (.tuple #[])∧w'=w:=Any.slices_Sort_string_none Tryz.lays190 p cap w
end Go.Proofs
namespace Go.Abs
open Go.RowKit Go.Sort
theorem bV.regrow {w0 w w':World} {U:Gh} {σ:St} {ι:Pl} {a:Act} (hs:bV w0 U σ ι a w) {nm e sz:Nat} {rows rows':List (List PC)} {cells:List Value} (hf:al σ.mem nm=some (.arr e sz rows)) (hg:w.grownBy w' (bI (ι nm)))
  (h0:0<sz) (A:w'.ownsRow w0.heap.size e sz (ι nm) rows'.length cells) (hm:rows'.length≤9223372036854775807) (H:bu w (aE w0.heap.size U ι σ.mem) sz rows' cells) (C:Below w0.heap.size w0 w'):
  bV w0 U {σ with mem:=dJ σ.mem nm (.arr e sz rows')} ι a w':=by
 have f: ∀c,aE w0.heap.size U ι σ.mem c→aE w0.heap.size U ι (dJ σ.mem nm (.arr e sz rows')) c:= λc h=>rV.2 h
 have hw: ∀b,b<w.heap.size→aE w0.heap.size U ι σ.mem b→w'.heap[b]? =w.heap[b]? := λb hb h=>hg.block b hb (λe=>h.2 _ _ hf e.symm)
 have F: ∀n bx,al (dJ σ.mem nm (.arr e sz rows')) n=some bx→(n=nm∧bx= .arr e sz rows')∨(n≠nm∧al σ.mem n=some bx):=by
  intro n bx hn
  rw[aj]at hn
  by_cases e:nm=n
  ·subst e
   rw[if_pos rfl,hf]at hn
   cases hn
   exact .inl ⟨rfl,rfl⟩
  ·rw[if_neg e]at hn
   exact .inr ⟨λh=>e h.symm,hn⟩
 have u: ∀n bx,al (dJ σ.mem nm (.arr e sz rows')) n=some bx→ ∃by',al σ.mem n=some by':= λn bx hn=>by
  rcases F n bx hn with⟨rfl,_⟩|⟨_,h⟩
  ·exact⟨_,hf⟩
  ·exact⟨_,h⟩
 refine⟨λt=>(hs.val t).mono (λc _ h=>f c h) hw (λ_ _=>rfl) (Nat.le_refl _),hs.defers,λn bx hn=> ?_,λn bx hn=> ?_,λn n' b1 b2 c h1 h2 h3 h4=> ?_,C,U.mono _ _ _ _ hs.keep (λc _ h=>f c h) hw,hs.base⟩
 ·obtain⟨_,h⟩:=u n bx hn
  exact hs.names _ _ h
 ·rcases F n bx hn with⟨rfl,rfl⟩|⟨h1,h3⟩
  ·exact⟨cells,h0,A,hm,H.mono (λc _ h=>f c h) hw⟩
  ·have D: ∀c,bI (ι n)=some c→bI (ι nm)≠some c:= λc hc e'=>h1 (hs.apart _ _ _ _ c h3 hf hc e')
   have E:=hs.box _ _ h3
   cases bx with
   |var xs=>
    obtain⟨b',vs,T,g1,g2,g3,g4⟩:=E
    refine⟨b',vs,T,g1,g2, ?_,g4.mono λ_ _ h=>h.mono (λc _ h=>f c h) hw (λ_ _=>rfl) (Nat.le_refl _)⟩
    rw[hg.block b' (Array.getElem?_eq_some_iff.1 g3).1 (λe=>D b' (by rw[g1];rfl) e.symm)]
    exact g3
   |arr e' sz' rows0=>
    obtain⟨cells',k0,k1,k2,k3⟩:=E
    refine⟨cells',k0,World.ownsRow.kept k1 hg ?_,k2,k3.mono (λc _ h=>f c h) hw⟩
    rcases k1.2 with⟨h,_⟩|⟨g,cap,cur,h,_⟩
    ·rw[h];exact .inl rfl
    ·right
     intro e1
     have J:bI (ι n)=some g:=by rw[h];rfl
     rw[h]at e1
     simp[Value.ownBlock]at e1
     exact D g J e1.symm
   |arn e' sz' rows0=>
    obtain⟨cells',k0,k1,k2,k3⟩:=E
    refine⟨cells',k0,World.ownsRow.kept k1 hg ?_,k2,k3.mono (λc _ h=>f c h) hw (λ_ _=>rfl) (Nat.le_refl _)⟩
    rcases k1.2 with⟨h,_⟩|⟨g,cap,cur,h,_⟩
    ·rw[h];exact .inl rfl
    ·right
     intro e1
     have J:bI (ι n)=some g:=by rw[h];rfl
     rw[h]at e1
     simp[Value.ownBlock]at e1
     exact D g J e1.symm
   |map kt m ents=>
    obtain⟨b',es,clock,g1,g2,g3,g4⟩:=E
    refine⟨b',es,clock,g1,g2, ?_,g4.mono λ_ _ h=>h.mono (λc _ h=>f c h) hw (λ_ _=>rfl) (Nat.le_refl _)⟩
    rw[hg.block b' (Array.getElem?_eq_some_iff.1 g3).1 (λe=>D b' (by rw[g1];rfl) e.symm)]
    exact g3
 ·obtain⟨_,N⟩:=u n b1 h1
  obtain⟨_,O⟩:=u n' b2 h2
  exact hs.apart _ _ _ _ _ N O h3 h4
end Go.Abs
namespace Go.Proofs.YtiapgekjmcjjgaaGreatDoor
open Go.Abs Go.RowKit Go.Sort
def bS (l:List ByteArray):List (List UInt8):=l.map λs=>s.data.toList
def lr (l:List (List UInt8)):List ByteArray:=l.map λb=>⟨b.toArray⟩
def xl (l:List ByteArray):List ByteArray:=lr ((bS l).mergeSort λx y=>decide (x≤y))
def vj (l:List ByteArray):List ByteArray:=lr (Lib.compact (bS l))
abbrev cZ (l:List ByteArray):List (List PC):=l.map λs=> [pS s]
theorem xo {w:World} {V:Nat→Prop} {l:List (List UInt8)}:bu w V 1 (cZ (lr l)) (l.map Proofs.encStr):=by
 refine⟨by simp[lr],λi row hi=> ?_,λi row j p hi hj=> ?_⟩
 ·simp only[cZ,List.getElem?_map]at hi
  obtain⟨s,_,rfl⟩:=Option.map_eq_some_iff.1 hi
  rfl
 ·simp only[cZ,lr,List.map_map,List.getElem?_map]at hi
  obtain⟨b,hb,rfl⟩:=Option.map_eq_some_iff.1 hi
  cases j with
  |zero=>
   simp at hj
   subst hj
   exact⟨_,by rw[Nat.mul_one,Nat.add_zero,List.getElem?_map,hb];rfl,.val rfl⟩
  |succ j=>simp at hj
theorem sV {w:World} {V:Nat→Prop} {l:List ByteArray} {cells:List Value} (h:bu w V 1 (cZ l) cells):cells=(bS l).map Proofs.encStr:=by
 obtain⟨h1,h2,h3⟩:=h
 refine List.ext_getElem? λi=> ?_
 by_cases hi:i<l.length
 ·obtain⟨v,hv,hr⟩:=h3 i [pS l[i]] 0 (pS l[i]) (by simp[cZ,hi]) rfl
  rw[Nat.mul_one,Nat.add_zero]at hv
  rw[hv,List.getElem?_map,bS,List.getElem?_map,List.getElem?_eq_getElem hi]
  cases hr with
  |val h=>
   cases h
   rfl
 ·rw[List.getElem?_eq_none (by simp[cZ]at h1;omega),List.getElem?_eq_none (by simp[bS];omega)]
theorem SA {mem:List (Nat×bk)} {nx nm e:Nat} {l:List ByteArray} (hf:al mem nm=some (.arr e 1 (cZ l))) (Y:l.length<4611686018427387904):
  aw Ya 205 [.c (.ref nm)] mem nx (fm []) (dJ mem nm (.arr e 1 (cZ (xl l)))) nx:=by
 obtain⟨fn,c,h1,h2,h3,_⟩:=kq.is
 refine⟨⟨fn,h1,by rw[h2];rfl,h3⟩,λw0 U ι w vs hs hr=> ?_⟩
 obtain⟨cells,k0,k1,k2,k3⟩:=hs.box _ _ hf
 obtain⟨v,hv⟩: ∃v,vs= #[v]∧v=ι nm:=by
  have:=hr
  obtain⟨l0⟩:=vs
  cases this with
  |cons a b=>
   cases b
   exact⟨_,rfl,vc a⟩
 obtain⟨rfl,rfl⟩:=hv
 have hc:=sV k3
 subst hc
 have d:(cZ l).length=(bS l).length:=by simp[cZ,bS]
 have G: ∀{w':World} {ι':Pl} {V:Nat→Prop},aX w' V ι' nx (fm []) (.tuple #[]):= .tup rfl (λi=>by simp)
 rcases k1.2 with⟨e0,e1⟩|⟨g,cap,cur,e0,r,hb,c1,c2,c3,c4⟩
 ·have K:l= []:=by
   have:l.length=0:=by simpa[cZ]using e1
   exact List.eq_nil_of_length_eq_zero this
  subst K
  rw[e0]
  have P:cZ (xl [])=cZ []:=by simp[xl,bS,lr]
  rw[P]
  refine(Tryz.slices_Sort_string_none none 0 w).mono ?_
  rintro en w' ⟨rfl,rfl⟩
  exact⟨_,ι,rfl,hs.regrow hf ⟨rfl,rfl,rfl,Nat.le_refl _,λ_ _ _=>rfl⟩ k0 k1 k2 k3 hs.below,G⟩
 ·rw[e0,d]
  have c4':cur.toList.take (bS l).length=(bS l).map Proofs.encStr:=by rw[d,Nat.mul_one]at c4;exact c4
  refine(Tryz.slices_Sort_string g 0 cap (bS l) w (holds_of_block hb c4') (Array.getElem?_eq_some_iff.1 hb).1 (by simp[bS];omega)).mono ?_
  rintro en w' ⟨rfl,n,os,rfl⟩
  have Q:((bS l).mergeSort λx y=>decide (x≤y)).length=(bS l).length:=List.length_mergeSort _
  have z:w.grownBy (grow (putRow Proofs.encStr (Sort.ahead w n) g 0 ((bS l).mergeSort λx y=>decide (x≤y)).toArray) os) (bI (ι nm)):=by
   rw[e0]
   exact grownBy_sorted _
  have o:(cZ (xl l)).length=(bS l).length:=by simp[cZ,xl,lr]
  refine⟨_,ι,rfl,hs.regrow hf z k0 (cells:=((bS l).mergeSort λx y=>decide (x≤y)).map Proofs.encStr) ?_ (by rw[o,←d];exact k2) xo ?_,G⟩
  ·rw[e0,o,d]
   exact ownsRow_sorted Q r hb (by rw[←d];exact c1) c2 c3
  ·exact hs.below.grown z hs.below.size (λk hk=>by rw[e0]at hk;cases hk;exact r)
theorem MI {mem:List (Nat×bk)} {nx nm e:Nat} {l:List ByteArray} (hf:al mem nm=some (.arr e 1 (cZ l))):
  aw Ya 206 [.c (.ref nm)] mem nx (.c (.ref nx)) ((nx,.arr e 1 (cZ (vj l)))::lz mem nm) (nx+1):=by
 refine⟨⟨_,Tryz.func206,rfl,by kernel_rfl⟩,λw0 U ι w vs hs hr=> ?_⟩
 obtain⟨cells,k0,k1,k2,k3⟩:=hs.box _ _ hf
 obtain⟨v,hv⟩: ∃v,vs= #[v]∧v=ι nm:=by
  have:=hr
  obtain⟨l0⟩:=vs
  cases this with
  |cons a b=>
   cases b
   exact⟨_,rfl,vc a⟩
 obtain⟨rfl,rfl⟩:=hv
 have hc:=sV k3
 subst hc
 have d:(cZ l).length=(bS l).length:=by simp[cZ,bS]
 have R:=Lib.compact_length_le (bS l)
 have o:(cZ (vj l)).length=(Lib.compact (bS l)).length:=by simp[cZ,vj,lr]
 rcases k1.2 with⟨e0,e1⟩|⟨g,cap,cur,e0,r,hb,c1,c2,c3,c4⟩
 ·have K:l= []:=by
   have:l.length=0:=by simpa[cZ]using e1
   exact List.eq_nil_of_length_eq_zero this
  subst K
  rw[e0]
  refine(Tryz.slices_Compact_string_empty none 0 w).mono ?_
  rintro en w' ⟨rfl,rfl⟩
  have W:cZ (vj [])= []:=by simp[cZ,vj,lr,bS,Lib.compact,Lib.compactUpTo]
  rw[W]
  obtain⟨ι',i1,_,i3⟩:=hs.replace (w':=w') (rows':= []) (pv:= .slice none 0 0) (cells:= []) hf ⟨rfl,rfl,rfl,Nat.le_refl _,λ_ _ _=>rfl⟩ (λb hb=>by cases hb) ⟨_,_,_,rfl⟩ k0 ⟨rfl,.inl ⟨rfl,rfl⟩⟩ (by simp)
   ⟨rfl,λi row hi=>by simp at hi,λi row j p hi=>by simp at hi⟩ hs.below
  refine⟨_,ι',rfl,i3, ?_⟩
  rw[←i1]
  exact .c (.ref (Nat.lt_succ_self _) ⟨_,_,_,i1⟩)
 ·rw[e0,d]
  have c4':cur.toList.take (bS l).length=(bS l).map Proofs.encStr:=by rw[d,Nat.mul_one]at c4;exact c4
  refine(Tryz.slices_Compact_string g 0 cap (bS l) w (holds_of_block hb c4') (by rw[←d];exact k2) (by rw[←d];exact c1)).mono ?_
  rintro en w' ⟨rfl,q,rfl⟩
  have z:w.grownBy (putRow Proofs.encStr (Sort.ahead w q) g 0 (Lib.compact (bS l)++List.replicate ((bS l).length-(Lib.compact (bS l)).length) []).toArray) (bI (ι nm)):=by
   rw[e0]
   have X: ∀v:World,grow v #[]=v:= λv=>by unfold grow;rw[Array.append_empty]
   rw[←X (putRow _ _ _ _ _)]
   exact grownBy_sorted _
  have A:=Lib.ownsRow_putRow (q:=q) (k:=(Lib.compact (bS l)).length) (ys:=Lib.compact (bS l)++List.replicate ((bS l).length-(Lib.compact (bS l)).length) []) (by rw[e0,d]at k1;exact k1) (by simp;omega) R
  rw[List.take_left]at A
  obtain⟨ι',i1,_,i3⟩:=hs.replace (rows':=cZ (vj l)) (pv:= .slice (some ⟨g,0,none⟩) (Lib.compact (bS l)).length cap) (cells:=(Lib.compact (bS l)).map Proofs.encStr) hf z (λb hb=> .inl (by rw[e0];exact hb)) ⟨_,_,_,rfl⟩ k0 (by rw[o];exact A) (by rw[o];omega) xo
   (hs.below.grown z hs.below.size (λk hk=>by rw[e0]at hk;cases hk;exact r))
  refine⟨_,ι',rfl,i3, ?_⟩
  rw[←i1]
  exact .c (.ref (Nat.lt_succ_self _) ⟨_,_,_,i1⟩)
end Go.Proofs.YtiapgekjmcjjgaaGreatDoor
