import Derived.Shelf.Strings.Fields
import Derived.Test.YtjhkikmonejkjaaGreatDoorProg
import Derived.Shelf.Small.Bits
import Derived.Shelf.Strconv.Itoa0
import Derived.Shelf.Sort.Plain
import Derived.Shelf.Unicode.Latin
import Derived.Shelf.Unicode.Is16White
import Derived.Shelf.Unicode.IsSpaceAny
import Derived.Shelf.Unicode.Is16WhiteD
import Derived.Shelf.Unicode.IsSpaceAnyD
import Derived.Shelf.Strings.FieldsAny
import Derived.Shelf.Strings.FieldsFuncAny
import Derived.Shelf.Unicode.Is16Any
import Derived.Shelf.Unicode.Is32Any
import Derived.Shelf.Unicode.ExclAny
import Derived.Shelf.Slices.CompactS
import Derived.Shelf.Slices.In.SortNone
import Derived.Test.YtjhkikmonejkjaaGreatDoorLaw
import Derived.Sort.OwnSorted
import Derived.Lib.OwnBridge
set_option linter.unusedVariables false
set_option linter.unusedSimpArgs false
open Go.Proofs.Tryz renaming prog→Ya
namespace Go.Proofs
open Go.Shelf
def Tryz.lays157_ren:Go.Shelf.Ren:=⟨λ|157=>194|229=>212|199=>213|261=>227|311=>233|312=>234|n=>n,λ|9=>9|31=>28|3=>3|5=>5|4=>4|119=>273|0=>0|40=>222|152=>281|21=>21|154=>283|51=>257|141=>285|196=>291|193=>288|198=>294|49=>292|194=>289|201=>297|226=>300|46=>234|227=>301|n=>n,λ|0=>0|6=>1|n=>n⟩
theorem Tryz.lays157:Go.Proofs.Lays.n157 Ya Tryz.lays157_ren:={
  mixed:=by kernel_rfl
  f157:=Tryz.func194.trans (congrArg some (by kernel_rfl))
  f199:=Tryz.func213.trans (congrArg some (by kernel_rfl))
  f229:=Tryz.func212.trans (congrArg some (by kernel_rfl))
  f261:=Tryz.func227.trans (congrArg some (by kernel_rfl))
  f311:=Tryz.func233.trans (congrArg some (by kernel_rfl))
  f312:=Tryz.func234.trans (congrArg some (by kernel_rfl))
  t0:=Tryz.underlying0
  a0:=Tryz.isAgg0
  z0:=Tryz.sizeOf0
  v0:=Tryz.zeroValue0
  t3:=Tryz.underlying3
  a3:=Tryz.isAgg3
  z3:=Tryz.sizeOf3
  v3:=Tryz.zeroValue3
  t4:=Tryz.underlying4
  a4:=Tryz.isAgg4
  z4:=Tryz.sizeOf4
  v4:=Tryz.zeroValue4
  t5:=Tryz.underlying5
  a5:=Tryz.isAgg5
  z5:=Tryz.sizeOf5
  v5:=Tryz.zeroValue5
  t9:=Tryz.underlying9
  a9:=Tryz.isAgg9
  z9:=Tryz.sizeOf9
  v9:=Tryz.zeroValue9
  t21:=Tryz.underlying21
  a21:=Tryz.isAgg21
  z21:=Tryz.sizeOf21
  v21:=Tryz.zeroValue21
  t31:=Tryz.underlying28
  a31:=Tryz.isAgg28
  z31:=Tryz.sizeOf28
  v31:=Tryz.zeroValue28
  t40:=Tryz.underlying222
  a40:=Tryz.isAgg222
  z40:=Tryz.sizeOf222
  v40:=Tryz.zeroValue222
  t46:=Tryz.underlying234
  a46:=Tryz.isAgg234
  z46:=Tryz.sizeOf234
  v46:=Tryz.zeroValue234
  t49:=Tryz.underlying292
  a49:=Tryz.isAgg292
  z49:=Tryz.sizeOf292
  v49:=Tryz.zeroValue292
  t51:=Tryz.underlying257
  a51:=Tryz.isAgg257
  z51:=Tryz.sizeOf257
  v51:=Tryz.zeroValue257
  t119:=Tryz.underlying273
  a119:=Tryz.isAgg273
  z119:=Tryz.sizeOf273
  t141:=Tryz.underlying285
  a141:=Tryz.isAgg285
  z141:=Tryz.sizeOf285
  v141:=Tryz.zeroValue285
  t152:=Tryz.underlying281
  a152:=Tryz.isAgg281
  z152:=Tryz.sizeOf281
  v152:=Tryz.zeroValue281
  t154:=Tryz.underlying283
  a154:=Tryz.isAgg283
  z154:=Tryz.sizeOf283
  v154:=Tryz.zeroValue283
  t193:=Tryz.underlying288
  a193:=Tryz.isAgg288
  z193:=Tryz.sizeOf288
  v193:=Tryz.zeroValue288
  t194:=Tryz.underlying289
  a194:=Tryz.isAgg289
  z194:=Tryz.sizeOf289
  v194:=Tryz.zeroValue289
  t196:=Tryz.underlying291
  a196:=Tryz.isAgg291
  z196:=Tryz.sizeOf291
  v196:=Tryz.zeroValue291
  t198:=Tryz.underlying294
  a198:=Tryz.isAgg294
  z198:=Tryz.sizeOf294
  v198:=Tryz.zeroValue294
  t201:=Tryz.underlying297
  a201:=Tryz.isAgg297
  z201:=Tryz.sizeOf297
  v201:=Tryz.zeroValue297
  t226:=Tryz.underlying300
  a226:=Tryz.isAgg300
  z226:=Tryz.sizeOf300
  v226:=Tryz.zeroValue300
  t227:=Tryz.underlying301
  a227:=Tryz.isAgg301
  z227:=Tryz.sizeOf301
  v227:=Tryz.zeroValue301
  g0:=by kernel_rfl
  g6:=by kernel_rfl}
def Tryz.lays190_ren:Go.Shelf.Ren:=⟨λ|190=>132|125=>156|258=>155|128=>185|129=>186|302=>176|303=>177|304=>178|305=>179|306=>180|307=>181|308=>182|309=>183|310=>184|333=>203|329=>204|330=>205|334=>206|335=>207|336=>208|344=>225|n=>n,λ|31=>28|9=>9|3=>3|46=>234|0=>0|51=>257|53=>196|4=>4|183=>249|182=>248|131=>254|5=>5|218=>265|222=>269|228=>277|229=>278|n=>n,λ|n=>n⟩
theorem Tryz.lays190:Go.Proofs.Lays.n190 Ya Tryz.lays190_ren:={
  mixed:=by kernel_rfl
  f125:=Tryz.func156.trans (congrArg some (by kernel_rfl))
  f128:=Tryz.func185.trans (congrArg some (by kernel_rfl))
  f129:=Tryz.func186.trans (congrArg some (by kernel_rfl))
  f190:=Tryz.func132.trans (congrArg some (by kernel_rfl))
  f258:=Tryz.func155.trans (congrArg some (by kernel_rfl))
  f302:=Tryz.func176.trans (congrArg some (by kernel_rfl))
  f303:=Tryz.func177.trans (congrArg some (by kernel_rfl))
  f304:=Tryz.func178.trans (congrArg some (by kernel_rfl))
  f305:=Tryz.func179.trans (congrArg some (by kernel_rfl))
  f306:=Tryz.func180.trans (congrArg some (by kernel_rfl))
  f307:=Tryz.func181.trans (congrArg some (by kernel_rfl))
  f308:=Tryz.func182.trans (congrArg some (by kernel_rfl))
  f309:=Tryz.func183.trans (congrArg some (by kernel_rfl))
  f310:=Tryz.func184.trans (congrArg some (by kernel_rfl))
  f329:=Tryz.func204.trans (congrArg some (by kernel_rfl))
  f330:=Tryz.func205.trans (congrArg some (by kernel_rfl))
  f333:=Tryz.func203.trans (congrArg some (by kernel_rfl))
  f334:=Tryz.func206.trans (congrArg some (by kernel_rfl))
  f335:=Tryz.func207.trans (congrArg some (by kernel_rfl))
  f336:=Tryz.func208.trans (congrArg some (by kernel_rfl))
  f344:=Tryz.func225.trans (congrArg some (by kernel_rfl))
  t0:=Tryz.underlying0
  a0:=Tryz.isAgg0
  z0:=Tryz.sizeOf0
  v0:=Tryz.zeroValue0
  t3:=Tryz.underlying3
  a3:=Tryz.isAgg3
  z3:=Tryz.sizeOf3
  v3:=Tryz.zeroValue3
  t4:=Tryz.underlying4
  a4:=Tryz.isAgg4
  z4:=Tryz.sizeOf4
  v4:=Tryz.zeroValue4
  t5:=Tryz.underlying5
  a5:=Tryz.isAgg5
  z5:=Tryz.sizeOf5
  v5:=Tryz.zeroValue5
  t9:=Tryz.underlying9
  a9:=Tryz.isAgg9
  z9:=Tryz.sizeOf9
  v9:=Tryz.zeroValue9
  t31:=Tryz.underlying28
  a31:=Tryz.isAgg28
  z31:=Tryz.sizeOf28
  v31:=Tryz.zeroValue28
  t46:=Tryz.underlying234
  a46:=Tryz.isAgg234
  z46:=Tryz.sizeOf234
  v46:=Tryz.zeroValue234
  t51:=Tryz.underlying257
  a51:=Tryz.isAgg257
  z51:=Tryz.sizeOf257
  v51:=Tryz.zeroValue257
  t53:=Tryz.underlying196
  a53:=Tryz.isAgg196
  z53:=Tryz.sizeOf196
  v53:=Tryz.zeroValue196
  t131:=Tryz.underlying254
  a131:=Tryz.isAgg254
  z131:=Tryz.sizeOf254
  v131:=Tryz.zeroValue254
  t182:=Tryz.underlying248
  a182:=Tryz.isAgg248
  z182:=Tryz.sizeOf248
  v182:=Tryz.zeroValue248
  t183:=Tryz.underlying249
  a183:=Tryz.isAgg249
  z183:=Tryz.sizeOf249
  v183:=Tryz.zeroValue249
  t218:=Tryz.underlying265
  a218:=Tryz.isAgg265
  z218:=Tryz.sizeOf265
  v218:=Tryz.zeroValue265
  t222:=Tryz.underlying269
  a222:=Tryz.isAgg269
  z222:=Tryz.sizeOf269
  v222:=Tryz.zeroValue269
  t228:=Tryz.underlying277
  a228:=Tryz.isAgg277
  z228:=Tryz.sizeOf277
  v228:=Tryz.zeroValue277
  t229:=Tryz.underlying278
  a229:=Tryz.isAgg278
  z229:=Tryz.sizeOf278
  v229:=Tryz.zeroValue278}
open Go.Sort Go.RowKit in
theorem Tryz.slices_Sort_string (blk off cap:Nat) (ss:List (List UInt8)) (w:World) (hH:Holds encStr w blk off ss.toArray) (L:blk<w.heap.size) (d:ss.length<4611686018427387904):
    Calls Ya 132 #[.slice (some ⟨blk,off,none⟩) ss.length cap] w λe w'=>
      e= .returned (.tuple #[])∧ ∃n os,w'=grow (putRow encStr (Sort.ahead w n) blk off (ss.mergeSort λx y=>decide (x≤y)).toArray) os:=Any.slices_Sort_string Tryz.lays190 blk off cap ss w hH L d
def Tryz.lays194_ren:Go.Shelf.Ren:=⟨λ|194=>133|n=>n,λ|31=>28|9=>9|3=>3|4=>4|0=>0|n=>n,λ|n=>n⟩
theorem Tryz.lays194:Go.Proofs.Lays.n194 Ya Tryz.lays194_ren:={
  mixed:=by kernel_rfl
  f194:=Tryz.func133.trans (congrArg some (by kernel_rfl))
  t0:=Tryz.underlying0
  a0:=Tryz.isAgg0
  z0:=Tryz.sizeOf0
  v0:=Tryz.zeroValue0
  t3:=Tryz.underlying3
  a3:=Tryz.isAgg3
  z3:=Tryz.sizeOf3
  v3:=Tryz.zeroValue3
  t4:=Tryz.underlying4
  a4:=Tryz.isAgg4
  z4:=Tryz.sizeOf4
  v4:=Tryz.zeroValue4
  t9:=Tryz.underlying9
  a9:=Tryz.isAgg9
  z9:=Tryz.sizeOf9
  v9:=Tryz.zeroValue9
  t31:=Tryz.underlying28
  a31:=Tryz.isAgg28
  z31:=Tryz.sizeOf28
  v31:=Tryz.zeroValue28}
open Go.RowKit Go.Lib Go.Sort in
theorem Tryz.slices_Compact_string (blk off cap:Nat) (zs:List (List UInt8)) (w:World) (hH:Holds encStr w blk off zs.toArray) (d:zs.length≤9223372036854775807) (M:zs.length≤cap):
    Calls Ya 133 #[.slice (some ⟨blk,off,none⟩) zs.length cap] w λe w'=>e= .returned (.slice (some ⟨blk,off,none⟩) (Lib.compact zs).length cap)∧ ∃q,w'=putRow encStr (Sort.ahead w q) blk off (Lib.compact zs++List.replicate (zs.length-(Lib.compact zs).length) []).toArray:=Any.slices_Compact_string Tryz.lays194 blk off cap zs w hH d M
open Go.RowKit Go.Lib Go.Sort in
theorem Tryz.slices_Compact_string_empty (a:Option Addr) (cap:Nat) (w:World):
    Calls Ya 133 #[.slice a 0 cap] w λe w'=>e= .returned (.slice a 0 cap)∧w'=w:=Any.slices_Compact_string_empty Tryz.lays194 a cap w
open Go.RowKit Go.Sort in
theorem Tryz.slices_Sort_string_none (p:Option Addr) (cap:Nat) (w:World):
    Calls Ya 132 #[.slice p 0 cap] w λe w'=>e= .returned (.tuple #[])∧w'=w:=Any.slices_Sort_string_none Tryz.lays190 p cap w
end Go.Proofs
namespace Go.Abs
open Go.RowKit Go.Sort
theorem bl.regrow {w0 w w':World} {U:Gh} {σ:St} {ι:Pl} {a:Act} (hs:bl w0 U σ ι a w) {nm e sz:Nat} {rows rows':List (List PC)} {cells:List Value} (hf:am σ.mem nm=some (.arr e sz rows)) (hg:w.grownBy w' (bc (ι nm)))
  (h0:0<sz) (A:w'.ownsRow w0.heap.size e sz (ι nm) rows'.length cells) (hm:rows'.length≤9223372036854775807) (H:aO w (aB w0.heap.size U ι σ.mem) sz rows' cells) (C:Below w0.heap.size w0 w'):
  bl w0 U {σ with mem:=dG σ.mem nm (.arr e sz rows')} ι a w':=by
 have f: ∀c,aB w0.heap.size U ι σ.mem c→aB w0.heap.size U ι (dG σ.mem nm (.arr e sz rows')) c:= λc h=>zC.2 h
 have hw: ∀b,b<w.heap.size→aB w0.heap.size U ι σ.mem b→w'.heap[b]? =w.heap[b]? := λb hb h=>hg.block b hb (λe=>h.2 _ _ hf e.symm)
 have F: ∀n bx,am (dG σ.mem nm (.arr e sz rows')) n=some bx→(n=nm∧bx= .arr e sz rows')∨(n≠nm∧am σ.mem n=some bx):=by
  intro n bx hn
  rw[dp]at hn
  by_cases e:nm=n
  ·subst e
   rw[if_pos rfl,hf]at hn
   cases hn
   exact .inl ⟨rfl,rfl⟩
  ·rw[if_neg e]at hn
   exact .inr ⟨λh=>e h.symm,hn⟩
 have u: ∀n bx,am (dG σ.mem nm (.arr e sz rows')) n=some bx→ ∃by',am σ.mem n=some by':= λn bx hn=>by
  rcases F n bx hn with⟨rfl,_⟩|⟨_,h⟩
  ·exact⟨_,hf⟩
  ·exact⟨_,h⟩
 refine⟨λt=>(hs.val t).mono (λc _ h=>f c h) hw (λ_ _=>rfl) (Nat.le_refl _),hs.defers,λn bx hn=> ?_,λn bx hn=> ?_,λn n' b1 b2 c h1 h2 h3 h4=> ?_,C,U.mono _ _ _ _ hs.keep (λc _ h=>f c h) hw,hs.base⟩
 ·obtain⟨_,h⟩:=u n bx hn
  exact hs.names _ _ h
 ·rcases F n bx hn with⟨rfl,rfl⟩|⟨h1,h3⟩
  ·exact⟨cells,h0,A,hm,H.mono (λc _ h=>f c h) hw⟩
  ·have D: ∀c,bc (ι n)=some c→bc (ι nm)≠some c:= λc hc e'=>h1 (hs.apart _ _ _ _ c h3 hf hc e')
   have E:=hs.box _ _ h3
   cases bx with
   |var xs=>
    obtain⟨b',vs,T,g1,g2,g3,g4⟩:=E
    refine⟨b',vs,T,g1,g2, ?_,g4.mono λ_ _ h=>h.mono (λc _ h=>f c h) hw (λ_ _=>rfl) (Nat.le_refl _)⟩
    rw[hg.block b' (Array.getElem?_eq_some_iff.1 g3).1 (λe=>D b' (by rw[g1];rfl) e.symm)]
    exact g3
   |arr e' sz' rows0=>
    obtain⟨cells',k0,k1,k2,k3⟩:=E
    refine⟨cells',k0,World.ownsRow.kept k1 hg ?_,k2,k3.mono (λc _ h=>f c h) hw⟩
    rcases k1.2 with⟨h,_⟩|⟨g,cap,cur,h,_⟩
    ·rw[h];exact .inl rfl
    ·right
     intro e1
     have J:bc (ι n)=some g:=by rw[h];rfl
     rw[h]at e1
     simp[Value.ownBlock]at e1
     exact D g J e1.symm
   |arn e' sz' rows0=>
    obtain⟨cells',k0,k1,k2,k3⟩:=E
    refine⟨cells',k0,World.ownsRow.kept k1 hg ?_,k2,k3.mono (λc _ h=>f c h) hw (λ_ _=>rfl) (Nat.le_refl _)⟩
    rcases k1.2 with⟨h,_⟩|⟨g,cap,cur,h,_⟩
    ·rw[h];exact .inl rfl
    ·right
     intro e1
     have J:bc (ι n)=some g:=by rw[h];rfl
     rw[h]at e1
     simp[Value.ownBlock]at e1
     exact D g J e1.symm
   |map kt m ents=>
    obtain⟨b',es,clock,g1,g2,g3,g4,g5⟩:=E
    refine⟨b',es,clock,g1,g2, ?_,g4.mono λ_ _ h=>h.mono (λc _ h=>f c h) hw (λ_ _=>rfl) (Nat.le_refl _),g5⟩
    rw[hg.block b' (Array.getElem?_eq_some_iff.1 g3).1 (λe=>D b' (by rw[g1];rfl) e.symm)]
    exact g3
 ·obtain⟨_,N⟩:=u n b1 h1
  obtain⟨_,O⟩:=u n' b2 h2
  exact hs.apart _ _ _ _ _ N O h3 h4
end Go.Abs
namespace Go.Proofs.YtjhkikmonejkjaaGreatDoor
open Go.Abs Go.RowKit Go.Sort
def a6 (l:List ByteArray):List (List UInt8):=l.map λs=>s.data.toList
def jt (l:List (List UInt8)):List ByteArray:=l.map λb=>⟨b.toArray⟩
def wB (l:List ByteArray):List ByteArray:=jt ((a6 l).mergeSort λx y=>decide (x≤y))
def vn (l:List ByteArray):List ByteArray:=jt (Lib.compact (a6 l))
abbrev bJ (l:List ByteArray):List (List PC):=l.map λs=> [pS s]
theorem AF {w:World} {V:Nat→Prop} {l:List (List UInt8)}:aO w V 1 (bJ (jt l)) (l.map Proofs.encStr):=by
 refine⟨by simp[jt],λi row hi=> ?_,λi row j p hi hj=> ?_⟩
 ·simp only[bJ,List.getElem?_map]at hi
  obtain⟨s,_,rfl⟩:=Option.map_eq_some_iff.1 hi
  rfl
 ·simp only[bJ,jt,List.map_map,List.getElem?_map]at hi
  obtain⟨b,hb,rfl⟩:=Option.map_eq_some_iff.1 hi
  cases j with
  |zero=>
   simp at hj
   subst hj
   exact⟨_,by rw[Nat.mul_one,Nat.add_zero,List.getElem?_map,hb];rfl,.val rfl⟩
  |succ j=>simp at hj
theorem vu {w:World} {V:Nat→Prop} {l:List ByteArray} {cells:List Value} (h:aO w V 1 (bJ l) cells):cells=(a6 l).map Proofs.encStr:=by
 obtain⟨h1,h2,h3⟩:=h
 refine List.ext_getElem? λi=> ?_
 by_cases hi:i<l.length
 ·obtain⟨v,hv,hr⟩:=h3 i [pS l[i]] 0 (pS l[i]) (by simp[bJ,hi]) rfl
  rw[Nat.mul_one,Nat.add_zero]at hv
  rw[hv,List.getElem?_map,a6,List.getElem?_map,List.getElem?_eq_getElem hi]
  cases hr with
  |val h=>
   cases h
   rfl
 ·rw[List.getElem?_eq_none (by simp[bJ]at h1;omega),List.getElem?_eq_none (by simp[a6];omega)]
theorem TU {mem:List (Nat×bm)} {nx nm e:Nat} {l:List ByteArray} (hf:am mem nm=some (.arr e 1 (bJ l))) (Y:l.length<4611686018427387904):
  bb Ya fi [.c (.ref nm)] mem nx (fZ []) (dG mem nm (.arr e 1 (bJ (wB l)))) nx:=by
 obtain⟨fn,c,h1,h2,h3,_⟩:=kd.is
 refine⟨⟨fn,h1,by rw[h2];rfl,h3⟩,λw0 U ι w vs hs hr=> ?_⟩
 obtain⟨cells,k0,k1,k2,k3⟩:=hs.box _ _ hf
 obtain⟨v,hv⟩: ∃v,vs= #[v]∧v=ι nm:=by
  have:=hr
  obtain⟨l0⟩:=vs
  cases this with
  |cons a b=>
   cases b
   exact⟨_,rfl,sW a⟩
 obtain⟨rfl,rfl⟩:=hv
 have hc:=vu k3
 subst hc
 have d:(bJ l).length=(a6 l).length:=by simp[bJ,a6]
 have G: ∀{w':World} {ι':Pl} {V:Nat→Prop},aK w' V ι' nx (fZ []) (.tuple #[]):= .tup rfl (λi=>by simp)
 rcases k1.2 with⟨e0,e1⟩|⟨g,cap,cur,e0,r,hb,c1,c2,c3,c4⟩
 ·have K:l= []:=by
   have:l.length=0:=by simpa[bJ]using e1
   exact List.eq_nil_of_length_eq_zero this
  subst K
  rw[e0]
  have P:bJ (wB [])=bJ []:=by simp[wB,a6,jt]
  rw[P]
  refine(Tryz.slices_Sort_string_none none 0 w).mono ?_
  rintro en w' ⟨rfl,rfl⟩
  exact⟨_,ι,rfl,hs.regrow hf ⟨rfl,rfl,rfl,Nat.le_refl _,λ_ _ _=>rfl⟩ k0 k1 k2 k3 hs.below,G⟩
 ·rw[e0,d]
  have c4':cur.toList.take (a6 l).length=(a6 l).map Proofs.encStr:=by rw[d,Nat.mul_one]at c4;exact c4
  refine(Tryz.slices_Sort_string g 0 cap (a6 l) w (holds_of_block hb c4') (Array.getElem?_eq_some_iff.1 hb).1 (by simp[a6];omega)).mono ?_
  rintro en w' ⟨rfl,n,os,rfl⟩
  have Q:((a6 l).mergeSort λx y=>decide (x≤y)).length=(a6 l).length:=List.length_mergeSort _
  have z:w.grownBy (grow (putRow Proofs.encStr (Sort.ahead w n) g 0 ((a6 l).mergeSort λx y=>decide (x≤y)).toArray) os) (bc (ι nm)):=by
   rw[e0]
   exact grownBy_sorted _
  have o:(bJ (wB l)).length=(a6 l).length:=by simp[bJ,wB,jt]
  refine⟨_,ι,rfl,hs.regrow hf z k0 (cells:=((a6 l).mergeSort λx y=>decide (x≤y)).map Proofs.encStr) ?_ (by rw[o,←d];exact k2) AF ?_,G⟩
  ·rw[e0,o,d]
   exact ownsRow_sorted Q r hb (by rw[←d];exact c1) c2 c3
  ·exact hs.below.grown z hs.below.size (λk hk=>by rw[e0]at hk;cases hk;exact r)
theorem NQ {mem:List (Nat×bm)} {nx nm e:Nat} {l:List ByteArray} (hf:am mem nm=some (.arr e 1 (bJ l))):
  bb Ya 133 [.c (.ref nm)] mem nx (.c (.ref nx)) ((nx,.arr e 1 (bJ (vn l)))::sV mem nm) (nx+1):=by
 refine⟨⟨_,Tryz.func133,rfl,by kernel_rfl⟩,λw0 U ι w vs hs hr=> ?_⟩
 obtain⟨cells,k0,k1,k2,k3⟩:=hs.box _ _ hf
 obtain⟨v,hv⟩: ∃v,vs= #[v]∧v=ι nm:=by
  have:=hr
  obtain⟨l0⟩:=vs
  cases this with
  |cons a b=>
   cases b
   exact⟨_,rfl,sW a⟩
 obtain⟨rfl,rfl⟩:=hv
 have hc:=vu k3
 subst hc
 have d:(bJ l).length=(a6 l).length:=by simp[bJ,a6]
 have R:=Lib.compact_length_le (a6 l)
 have o:(bJ (vn l)).length=(Lib.compact (a6 l)).length:=by simp[bJ,vn,jt]
 rcases k1.2 with⟨e0,e1⟩|⟨g,cap,cur,e0,r,hb,c1,c2,c3,c4⟩
 ·have K:l= []:=by
   have:l.length=0:=by simpa[bJ]using e1
   exact List.eq_nil_of_length_eq_zero this
  subst K
  rw[e0]
  refine(Tryz.slices_Compact_string_empty none 0 w).mono ?_
  rintro en w' ⟨rfl,rfl⟩
  have W:bJ (vn [])= []:=by simp[bJ,vn,jt,a6,Lib.compact,Lib.compactUpTo]
  rw[W]
  obtain⟨ι',i1,_,i3⟩:=hs.replace (w':=w') (rows':= []) (pv:= .slice none 0 0) (cells:= []) hf ⟨rfl,rfl,rfl,Nat.le_refl _,λ_ _ _=>rfl⟩ (λb hb=>by cases hb) ⟨_,_,_,rfl⟩ k0 ⟨rfl,.inl ⟨rfl,rfl⟩⟩ (by simp)
   ⟨rfl,λi row hi=>by simp at hi,λi row j p hi=>by simp at hi⟩ hs.below
  refine⟨_,ι',rfl,i3, ?_⟩
  rw[←i1]
  exact .c (.ref (Nat.lt_succ_self _) ⟨_,_,_,i1⟩)
 ·rw[e0,d]
  have c4':cur.toList.take (a6 l).length=(a6 l).map Proofs.encStr:=by rw[d,Nat.mul_one]at c4;exact c4
  refine(Tryz.slices_Compact_string g 0 cap (a6 l) w (holds_of_block hb c4') (by rw[←d];exact k2) (by rw[←d];exact c1)).mono ?_
  rintro en w' ⟨rfl,q,rfl⟩
  have z:w.grownBy (putRow Proofs.encStr (Sort.ahead w q) g 0 (Lib.compact (a6 l)++List.replicate ((a6 l).length-(Lib.compact (a6 l)).length) []).toArray) (bc (ι nm)):=by
   rw[e0]
   have X: ∀v:World,grow v #[]=v:= λv=>by unfold grow;rw[Array.append_empty]
   rw[←X (putRow _ _ _ _ _)]
   exact grownBy_sorted _
  have A:=Lib.ownsRow_putRow (q:=q) (k:=(Lib.compact (a6 l)).length) (ys:=Lib.compact (a6 l)++List.replicate ((a6 l).length-(Lib.compact (a6 l)).length) []) (by rw[e0,d]at k1;exact k1) (by simp;omega) R
  rw[List.take_left]at A
  obtain⟨ι',i1,_,i3⟩:=hs.replace (rows':=bJ (vn l)) (pv:= .slice (some ⟨g,0,none⟩) (Lib.compact (a6 l)).length cap) (cells:=(Lib.compact (a6 l)).map Proofs.encStr) hf z (λb hb=> .inl (by rw[e0];exact hb)) ⟨_,_,_,rfl⟩ k0 (by rw[o];exact A) (by rw[o];omega) AF
   (hs.below.grown z hs.below.size (λk hk=>by rw[e0]at hk;cases hk;exact r))
  refine⟨_,ι',rfl,i3, ?_⟩
  rw[←i1]
  exact .c (.ref (Nat.lt_succ_self _) ⟨_,_,_,i1⟩)
end Go.Proofs.YtjhkikmonejkjaaGreatDoor
