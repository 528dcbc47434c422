import Derived.Shelf.Strings.Fields
import Derived.Test.YthbcbaembicdbaaGreatDoorProg
import Derived.Shelf.Small.Bits
import Derived.Shelf.Strconv.Itoa0
import Derived.Shelf.Sort.Plain
import Derived.Shelf.LaysM
import Derived.Shelf.Strings.SplitShaped
import Derived.Shelf.Unicode.Latin
import Derived.Shelf.Unicode.Is16White
import Derived.Shelf.Unicode.IsSpaceAny
import Derived.Shelf.Unicode.Is16WhiteD
import Derived.Shelf.Unicode.IsSpaceAnyD
import Derived.Shelf.Strings.FieldsAny
import Derived.Shelf.Strings.FieldsFuncAny
import Derived.Shelf.Unicode.Is16Any
import Derived.Shelf.Unicode.Is32Any
import Derived.Shelf.Unicode.ExclAny
import Derived.Ground.Names2Prog
import Derived.Shelf.Slices.Clone
import Derived.Shelf.Slices.CompactS
import Derived.Shelf.Slices.Cells
import Derived.Shelf.Slices.In.SortNone
import Derived.Ground.SlgnProg
import Derived.Shelf.SlicesE.Clone
import Derived.Test.YthbcbaembicdbaaGreatDoorLaw
import Derived.Sort.OwnSorted
import Derived.Lib.OwnBridge
set_option linter.unusedVariables false
set_option linter.unusedSimpArgs false
namespace Go.Proofs
open Go.Shelf
def Tryz.lays157_ren:Go.Shelf.Ren:=⟨λ|157=>227|229=>245|199=>246|261=>271|311=>284|312=>285|n=>n,λ|9=>9|31=>22|3=>3|5=>5|4=>4|119=>289|0=>0|40=>229|152=>307|21=>21|154=>309|51=>305|141=>311|196=>323|193=>320|198=>326|49=>324|194=>321|201=>329|226=>334|46=>263|227=>335|n=>n,λ|0=>0|6=>1|n=>n⟩
theorem Tryz.lays157:Go.Proofs.Lays.n157 Tryz.prog Tryz.lays157_ren:={
  mixed:=by kernel_rfl
  f157:=Tryz.func227.trans (congrArg some (by kernel_rfl))
  f199:=Tryz.func246.trans (congrArg some (by kernel_rfl))
  f229:=Tryz.func245.trans (congrArg some (by kernel_rfl))
  f261:=Tryz.func271.trans (congrArg some (by kernel_rfl))
  f311:=Tryz.func284.trans (congrArg some (by kernel_rfl))
  f312:=Tryz.func285.trans (congrArg some (by kernel_rfl))
  t0:=Tryz.underlying0
  a0:=Tryz.isAgg0
  z0:=Tryz.sizeOf0
  v0:=Tryz.zeroValue0
  t3:=Tryz.underlying3
  a3:=Tryz.isAgg3
  z3:=Tryz.sizeOf3
  v3:=Tryz.zeroValue3
  t4:=Tryz.underlying4
  a4:=Tryz.isAgg4
  z4:=Tryz.sizeOf4
  v4:=Tryz.zeroValue4
  t5:=Tryz.underlying5
  a5:=Tryz.isAgg5
  z5:=Tryz.sizeOf5
  v5:=Tryz.zeroValue5
  t9:=Tryz.underlying9
  a9:=Tryz.isAgg9
  z9:=Tryz.sizeOf9
  v9:=Tryz.zeroValue9
  t21:=Tryz.underlying21
  a21:=Tryz.isAgg21
  z21:=Tryz.sizeOf21
  v21:=Tryz.zeroValue21
  t31:=Tryz.underlying22
  a31:=Tryz.isAgg22
  z31:=Tryz.sizeOf22
  v31:=Tryz.zeroValue22
  t40:=Tryz.underlying229
  a40:=Tryz.isAgg229
  z40:=Tryz.sizeOf229
  v40:=Tryz.zeroValue229
  t46:=Tryz.underlying263
  a46:=Tryz.isAgg263
  z46:=Tryz.sizeOf263
  v46:=Tryz.zeroValue263
  t49:=Tryz.underlying324
  a49:=Tryz.isAgg324
  z49:=Tryz.sizeOf324
  v49:=Tryz.zeroValue324
  t51:=Tryz.underlying305
  a51:=Tryz.isAgg305
  z51:=Tryz.sizeOf305
  v51:=Tryz.zeroValue305
  t119:=Tryz.underlying289
  a119:=Tryz.isAgg289
  z119:=Tryz.sizeOf289
  t141:=Tryz.underlying311
  a141:=Tryz.isAgg311
  z141:=Tryz.sizeOf311
  v141:=Tryz.zeroValue311
  t152:=Tryz.underlying307
  a152:=Tryz.isAgg307
  z152:=Tryz.sizeOf307
  v152:=Tryz.zeroValue307
  t154:=Tryz.underlying309
  a154:=Tryz.isAgg309
  z154:=Tryz.sizeOf309
  v154:=Tryz.zeroValue309
  t193:=Tryz.underlying320
  a193:=Tryz.isAgg320
  z193:=Tryz.sizeOf320
  v193:=Tryz.zeroValue320
  t194:=Tryz.underlying321
  a194:=Tryz.isAgg321
  z194:=Tryz.sizeOf321
  v194:=Tryz.zeroValue321
  t196:=Tryz.underlying323
  a196:=Tryz.isAgg323
  z196:=Tryz.sizeOf323
  v196:=Tryz.zeroValue323
  t198:=Tryz.underlying326
  a198:=Tryz.isAgg326
  z198:=Tryz.sizeOf326
  v198:=Tryz.zeroValue326
  t201:=Tryz.underlying329
  a201:=Tryz.isAgg329
  z201:=Tryz.sizeOf329
  v201:=Tryz.zeroValue329
  t226:=Tryz.underlying334
  a226:=Tryz.isAgg334
  z226:=Tryz.sizeOf334
  v226:=Tryz.zeroValue334
  t227:=Tryz.underlying335
  a227:=Tryz.isAgg335
  z227:=Tryz.sizeOf335
  v227:=Tryz.zeroValue335
  g0:=by kernel_rfl
  g6:=by kernel_rfl}
def Tryz.lays190_ren:Go.Shelf.Ren:=⟨λ|190=>221|125=>242|258=>241|128=>269|129=>270|302=>260|303=>261|304=>262|305=>263|306=>264|307=>265|308=>266|309=>267|310=>268|333=>278|329=>279|330=>280|334=>281|335=>282|336=>283|344=>287|n=>n,λ|31=>22|9=>9|3=>3|46=>263|0=>0|51=>305|53=>218|4=>4|183=>297|182=>296|131=>302|5=>5|218=>314|222=>318|228=>331|229=>332|n=>n,λ|n=>n⟩
theorem Tryz.lays190:Go.Proofs.Lays.n190 Tryz.prog Tryz.lays190_ren:={
  mixed:=by kernel_rfl
  f125:=Tryz.func242.trans (congrArg some (by kernel_rfl))
  f128:=Tryz.func269.trans (congrArg some (by kernel_rfl))
  f129:=Tryz.func270.trans (congrArg some (by kernel_rfl))
  f190:=Tryz.func221.trans (congrArg some (by kernel_rfl))
  f258:=Tryz.func241.trans (congrArg some (by kernel_rfl))
  f302:=Tryz.func260.trans (congrArg some (by kernel_rfl))
  f303:=Tryz.func261.trans (congrArg some (by kernel_rfl))
  f304:=Tryz.func262.trans (congrArg some (by kernel_rfl))
  f305:=Tryz.func263.trans (congrArg some (by kernel_rfl))
  f306:=Tryz.func264.trans (congrArg some (by kernel_rfl))
  f307:=Tryz.func265.trans (congrArg some (by kernel_rfl))
  f308:=Tryz.func266.trans (congrArg some (by kernel_rfl))
  f309:=Tryz.func267.trans (congrArg some (by kernel_rfl))
  f310:=Tryz.func268.trans (congrArg some (by kernel_rfl))
  f329:=Tryz.func279.trans (congrArg some (by kernel_rfl))
  f330:=Tryz.func280.trans (congrArg some (by kernel_rfl))
  f333:=Tryz.func278.trans (congrArg some (by kernel_rfl))
  f334:=Tryz.func281.trans (congrArg some (by kernel_rfl))
  f335:=Tryz.func282.trans (congrArg some (by kernel_rfl))
  f336:=Tryz.func283.trans (congrArg some (by kernel_rfl))
  f344:=Tryz.func287.trans (congrArg some (by kernel_rfl))
  t0:=Tryz.underlying0
  a0:=Tryz.isAgg0
  z0:=Tryz.sizeOf0
  v0:=Tryz.zeroValue0
  t3:=Tryz.underlying3
  a3:=Tryz.isAgg3
  z3:=Tryz.sizeOf3
  v3:=Tryz.zeroValue3
  t4:=Tryz.underlying4
  a4:=Tryz.isAgg4
  z4:=Tryz.sizeOf4
  v4:=Tryz.zeroValue4
  t5:=Tryz.underlying5
  a5:=Tryz.isAgg5
  z5:=Tryz.sizeOf5
  v5:=Tryz.zeroValue5
  t9:=Tryz.underlying9
  a9:=Tryz.isAgg9
  z9:=Tryz.sizeOf9
  v9:=Tryz.zeroValue9
  t31:=Tryz.underlying22
  a31:=Tryz.isAgg22
  z31:=Tryz.sizeOf22
  v31:=Tryz.zeroValue22
  t46:=Tryz.underlying263
  a46:=Tryz.isAgg263
  z46:=Tryz.sizeOf263
  v46:=Tryz.zeroValue263
  t51:=Tryz.underlying305
  a51:=Tryz.isAgg305
  z51:=Tryz.sizeOf305
  v51:=Tryz.zeroValue305
  t53:=Tryz.underlying218
  a53:=Tryz.isAgg218
  z53:=Tryz.sizeOf218
  v53:=Tryz.zeroValue218
  t131:=Tryz.underlying302
  a131:=Tryz.isAgg302
  z131:=Tryz.sizeOf302
  v131:=Tryz.zeroValue302
  t182:=Tryz.underlying296
  a182:=Tryz.isAgg296
  z182:=Tryz.sizeOf296
  v182:=Tryz.zeroValue296
  t183:=Tryz.underlying297
  a183:=Tryz.isAgg297
  z183:=Tryz.sizeOf297
  v183:=Tryz.zeroValue297
  t218:=Tryz.underlying314
  a218:=Tryz.isAgg314
  z218:=Tryz.sizeOf314
  v218:=Tryz.zeroValue314
  t222:=Tryz.underlying318
  a222:=Tryz.isAgg318
  z222:=Tryz.sizeOf318
  v222:=Tryz.zeroValue318
  t228:=Tryz.underlying331
  a228:=Tryz.isAgg331
  z228:=Tryz.sizeOf331
  v228:=Tryz.zeroValue331
  t229:=Tryz.underlying332
  a229:=Tryz.isAgg332
  z229:=Tryz.sizeOf332
  v229:=Tryz.zeroValue332}
open Go.Sort Go.RowKit in
theorem Tryz.slices_Sort_string (blk off cap:Nat) (ss:List (List UInt8)) (w:World) (hH:Holds encStr w blk off ss.toArray) (hblk:blk<w.heap.size) (hsz:ss.length<4611686018427387904):
    Calls Tryz.prog 221 #[.slice (some ⟨blk,off,none⟩) ss.length cap] w λe w'=>
      e= .returned (.tuple #[])∧ ∃n os,w'=grow (putRow encStr (Sort.ahead w n) blk off (ss.mergeSort λx y=>decide (x≤y)).toArray) os:=Any.slices_Sort_string Tryz.lays190 blk off cap ss w hH hblk hsz
def Tryz.lays194_ren:Go.Shelf.Ren:=⟨λ|194=>222|n=>n,λ|31=>22|9=>9|3=>3|4=>4|0=>0|n=>n,λ|n=>n⟩
theorem Tryz.lays194:Go.Proofs.Lays.n194 Tryz.prog Tryz.lays194_ren:={
  mixed:=by kernel_rfl
  f194:=Tryz.func222.trans (congrArg some (by kernel_rfl))
  t0:=Tryz.underlying0
  a0:=Tryz.isAgg0
  z0:=Tryz.sizeOf0
  v0:=Tryz.zeroValue0
  t3:=Tryz.underlying3
  a3:=Tryz.isAgg3
  z3:=Tryz.sizeOf3
  v3:=Tryz.zeroValue3
  t4:=Tryz.underlying4
  a4:=Tryz.isAgg4
  z4:=Tryz.sizeOf4
  v4:=Tryz.zeroValue4
  t9:=Tryz.underlying9
  a9:=Tryz.isAgg9
  z9:=Tryz.sizeOf9
  v9:=Tryz.zeroValue9
  t31:=Tryz.underlying22
  a31:=Tryz.isAgg22
  z31:=Tryz.sizeOf22
  v31:=Tryz.zeroValue22}
open Go.RowKit Go.Lib Go.Sort in
theorem Tryz.slices_Compact_string (blk off cap:Nat) (zs:List (List UInt8)) (w:World) (hH:Holds encStr w blk off zs.toArray) (hsz:zs.length≤9223372036854775807) (hcap:zs.length≤cap):
    Calls Tryz.prog 222 #[.slice (some ⟨blk,off,none⟩) zs.length cap] w λe w'=>e= .returned (.slice (some ⟨blk,off,none⟩) (Lib.compact zs).length cap)∧ ∃q,w'=putRow encStr (Sort.ahead w q) blk off (Lib.compact zs++List.replicate (zs.length-(Lib.compact zs).length) []).toArray:=Any.slices_Compact_string Tryz.lays194 blk off cap zs w hH hsz hcap
open Go.RowKit Go.Lib Go.Sort in
theorem Tryz.slices_Compact_string_empty (a:Option Addr) (cap:Nat) (w:World):
    Calls Tryz.prog 222 #[.slice a 0 cap] w λe w'=>e= .returned (.slice a 0 cap)∧w'=w:=Any.slices_Compact_string_empty Tryz.lays194 a cap w
open Go.RowKit Go.Sort in
theorem Tryz.slices_Sort_string_none (p:Option Addr) (cap:Nat) (w:World):
    Calls Tryz.prog 221 #[.slice p 0 cap] w λe w'=>e= .returned (.tuple #[])∧w'=w:=Any.slices_Sort_string_none Tryz.lays190 p cap w
end Go.Proofs
namespace Go.Abs
open Go.RowKit Go.Sort
theorem bD.regrow {w0 w w':World} {U:Gh} {σ:St} {ι:Pl} {a:Act} (hs:bD w0 U σ ι a w) {nm e sz:Nat} {rows rows':List (List PC)} {cells:List Value} (hf:al σ.mem nm=some (.arr e sz rows)) (hg:w.grownBy w' (bt (ι nm)))
  (h0:0<sz) (how:w'.ownsRow w0.heap.size e sz (ι nm) rows'.length cells) (hm:rows'.length≤9223372036854775807) (hrows:aX w (aC w0.heap.size U ι σ.mem) sz rows' cells) (hbelow:Below w0.heap.size w0 w'):
  bD w0 U {σ with mem:=cm σ.mem nm (.arr e sz rows')} ι a w':=by
 have hfree: ∀c,aC w0.heap.size U ι σ.mem c→aC w0.heap.size U ι (cm σ.mem nm (.arr e sz rows')) c:= λc h=>vS.2 h
 have hw: ∀b,b<w.heap.size→aC w0.heap.size U ι σ.mem b→w'.heap[b]? =w.heap[b]? := λb hb h=>hg.block b hb (λe=>h.2 _ _ hf e.symm)
 have hdom: ∀n bx,al (cm σ.mem nm (.arr e sz rows')) n=some bx→(n=nm∧bx= .arr e sz rows')∨(n≠nm∧al σ.mem n=some bx):=by
  intro n bx hn
  rw[am]at hn
  by_cases e:nm=n
  ·subst e
   rw[if_pos rfl,hf]at hn
   cases hn
   exact .inl ⟨rfl,rfl⟩
  ·rw[if_neg e]at hn
   exact .inr ⟨λh=>e h.symm,hn⟩
 have hold: ∀n bx,al (cm σ.mem nm (.arr e sz rows')) n=some bx→ ∃by',al σ.mem n=some by':= λn bx hn=>by
  rcases hdom n bx hn with⟨rfl,_⟩|⟨_,h⟩
  ·exact⟨_,hf⟩
  ·exact⟨_,h⟩
 refine⟨λt=>(hs.val t).mono (λc _ h=>hfree c h) hw (λ_ _=>rfl) (Nat.le_refl _),hs.defers,λn bx hn=> ?_,λn bx hn=> ?_,λn n' b1 b2 c h1 h2 h3 h4=> ?_,hbelow,U.mono _ _ _ _ hs.keep (λc _ h=>hfree c h) hw,hs.base⟩
 ·obtain⟨_,h⟩:=hold n bx hn
  exact hs.names _ _ h
 ·rcases hdom n bx hn with⟨rfl,rfl⟩|⟨h1,h3⟩
  ·exact⟨cells,h0,how,hm,hrows.mono (λc _ h=>hfree c h) hw⟩
  ·have hbn: ∀c,bt (ι n)=some c→bt (ι nm)≠some c:= λc hc e'=>h1 (hs.apart _ _ _ _ c h3 hf hc e')
   have hbx:=hs.box _ _ h3
   cases bx with
   |var xs=>
    obtain⟨b',vs,T,g1,g2,g3,g4⟩:=hbx
    refine⟨b',vs,T,g1,g2, ?_,g4.mono λ_ _ h=>h.mono (λc _ h=>hfree c h) hw (λ_ _=>rfl) (Nat.le_refl _)⟩
    rw[hg.block b' (Array.getElem?_eq_some_iff.1 g3).1 (λe=>hbn b' (by rw[g1];rfl) e.symm)]
    exact g3
   |arr e' sz' rows0=>
    obtain⟨cells',k0,k1,k2,k3⟩:=hbx
    refine⟨cells',k0,World.ownsRow.kept k1 hg ?_,k2,k3.mono (λc _ h=>hfree c h) hw⟩
    rcases k1.2 with⟨h,_⟩|⟨g,cap,cur,h,_⟩
    ·rw[h];exact .inl rfl
    ·right
     intro e1
     have hb1:bt (ι n)=some g:=by rw[h];rfl
     rw[h]at e1
     simp[Value.ownBlock]at e1
     exact hbn g hb1 e1.symm
   |arn e' sz' rows0=>
    obtain⟨cells',k0,k1,k2,k3⟩:=hbx
    refine⟨cells',k0,World.ownsRow.kept k1 hg ?_,k2,k3.mono (λc _ h=>hfree c h) hw (λ_ _=>rfl) (Nat.le_refl _)⟩
    rcases k1.2 with⟨h,_⟩|⟨g,cap,cur,h,_⟩
    ·rw[h];exact .inl rfl
    ·right
     intro e1
     have hb1:bt (ι n)=some g:=by rw[h];rfl
     rw[h]at e1
     simp[Value.ownBlock]at e1
     exact hbn g hb1 e1.symm
   |map kt m ents=>
    obtain⟨b',es,clock,g1,g2,g3,g4⟩:=hbx
    refine⟨b',es,clock,g1,g2, ?_,g4.mono λ_ _ h=>h.mono (λc _ h=>hfree c h) hw (λ_ _=>rfl) (Nat.le_refl _)⟩
    rw[hg.block b' (Array.getElem?_eq_some_iff.1 g3).1 (λe=>hbn b' (by rw[g1];rfl) e.symm)]
    exact g3
 ·obtain⟨_,h1'⟩:=hold n b1 h1
  obtain⟨_,h2'⟩:=hold n' b2 h2
  exact hs.apart _ _ _ _ _ h1' h2' h3 h4
end Go.Abs
namespace Go.Proofs.YthbcbaembicdbaaGreatDoor
open Go.Abs Go.RowKit Go.Sort
def bo (l:List ByteArray):List (List UInt8):=l.map λs=>s.data.toList
def kC (l:List (List UInt8)):List ByteArray:=l.map λb=>⟨b.toArray⟩
def wQ (l:List ByteArray):List ByteArray:=kC ((bo l).mergeSort λx y=>decide (x≤y))
def tA (l:List ByteArray):List ByteArray:=kC (Lib.compact (bo l))
abbrev cr (l:List ByteArray):List (List PC):=l.map λs=> [pS s]
theorem Cd {w:World} {V:Nat→Prop} {l:List (List UInt8)}:aX w V 1 (cr (kC l)) (l.map Proofs.encStr):=by
 refine⟨by simp[kC],λi row hi=> ?_,λi row j p hi hj=> ?_⟩
 ·simp only[cr,List.getElem?_map]at hi
  obtain⟨s,_,rfl⟩:=Option.map_eq_some_iff.1 hi
  rfl
 ·simp only[cr,kC,List.map_map,List.getElem?_map]at hi
  obtain⟨b,hb,rfl⟩:=Option.map_eq_some_iff.1 hi
  cases j with
  |zero=>
   simp at hj
   subst hj
   exact⟨_,by rw[Nat.mul_one,Nat.add_zero,List.getElem?_map,hb];rfl,.val rfl⟩
  |succ j=>simp at hj
theorem wO {w:World} {V:Nat→Prop} {l:List ByteArray} {cells:List Value} (h:aX w V 1 (cr l) cells):cells=(bo l).map Proofs.encStr:=by
 obtain⟨h1,h2,h3⟩:=h
 refine List.ext_getElem? λi=> ?_
 by_cases hi:i<l.length
 ·obtain⟨v,hv,hr⟩:=h3 i [pS l[i]] 0 (pS l[i]) (by simp[cr,hi]) rfl
  rw[Nat.mul_one,Nat.add_zero]at hv
  rw[hv,List.getElem?_map,bo,List.getElem?_map,List.getElem?_eq_getElem hi]
  cases hr with
  |val h=>
   cases h
   rfl
 ·rw[List.getElem?_eq_none (by simp[cr]at h1;omega),List.getElem?_eq_none (by simp[bo];omega)]
theorem Ze {mem:List (Nat×aU)} {nx nm e:Nat} {l:List ByteArray} (hf:al mem nm=some (.arr e 1 (cr l))) (hlen:l.length<4611686018427387904):
  aq Tryz.prog f9 [.c (.ref nm)] mem nx (eo []) (cm mem nm (.arr e 1 (cr (wQ l)))) nx:=by
 obtain⟨fn,c,h1,h2,h3,_⟩:=md.is
 refine⟨⟨fn,h1,by rw[h2];rfl,h3⟩,λw0 U ι w vs hs hr=> ?_⟩
 obtain⟨cells,k0,k1,k2,k3⟩:=hs.box _ _ hf
 obtain⟨v,hv⟩: ∃v,vs= #[v]∧v=ι nm:=by
  have:=hr
  obtain⟨l0⟩:=vs
  cases this with
  |cons a b=>
   cases b
   exact⟨_,rfl,uS a⟩
 obtain⟨rfl,rfl⟩:=hv
 have hc:=wO k3
 subst hc
 have hsz:(cr l).length=(bo l).length:=by simp[cr,bo]
 have hres: ∀{w':World} {ι':Pl} {V:Nat→Prop},aN w' V ι' nx (eo []) (.tuple #[]):= .tup rfl (λi=>by simp)
 rcases k1.2 with⟨e0,e1⟩|⟨g,cap,cur,e0,hbase,hb,c1,c2,c3,c4⟩
 ·have hl0:l= []:=by
   have:l.length=0:=by simpa[cr]using e1
   exact List.eq_nil_of_length_eq_zero this
  subst hl0
  rw[e0]
  have hs0:cr (wQ [])=cr []:=by simp[wQ,bo,kC]
  rw[hs0]
  refine(Tryz.slices_Sort_string_none none 0 w).mono ?_
  rintro en w' ⟨rfl,rfl⟩
  exact⟨_,ι,rfl,hs.regrow hf ⟨rfl,rfl,rfl,Nat.le_refl _,λ_ _ _=>rfl⟩ k0 k1 k2 k3 hs.below,hres⟩
 ·rw[e0,hsz]
  have c4':cur.toList.take (bo l).length=(bo l).map Proofs.encStr:=by rw[hsz,Nat.mul_one]at c4;exact c4
  refine(Tryz.slices_Sort_string g 0 cap (bo l) w (holds_of_block hb c4') (Array.getElem?_eq_some_iff.1 hb).1 (by simp[bo];omega)).mono ?_
  rintro en w' ⟨rfl,n,os,rfl⟩
  have hl2:((bo l).mergeSort λx y=>decide (x≤y)).length=(bo l).length:=List.length_mergeSort _
  have hgr:w.grownBy (grow (putRow Proofs.encStr (Sort.ahead w n) g 0 ((bo l).mergeSort λx y=>decide (x≤y)).toArray) os) (bt (ι nm)):=by
   rw[e0]
   exact grownBy_sorted _
  have hlen2:(cr (wQ l)).length=(bo l).length:=by simp[cr,wQ,kC]
  refine⟨_,ι,rfl,hs.regrow hf hgr k0 (cells:=((bo l).mergeSort λx y=>decide (x≤y)).map Proofs.encStr) ?_ (by rw[hlen2,←hsz];exact k2) Cd ?_,hres⟩
  ·rw[e0,hlen2,hsz]
   exact ownsRow_sorted hl2 hbase hb (by rw[←hsz];exact c1) c2 c3
  ·exact hs.below.grown hgr hs.below.size (λk hk=>by rw[e0]at hk;cases hk;exact hbase)
theorem QI {mem:List (Nat×aU)} {nx nm e:Nat} {l:List ByteArray} (hf:al mem nm=some (.arr e 1 (cr l))):
  aq Tryz.prog 222 [.c (.ref nm)] mem nx (.c (.ref nx)) ((nx,.arr e 1 (cr (tA l)))::oc mem nm) (nx+1):=by
 refine⟨⟨_,Tryz.func222,rfl,by kernel_rfl⟩,λw0 U ι w vs hs hr=> ?_⟩
 obtain⟨cells,k0,k1,k2,k3⟩:=hs.box _ _ hf
 obtain⟨v,hv⟩: ∃v,vs= #[v]∧v=ι nm:=by
  have:=hr
  obtain⟨l0⟩:=vs
  cases this with
  |cons a b=>
   cases b
   exact⟨_,rfl,uS a⟩
 obtain⟨rfl,rfl⟩:=hv
 have hc:=wO k3
 subst hc
 have hsz:(cr l).length=(bo l).length:=by simp[cr,bo]
 have hle:=Lib.compact_length_le (bo l)
 have hlen2:(cr (tA l)).length=(Lib.compact (bo l)).length:=by simp[cr,tA,kC]
 rcases k1.2 with⟨e0,e1⟩|⟨g,cap,cur,e0,hbase,hb,c1,c2,c3,c4⟩
 ·have hl0:l= []:=by
   have:l.length=0:=by simpa[cr]using e1
   exact List.eq_nil_of_length_eq_zero this
  subst hl0
  rw[e0]
  refine(Tryz.slices_Compact_string_empty none 0 w).mono ?_
  rintro en w' ⟨rfl,rfl⟩
  have hc0:cr (tA [])= []:=by simp[cr,tA,kC,bo,Lib.compact,Lib.compactUpTo]
  rw[hc0]
  obtain⟨ι',i1,_,i3⟩:=hs.replace (w':=w') (rows':= []) (pv:= .slice none 0 0) (cells:= []) hf ⟨rfl,rfl,rfl,Nat.le_refl _,λ_ _ _=>rfl⟩ (λb hb=>by cases hb) ⟨_,_,_,rfl⟩ k0 ⟨rfl,.inl ⟨rfl,rfl⟩⟩ (by simp)
   ⟨rfl,λi row hi=>by simp at hi,λi row j p hi=>by simp at hi⟩ hs.below
  refine⟨_,ι',rfl,i3, ?_⟩
  rw[←i1]
  exact .c (.ref (Nat.lt_succ_self _) ⟨_,_,_,i1⟩)
 ·rw[e0,hsz]
  have c4':cur.toList.take (bo l).length=(bo l).map Proofs.encStr:=by rw[hsz,Nat.mul_one]at c4;exact c4
  refine(Tryz.slices_Compact_string g 0 cap (bo l) w (holds_of_block hb c4') (by rw[←hsz];exact k2) (by rw[←hsz];exact c1)).mono ?_
  rintro en w' ⟨rfl,q,rfl⟩
  have hgr:w.grownBy (putRow Proofs.encStr (Sort.ahead w q) g 0 (Lib.compact (bo l)++List.replicate ((bo l).length-(Lib.compact (bo l)).length) []).toArray) (bt (ι nm)):=by
   rw[e0]
   have hg0: ∀v:World,grow v #[]=v:= λv=>by unfold grow;rw[Array.append_empty]
   rw[←hg0 (putRow _ _ _ _ _)]
   exact grownBy_sorted _
  have how:=Lib.ownsRow_putRow (q:=q) (k:=(Lib.compact (bo l)).length) (ys:=Lib.compact (bo l)++List.replicate ((bo l).length-(Lib.compact (bo l)).length) []) (by rw[e0,hsz]at k1;exact k1) (by simp;omega) hle
  rw[List.take_left]at how
  obtain⟨ι',i1,_,i3⟩:=hs.replace (rows':=cr (tA l)) (pv:= .slice (some ⟨g,0,none⟩) (Lib.compact (bo l)).length cap) (cells:=(Lib.compact (bo l)).map Proofs.encStr) hf hgr (λb hb=> .inl (by rw[e0];exact hb)) ⟨_,_,_,rfl⟩ k0 (by rw[hlen2];exact how) (by rw[hlen2];omega) Cd
   (hs.below.grown hgr hs.below.size (λk hk=>by rw[e0]at hk;cases hk;exact hbase))
  refine⟨_,ι',rfl,i3, ?_⟩
  rw[←i1]
  exact .c (.ref (Nat.lt_succ_self _) ⟨_,_,_,i1⟩)
end Go.Proofs.YthbcbaembicdbaaGreatDoor
