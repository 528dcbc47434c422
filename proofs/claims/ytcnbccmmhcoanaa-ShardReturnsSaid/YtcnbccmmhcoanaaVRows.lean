/- The closure of Scatter that copies a row, and shape.Point, as contracts of the abstract machine. -/
import Derived.Test.YtcnbccmmhcoanaaVCopy
import Derived.Test.YtcnbccmmhcoanaaVPoint
import Derived.Test.YtcnbccmmhcoanaaPlain52s
import Derived.Test.YtcnbccmmhcoanaaAbs23
set_option linter.unusedVariables false
set_option linter.unusedSimpArgs false
namespace Go.Abs
open Go.RowKit

/-- An array of the call's own is written by another function; it keeps its name and its place. -/
theorem Sim.regrow {w0 w w' : World} {U : Gh} {σ : St} {ι : Pl} {a : Act} (hs : Sim w0 U σ ι a w) {nm e sz : Nat} {rows rows' : List (List PC)} {cells : List Value} (hf : findB σ.mem nm = some (.arr e sz rows)) (hg : w.grownBy w' (blockOf (ι nm)))
  (h0 : 0 < sz) (how : w'.ownsRow w0.heap.size e sz (ι nm) rows'.length cells) (hm : rows'.length ≤ 9223372036854775807) (hrows : RowsRep w (Free w0.heap.size U ι σ.mem) sz rows' cells) (hbelow : Below w0.heap.size w0 w') :
  Sim w0 U { σ with mem := setB σ.mem nm (.arr e sz rows') } ι a w' := by
 have hfree : ∀ c, Free w0.heap.size U ι σ.mem c → Free w0.heap.size U ι (setB σ.mem nm (.arr e sz rows')) c := fun c h => free_setB.2 h
 have hw : ∀ b, b < w.heap.size → Free w0.heap.size U ι σ.mem b → w'.heap[b]? = w.heap[b]? := fun b hb h => hg.block b hb (fun e => h.2 _ _ hf e.symm)
 have hdom : ∀ n bx, findB (setB σ.mem nm (.arr e sz rows')) n = some bx → (n = nm ∧ bx = .arr e sz rows') ∨ (n ≠ nm ∧ findB σ.mem n = some bx) := by
  intro n bx hn
  rw [findB_setB] at hn
  by_cases e : nm = n
  ·subst e
   rw [if_pos rfl, hf] at hn
   cases hn
   exact .inl ⟨rfl, rfl⟩
  ·rw [if_neg e] at hn
   exact .inr ⟨fun h => e h.symm, hn⟩
 have hold : ∀ n bx, findB (setB σ.mem nm (.arr e sz rows')) n = some bx → ∃ by', findB σ.mem n = some by' := fun n bx hn => by
  rcases hdom n bx hn with ⟨rfl, _⟩ | ⟨_, h⟩
  ·exact ⟨_, hf⟩
  ·exact ⟨_, h⟩
 refine ⟨fun t => (hs.val t).mono (fun c _ h => hfree c h) hw (fun _ _ => rfl) (Nat.le_refl _), hs.defers, fun n bx hn => ?_, fun n bx hn => ?_, fun n n' b1 b2 c h1 h2 h3 h4 => ?_, hbelow, U.mono _ _ _ _ hs.keep (fun c _ h => hfree c h) hw, hs.base⟩
 ·obtain ⟨_, h⟩ := hold n bx hn
  exact hs.names _ _ h
 ·rcases hdom n bx hn with ⟨rfl, rfl⟩ | ⟨h1, h3⟩
  ·exact ⟨cells, h0, how, hm, hrows.mono (fun c _ h => hfree c h) hw⟩
  ·have hbn : ∀ c, blockOf (ι n) = some c → blockOf (ι nm) ≠ some c := fun c hc e' => h1 (hs.apart _ _ _ _ c h3 hf hc e')
   have hbx := hs.box _ _ h3
   cases bx with
   | var xs =>
    obtain ⟨b', vs, T, g1, g2, g3, g4⟩ := hbx
    refine ⟨b', vs, T, g1, g2, ?_, g4.mono fun _ _ h => h.mono (fun c _ h => hfree c h) hw (fun _ _ => rfl) (Nat.le_refl _)⟩
    rw [hg.block b' (Array.getElem?_eq_some_iff.1 g3).1 (fun e => hbn b' (by rw [g1]; rfl) e.symm)]
    exact g3
   | arr e' sz' rows0 =>
    obtain ⟨cells', k0, k1, k2, k3⟩ := hbx
    refine ⟨cells', k0, World.ownsRow.kept k1 hg ?_, k2, k3.mono (fun c _ h => hfree c h) hw⟩
    rcases k1.2 with ⟨h, _⟩ | ⟨g, cap, cur, h, _⟩
    ·rw [h]; exact .inl rfl
    ·right
     intro e1
     have hb1 : blockOf (ι n) = some g := by rw [h]; rfl
     rw [h] at e1
     simp [Value.ownBlock] at e1
     exact hbn g hb1 e1.symm
   | map kt m ents =>
    obtain ⟨b', es, clock, g1, g2, g3, g4⟩ := hbx
    refine ⟨b', es, clock, g1, g2, ?_, g4.mono fun _ _ h => h.mono (fun c _ h => hfree c h) hw (fun _ _ => rfl) (Nat.le_refl _)⟩
    rw [hg.block b' (Array.getElem?_eq_some_iff.1 g3).1 (fun e => hbn b' (by rw [g1]; rfl) e.symm)]
    exact g3
 ·obtain ⟨_, h1'⟩ := hold n b1 h1
  obtain ⟨_, h2'⟩ := hold n' b2 h2
  exact hs.apart _ _ _ _ _ h1' h2' h3 h4
end Go.Abs
namespace Go.Proofs.Ytcnbccmmhcoanaa
open Go.Abs Go.RowKit

/-- The cells of a list of elements. -/
def flatV (l : List Fr) : List Value := l.flatMap fun a => [.int .i64 a.1, .int .i64 a.2]
theorem take_splice {α : Type} {C S : List α} {p s n : Nat} (hS : S.length = s) (h1 : p + s ≤ n) (h2 : n ≤ C.length) : (C.take p ++ (S ++ C.drop (p + s))).take n = (C.take n).take p ++ (S ++ (C.take n).drop (p + s)) := by
 have l1 : (C.take p).length = p := by simp; omega
 rw [List.take_append, l1, List.take_of_length_le (l := C.take p) (by omega), List.take_append, hS, List.take_of_length_le (l := S) (by omega), List.take_take, Nat.min_eq_left (by omega), List.drop_take]
 rw [show n - p - s = n - (p + s) by omega]
theorem flatV_len (l : List Fr) : (flatV l).length = l.length * 2 := by
 induction l with
 | nil => rfl
 | cons a l ih => rw [flatV, List.flatMap_cons, List.length_append, ← flatV, ih]; simp; omega
theorem flatV_cons (a : Fr) (l : List Fr) : flatV (a :: l) = .int .i64 a.1 :: .int .i64 a.2 :: flatV l := by simp [flatV]
theorem flatV_append (a b : List Fr) : flatV (a ++ b) = flatV a ++ flatV b := by simp [flatV]
theorem flatV_get : ∀ (l : List Fr) (i : Nat), (flatV l)[i * 2]? = l[i]?.map (fun a => .int .i64 a.1) ∧ (flatV l)[i * 2 + 1]? = l[i]?.map fun a => .int .i64 a.2
 | [], i => by simp [flatV]
 | a :: l, 0 => by simp [flatV]
 |a :: l, i + 1 => by
  have := flatV_get l i
  rw [flatV, List.flatMap_cons, ← flatV]
  refine ⟨?_, ?_⟩
  ·rw [show (i + 1) * 2 = i * 2 + 1 + 1 by omega]
   simpa using this.1
  ·rw [show (i + 1) * 2 + 1 = i * 2 + 1 + 1 + 1 by omega]
   simpa using this.2
theorem flatV_take (l : List Fr) (k : Nat) : (flatV l).take (k * 2) = flatV (l.take k) := by
 induction l generalizing k with
 | nil => simp [flatV]
 | cons a l ih =>
  cases k with
  | zero => simp [flatV]
  | succ k =>
   rw [show (k + 1) * 2 = k * 2 + 1 + 1 by omega, flatV_cons, List.take_succ_cons, List.take_succ_cons, List.take_succ_cons, flatV_cons, ih]
theorem flatV_drop (l : List Fr) (k : Nat) : (flatV l).drop (k * 2) = flatV (l.drop k) := by
 induction l generalizing k with
 | nil => simp [flatV]
 | cons a l ih =>
  cases k with
  | zero => simp [flatV]
  | succ k =>
   rw [show (k + 1) * 2 = k * 2 + 1 + 1 by omega, flatV_cons, List.drop_succ_cons, List.drop_succ_cons, List.drop_succ_cons, ih]
theorem flatV_one {l : List Fr} : ∀ v ∈ flatV l, v.oneCell' = true := by
 intro v hv
 obtain ⟨a, _, h⟩ := List.mem_flatMap.1 hv
 simp at h
 rcases h with rfl | rfl <;> rfl
theorem flat_rep {w : World} {V : Nat → Prop} {l : List Fr} : RowsRep w V 2 (l.map frP) (flatV l) := by
 refine ⟨by rw [flatV_len, List.length_map], fun i row hi => ?_, fun i row j p hi hj => ?_⟩
 ·rw [List.getElem?_map] at hi
  obtain ⟨a, _, rfl⟩ := Option.map_eq_some_iff.1 hi
  rfl
 ·rw [List.getElem?_map] at hi
  obtain ⟨a, ha, rfl⟩ := Option.map_eq_some_iff.1 hi
  have hg := flatV_get l i
  rw [ha] at hg
  match j with
  | 0 => simp at hj; subst hj; exact ⟨_, hg.1, .val rfl⟩
  | 1 => simp at hj; subst hj; exact ⟨_, hg.2, .val rfl⟩
  | j + 2 => simp at hj
theorem flat_of {w : World} {V : Nat → Prop} {l : List Fr} {cells : List Value} (h : RowsRep w V 2 (l.map frP) cells) : cells = flatV l := by
 obtain ⟨h1, h2, h3⟩ := h
 rw [List.length_map] at h1
 refine List.ext_getElem? fun q => ?_
 have hq : q = q / 2 * 2 + q % 2 := by omega
 by_cases hlt : q < l.length * 2
 ·have hi : q / 2 < l.length := by omega
  have hr : (l.map frP)[q / 2]? = some (frP l[q / 2]) := by simp [hi]
  have hg := flatV_get l (q / 2)
  rw [List.getElem?_eq_getElem hi] at hg
  rcases Nat.mod_two_eq_zero_or_one q with e | e
  ·obtain ⟨v, hv, hp⟩ := h3 _ _ 0 _ hr rfl
   cases hp with
   | val _ =>
    rw [hq, e, hv]
    exact hg.1.symm
  ·obtain ⟨v, hv, hp⟩ := h3 _ _ 1 _ hr rfl
   cases hp with
   | val _ =>
    rw [hq, e, hv]
    exact hg.2.symm
 ·rw [List.getElem?_eq_none (by omega), List.getElem?_eq_none (by rw [flatV_len]; omega)]
/-- The cells of a part of a list that nobody writes. -/
theorem src_cells {w : World} {U : Nat → Prop} {T : List Fr} {v : Value} (h : RepP w U (pSl frP T) v) (h0 : 0 < T.length) : ∃ b o c, v = .slice (some ⟨b, o, none⟩) T.length c ∧ T.length ≤ c ∧ U b ∧
  ∀ (s m : Nat), s + m ≤ T.length → ∀ j u, (flatV ((T.drop s).take m))[j]? = some u → w.cell? ((⟨b, o + s * 2, none⟩ : Addr).add j) = some u := by
 cases h with
 | @slice sz rows a n c g hn hc hm hr hcell hp =>
  rw [List.length_map] at hn
  subst hn
  have hrow : ∀ i (hi : i < T.length), (T.map frP)[i]? = some (frP T[i]) := fun i hi => by simp [hi]
  have hsz := hr 0 _ (hrow 0 h0)
  simp at hsz
  subst hsz
  obtain ⟨b, o, rfl, hb, _⟩ := hcell 0 _ 0 _ (hrow 0 h0) rfl
  refine ⟨b, o, c, rfl, hc, hb, fun s m hsm j u hu => ?_⟩
  have hjl : j < m * 2 := by
   have := List.getElem?_eq_some_iff.1 hu
   obtain ⟨hj, _⟩ := this
   rw [flatV_len, List.length_take, List.length_drop] at hj
   omega
  have hi : s + j / 2 < T.length := by omega
  have hg := flatV_get ((T.drop s).take m) (j / 2)
  rw [List.getElem?_take, if_pos (by omega), List.getElem?_drop, List.getElem?_eq_getElem hi] at hg
  have hq : j = j / 2 * 2 + j % 2 := by omega
  have key : ∀ t (ht : t < 2) p, (frP T[s + j / 2])[t]? = some p → ∃ z, w.cell? ⟨b, o + ((s + j / 2) * 2 + t), none⟩ = some z ∧ RepP w U p z := fun t ht p hpp => by
   obtain ⟨b', o', e, _, hz⟩ := hcell _ _ t p (hrow _ hi) hpp
   cases e
   exact ⟨_, hz, hp _ _ t p (hrow _ hi) hpp⟩
  rcases Nat.mod_two_eq_zero_or_one j with e | e
  ·obtain ⟨z, hz, hpz⟩ := key 0 (by omega) _ rfl
   rw [hq, e, Nat.add_zero, hg.1] at hu
   cases hpz
   rw [← Option.some.inj hu, ← hz, addr_add]
   congr 2
   omega
  ·obtain ⟨z, hz, hpz⟩ := key 1 (by omega) _ rfl
   rw [hq, e, hg.2] at hu
   cases hpz
   rw [← Option.some.inj hu, ← hz, addr_add]
   congr 2
   omega
theorem setAt_grown {w : World} {g : Nat} {cur : Array Value} {o : Nat} {cs : List Value} : w.grownBy (setAt w.drew g cur o cs) (some g) := by
 refine ⟨rfl, rfl, rfl, ?_, fun k hk hne => ?_⟩
 ·show w.heap.size ≤ _
  rw [setAt, World.setRow, Array.size_modify]
  exact Nat.le_refl _
 ·exact setRow_other w.drew g k _ (fun e => hne (by rw [e]))

theorem repV_int {w : World} {V : Nat → Prop} {ι : Pl} {N : Nat} {n : Int} {v : Value} (h : RepV w V ι N (I n) v) : v = .int .i64 n := by
 cases h with
 | c h =>
 cases h with
 | pure h =>
 cases h
 rfl
theorem repV_ptr {w : World} {V : Nat → Prop} {ι : Pl} {N nm B : Nat} {v : Value} (hB : ι nm = .pointer (some ⟨B, 0, none⟩)) (h : RepV w V ι N (.c (.ptr nm 0)) v) : v = .pointer (some ⟨B, 0, none⟩) := by
 cases h with
 | c h =>
 cases h with
 | ptr hn h =>
 rw [hB] at h
 cases h
 rfl

theorem scatter1_i {mem : List (Nat × Box)} {nx nb nt nv : Nat} {xsB xsT : List AC} {l T : List Fr} {whole part many : Nat}
  (hb : findB mem nb = some (.var xsB)) (hb6 : xsB[6]? = some (.ref nv)) (ht : findB mem nt = some (.var xsT)) (ht6 : xsT[6]? = some (.pure (pSl frP T)))
  (hv : findB mem nv = some (.arr 62 2 (l.map frP))) (h1 : part + many ≤ l.length) (h2 : whole + many ≤ T.length) (hp : 0 < many) (hl : l.length ≤ 65536) (hT : T.length ≤ 65536) :
  ICalls Try.prog 25 [I whole, I part, I many, .c (.ptr nb 0), .c (.ptr nt 0)] mem nx (packV [])
   (setB mem nv (.arr 62 2 ((spl l part ((T.drop whole).take many)).map frP))) nx := by
 refine ⟨⟨_, Try.func25, rfl, by kernel_rfl⟩, fun w0 U ι w vs hs hr => ?_⟩
 obtain ⟨B1, vsB, TB, b1, b2, b3, b4⟩ := hs.box _ _ hb
 obtain ⟨B2, vsT, TT, t1, t2, t3, t4⟩ := hs.box _ _ ht
 obtain ⟨cells, k0, k1, k2, k3⟩ := hs.box _ _ hv
 have hc := flat_of k3
 subst hc
 obtain ⟨u6, hu6, hru⟩ := b4.get hb6
 obtain rfl : u6 = ι nv := repV_ref (.c hru)
 obtain ⟨z6, hz6, hrz⟩ := t4.get ht6
 have hrz' : RepP w (Free w0.heap.size U ι mem) (pSl frP T) z6 := by cases hrz with | pure h => exact h
 obtain ⟨sb, so, sc, rfl, hsc, hsU, hsrc⟩ := src_cells hrz' (by omega)
 have hvs : vs = #[.int .i64 whole, .int .i64 part, .int .i64 many, .pointer (some ⟨B1, 0, none⟩), .pointer (some ⟨B2, 0, none⟩)] := by
  obtain ⟨l0⟩ := vs
  have := hr
  cases this with
  | cons a1 r =>
  cases r with
  | cons a2 r =>
  cases r with
  | cons a3 r =>
  cases r with
  | cons a4 r =>
  cases r with
  | cons a5 r =>
  cases r
  rw [repV_int a1, repV_int a2, repV_int a3, repV_ptr b1 a4, repV_ptr t1 a5]
 subst hvs
 rw [List.length_map] at k1
 rcases k1.2 with ⟨e0, e1⟩ | ⟨g, cap, cur, e0, hbase, hgb, c1, c2, c3, c4⟩
 ·omega
 ·have hcell1 : w.cell? ⟨B1, 6, none⟩ = some (.slice (some ⟨g, 0, none⟩) l.length cap) := by
   rw [← e0]
   simp only [World.cell?, b3]
   simpa using hu6
  have hcell2 : w.cell? ⟨B2, 6, none⟩ = some (.slice (some ⟨sb, so, none⟩) T.length sc) := by
   simp only [World.cell?, t3]
   simpa using hz6
  have hsl : ((T.drop whole).take many).length = many := seg_len h2
  refine (scatter1_raw hcell1 hcell2 hgb h1 c1 (by omega) h2 hsc (by omega) hp (by rw [flatV_len, hsl]) (hsrc whole many h2) (by omega) flatV_one).mono ?_
  rintro en w' ⟨rfl, rfl⟩
  have hgr : w.grownBy (setAt w.drew g cur (part * 2) (flatV ((T.drop whole).take many))) (blockOf (ι nv)) := by
   rw [e0]
   exact setAt_grown
  have hlen2 : (spl l part ((T.drop whole).take many)).length = l.length := by simp [spl, hsl]; omega
  have hcells : flatV (spl l part ((T.drop whole).take many)) = (flatV l).take (part * 2) ++ (flatV ((T.drop whole).take many) ++ (flatV l).drop (part * 2 + many * 2)) := by
   rw [spl, flatV_append, flatV_append, flatV_take, hsl, ← Nat.add_mul, flatV_drop, List.append_assoc]
  refine ⟨_, ι, rfl, hs.regrow hv hgr k0 (cells := flatV (spl l part ((T.drop whole).take many))) ?_ (by rw [List.length_map, hlen2]; omega) flat_rep ?_, .tup rfl (fun i => by simp)⟩
  ·rw [e0, List.length_map, hlen2]
   refine ⟨by rw [flatV_len, hlen2], .inr ⟨g, cap, (cur.toList.take (part * 2) ++ (flatV ((T.drop whole).take many) ++ cur.toList.drop (part * 2 + (flatV ((T.drop whole).take many)).length))).toArray, rfl, hbase, ?_, c1, c2, ?_, ?_⟩⟩
   ·exact setRow_heap w.drew g _ _ _ _ hgb
   ·have hfl : (flatV ((T.drop whole).take many)).length = many * 2 := by rw [flatV_len, hsl]
    simp [hfl, c3]
    omega
   ·have hfl : (flatV ((T.drop whole).take many)).length = many * 2 := by rw [flatV_len, hsl]
    rw [hcells, hfl, ← c4, List.toList_toArray]
    exact take_splice hfl (by omega) (by simp [c3]; omega)
  ·exact hs.below.grown hgr hs.below.size (fun k hk => by rw [e0] at hk; cases hk; exact hbase)

theorem shape_Point_i {xs : List Int} {at' : Int} (h0 : 0 ≤ at') (h1 : at' < size xs) (mem : List (Nat × Box)) (nx : Nat) :
  ICalls Try.prog 53 [aInts xs, I at'] mem nx (.tup [.c (.ref nx), Go.Abs.B true]) ((nx, .arr 3 1 ((pointOf xs at').map fun n => [pI n])) :: mem) (nx + 1) := by
 refine ⟨⟨_, Try.func53, rfl, by kernel_rfl⟩, fun w0 U ι w vs hs hr => ?_⟩
 have hsc := size_cases (xs := xs) (at' := at') ⟨h0, h1⟩
 have hg := good_of_vld hsc.1
 have hp4 := hg.take_le xs.length
 rw [List.take_of_length_le (Nat.le_refl _)] at hp4
 have h6 := hg.len
 obtain ⟨vs⟩ := vs
 cases hr with
 | cons a1 t =>
 cases t with
 | cons a2 t =>
 cases t
 cases a2 with
 | c a2 =>
 cases a2 with
 | pure a2 =>
 cases a2
 refine (shape_Point_raw (ints_rep a1) (by omega) h0 h1).mono ?_
 rintro e w' ⟨v, rfl, hown, hx⟩
 have hB := hs.below.size
 have hpl := length_pointOf xs at'
 obtain ⟨ι', k1, k2, k3, k4⟩ := hs.newBox (pv := v) (bx := .arr 3 1 ((pointOf xs at').map fun n => [pI n])) hx.below (fun b hb => by
  rcases hown.2 with ⟨e, _⟩ | ⟨g, cap, cur, e, hg, _⟩
  ·rw [e] at hb; cases hb
  ·rw [e] at hb
   simp [blockOf] at hb
   omega) (fun ι' e1 e2 hfree => by
  refine ⟨(pointOf xs at').map (.int .i64), by decide, ?_, by simp; omega, ?_⟩
  ·rw [e2, List.length_map]
   refine ⟨hown.1, ?_⟩
   rcases hown.2 with h | ⟨g, cap, cur, e, hg, h⟩
   ·exact .inl h
   ·exact .inr ⟨g, cap, cur, e, Nat.le_trans hB hg, h⟩
  ·refine ⟨by simp, fun i row hi => ?_, fun i row j p hi hj => ?_⟩
   ·rw [List.getElem?_map] at hi
    obtain ⟨x, _, rfl⟩ := Option.map_eq_some_iff.1 hi
    rfl
   ·rw [List.getElem?_map] at hi
    obtain ⟨x, hx, rfl⟩ := Option.map_eq_some_iff.1 hi
    cases j with
    | zero =>
     simp at hj
     subst hj
     exact ⟨.int .i64 x, by simp [hx], .val rfl⟩
    | succ j => simp at hj)
 refine ⟨_, ι', rfl, k1, .tup rfl fun i x hi => ?_⟩
 match i with
 | 0 =>
  simp at hi
  subst hi
  show RepV _ _ _ _ _ v
  rw [← k2]
  exact .c (.ref (Nat.lt_succ_self _) (by
   rw [k2]
   rcases hown.2 with ⟨e, _⟩ | ⟨g, cap, cur, e, _⟩
   ·exact ⟨_, _, _, e⟩
   ·exact ⟨_, _, _, e⟩))
 | 1 =>
  simp at hi
  subst hi
  exact .c (.pure (.val rfl))
 | i + 2 => simp at hi
end Go.Proofs.Ytcnbccmmhcoanaa
