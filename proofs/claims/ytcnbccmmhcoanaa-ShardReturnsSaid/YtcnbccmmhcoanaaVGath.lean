/- The closure of Gather that copies a row, in the model's own words, and as a contract of the abstract machine. -/
import Derived.Test.YtcnbccmmhcoanaaVScat3
set_option linter.unusedVariables false
set_option linter.unusedSimpArgs false
set_option maxRecDepth 20000
namespace Go.Proofs.Ytcnbccmmhcoanaa
open Go.Abs Go.RowKit

theorem slices_Equal_Val (a b : List Fr) (hl : a.length = b.length) : PCalls Try.prog n_slices_Equal_api_Val_api_Val [aSl frP a, aSl frP b] (Go.Abs.B (decide (a = b))) := by
 refine PCalls.of is_slices_Equal_api_Val_api_Val (by simp) fun hb => runW_sound ?_
 have hx : a.length ≤ 9223372036854775807 := by simpa [bndVs, bndV, bndA] using hb.1
 simp only [c_slices_Equal_api_Val_api_Val]
 have HL := Lib.hid hl
 have hl' : (a.length : Int) = b.length := by omega
 clear hl
 repeat' first | simp (disch := omega) only [go_sem, ↓reduceIte, Nat.reduceEqDiff, reduceCtorEq, Int.reduceEq, hl'] | ((with_reducible first | refine condD ?_ ?_ | refine condX ?_ ?_ | refine condW_intro ?_ ?_) <;> intro h <;> first | (exfalso; omega) | simp (disch := omega) only [go_sem, ↓reduceIte, Nat.reduceEqDiff, reduceCtorEq, Int.reduceEq, *, hl'] | skip)
 refine AW_loop (fun k : Nat => ⟨[(0, aSl frP a), (1, aSl frP b), (12, I b.length), (13, I k)], [], 0, 0⟩) (fun k => k ≤ b.length ∧ Hid (a.take k = b.take k)) (fun k => b.length - k) ⟨0, [], ⟨Nat.zero_le _, rfl⟩, by simp [Wk, wkF, wkM, wkL, look_cons, renV, renA, renC, renB, rn, clV, clA, clAs, clB, notIn, findB, findB_setB, clA.go]⟩ ?_
 rintro k ⟨hk, hall⟩
 refine runW_sound ?_
 clear hl'
 by_cases hlt : k < b.length
 ·have hlta : k < a.length := by have := HL.out; omega
  have hga := map_get (f := frP) hlta
  have hgb := map_get (f := frP) hlt
  by_cases e : a[k] = b[k]
  ·have E : Hid (a.take (k + 1) = b.take (k + 1)) := by
    show _ = _
    rw [List.take_succ_eq_append_getElem hlta, List.take_succ_eq_append_getElem hlt, hall.out, e]
   rw [e] at hga
   clear e
   repeat' first | simp (disch := omega) only [go_sem, ↓reduceIte, Nat.reduceEqDiff, reduceCtorEq, Int.reduceEq, hga, hgb, wrap_i64] | ((with_reducible first | refine condD ?_ ?_ | refine condX ?_ ?_ | refine condW_intro ?_ ?_) <;> intro h <;> first | (exfalso; omega) | simp (disch := omega) only [go_sem, ↓reduceIte, Nat.reduceEqDiff, reduceCtorEq, Int.reduceEq, *, hga, hgb, wrap_i64] | skip)
   exact ⟨k + 1, [], ⟨hlt, E⟩, by omega, by simp [Wk, wkF, wkM, wkL, look_cons, renV, renA, renC, renB, rn, clV, clA, clAs, clB, notIn, findB, findB_setB, clA.go]⟩
  ·have hne : ¬ a = b := by rintro rfl; exact e rfl
   rw [decide_eq_false hne]
   have e' : ¬ (a[k].1 = b[k].1 ∧ a[k].2 = b[k].2) := fun h => e (Prod.ext h.1 h.2)
   clear e hne
   generalize a[k] = u at *
   generalize b[k] = v at *
   repeat' first | simp (disch := omega) only [go_sem, ↓reduceIte, Nat.reduceEqDiff, reduceCtorEq, Int.reduceEq, hga, hgb, wrap_i64] | ((with_reducible first | refine condD ?_ ?_ | refine condX ?_ ?_ | refine condW_intro ?_ ?_) <;> intro h <;> first | (exfalso; omega) | simp (disch := omega) only [go_sem, ↓reduceIte, Nat.reduceEqDiff, reduceCtorEq, Int.reduceEq, *, hga, hgb, wrap_i64] | skip)
 ·have e : a = b := by
   have h := hall.out
   rwa [List.take_of_length_le (by have := HL.out; omega), List.take_of_length_le (by omega)] at h
  rw [decide_eq_true e]
  have hkI : ¬ (k : Int) < b.length := by omega
  clear e
  repeat' first | simp (disch := omega) only [go_sem, ↓reduceIte, Nat.reduceEqDiff, reduceCtorEq, Int.reduceEq] | ((with_reducible first | refine condD ?_ ?_ | refine condX ?_ ?_ | refine condW_intro ?_ ?_) <;> intro h <;> first | (exfalso; omega) | simp (disch := omega) only [go_sem, ↓reduceIte, Nat.reduceEqDiff, reduceCtorEq, Int.reduceEq, *] | skip)
/-- A window, read as a list that nobody writes. -/
theorem win_rep {w : World} {b o c : Nat} {l : List Fr} (hc : l.length ≤ c) (hm : l.length ≤ 65536) (h : ∀ j u, (flatV l)[j]? = some u → w.cell? ((⟨b, o, none⟩ : Addr).add j) = some u) :
  RepP w (fun _ => True) (pSl frP l) (.slice (some ⟨b, o, none⟩) l.length c) := by
 refine .slice (sz := 2) (fun i j => (flatV l).getD (i * 2 + j) undef) (by simp) hc (by omega) (fun i row hi => ?_) (fun i row j p hi hj => ?_) (fun i row j p hi hj => ?_)
 ·rw [List.getElem?_map] at hi
  obtain ⟨a, _, rfl⟩ := Option.map_eq_some_iff.1 hi
  rfl
 ·obtain ⟨v, hv, hp⟩ := (flat_rep (w := w) (V := fun _ => True) (l := l)).2.2 i row j p hi hj
  have := h _ _ hv
  rw [addr_add] at this
  refine ⟨b, o, rfl, trivial, ?_⟩
  rw [this, List.getD_eq_getElem?_getD, hv]
  rfl
 ·obtain ⟨v, hv, hp⟩ := (flat_rep (w := w) (V := fun _ => True) (l := l)).2.2 i row j p hi hj
  rw [List.getD_eq_getElem?_getD, hv]
  exact hp

theorem wpList_copy_rows {P : Program} {w : World} {ops : Array Oper} {rest : List Oper} {o : Oper} {a : Act} {Q : Exit → Act → World → Prop} (hgd : o.guard = none) (d s : Operand) (dT sT : TypeId)
  (ho : o.op = .call { callee := .builtin .copy, args := #[d, s], argTypes := #[dT, sT] }) (elem : TypeId) (sz : Nat) (hu : P.underlying dT = some (.slice elem)) (hsz : (P.info? elem).map (·.size) = some sz)
  (g off dLen dCap : Nat) (ad : Addr) (sLen sCap : Nat) (hd : a.eval d = .slice (some ⟨g, off, none⟩) dLen dCap) (hs : a.eval s = .slice (some ad) sLen sCap)
  (cur : Array Value) (t : TypeId) (hg : w.heap[g]? = some (.cells cur t (0, 0))) (cs : List Value) (hn : cs.length = Nat.min sLen dLen * sz)
  (hsrc : ∀ j v, cs[j]? = some v → w.cell? (ad.add j) = some v) (hfit : off + cs.length ≤ cur.size) (h1 : ∀ v ∈ cs, v.oneCell' = true)
  (h : wpList P ops Q rest (a.put o.dst (goInt (Nat.min sLen dLen))) (setAt w g cur off cs)) : wpList P ops Q (o :: rest) a w := by
 refine wpList_plain hgd fun K hK => ?_
 have hrun := run_copy_rows P w dT sT o.type elem g off dLen dCap ad sLen sCap sz cur t cs hu hsz hg hn hsrc hfit h1
 unfold Oper.wp
 simp [execOp, ho, resolve, invoke, builtin, hd, hs, hrun, Result.andThen]
 exact hK _ _ h

set_option maxHeartbeats 4000000 in
theorem gather1_raw {w : World} {B1 B2 B3 g n cap c m b2 o2 : Nat} {whole part many : Nat} {cur : Array Value} {t t3 : TypeId} {cs : List Value} {d0 : Int} {q : Bool} {v3 : Value}
  (h1 : w.cell? ⟨B1, 6, none⟩ = some (.slice (some ⟨g, 0, none⟩) n cap)) (h2 : w.cell? ⟨B2, 6, none⟩ = some (.slice (some ⟨b2, o2, none⟩) m c))
  (h3 : w.heap[B3]? = some (.cells #[v3] t3 (0, 0))) (h3g : B3 ≠ g) (h32 : B3 ≠ b2)
  (hg : w.heap[g]? = some (.cells cur t (0, 0))) (hn : whole + many ≤ n) (hc : n ≤ cap) (hcap : n < 4294967296) (hm : part + many ≤ m) (hmc : m ≤ c) (hm2 : m < 4294967296) (hp : 0 < many)
  (hd : w.cell? ⟨g, whole * 2 + 1, none⟩ = some (.int .i64 d0))
  (hl : cs.length = many * 2) (hsrc : ∀ j v, cs[j]? = some v → w.cell? ((⟨b2, o2 + part * 2, none⟩ : Addr).add j) = some v) (hfit : whole * 2 + many * 2 ≤ cur.size) (hone : ∀ v ∈ cs, v.oneCell' = true)
  (hEq : ∀ w1, Below w.heap.size w w1 → Calls Try.prog n_slices_Equal_api_Val_api_Val #[.slice (some ⟨g, whole * 2, none⟩) many (cap - whole), .slice (some ⟨b2, o2 + part * 2, none⟩) many (c - part)] w1 fun e w' => e = .returned (.bool q) ∧ Below w1.heap.size w1 w') :
  Calls Try.prog 32 #[.int .i64 whole, .int .i64 part, .int .i64 many, .pointer (some ⟨B1, 0, none⟩), .pointer (some ⟨B2, 0, none⟩), .pointer (some ⟨B3, 0, none⟩)] w
   fun e w' => e = .returned (.tuple #[]) ∧ ∃ w2, Below w.heap.size w w2 ∧ w' = setAt (if d0 ≠ 0 ∧ q = false then w2.setCell ⟨B3, 0, none⟩ (.bool false) else w2) g cur (whole * 2) cs := by
 have e1 : ((part : Int) + many).toNat = part + many := by omega
 have e2 : ((whole : Int) + many).toNat = whole + many := by omega
 have e3 : (part : Int).toNat = part := by omega
 have e4 : (whole : Int).toNat = whole := by omega
 have w1 : IntKind.wrap .i64 ((part : Int) + many) = (part : Int) + many := wrap_i64 (by omega)
 have w2 : IntKind.wrap .i64 ((whole : Int) + many) = (whole : Int) + many := wrap_i64 (by omega)
 have g1 : (part : Int) ≤ (part : Int) + many := by omega
 have g2 : (part : Int) + many ≤ c := by omega
 have g3 : (whole : Int) ≤ (whole : Int) + many := by omega
 have g4 : (whole : Int) + many ≤ cap := by omega
 have n1 : ¬ cap = whole := by omega
 have n2 : ¬ c = part := by omega
 have n3 : ¬ many = 0 := by omega
 have hbd : Below w.heap.size w w.drew := ⟨rfl, rfl, rfl, Nat.le_refl _, fun _ _ => rfl⟩
 have hgl : g < w.heap.size := (Array.getElem?_eq_some_iff.1 hg).1
 have h3l : B3 < w.heap.size := (Array.getElem?_eq_some_iff.1 h3).1
 have hb2l : b2 < w.heap.size := by
  have hc0 : 0 < cs.length := by omega
  exact World.block_lt_of_cell? w _ (by have := hsrc 0 _ (List.getElem?_eq_getElem hc0); rw [addr_add] at this; exact this)
 have hblk : ∀ w2, Below w.drew.heap.size w.drew w2 → ∀ k, k < w.heap.size → w2.heap[k]? = w.heap[k]? := fun w2 h k hk => h.block k hk
 have hbb : ∀ w2, Below w.drew.heap.size w.drew w2 → Below w.heap.size w w2 := fun w2 h => hbd.trans h
 have hgw : ∀ w2 : World, (∀ k, k < w.heap.size → w2.heap[k]? = w.heap[k]?) → w2.heap[g]? = some (.cells cur t (0, 0)) := fun w2 h => (h g hgl).trans hg
 have hsw : ∀ w2 : World, (∀ k, k < w.heap.size → w2.heap[k]? = w.heap[k]?) → ∀ j v, cs[j]? = some v → w2.cell? ((⟨b2, o2 + part * 2, none⟩ : Addr).add j) = some v := fun w2 h j v hv => by
  rw [← hsrc j v hv, addr_add]
  exact World.cell?_of_block (h b2 hb2l)
 have hc3 : ∀ w2 : World, (∀ k, k < w.heap.size → w2.heap[k]? = w.heap[k]?) → w2.cell? ⟨B3, 0, none⟩ = some v3 := fun w2 h => by
  simp only [World.cell?, h B3 h3l, h3]
  rfl
 have hf3 : ∀ w2 : World, (∀ k, k < w.heap.size → w2.heap[k]? = w.heap[k]?) → w2.frozen? ⟨B3, 0, none⟩ = false := fun w2 h => by
  simp [World.frozen?, h B3 h3l, h3]
 have hgs : ∀ w2 : World, (∀ k, k < w.heap.size → w2.heap[k]? = w.heap[k]?) → (w2.setCell ⟨B3, 0, none⟩ (.bool false)).heap[g]? = some (.cells cur t (0, 0)) := fun w2 h => by
  rw [setCell_eq_setRow w2 B3 0 #[v3] t3 (0, 0) _ ((h B3 h3l).trans h3), setRow_other w2 B3 g _ (fun e => h3g e.symm)]
  exact hgw w2 h
 have hss : ∀ w2 : World, (∀ k, k < w.heap.size → w2.heap[k]? = w.heap[k]?) → ∀ j v, cs[j]? = some v → (w2.setCell ⟨B3, 0, none⟩ (.bool false)).cell? ((⟨b2, o2 + part * 2, none⟩ : Addr).add j) = some v := fun w2 h j v hv => by
  rw [← hsw w2 h j v hv, addr_add]
  exact World.cell?_setCell_other _ _ _ _ (by simp [h32])
 by_cases hd0 : d0 = 0
 ·subst hd0
  go_enter Try.func32, Try.ntmps32
  go_wp2_with fail
  go_region
  have k1 : w.drew.cell? ⟨g, whole * 2 + 1, none⟩ = some (.int .i64 0) := hd
  go_wp2_with (refine wpList_copy_rows rfl (.tmp 36) (.tmp 37) _ _ rfl 62 2 rfl (by kernel_rfl) g (whole * 2) many (cap - whole) ⟨b2, o2 + part * 2, none⟩ many (c - part) (by simp [Act.eval, Act.put]) (by simp [Act.eval, Act.put]) cur t (show w.drew.heap[g]? = _ from hg) cs (by rw [hl]; simp) (fun j v h => (show w.drew.cell? _ = _ from hsrc j v h)) (by omega) hone ?_)
  go_end0
  exact ⟨rfl, w.drew, hbd, by simp⟩
 ·cases q with
  | true =>
   go_enter Try.func32, Try.ntmps32
   go_wp2_with fail
   go_region
   have k1 : w.drew.cell? ⟨g, whole * 2 + 1, none⟩ = some (.int .i64 d0) := hd
   go_wp2_with (first | (go_at_call 33; refine (hEq w.drew hbd).mono ?_; rintro e w2 ⟨rfl, hb2⟩; have hbw := hblk w2 hb2) | (refine wpList_copy_rows rfl (.tmp 36) (.tmp 37) _ _ rfl 62 2 rfl (by kernel_rfl) g (whole * 2) many (cap - whole) ⟨b2, o2 + part * 2, none⟩ many (c - part) (by simp [Act.eval, Act.put]) (by simp [Act.eval, Act.put]) cur t (hgw w2 hbw) cs (by rw [hl]; simp) (hsw w2 hbw) (by omega) hone ?_))
   go_end0
   exact ⟨rfl, w2, hbb w2 hb2, by simp⟩
  | false =>
   go_enter Try.func32, Try.ntmps32
   go_wp2_with fail
   go_region
   have k1 : w.drew.cell? ⟨g, whole * 2 + 1, none⟩ = some (.int .i64 d0) := hd
   go_wp2_with (first | (go_at_call 33; refine (hEq w.drew hbd).mono ?_; rintro e w2 ⟨rfl, hb2⟩; have hbw := hblk w2 hb2; have c3 := hc3 w2 hbw; have f3 := hf3 w2 hbw) | (refine wpList_copy_rows rfl (.tmp 36) (.tmp 37) _ _ rfl 62 2 rfl (by kernel_rfl) g (whole * 2) many (cap - whole) ⟨b2, o2 + part * 2, none⟩ many (c - part) (by simp [Act.eval, Act.put]) (by simp [Act.eval, Act.put]) cur t (hgs w2 hbw) cs (by rw [hl]; simp) (hss w2 hbw) (by omega) hone ?_))
   go_end0
   exact ⟨rfl, w2, hbb w2 hb2, by simp [hd0]⟩
theorem setAt_grown' (w : World) {g : Nat} {cur : Array Value} {o : Nat} {cs : List Value} : w.grownBy (setAt w g cur o cs) (some g) := by
 refine ⟨rfl, rfl, rfl, ?_, fun k hk hne => ?_⟩
 ·show w.heap.size ≤ _
  rw [setAt, World.setRow, Array.size_modify]
  exact Nat.le_refl _
 ·exact setRow_other w g k _ (fun e => hne (by rw [e]))
/-- Whether a row clashes with what is there. -/
def clash (l T : List Fr) (whole part many : Nat) : Prop := (l[whole]?.getD (0, 0)).2 ≠ 0 ∧ (l.drop whole).take many ≠ (T.drop part).take many
noncomputable instance (l T : List Fr) (whole part many : Nat) : Decidable (clash l T whole part many) := Classical.propDecidable _
theorem gather1_i {mem : List (Nat × Box)} {nx nb nf na nv : Nat} {xsB xsF : List AC} {l T : List Fr} {al al' : Bool} {whole part many : Nat}
  (hb : findB mem nb = some (.var xsB)) (hb6 : xsB[6]? = some (.ref nv)) (hf : findB mem nf = some (.var xsF)) (hf6 : xsF[6]? = some (.pure (pSl frP T))) (ha : findB mem na = some (.var [.pure (pB al)]))
  (hv : findB mem nv = some (vA l)) (h1 : whole + many ≤ l.length) (h2 : part + many ≤ T.length) (hp : 0 < many) (hl : l.length ≤ 65536) (hT : T.length ≤ 65536)
  (hal : al' = if clash l T whole part many then false else al) :
  ICalls Try.prog 32 [I whole, I part, I many, .c (.ptr nb 0), .c (.ptr nf 0), .c (.ptr na 0)] mem nx (packV [])
   (setB (setB mem na (.var [.pure (pB al')])) nv (vA (spl l whole ((T.drop part).take many)))) nx := by
 refine ⟨⟨_, Try.func32, rfl, by kernel_rfl⟩, fun w0 U ι w vs hs hr => ?_⟩
 obtain ⟨B1, vsB, TB, b1, b2, b3, b4⟩ := hs.box _ _ hb
 obtain ⟨B2, vsF, TF, f1, f2, f3, f4⟩ := hs.box _ _ hf
 obtain ⟨B3, vsA, TA, a1, a2, a3, a4⟩ := hs.box _ _ ha
 obtain ⟨cells, k0, k1, k2, k3⟩ := hs.box _ _ hv
 have hc := flat_of k3
 subst hc
 obtain ⟨u6, hu6, hru⟩ := b4.get hb6
 obtain rfl : u6 = ι nv := repV_ref (.c hru)
 obtain ⟨z6, hz6, hrz⟩ := f4.get hf6
 have hrz' : RepP w (Free w0.heap.size U ι mem) (pSl frP T) z6 := by cases hrz with | pure h => exact h
 obtain ⟨sb, so, sc, rfl, hsc, hsU, hsrc⟩ := src_cells hrz' (by omega)
 have hvs : vs = #[.int .i64 whole, .int .i64 part, .int .i64 many, .pointer (some ⟨B1, 0, none⟩), .pointer (some ⟨B2, 0, none⟩), .pointer (some ⟨B3, 0, none⟩)] := by
  obtain ⟨l0⟩ := vs
  have := hr
  cases this with
  | cons a1 r =>
  cases r with
  | cons a2 r =>
  cases r with
  | cons a3 r =>
  cases r with
  | cons a4 r =>
  cases r with
  | cons a5 r =>
  cases r with
  | cons a6 r =>
  cases r
  rename_i q1 q2 q3 q4 q5 q6
  rw [repV_int a1, repV_int a2, repV_int a3, repV_ptr b1 a4, repV_ptr f1 a5, repV_ptr ‹ι na = _› a6]
 subst hvs
 have hvA : vsA = #[.bool al] := by
  obtain ⟨l0⟩ := vsA
  cases a4 with
  | cons g r =>
  cases r
  cases g with
  | pure g =>
  cases g
  rfl
 subst hvA
 have hnav : na ≠ nv := fun e => by rw [e, hv] at ha; cases ha
 rw [List.length_map] at k1
 rcases k1.2 with ⟨e0, e1⟩ | ⟨g, cap, cur, e0, hbase, hgb, c1, c2, c3, c4⟩
 ·omega
 ·have hcell1 : w.cell? ⟨B1, 6, none⟩ = some (.slice (some ⟨g, 0, none⟩) l.length cap) := by
   rw [← e0]
   simp only [World.cell?, b3]
   simpa using hu6
  have hcell2 : w.cell? ⟨B2, 6, none⟩ = some (.slice (some ⟨sb, so, none⟩) T.length sc) := by
   simp only [World.cell?, f3]
   simpa using hz6
  have hB3g : B3 ≠ g := fun e => hnav (hs.apart na nv _ _ g ha hv (by rw [a1, e]; rfl) (by rw [e0]; rfl))
  have hB3s : B3 ≠ sb := fun e => hsU.2 na _ ha (by rw [a1, e]; rfl)
  have hsl : ((T.drop part).take many).length = many := seg_len h2
  have hwl : ((l.drop whole).take many).length = many := seg_len h1
  have hown : ∀ j u, (flatV l)[j]? = some u → w.cell? ⟨g, j, none⟩ = some u := fun j u hj => by
   have hjl : j < l.length * 2 := by
    have := (List.getElem?_eq_some_iff.1 hj).1
    rwa [flatV_len] at this
   rw [← c4, List.getElem?_take, if_pos hjl] at hj
   simp only [World.cell?, hgb]
   simpa using hj
  have hwin : ∀ j u, (flatV ((l.drop whole).take many))[j]? = some u → w.cell? ((⟨g, whole * 2, none⟩ : Addr).add j) = some u := fun j u hj => by
   rw [addr_add]
   have hjl : j < many * 2 := by
    have := (List.getElem?_eq_some_iff.1 hj).1
    rwa [flatV_len, hwl] at this
   rw [← flatV_take, ← flatV_drop, List.getElem?_take, if_pos hjl, List.getElem?_drop] at hj
   exact hown _ _ hj
  have hd : w.cell? ⟨g, whole * 2 + 1, none⟩ = some (.int .i64 (l[whole]?.getD (0, 0)).2) := by
   have hw : whole < l.length := by omega
   refine hown _ _ ?_
   rw [(flatV_get l whole).2, List.getElem?_eq_getElem hw]
   rfl
  have hEq : ∀ w1, Below w.heap.size w w1 → Calls Try.prog n_slices_Equal_api_Val_api_Val #[.slice (some ⟨g, whole * 2, none⟩) many (cap - whole), .slice (some ⟨sb, so + part * 2, none⟩) many (sc - part)] w1 fun e w' => e = .returned (.bool (decide ((l.drop whole).take many = (T.drop part).take many))) ∧ Below w1.heap.size w1 w' := fun w1 hb1 => by
   have hgl : g < w.heap.size := (Array.getElem?_eq_some_iff.1 hgb).1
   have hcl : ∀ b o u, w.cell? ⟨b, o, none⟩ = some u → w1.cell? ⟨b, o, none⟩ = some u := fun b o u h => by
    rw [← h]
    exact World.cell?_of_block (hb1.block b (World.block_lt_of_cell? w _ h))
   have r1 := win_rep (w := w1) (b := g) (o := whole * 2) (c := cap - whole) (l := (l.drop whole).take many) (by omega) (by omega) fun j u hj => by
    have := hwin j u hj
    rw [addr_add] at this ⊢
    exact hcl _ _ _ this
   have r2 := win_rep (w := w1) (b := sb) (o := so + part * 2) (c := sc - part) (l := (T.drop part).take many) (by omega) (by omega) fun j u hj => by
    have := hsrc part many h2 j u hj
    rw [addr_add] at this ⊢
    exact hcl _ _ _ this
   rw [hwl] at r1
   rw [hsl] at r2
   refine ((slices_Equal_Val ((l.drop whole).take many) ((T.drop part).take many) (by rw [hwl, hsl])).2 w1 (fun _ => True) _ (.cons (.c (.pure r1)) (.cons (.c (.pure r2)) .nil))).mono ?_
   rintro e w' ⟨v, rfl, hv, hbel⟩
   refine ⟨?_, hbel⟩
   cases hv with
   | c hv =>
   cases hv with
   | pure hv =>
   cases hv
   rfl
  refine (gather1_raw hcell1 hcell2 a3 hB3g hB3s hgb h1 c1 (by omega) h2 hsc (by omega) hp hd (by rw [flatV_len, hsl]) (hsrc part many h2) (by omega) flatV_one hEq).mono ?_
  rintro en w' ⟨rfl, w2, hb2, rfl⟩
  have hs2 := hs.grow hb2
  have hgl : g < w.heap.size := (Array.getElem?_eq_some_iff.1 hgb).1
  have h3l : B3 < w.heap.size := (Array.getElem?_eq_some_iff.1 a3).1
  have hcl : ((l[whole]?.getD (0, 0)).2 ≠ 0 ∧ decide ((l.drop whole).take many = (T.drop part).take many) = false) ↔ clash l T whole part many := by
   unfold clash
   rw [decide_eq_false_iff_not]
  obtain ⟨w3, hw3, hs3, hg3⟩ : ∃ w3, w3 = (if (l[whole]?.getD (0, 0)).2 ≠ 0 ∧ decide ((l.drop whole).take many = (T.drop part).take many) = false then w2.setCell ⟨B3, 0, none⟩ (.bool false) else w2) ∧
    Sim w0 U ⟨[], setB mem na (.var [.pure (pB al')]), nx, nx⟩ ι { tmps := #[], defers := [] } w3 ∧ w3.heap[g]? = some (.cells cur 62 (0, 0)) := by
   by_cases hcs : clash l T whole part many
   ·rw [if_pos (hcl.2 hcs)]
    rw [if_pos hcs] at hal
    subst hal
    have e3 := setCell_eq_setRow w2 B3 0 #[.bool al] TA (0, 0) (.bool false) ((hb2.block B3 h3l).trans a3)
    refine ⟨_, rfl, ?_, ?_⟩
    ·rw [e3]
     exact hs2.setBox ha (b := B3) (by rw [a1]; rfl) (bx := .var [.pure (pB false)]) ⟨B3, _, TA, a1, a2, setRow_heap _ _ _ _ _ _ ((hb2.block B3 h3l).trans a3), .cons (.pure (.val rfl)) .nil⟩
    ·rw [e3, setRow_other w2 B3 g _ (fun e => hB3g e.symm), hb2.block g hgl]
     exact hgb
   ·rw [if_neg (fun h => hcs (hcl.1 h))]
    rw [if_neg hcs] at hal
    subst hal
    refine ⟨_, rfl, hs2.sub (fun n bx hn => ?_), by rw [hb2.block g hgl]; exact hgb⟩
    rw [findB_setB] at hn
    by_cases e : na = n
    ·subst e
     rw [if_pos rfl, ha] at hn
     show findB mem na = _
     rw [ha]
     exact hn
    ·rw [if_neg e] at hn
     exact hn
  rw [← hw3]
  have hv3 : findB (setB mem na (.var [.pure (pB al')])) nv = some (vA l) := by rw [findB_setB, if_neg hnav]; exact hv
  have hgr : w3.grownBy (setAt w3 g cur (whole * 2) (flatV ((T.drop part).take many))) (blockOf (ι nv)) := by
   rw [e0]
   exact setAt_grown' w3
  have hlen2 : (spl l whole ((T.drop part).take many)).length = l.length := by simp [spl, hsl]; omega
  have hcells : flatV (spl l whole ((T.drop part).take many)) = (flatV l).take (whole * 2) ++ (flatV ((T.drop part).take many) ++ (flatV l).drop (whole * 2 + many * 2)) := by
   rw [spl, flatV_append, flatV_append, flatV_take, hsl, ← Nat.add_mul, flatV_drop, List.append_assoc]
  have hfl : (flatV ((T.drop part).take many)).length = many * 2 := by rw [flatV_len, hsl]
  refine ⟨_, ι, rfl, hs3.regrow hv3 hgr k0 (cells := flatV (spl l whole ((T.drop part).take many))) ?_ (by rw [List.length_map, hlen2]; omega) flat_rep ?_, .tup rfl (fun i => by simp)⟩
  ·rw [e0, List.length_map, hlen2]
   refine ⟨by rw [flatV_len, hlen2], .inr ⟨g, cap, (cur.toList.take (whole * 2) ++ (flatV ((T.drop part).take many) ++ cur.toList.drop (whole * 2 + (flatV ((T.drop part).take many)).length))).toArray, rfl, hbase, ?_, c1, c2, ?_, ?_⟩⟩
   ·exact setRow_heap w3 g _ _ _ _ hg3
   ·simp [hfl, c3]
    omega
   ·rw [hcells, hfl, ← c4, List.toList_toArray]
    exact take_splice hfl (by omega) (by simp [c3]; omega)
  ·exact hs3.below.grown hgr hs3.below.size (fun k hk => by rw [e0] at hk; cases hk; exact hbase)
end Go.Proofs.Ytcnbccmmhcoanaa
