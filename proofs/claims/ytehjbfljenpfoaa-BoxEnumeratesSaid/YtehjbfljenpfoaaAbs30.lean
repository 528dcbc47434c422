/- The abstract machine: an array of arrays of the call's own that grows. -/
import Derived.Test.YtehjbfljenpfoaaAbs29
set_option linter.unusedVariables false
set_option linter.unusedSimpArgs false
namespace Go.Abs
open Go.RowKit

section
variable {P : Program} {nt : Nat} {w w' w0 : World} {U : Gh} {ι : Pl} {σ : St} {a : Act}
theorem Sim.replaceA (hs : Sim w0 U σ ι a w) {nm e sz : Nat} {rows rows' : List (List AC)} {pv : Value} {cells : List Value} (hf : findB σ.mem nm = some (.arn e sz rows)) (hg : w.grownBy w' (blockOf (ι nm)))
  (hpv : ∀ b, blockOf pv = some b → blockOf (ι nm) = some b ∨ w.heap.size ≤ b) (hsl : ∃ a n c, pv = .slice a n c) (h0 : 0 < sz) (how : w'.ownsRow w0.heap.size e sz pv rows'.length cells) (hm : rows'.length ≤ 9223372036854775807)
  (hrows : RowsRepA w (Free w0.heap.size U ι σ.mem) ι σ.nx sz rows' cells) (hbelow : Below w0.heap.size w0 w') :
  ∃ ι', ι' σ.nx = pv ∧ σ.nx < σ.nx + 1 ∧ Sim w0 U { σ with mem := (σ.nx, .arn e sz rows') :: delB σ.mem nm, nx := σ.nx + 1 } ι' a w' := by
 let ι' : Pl := fun n => if n = σ.nx then pv else ι n
 have e1 : ι' σ.nx = pv := if_pos rfl
 have e2 : ∀ m, m < σ.nx → ι' m = ι m := fun m hm => if_neg (by omega)
 let mem' := (σ.nx, Box.arn e sz rows') :: delB σ.mem nm
 have hdom : ∀ n bx, findB mem' n = some bx → (n = σ.nx ∧ bx = .arn e sz rows') ∨ (n ≠ nm ∧ n < σ.nx ∧ findB σ.mem n = some bx) := by
  intro n bx h
  simp only [mem', findB_cons, findB_delB] at h
  by_cases en : σ.nx = n
  ·rw [if_pos en] at h
   cases h
   exact .inl ⟨en.symm, rfl⟩
  ·rw [if_neg en] at h
   by_cases en' : n = nm
   ·rw [if_pos en'] at h; cases h
   ·rw [if_neg en'] at h
    exact .inr ⟨en', hs.names _ _ h, h⟩
 have hfree : ∀ b, b < w.heap.size → Free w0.heap.size U ι σ.mem b → Free w0.heap.size U ι' mem' b := by
  intro b hb h
  refine ⟨h.1, fun n bx hn => ?_⟩
  rcases hdom n bx hn with ⟨rfl, _⟩ | ⟨h1, h2, h3⟩
  ·rw [e1]
   intro hc
   rcases hpv b hc with h2 | h2
   ·exact h.2 _ _ hf h2
   ·omega
  ·rw [e2 n h2]
   exact h.2 _ _ h3
 have hw : ∀ b, b < w.heap.size → Free w0.heap.size U ι σ.mem b → w'.heap[b]? = w.heap[b]? := fun b hb h => hg.block b hb (fun e => h.2 _ _ hf e.symm)
 refine ⟨ι', e1, Nat.lt_succ_self _, ⟨fun t => ?_, hs.defers, fun n bx hn => ?_, fun n bx hn => ?_, fun n n' b1 b2 b h1 h2 h3 h4 => ?_, hbelow, U.mono _ _ _ _ hs.keep hfree hw,
  ⟨Nat.le_succ_of_le hs.base.1, fun m hm => (e2 m (Nat.lt_of_lt_of_le hm hs.base.1)).trans (hs.base.2 m hm)⟩⟩⟩
 ·exact (hs.val t).mono hfree hw e2 (Nat.le_succ _)
 ·show n < σ.nx + 1
  rcases hdom n bx hn with ⟨rfl, _⟩ | ⟨h1, h2, h3⟩ <;> omega
 ·rcases hdom n bx hn with ⟨rfl, rfl⟩ | ⟨h1, h2, h3⟩
  ·exact ⟨cells, h0, by rw [e1]; exact how, hm, hrows.mono hfree hw e2 (Nat.le_succ _)⟩
  ·have hbn : ∀ c, blockOf (ι n) = some c → blockOf (ι nm) ≠ some c := fun c hc e' => h1 (hs.apart _ _ _ _ c h3 hf hc e')
   have hbx := hs.box _ _ h3
   cases bx with
   | var xs =>
    obtain ⟨b', vs, T, g1, g2, g3, g4⟩ := hbx
    refine ⟨b', vs, T, by rw [e2 n h2]; exact g1, g2, ?_, g4.mono fun _ _ h => h.mono hfree hw e2 (Nat.le_succ _)⟩
    rw [hg.block b' (Array.getElem?_eq_some_iff.1 g3).1 (fun e => hbn b' (by rw [g1]; rfl) e.symm)]
    exact g3
   | arr e' sz' rows0 =>
    obtain ⟨cells', k0, k1, k2, k3⟩ := hbx
    refine ⟨cells', k0, ?_, k2, k3.mono hfree hw⟩
    rw [e2 n h2]
    refine World.ownsRow.kept k1 hg ?_
    rcases k1.2 with ⟨h, _⟩ | ⟨g, cap, cur, h, _⟩
    ·rw [h]; exact .inl rfl
    ·right
     rw [h]
     intro e'
     exact hbn g (by rw [h]; rfl) e'.symm
   | arn e' sz' rows0 =>
    obtain ⟨cells', k0, k1, k2, k3⟩ := hbx
    refine ⟨cells', k0, ?_, k2, k3.mono hfree hw e2 (Nat.le_succ _)⟩
    rw [e2 n h2]
    refine World.ownsRow.kept k1 hg ?_
    rcases k1.2 with ⟨h, _⟩ | ⟨g, cap, cur, h, _⟩
    ·rw [h]; exact .inl rfl
    ·right
     rw [h]
     intro e'
     exact hbn g (by rw [h]; rfl) e'.symm
   | map kt m ents =>
    obtain ⟨b', es, clock, k1, k2, k3, k4, k5⟩ := hbx
    refine ⟨b', es, clock, by rw [e2 n h2]; exact k1, k2, ?_, k4.mono fun _ _ h => h.mono hfree hw e2 (Nat.le_succ _), k5⟩
    rw [hg.block b' (Array.getElem?_eq_some_iff.1 k3).1 (fun e => hbn b' (by rw [k1]; rfl) e.symm)]
    exact k3
 ·rcases hdom n b1 h1 with ⟨rfl, _⟩ | ⟨k1, k2, k3⟩
  ·rcases hdom n' b2 h2 with ⟨rfl, _⟩ | ⟨k1', k2', k3'⟩
   ·rfl
   ·rw [e1] at h3
    rw [e2 _ k2'] at h4
    rcases hpv b h3 with h5 | h5
    ·exact absurd (hs.apart _ _ _ _ b k3' hf h4 h5) k1'
    ·have := ((hs.box _ _ k3').block h4).2
     omega
  ·rw [e2 _ k2] at h3
   rcases hdom n' b2 h2 with ⟨rfl, _⟩ | ⟨k1', k2', k3'⟩
   ·rw [e1] at h4
    rcases hpv b h4 with h5 | h5
    ·exact absurd (hs.apart _ _ _ _ b k3 hf h3 h5) k1
    ·have := ((hs.box _ _ k3).block h3).2
     omega
   ·rw [e2 _ k2'] at h4
    exact hs.apart _ _ _ _ b k3 k3' h3 h4
theorem compOp_bsliceF {dr : Bool} {op : Op} {sz : Nat} {rs : List AX} (h : compOp P dr op = some (.bsliceF sz rs)) : ∃ t n parts e by0, op = .buildSlice t n parts ∧ elemOf? P t = some (e, sz, by0) ∧ rowsOf 0 parts.toList = some rs ∧ rs.length = n ∧ n * sz ≤ 16777216 ∧ 0 < sz ∧ ((zeroOf P e).map fun z => decide (z.cells.size = sz)) = some true := by
 unfold compOp at h
 split at h
 case h_7 =>
  split at h
  ·rename_i e0 sz0 by0 rs0 he hr
   split at h
   ·rename_i hcond
    obtain ⟨h1, h2, h3, h4⟩ := hcond
    simp only [Option.some.injEq] at h
    split at h
    ·cases h
     exact ⟨_, _, _, _, _, rfl, he, hr, h1, h2, h3, h4⟩
    ·cases h
   ·cases h
  ·cases h
 all_goals exfalso
 all_goals (try (simp at h; done))
 all_goals (try ((repeat' split at h) <;> first | (cases h; done) | (obtain ⟨_, _, e⟩ := Option.map_eq_some_iff.1 h; cases e; done) | (simp at h; done)))
theorem compOp_app {dr : Bool} {op : Op} {e sz by0 : Nat} {x y : AX} (h : compOp P dr op = some (.app e sz by0 x y)) : ∃ c t p q, op = .call c ∧ c.callee = .builtin .append ∧ c.args.toList = [p, q] ∧ c.argTypes.toList = [t, t] ∧ elemOf? P t = some (e, sz, by0) ∧ compX p = some x ∧ compX q = some y ∧ 0 < sz ∧ ((zeroOf P e).map fun z => decide (z.cells.size = sz)) = some true := by
 unfold compOp at h
 split at h
 case h_27 =>
  rename_i as ts _
  split at h
  ·rename_i p q t u ha ht
   split at h
   ·rename_i htu
    subst htu
    split at h
    ·rename_i e0 sz0 by1 x0 y0 he hx hy
     split at h
     ·rename_i hc
      cases h
      exact ⟨_, t, p, q, rfl, rfl, ha, ht, he, hx, hy, hc.1, hc.2⟩
     ·cases h
    ·cases h
   ·cases h
  ·cases h
 all_goals exfalso
 all_goals (try (simp at h; done))
 all_goals (try ((repeat' split at h) <;> first | (cases h; done) | (obtain ⟨_, _, e⟩ := Option.map_eq_some_iff.1 h; cases e; done) | (simp at h; done)))
theorem rowsOf_one {k : Nat} {ax : AX} : ∀ {l : List (Nat × Operand)}, rowsOf k l = some [ax] → ∃ x, l = [(k, x)] ∧ compX x = some ax
 | [], h => by cases h
 |(i, x) :: r, h => by
  unfold rowsOf at h
  split at h
  ·rename_i hk
   subst hk
   split at h
   ·rename_i y ys h1 h2
    cases h
    cases r with
    | nil => exact ⟨x, rfl, h1⟩
    | cons z r =>
     obtain ⟨j, z⟩ := z
     unfold rowsOf at h2
     split at h2
     ·split at h2 <;> cases h2
     ·cases h2
   ·cases h
  ·cases h
theorem run_bslice1 {o : Oper} {t n e by0 : Nat} {parts : Array (Nat × Operand)} {x : Operand} {z v : Value} (ho : o.op = .buildSlice t n parts) (ht : elemOf? P t = some (e, 1, by0)) (hp : parts.toList = [(0, x)]) (hn : n = 1) (hz : zeroOf P e = some z) (hzs : z.cells.size = 1) (hv : a.eval x = v) (hc : v.cells = #[v]) :
  (execOp a.eval o).run P w = .ok (.value (.slice (some ⟨w.heap.size, 0, none⟩) 1 1)) (w.alloc (.cells #[v] e)) := by
 subst hn
 unfold elemOf? zeroOf at *
 split at ht
 ·rename_i e' hd
  cases hi : P.info? e' with
  | none => simp [hi] at ht
  | some inf =>
   simp [hi] at ht
   obtain ⟨rfl, hs1, _⟩ := ht
   simp [hi] at hz
   have hpa : parts = #[(0, x)] := by rw [← Array.toArray_toList (xs := parts), hp]
   subst hpa
   obtain ⟨zc, hzc⟩ : ∃ zc, z.cells = #[zc] := by
    match hh : z.cells, hzs with
    | ⟨[zc]⟩, _ => exact ⟨zc, rfl⟩
   simp [execOp, ho, Instr.buildSlice, run_underlying hd, sizeOf, typeInfo, hi, hs1, newRow, zeroValue, hz, hzc, Instr.fill, hv, hc]
   have e1 : Array.range 1 = #[0] := rfl
   have e2 : ∀ c : Value, (#[c] : Array Value).setIfInBounds 0 v = #[v] := fun c => by simp
   rw [e1, Array.map_singleton, e2]
 ·cases ht
theorem compG_split {dr : Bool} {ops : Array Oper} {o : Oper} {d : Nat} {op : AOp} (h : compG P dr nt ops o = some ⟨some d, none, op⟩) : o.guard = none ∧ o.dst = some d ∧ compOp P dr o.op = some op ∧ d < nt := by
 unfold compG at h
 by_cases hdst : fitD nt o.dst = false
 ·rw [if_pos hdst] at h; cases h
 rw [if_neg hdst] at h
 split at h
 ·rename_i ao hao
  have hgd : o.guard = none ∧ o.dst = some d ∧ ao = op := by
   cases hgu : o.guard with
   | none =>
    rw [hgu] at h
    simp only [Option.some.injEq, AG.mk.injEq] at h
    exact ⟨rfl, h.1, h.2.2⟩
   | some q =>
    rw [hgu] at h
    dsimp only at h
    split at h <;> simp at h
  refine ⟨hgd.1, hgd.2.1, by rw [hao, hgd.2.2], ?_⟩
  rw [hgd.2.1] at hdst
  simpa [fitD] using hdst
 ·cases h
theorem append_ref {t e by0 nm nm0 : Nat} {x y : Operand} {p : AX} {c : Call} {o : Oper} {z u : Value} {rows : List (List AC)} {b : Nat} {T : TypeId} {fz : Nat × Nat} (hc : c.callee = .builtin .append) (hargs : c.args.toList = [x, y]) (htys : c.argTypes.toList = [t, t]) (ho : o.op = .call c) (ht : elemOf? P t = some (e, 1, by0))
  (hz : zeroOf P e = some z) (hzs : z.cells.size = 1) (hx : compX x = some p) (hp : p.ev σ.fr = .c (.ref nm)) (hy : a.eval y = .slice (some ⟨b, 0, none⟩) 1 1) (hb : w.heap[b]? = some (.cells #[u] T fz)) (hf : findB σ.mem nm = some (.arn e 1 rows)) (hu : RepA w (Free w0.heap.size U ι σ.mem) ι σ.nx (.ref nm0) u)
  (hbytes : (rows.length + 1) * by0 ≤ 140737488355328) (hmax0 : rows.length + 1 ≤ 140737488355328) (hs : Sim w0 U σ ι a w) :
  ∃ v w' ι', (execOp a.eval o).run P w = .ok (.value v) w' ∧ Sim w0 U { σ with mem := (σ.nx, .arn e 1 (rows ++ [[.ref nm0]])) :: delB σ.mem nm, nx := σ.nx + 1 } ι' a w' ∧ v = ι' σ.nx ∧ ∃ a n c, ι' σ.nx = .slice a n c := by
 have r1 := compX_rep hx hs
 rw [hp] at r1
 have eux : a.eval x = ι nm := repV_ref r1
 have ha : c.args = #[x, y] := by rw [← Array.toArray_toList (xs := c.args), hargs]
 have hty : c.argTypes = #[t, t] := by rw [← Array.toArray_toList (xs := c.argTypes), htys]
 have hrun : ∀ {v' : Value} {w' : World}, (Builtin.append_ #[t, t] o.type #[a.eval x, a.eval y]).run P w = .ok v' w' → (execOp a.eval o).run P w = .ok (.value v') w' := by
  intro v' w' hr
  simp [execOp, ho, resolve, hc, invoke, builtin, ha, hty, hr]
 unfold elemOf? zeroOf at *
 split at ht
 ·rename_i e' hd
  cases hi : P.info? e' with
  | none => simp [hi] at ht
  | some inf =>
   simp [hi] at ht
   obtain ⟨rfl, hsz, hby⟩ := ht
   simp [hi] at hz
   obtain ⟨cells, g0, g1, g2, g3⟩ := hs.box _ _ hf
   have hB := hs.below.size
   have hone : u.oneCell' = true := by
    cases hu with
    | ref hn h =>
     obtain ⟨q1, q2, q3, q4⟩ := h
     rw [q4]
     rfl
   have hcn : ∀ (j : Nat) v, [u][j]? = some v → w.cell? ((⟨b, 0, none⟩ : Addr).add j) = some v := fun j v hj => by
    rw [add_off, Nat.zero_add, cell_row hb]
    simpa using hj
   have hmax : rows.length + 1 ≤ 9223372036854775807 := by omega
   have hlen : (rows ++ [[AC.ref nm0]]).length = rows.length + 1 := by simp
   have hrep : RowsRepA w (Free w0.heap.size U ι σ.mem) ι σ.nx 1 (rows ++ [[.ref nm0]]) (cells ++ [u]) := by
    have hcl : cells.length = rows.length * 1 := g3.1
    refine ⟨by simp [hcl], fun i row hi => ?_, fun i row j p hi hj => ?_⟩
    ·by_cases hlt : i < rows.length
     ·rw [List.getElem?_append_left hlt] at hi
      exact g3.2.1 i row hi
     ·rw [List.getElem?_append_right (by omega)] at hi
      have : row ∈ [[AC.ref nm0]] := List.mem_of_getElem? hi
      rw [List.mem_singleton.1 this]
      rfl
    ·by_cases hlt : i < rows.length
     ·rw [List.getElem?_append_left hlt] at hi
      obtain ⟨v, hv, hp⟩ := g3.2.2 i row j p hi hj
      exact ⟨v, by rw [List.getElem?_append_left ((List.getElem?_eq_some_iff.1 hv).1)]; exact hv, hp⟩
     ·rw [List.getElem?_append_right (by omega)] at hi
      have hi0 : i = rows.length := by
       have := (List.getElem?_eq_some_iff.1 hi).1
       simp at this
       omega
      subst hi0
      rw [Nat.sub_self] at hi
      cases hi
      have hj0 : j = 0 := by
       have := (List.getElem?_eq_some_iff.1 hj).1
       simpa using this
      subst hj0
      cases hj
      refine ⟨u, ?_, hu⟩
      rw [List.getElem?_append_right (by omega), hcl]
      simp
   have grow : ∀ {base : Option Addr} {cx : Nat}, ι nm = .slice base rows.length cx → ((base = none ∧ rows.length = 0 ∧ cx = 0) ∨ ∃ bd, base = some bd ∧ ∀ (j : Nat) u, cells[j]? = some u → w.cell? (bd.add j) = some u) → rows.length ≤ cx → cx < rows.length + 1 →
     ∃ v w' ι', (execOp a.eval o).run P w = .ok (.value v) w' ∧ Sim w0 U { σ with mem := (σ.nx, .arn e' 1 (rows ++ [[.ref nm0]])) :: delB σ.mem nm, nx := σ.nx + 1 } ι' a w' ∧ v = ι' σ.nx ∧ ∃ a n c, ι' σ.nx = .slice a n c := by
    intro base cx ex hb hle hlt
    obtain ⟨cap, w', hr, hbel, how⟩ := run_append_full (P := P) (ty := o.type) (B := w0.heap.size) (news := [u]) (m := 1) (c' := 1) hd hi hz hsz hby hzs g1.1 hb rfl hcn hlt hle hmax hbytes hB
    obtain ⟨ι', h1, h2, h3⟩ := hs.replaceA (w' := w') (rows' := rows ++ [[.ref nm0]]) (pv := .slice (some ⟨w.heap.size, 0, none⟩) (rows.length + 1) cap) hf ⟨hbel.os, hbel.tape, hbel.output, hbel.size, fun k hk _ => hbel.block k hk⟩ (fun b hb => .inr (by simp [blockOf] at hb; omega)) ⟨_, _, _, rfl⟩ g0 (by rw [hlen]; exact how) (by rw [hlen]; exact hmax) hrep (hs.below.trans (hbel.mono hB))
    refine ⟨_, w', ι', hrun (v' := ι' σ.nx) ?_, h3, rfl, _, _, _, h1⟩
    rw [h1, eux, ex, hy]
    exact hr
   rcases g1.2 with ⟨ex, e0⟩ | ⟨g, cap, cur, ex, hBg, hg, hnc, hcm, hcs, htake⟩
   ·exact grow (base := none) (cx := 0) (by rw [ex, e0]) (.inl ⟨rfl, e0, rfl⟩) (by omega) (by omega)
   ·by_cases hroom : rows.length + 1 ≤ cap
    ·have hfit : rows.length * inf.size + [u].length ≤ cur.size := by
      rw [hsz, hcs]
      simp
      omega
     have hr := run_append_room (P := P) w t o.type e' inf hd hi g rows.length cap cur hg ⟨b, 0, none⟩ 1 1 [u] (by rw [hsz]; rfl) hcn (fun v hv => by rw [List.mem_singleton.1 hv]; exact hone) hroom hfit
     have how : (w.setRow g (cur.toList.take (rows.length * inf.size) ++ [u] ++ cur.toList.drop (rows.length * inf.size + [u].length)).toArray).ownsRow w0.heap.size e' 1 (.slice (some ⟨g, 0, none⟩) (rows.length + 1) cap) (rows.length + 1) (cells ++ [u]) := by
      have hl : (cells ++ [u]).length = (rows.length + 1) * 1 := by rw [List.length_append, g1.1]; simp
      refine ⟨hl, .inr ⟨g, cap, _, rfl, hBg, setRow_heap _ _ _ _ _ _ hg, hroom, hcm, ?_, ?_⟩⟩
      ·simp only [List.size_toArray, List.length_append, List.length_take, List.length_drop, Array.length_toList]
       rw [← hcs]
       omega
      ·rw [List.toList_toArray, hsz, htake, ← hl]
       exact List.take_left
     obtain ⟨ι', h1, h2, h3⟩ := hs.replaceA (w' := w.setRow g (cur.toList.take (rows.length * inf.size) ++ [u] ++ cur.toList.drop (rows.length * inf.size + [u].length)).toArray) (rows' := rows ++ [[.ref nm0]]) (pv := .slice (some ⟨g, 0, none⟩) (rows.length + 1) cap) (cells := cells ++ [u]) hf
      ⟨rfl, rfl, rfl, by simp, fun k _ hk => setRow_other _ _ _ _ (fun e => hk (by rw [ex, e]; rfl))⟩ (fun b hb => .inl (by rw [ex]; exact hb)) ⟨_, _, _, rfl⟩ g0 (by rw [hlen]; exact how) (by rw [hlen]; exact hmax) hrep (hs.below.trans ⟨rfl, rfl, rfl, by simp, fun k hk => setRow_other _ _ _ _ (by omega)⟩)
     refine ⟨_, _, ι', hrun (v' := ι' σ.nx) ?_, h3, rfl, _, _, _, h1⟩
     rw [h1, eux, ex, hy]
     exact hr
    ·exact grow (base := some ⟨g, 0, none⟩) ex (.inr ⟨_, rfl, fun j u hj => World.ownsRow.cells g1 (by rw [ex]; rfl) j u hj⟩) hnc (by omega)
 ·cases ht
variable {Q : AExit → St → Prop}
theorem AW_appRef {gs1 gs2 : List AG} {t1 t2 e by0 : Nat} {ax x : AX} (hx1 : ∀ v fr, x.ev ((t1, v) :: fr) = x.ev fr)
  (h : opsW P gs1 σ (fun σ1 => ∃ nm nm0 rows, ax.ev σ1.fr = .c (.ref nm0) ∧ x.ev σ1.fr = .c (.ref nm) ∧ findB σ1.mem nm = some (.arn e 1 rows) ∧ (rows.length + 1) * by0 ≤ 140737488355328 ∧ rows.length + 1 ≤ 140737488355328 ∧
   opsW P gs2 ⟨(t2, .c (.ref σ1.nx)) :: (t1, .top) :: σ1.fr, (σ1.nx, .arn e 1 (rows ++ [[.ref nm0]])) :: delB σ1.mem nm, σ1.nx + 1, σ1.base⟩ (Q .normal))) :
  AW P nt (.region (gs1 ++ ⟨some t1, none, .bsliceF 1 [ax]⟩ :: ⟨some t2, none, .app e 1 by0 x (.t t1)⟩ :: gs2) false) σ Q := by
 intro c' hc w0 U rd ds ι a w hrd hs hz
 cases c' <;> simp [compC] at hc
 all_goals (try (split at hc <;> simp at hc))
 rename_i id ops dr
 obtain ⟨g1, h1, hg⟩ := hc
 cases dr with
 | true =>
  simp only [regX, if_true] at hg
  rcases compDraw_cases (P := P) (ops := ops.toList) (gs := g1) with ⟨x, e⟩ | e <;> rw [e] at hg <;> simp at hg
 | false =>
  simp [regX] at hg
  subst hg
  obtain ⟨k1, _, k2⟩ := compGs_take gs1.length h1
  obtain ⟨_, k3, k4⟩ := compGs_take (gs1.length + 1) h1
  obtain ⟨_, k5, _⟩ := compGs_take (gs1.length + 2) h1
  rw [List.take_left] at k1
  rw [show (gs1 ++ (⟨some t1, none, .bsliceF 1 [ax]⟩ : AG) :: ⟨some t2, none, .app e 1 by0 x (.t t1)⟩ :: gs2).drop (gs1.length + 2) = gs2 by simp [List.drop_append]] at k5
  obtain ⟨o1, ho1, hg1⟩ := k2 ⟨some t1, none, .bsliceF 1 [ax]⟩ (by simp)
  obtain ⟨o2, ho2, hg2⟩ := k4 ⟨some t2, none, .app e 1 by0 x (.t t1)⟩ (by simp [List.getElem?_append_right])
  obtain ⟨u1, d1, p1, l1⟩ := compG_split hg1
  obtain ⟨u2, d2, p2, l2⟩ := compG_split hg2
  have hsplit : ops.toList = ops.toList.take gs1.length ++ ([o1, o2] ++ ops.toList.drop (gs1.length + 2)) := by
   have a1 := (List.getElem?_eq_some_iff.1 ho1).1
   have a2 := (List.getElem?_eq_some_iff.1 ho1).2
   have a3 := (List.getElem?_eq_some_iff.1 ho2).1
   have a4 := (List.getElem?_eq_some_iff.1 ho2).2
   have e2 : ops.toList.drop (gs1.length + 1) = o2 :: ops.toList.drop (gs1.length + 2) := by rw [List.drop_eq_getElem_cons a3, a4]
   have e1 : ops.toList.drop gs1.length = o1 :: ops.toList.drop (gs1.length + 1) := by rw [List.drop_eq_getElem_cons a1, a2]
   show _ = _ ++ (o1 :: o2 :: ops.toList.drop (gs1.length + 2))
   rw [← e2, ← e1, List.take_append_drop]
  refine wpIn_mono (Q := LfQ ds (fun e a w => ∃ σ' ι', e = .normal ∧ Q .normal σ' ∧ Sim w0 U σ' ι' a w ∧ a.tmps.size = nt)) (wpIn_region_list ?_) post_in
  rw [hsplit]
  generalize hK : (fun σ1 : St => ∃ nm nm0 rows, ax.ev σ1.fr = .c (.ref nm0) ∧ x.ev σ1.fr = .c (.ref nm) ∧ findB σ1.mem nm = some (.arn e 1 rows) ∧ (rows.length + 1) * by0 ≤ 140737488355328 ∧ rows.length + 1 ≤ 140737488355328 ∧
   opsW P gs2 ⟨(t2, .c (.ref σ1.nx)) :: (t1, .top) :: σ1.fr, (σ1.nx, .arn e 1 (rows ++ [[.ref nm0]])) :: delB σ1.mem nm, σ1.nx + 1, σ1.base⟩ (Q .normal)) = K at h
  refine wpListIn_append ?_ ?_ (list_in (ds := ds) (post_out (w0 := w0) (U := U) (nt := nt) (Q := fun _ σ1 => K σ1)) (compGs_ops k1) (ops_sound k1 h hs hz fun σ' ι' a' w' hq hs' hz' => ⟨σ', ι', rfl, hq, hs', hz'⟩))
  ·rintro a1 w1 ⟨a0, rfl, σ1, ι1, _, hk, hs1, hz1⟩
   rw [← hK] at hk
   obtain ⟨nm, nm0, rows, q1, q2, q3, q4, q5, q6⟩ := hk
   obtain ⟨t, n, parts, e1, by1, b1, b2, b3, b4, b5, b6, b7⟩ := compOp_bsliceF p1
   obtain ⟨c, t', px, py, c1, c2, c3, c4, c5, c6, c7, c8, c9⟩ := compOp_app p2
   obtain ⟨z1, hz1', hzs1⟩ := map_decide b7
   obtain ⟨z2, hz2', hzs2⟩ := map_decide c9
   obtain ⟨x0, hx0, hx0'⟩ := rowsOf_one b3
   have r0 := compX_rep hx0' hs1
   rw [q1] at r0
   have ev0 : a0.eval x0 = ι1 nm0 := repV_ref r0
   have ru : RepA w1 (Free w0.heap.size U ι1 σ1.mem) ι1 σ1.nx (.ref nm0) (ι1 nm0) := by
    rw [ev0] at r0
    cases r0 with
    | c h => exact h
   obtain ⟨qa, qn, qc, hsl⟩ : ∃ a n c, ι1 nm0 = .slice a n c := by
    cases ru with
    | ref hn h => exact h
   have run1 := run_bslice1 (a := a0) (w := w1) b1 b2 hx0 (by simpa using b4.symm) hz1' (of_decide_eq_true hzs1) ev0 (by rw [hsl]; rfl)
   have hgr : Below w1.heap.size w1 (w1.alloc (.cells #[ι1 nm0] e1)) := (Below.refl _ _).alloc (Nat.le_refl _) _
   have hs2 := (hs1.grow hgr).put (d := some t1) (v := .top) (u := .slice (some ⟨w1.heap.size, 0, none⟩) 1 1) (fun t ht => by cases ht; rw [hz1]; exact l1) .top
   have hy2 : (a0.put (some t1) (.slice (some ⟨w1.heap.size, 0, none⟩) 1 1)).eval py = .slice (some ⟨w1.heap.size, 0, none⟩) 1 1 := by
    cases py <;> simp [compX] at c7
    ·rename_i t0
     obtain rfl := c7
     have : t0 < a0.tmps.size := by rw [hz1]; exact l1
     show ((a0.tmps.setIfInBounds t0 _).getD t0 undef) = _
     simp [Array.getD_eq_getD_getElem?, this]
   have hu2 : RepA (w1.alloc (.cells #[ι1 nm0] e1)) (Free w0.heap.size U ι1 σ1.mem) ι1 σ1.nx (.ref nm0) (ι1 nm0) := by
    cases ru with
    | ref hn h => exact .ref hn h
   obtain ⟨v, w', ι', run2, hs3, rfl, hsl3⟩ := append_ref (σ := ⟨(t1, .top) :: σ1.fr, σ1.mem, σ1.nx, σ1.base⟩) (u := ι1 nm0) (nm0 := nm0) (b := w1.heap.size) c2 c3 c4 c1 c5 hz2' (of_decide_eq_true hzs2) c6 (by show x.ev ((t1, _) :: σ1.fr) = _; rw [hx1]; exact q2) hy2 (World.alloc_heap_new _ _) q3 hu2 q4 q5 (show Sim w0 U ⟨(t1, .top) :: σ1.fr, σ1.mem, σ1.nx, σ1.base⟩ ι1 _ _ from hs2)
   have hs4 := hs3.put (d := some t2) (v := .c (.ref σ1.nx)) (u := ι' σ1.nx) (fun t ht => by cases ht; rw [size_put, hz1]; exact l2) (.c (.ref (Nat.lt_succ_self _) hsl3))
   have key : wpList P ops (fun e' a w => e' = .normal ∧ Sim w0 U ⟨(t2, .c (.ref σ1.nx)) :: (t1, .top) :: σ1.fr, (σ1.nx, .arn e 1 (rows ++ [[.ref nm0]])) :: delB σ1.mem nm, σ1.nx + 1, σ1.base⟩ ι' a w ∧ a.tmps.size = nt) [o1, o2] a0 w1 := by
    unfold wpList
    rw [if_pos (by simp [Region.wanted, u1])]
    refine .inl (wp_value run1 ?_)
    unfold wpList
    rw [if_pos (by simp [Region.wanted, u2])]
    refine .inl ?_
    rw [d1]
    refine wp_value run2 ?_
    unfold wpList
    rw [d2]
    exact ⟨rfl, hs4, by rw [size_put, size_put]; exact hz1⟩
   refine wpListIn_append ?_ ?_ (list_in (ds := ds) (by rintro ⟨_, _, h, _⟩; cases h) (fun o ho => by
    rcases List.mem_cons.1 ho with rfl | ho
    ·exact compG_op hg1
    ·rw [List.mem_singleton.1 ho]; exact compG_op hg2) key)
   ·rintro a2 w2 ⟨a3, rfl, _, hs5, hz5⟩
    exact list_in (ds := ds) post_out (compGs_ops k5) (ops_sound k5 q6 hs5 hz5 fun σ' ι' a' w' hq hs' hz' => ⟨σ', ι', rfl, hq, hs', hz'⟩)
   ·rintro e a2 w2 ⟨a3, rfl, e2, _⟩
    exact e2
  ·rintro e a1 w1 ⟨a0, rfl, σ1, ι1, e2, _⟩
   exact e2
theorem ICalls.nilO {f : FuncId} {args : List AV} {mem mem' : List (Nat × Box)} {nx nx' : Nat} (e : Nat) (h : ICalls P f args mem nx (.c .nils) mem' nx') : ICalls P f args mem nx (.c (.ref nx')) ((nx', .arn e 1 []) :: mem') (nx' + 1) := by
 refine ⟨h.1, fun w0 U ι w vs hs hr => (h.2 w0 U ι w vs hs hr).mono ?_⟩
 rintro en w' ⟨v, ι', rfl, h1, h2⟩
 have hv := repV_nils h2
 obtain ⟨ι2, k1, k2, k3, k4⟩ := h1.newBox (pv := .slice none 0 0) (bx := .arn e 1 []) (Below.refl _ _) (fun b hb => by simp [blockOf] at hb) (fun ι' e1 e2 hfree => ⟨[], Nat.one_pos, by rw [e2]; exact World.ownsRow_nil _ _ _ _, by simp, rfl, (fun i r hi => by simp at hi), (fun i r j p hi => by simp at hi)⟩)
 refine ⟨v, ι2, rfl, k1, ?_⟩
 rw [hv, ← k2]
 exact .c (.ref (Nat.lt_succ_self _) ⟨_, _, _, k2⟩)
end
end Go.Abs
