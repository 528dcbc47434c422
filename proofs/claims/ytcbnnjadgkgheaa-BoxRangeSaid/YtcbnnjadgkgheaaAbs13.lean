/- The abstract machine: each of its operations is sound. Part 9: append, closures. -/
import Derived.Test.YtcbnnjadgkgheaaAbs12
set_option linter.unusedVariables false
set_option linter.unusedSimpArgs false
namespace Go.Abs
open Go.RowKit

section
variable {P : Program} {o : Oper} {a : Act} {w w' w0 : World} {U : Gh} {ι : Pl} {σ : St} {next : Act → World → Prop} {Q : Exit → Act → World → Prop} {K : AV → St → Prop}

theorem RowsRep.ones {V : Nat → Prop} {sz : Nat} {rows : List (List PC)} {cells : List Value} (h : RowsRep w V sz rows cells) (h0 : 0 < sz) : ∀ v ∈ cells, v.oneCell' = true := by
  intro v hv
  obtain ⟨k, hk, e⟩ := List.mem_iff_getElem.1 hv
  have hkr : k / sz < rows.length := by
    rw [Nat.div_lt_iff_lt_mul h0, ← h.1]; exact hk
  have hrow := List.getElem?_eq_getElem hkr
  have hl := h.2.1 _ _ hrow
  have hj : k % sz < (rows[k / sz]).length := by rw [hl]; exact Nat.mod_lt _ h0
  obtain ⟨u, hu, hp⟩ := h.2.2 _ _ _ _ hrow (List.getElem?_eq_getElem hj)
  rw [Nat.mul_comm, Nat.div_add_mod, List.getElem?_eq_getElem hk] at hu
  cases hu
  rw [← e]
  exact hp.one

/-- The cells of a slice that is not empty. -/
theorem pure_cells {V : Nat → Prop} {sz n c : Nat} {rows : List (List PC)} {ad : Option Addr} (h : RepP w V (.slice rows) (.slice ad n c)) (hok : rowsOk sz rows) (h0 : 0 < sz) (hne : rows ≠ []) :
    ∃ b off cells, ad = some ⟨b, off, none⟩ ∧ n = rows.length ∧ (∀ (j : Nat) x, cells[j]? = some x → w.cell? ⟨b, off + j, none⟩ = some x) ∧ RowsRep w V sz rows cells := by
  cases h with
  | @slice sz' _ _ _ _ g hn hc hm hr hcell hp =>
    obtain rfl : sz = sz' := by
      symm
      have hrl : 0 < rows.length := List.length_pos_iff.2 hne
      have hrow0 := List.getElem?_eq_getElem hrl
      rw [← hr _ _ hrow0]
      exact hok _ (List.mem_of_getElem? hrow0)
    have hrl : 0 < rows.length := List.length_pos_iff.2 hne
    have hrow0 := List.getElem?_eq_getElem hrl
    have hl0 := hr _ _ hrow0
    obtain ⟨b, off, rfl, _⟩ := hcell _ _ 0 _ hrow0 (List.getElem?_eq_getElem (by omega))
    refine ⟨b, off, (List.range (rows.length * sz)).map fun k => (w.cell? ⟨b, off + k, none⟩).getD undef, rfl, hn, fun j x hj => ?_, by simp, hr, fun i row j p hi hj => ?_⟩
    · have hjl : j < rows.length * sz := by have := (List.getElem?_eq_some_iff.1 hj).1; simpa using this
      simp [List.getElem?_map, List.getElem?_range hjl] at hj
      have hkr : j / sz < rows.length := by rw [Nat.div_lt_iff_lt_mul h0]; exact hjl
      have hrow := List.getElem?_eq_getElem hkr
      have hl := hr _ _ hrow
      have hj' : j % sz < (rows[j / sz]).length := by rw [hl]; exact Nat.mod_lt _ h0
      obtain ⟨b', off', e', _, hc'⟩ := hcell _ _ _ _ hrow (List.getElem?_eq_getElem hj')
      cases e'
      rw [Nat.mul_comm, Nat.div_add_mod] at hc'
      rw [hc'] at hj ⊢
      simpa using hj
    · have hil : i < rows.length := (List.getElem?_eq_some_iff.1 hi).1
      have hjl : j < sz := by rw [← hr i row hi]; exact (List.getElem?_eq_some_iff.1 hj).1
      obtain ⟨b', off', e', _, hc'⟩ := hcell i row j p hi hj
      cases e'
      exact ⟨g i j, by simp [List.getElem?_map, List.getElem?_range (row_lt hil hjl), hc'], hp i row j p hi hj⟩

theorem own_cells {B e sz : Nat} {v : Value} {n : Nat} {cells : List Value} (h : w.ownsRow B e sz v n cells) (hn : 0 < n) : ∃ b c, v = .slice (some ⟨b, 0, none⟩) n c ∧ ∀ (j : Nat) x, cells[j]? = some x → w.cell? ⟨b, 0 + j, none⟩ = some x := by
  have h' := h
  rcases h.2 with ⟨_, e⟩ | ⟨g, cap, cur, rfl, hb, hg, hnc, hcm, hcs, htake⟩
  · omega
  · refine ⟨g, cap, rfl, fun j x hj => ?_⟩
    have := World.ownsRow.cells h' (g := g) rfl j x hj
    rw [add_off] at this
    exact this

theorem rows_cells {v : AV} {u : Value} {sz : Nat} {rows : List (List PC)} (hs : Sim w0 U σ ι a w) (h : RepV w (Free w0.heap.size U ι σ.mem) ι σ.nx v u) (hr : rowsOf? σ.mem v = some rows) (hok : rowsOk sz rows) (h0 : 0 < sz) (hne : rows ≠ []) :
    ∃ b off c cells, u = .slice (some ⟨b, off, none⟩) rows.length c ∧ (∀ (j : Nat) x, cells[j]? = some x → w.cell? ⟨b, off + j, none⟩ = some x) ∧ RowsRep w (Free w0.heap.size U ι σ.mem) sz rows cells := by
  unfold rowsOf? at hr
  split at hr
  · cases hr
    cases h with | c h => cases h with | pure h =>
      have h' := h
      cases h with
      | slice g hn hc hm _ _ _ =>
        obtain ⟨b, off, cells, rfl, rfl, h1, h2⟩ := pure_cells h' hok h0 hne
        exact ⟨b, off, _, cells, rfl, h1, h2⟩
  · cases hr
    cases h with | c h => cases h with | tsl h =>
      obtain ⟨b, off, cells, rfl, rfl, h1, h2⟩ := pure_cells h hok h0 hne
      exact ⟨b, off, _, cells, rfl, h1, h2⟩
  · cases hr
    exact absurd rfl hne
  · split at hr
    · rename_i nm e sz' rows' hf
      cases hr
      cases h with
      | c h => cases h with
        | ref hnm hex =>
          obtain ⟨cells, g0, g1, g2, g3⟩ := hs.box _ _ hf
          obtain ⟨b, c, e1, h1⟩ := own_cells g1 (List.length_pos_iff.2 hne)
          obtain rfl : sz = sz' := by
            symm
            have hrow0 := List.getElem?_eq_getElem (List.length_pos_iff.2 hne)
            rw [← g3.2.1 _ _ hrow0]
            exact hok _ (List.mem_of_getElem? hrow0)
          exact ⟨b, 0, c, cells, e1, h1, g3⟩
    · cases hr
  · cases hr

/-- 'append' of nothing. -/
theorem run_append_zero {t e ty : TypeId} {inf : TypeInfo} {base ad : Option Addr} {n c c' : Nat} (ht : P.underlying t = some (.slice e)) (hi : P.info? e = some inf) (hc : n ≤ c) :
    (Builtin.append_ #[t, t] ty #[.slice base n c, .slice ad 0 c']).run P w = .ok (.slice base n c) w := by
  cases ad <;> cases base <;> simp [Builtin.append_, run_underlying ht, sizeOf, typeInfo, hi, Builtin.lenOf, Builtin.firstCells, loadCells, loadCellsFrom, hc, storeCells]

theorem size_zc (z : Array Value) (n : Nat) : (Builtin.zeroCells z n).size = n * z.size := by simp [Builtin.zeroCells]

/-- 'append' to a slice without room: a new block. -/
theorem run_append_full {t e ty : TypeId} {inf : TypeInfo} {z : Value} {base : Option Addr} {n c m c' sz bytes : Nat} {ad : Addr} {xs news : List Value} {B : Nat} (ht : P.underlying t = some (.slice e)) (hi : P.info? e = some inf) (hz : inf.zero = some z)
    (hsz : inf.size = sz) (hby : inf.bytes = bytes) (hzs : z.cells.size = sz) (hxs : xs.length = n * sz) (hb : (base = none ∧ n = 0 ∧ c = 0) ∨ ∃ bd, base = some bd ∧ ∀ (j : Nat) u, xs[j]? = some u → w.cell? (bd.add j) = some u)
    (hnews : news.length = m * sz) (hn : ∀ (j : Nat) u, news[j]? = some u → w.cell? (ad.add j) = some u) (hfull : c < n + m) (hnc : n ≤ c) (hm : n + m ≤ 9223372036854775807) (hbytes : (n + m) * bytes ≤ 140737488355328) (hB : B ≤ w.heap.size) :
    ∃ cap w', (Builtin.append_ #[t, t] ty #[.slice base n c, .slice (some ad) m c']).run P w = .ok (.slice (some ⟨w.heap.size, 0, none⟩) (n + m) cap) w' ∧ Below w.heap.size w w' ∧
      w'.ownsRow B e sz (.slice (some ⟨w.heap.size, 0, none⟩) (n + m) cap) (n + m) (xs ++ news) := by
  subst hsz
  subst hby
  have key : ∀ old, (w.drew.alloc (.cells (xs.toArray ++ news.toArray ++ Builtin.zeroCells z.cells (grownCap w (n + m) old e - (n + m))) e)).ownsRow B e inf.size (.slice (some ⟨w.heap.size, 0, none⟩) (n + m) (grownCap w (n + m) old e)) (n + m) (xs ++ news) := by
    intro old
    have hge := grownCap_ge w (n + m) old e
    refine ⟨by rw [List.length_append, hxs, hnews, Nat.add_mul], .inr ⟨w.heap.size, _, _, rfl, hB, heap_alloc_new w.drew _, hge, grownCap_le_maxLen w (n + m) old e (by unfold maxLen; omega), ?_, ?_⟩⟩
    · simp only [Array.size_append, List.size_toArray, size_zc, hzs, hxs, hnews, ← Nat.add_mul]
      congr 1
      omega
    · have hl : (xs ++ news).length = (n + m) * inf.size := by rw [List.length_append, hxs, hnews, Nat.add_mul]
      simp only [Array.toList_append]
      rw [← hl]
      exact List.take_left
  have hbel : ∀ ob, Below w.heap.size w (w.drew.alloc ob) := fun ob => (Below.refl _ _).drew.alloc (Nat.le_refl _) ob
  rcases hb with ⟨rfl, rfl, rfl⟩ | ⟨bd, rfl, hbd⟩
  · have hx0 : xs = [] := List.eq_nil_of_length_eq_zero (by simpa using hxs)
    subst hx0
    have hr := run_append_nil (P := P) w t ty e inf z ht hi hz ad m c' news hnews hn (by omega) (by omega) (by have := hbytes; simp only [Nat.zero_add] at this; omega)
    have hk := key 0
    simp only [Nat.zero_add, List.nil_append, Array.empty_append] at hk ⊢
    exact ⟨_, _, hr, hbel _, hk⟩
  · have hr := run_append_grow (P := P) w t ty e inf z ht hi hz bd n c xs hxs hbd ad m c' news hnews hn (by omega) (by omega) (growslice_fits (by omega) hbytes)
    exact ⟨_, _, hr, hbel _, key c⟩
theorem repV_ref {V : Nat → Prop} {N nm : Nat} {u : Value} (h : RepV w V ι N (.c (.ref nm)) u) : u = ι nm := by
  cases h with | c h => cases h; rfl
theorem repV_nils {V : Nat → Prop} {N : Nat} {u : Value} (h : RepV w V ι N (.c .nils) u) : u = .slice none 0 0 := by
  cases h with | c h => cases h; rfl
theorem repV_tsl {V : Nat → Prop} {N : Nat} {rows : List (List PC)} {u : Value} (h : RepV w V ι N (.c (.tsl rows)) u) : ∃ ad, u = .slice ad rows.length rows.length ∧ RepP w V (.slice rows) u := by
  cases h with | c h => cases h with | tsl h =>
    have h' := h
    cases h with | slice g hn => subst hn; exact ⟨_, rfl, h'⟩
/-- A block of the call's own, given away: nobody writes it any more. -/
theorem own_pure {V : Nat → Prop} {B e sz b n c : Nat} {rows : List (List PC)} {cells : List Value} (h : w.ownsRow B e sz (.slice (some ⟨b, 0, none⟩) n c) n cells) (hn : n = rows.length) (hr : RowsRep w V sz rows cells) (hb : V b) (hm : n ≤ 9223372036854775807) : RepP w V (.slice rows) (.slice (some ⟨b, 0, none⟩) n c) := by
  subst hn
  have h' := h
  rcases h.2 with ⟨e, _⟩ | ⟨g, cap, cur, e, hBg, hg, hnc, _⟩
  · cases e
  · simp at e
    obtain ⟨rfl, rfl⟩ := e
    refine hr.slice hb hnc hm fun k v hk => ?_
    have := World.ownsRow.cells h' (g := b) rfl k v hk
    rw [add_off, Nat.zero_add] at this
    exact this
theorem op_app {t e sz bytes : Nat} {z : Value} {x y : Operand} {p q : AX} {c : Call} (hc : c.callee = .builtin .append) (hargs : c.args.toList = [x, y]) (htys : c.argTypes.toList = [t, t]) (ho : o.op = .call c) (ht : elemOf? P t = some (e, sz, bytes)) (h0 : 0 < sz)
    (hz : zeroOf P e = some z) (hzs : z.cells.size = sz) (hx : compX x = some p) (hy : compX y = some q) (h : opW P (.app e sz bytes p q) σ K) (hs : Sim w0 U σ ι a w) (hn : Goes w0 U a o K next) : o.wp P a w next Q := by
  have r1 := compX_rep hx hs
  have r2 := compX_rep hy hs
  have ha : c.args = #[x, y] := by rw [← Array.toArray_toList (xs := c.args), hargs]
  have hty : c.argTypes = #[t, t] := by rw [← Array.toArray_toList (xs := c.argTypes), htys]
  have hrun : ∀ {v' : Value} {w' : World}, (Builtin.append_ #[t, t] o.type #[a.eval x, a.eval y]).run P w = .ok v' w' → (execOp a.eval o).run P w = .ok (.value v') w' := by
    intro v' w' hr
    simp [execOp, ho, resolve, hc, invoke, builtin, ha, hty, hr]
  unfold elemOf? zeroOf at *
  split at ht
  · rename_i e' hd
    cases hi : P.info? e' with
    | none => simp [hi] at ht
    | some inf =>
      simp [hi] at ht
      obtain ⟨rfl, hsz, hby⟩ := ht
      simp [hi] at hz
      simp only [opW, appW] at h
      obtain ⟨ys, hys, hok, h⟩ := h
      obtain ⟨ady, cy, ey, hcy, hmy⟩ := rows_len hs r2 hys
      generalize hvx : AX.ev σ.fr p = vx at *
      generalize hvy : AX.ev σ.fr q = vy at *
      have hB := hs.below.size
      -- a slice without room
      have fresh : ∀ {rows : List (List PC)} {ad : Option Addr} {xs : List Value}, a.eval x = .slice ad rows.length rows.length → xs.length = rows.length * sz → ((ad = none ∧ rows.length = 0 ∧ rows.length = 0) ∨ ∃ bd, ad = some bd ∧ ∀ (j : Nat) u, xs[j]? = some u → w.cell? (bd.add j) = some u) →
          RowsRep w (Free w0.heap.size U ι σ.mem) sz rows xs → ys ≠ [] → (rows.length + ys.length) * bytes ≤ 140737488355328 → rows.length + ys.length ≤ 140737488355328 → ((K (.c (.ref σ.nx)) { σ with mem := (σ.nx, .arr e' sz (rows ++ ys)) :: σ.mem, nx := σ.nx + 1 }) ∨ K (.c (.pure (.slice (rows ++ ys)))) σ) → o.wp P a w next Q := by
        intro rows ad xs ex hxl hb hrx hy0 hbytes hmax h
        obtain ⟨b, off, cc, news, en, hcn, hrn⟩ := rows_cells hs r2 hys hok h0 hy0
        have hml : 0 < ys.length := List.length_pos_iff.2 hy0
        have hlen : (rows ++ ys).length = rows.length + ys.length := List.length_append
        obtain ⟨cap, w', hr, hbel, how⟩ := run_append_full (P := P) (ty := o.type) (B := w0.heap.size) (c := rows.length) (c' := cc) hd hi hz hsz hby hzs hxl hb hrn.1 (fun j u hj => by rw [add_off]; exact hcn j u hj) (by omega) (Nat.le_refl _) (by omega) hbytes hB
        rw [← ex, ← en] at hr
        have hrep := (hrx.append hrn).mono (w' := w') (fun _ _ h => h) (fun b hb _ => hbel.block b hb)
        rcases h with h | h
        · obtain ⟨ι', h1, h2, h3, h4⟩ := hs.newBox (pv := .slice (some ⟨w.heap.size, 0, none⟩) (rows.length + ys.length) cap) (bx := .arr e' sz (rows ++ ys)) hbel (fun b hb => by simp [blockOf] at hb; omega) (fun ι' e1 e2 hfree => by
            refine ⟨xs ++ news, h0, ?_, by rw [hlen]; omega, (hrx.append hrn).mono hfree (fun b hb _ => hbel.block b hb)⟩
            rw [e2, hlen]
            exact how)
          refine wp_value (u := ι' σ.nx) (w' := w') (hrun ?_) (hn _ _ ι' _ _ h h1 (.c (.ref (Nat.lt_succ_self _) ⟨_, _, _, h2⟩)))
          rw [h2]
          exact hr
        · refine wp_value (w' := w') (hrun hr) (hn _ σ ι _ _ h (hs.grow hbel) (.c (.pure ?_)))
          exact own_pure how hlen.symm hrep (free_new hs) (by omega)
      -- a slice of the call's own
      rcases h with ⟨nm, rfl, hne, rows, hf, hbytes, hmax0, h⟩ | h
      · obtain ⟨cells, g0, g1, g2, g3⟩ := hs.box _ _ hf
        have eux : a.eval x = ι nm := repV_ref r1
        have hnm := hs.names _ _ hf
        by_cases hy0 : ys = []
        · subst hy0
          obtain ⟨n', c', ex, hnc⟩ : ∃ ad c', ι nm = .slice ad rows.length c' ∧ rows.length ≤ c' := by
            rcases g1.2 with ⟨e1, e2⟩ | ⟨g, cap, cur, e1, _, _, hnc, _⟩
            · exact ⟨none, 0, by rw [e1, e2], by omega⟩
            · exact ⟨_, cap, e1, hnc⟩
          obtain ⟨ι', h1, h2, h3⟩ := hs.replace (w' := w) (rows' := rows ++ []) (pv := ι nm) hf ⟨rfl, rfl, rfl, Nat.le_refl _, fun _ _ _ => rfl⟩ (fun b hb => .inl hb) ⟨_, _, _, ex⟩ g0 (by simpa using g1) (by simpa using g2) (by simpa using g3) hs.below
          refine wp_value (u := ι' σ.nx) (w' := w) (hrun ?_) (hn _ _ ι' _ _ h h3 (.c (.ref h2 ⟨_, _, _, h1.trans ex⟩)))
          rw [h1, eux, ex, ey]
          exact run_append_zero hd hi hnc
        · obtain ⟨b, off, cc, news, en, hcn, hrn⟩ := rows_cells hs r2 hys hok h0 hy0
          have hml : 0 < ys.length := List.length_pos_iff.2 hy0
          have hcn' : ∀ (j : Nat) u, news[j]? = some u → w.cell? ((⟨b, off, none⟩ : Addr).add j) = some u := fun j u hj => by rw [add_off]; exact hcn j u hj
          have hlen : (rows ++ ys).length = rows.length + ys.length := List.length_append
          have hmax : rows.length + ys.length ≤ 9223372036854775807 := by omega
          have grow : ∀ {base : Option Addr} {cx : Nat}, ι nm = .slice base rows.length cx → ((base = none ∧ rows.length = 0 ∧ cx = 0) ∨ ∃ bd, base = some bd ∧ ∀ (j : Nat) u, cells[j]? = some u → w.cell? (bd.add j) = some u) → rows.length ≤ cx → cx < rows.length + ys.length → o.wp P a w next Q := by
            intro base cx ex hb hle hlt
            obtain ⟨cap, w', hr, hbel, how⟩ := run_append_full (P := P) (ty := o.type) (B := w0.heap.size) (c' := cc) hd hi hz hsz hby hzs g1.1 hb hrn.1 hcn' hlt hle hmax hbytes hB
            obtain ⟨ι', h1, h2, h3⟩ := hs.replace (w' := w') (rows' := rows ++ ys) (pv := .slice (some ⟨w.heap.size, 0, none⟩) (rows.length + ys.length) cap) hf ⟨hbel.os, hbel.tape, hbel.output, hbel.size, fun k hk _ => hbel.block k hk⟩ (fun b hb => .inr (by simp [blockOf] at hb; omega)) ⟨_, _, _, rfl⟩ g0 (by rw [hlen]; exact how) (by rw [hlen]; exact hmax) (g3.append hrn) (hs.below.trans (hbel.mono hB))
            refine wp_value (u := ι' σ.nx) (w' := w') (hrun ?_) (hn _ _ ι' _ _ h h3 (.c (.ref h2 ⟨_, _, _, h1⟩)))
            rw [h1, eux, ex, en]
            exact hr
          rcases g1.2 with ⟨ex, e0⟩ | ⟨g, cap, cur, ex, hBg, hg, hnc, hcm, hcs, htake⟩
          · exact grow (base := none) (cx := 0) (by rw [ex, e0]) (.inl ⟨rfl, e0, rfl⟩) (by omega) (by omega)
          · by_cases hroom : rows.length + ys.length ≤ cap
            · have hfit : rows.length * inf.size + news.length ≤ cur.size := by
                rw [hrn.1, hsz, hcs, ← Nat.add_mul]; exact Nat.mul_le_mul_right _ hroom
              have hr := run_append_room (P := P) w t o.type e' inf hd hi g rows.length cap cur hg ⟨b, off, none⟩ ys.length cc news (by rw [hsz]; exact hrn.1) hcn' (hrn.ones h0) hroom hfit
              have how : (w.setRow g (cur.toList.take (rows.length * inf.size) ++ news ++ cur.toList.drop (rows.length * inf.size + news.length)).toArray).ownsRow w0.heap.size e' sz (.slice (some ⟨g, 0, none⟩) (rows.length + ys.length) cap) (rows.length + ys.length) (cells ++ news) := by
                have hl : (cells ++ news).length = (rows.length + ys.length) * sz := by rw [List.length_append, g1.1, hrn.1, Nat.add_mul]
                refine ⟨hl, .inr ⟨g, cap, _, rfl, hBg, setRow_heap _ _ _ _ _ _ hg, hroom, hcm, ?_, ?_⟩⟩
                · simp only [List.size_toArray, List.length_append, List.length_take, List.length_drop, Array.length_toList]
                  rw [← hcs]
                  omega
                · rw [List.toList_toArray, hsz, htake, ← hl]
                  exact List.take_left
              obtain ⟨ι', h1, h2, h3⟩ := hs.replace (w' := w.setRow g (cur.toList.take (rows.length * inf.size) ++ news ++ cur.toList.drop (rows.length * inf.size + news.length)).toArray) (rows' := rows ++ ys) (pv := .slice (some ⟨g, 0, none⟩) (rows.length + ys.length) cap) (cells := cells ++ news) hf
                ⟨rfl, rfl, rfl, by simp, fun k _ hk => setRow_other _ _ _ _ (fun e => hk (by rw [ex, e]; rfl))⟩ (fun b hb => .inl (by rw [ex]; exact hb)) ⟨_, _, _, rfl⟩ g0 (by rw [hlen]; exact how) (by rw [hlen]; exact hmax) (g3.append hrn) (hs.below.trans ⟨rfl, rfl, rfl, by simp, fun k hk => setRow_other _ _ _ _ (by omega)⟩)
              refine wp_value (u := ι' σ.nx) (hrun ?_) (hn _ _ ι' _ _ h h3 (.c (.ref h2 ⟨_, _, _, h1⟩)))
              rw [h1, eux, ex, en]
              exact hr
            · exact grow (base := some ⟨g, 0, none⟩) ex (.inr ⟨_, rfl, fun j u hj => World.ownsRow.cells g1 (by rw [ex]; rfl) j u hj⟩) hnc (by omega)
      · rcases h with ⟨rfl, h⟩ | ⟨rows, rfl, hok2, h⟩
        · have ex := repV_nils r1
          by_cases hy0 : ys = []
          · subst hy0
            have hr := run_append_zero (P := P) (w := w) (ty := o.type) (base := none) (n := 0) (c := 0) (ad := ady) (c' := cy) hd hi (Nat.le_refl _)
            rw [← ex] at hr
            have hr' := hr
            rw [show (Value.slice ady 0 cy) = a.eval y from ey.symm] at hr
            rcases h with ⟨_, _, h⟩ | ⟨_, _, h⟩
            · obtain ⟨ι', h1, h2, h3, h4⟩ := hs.newBox (w' := w) (pv := .slice none 0 0) (bx := .arr e' sz ([] ++ [])) (Below.refl _ _) (fun b hb => by simp [blockOf] at hb) (fun ι' e1 e2 hfree => ⟨[], h0, by rw [e2]; exact World.ownsRow_nil _ _ _ _, by simp, RowsRep.nil⟩)
              refine wp_value (u := ι' σ.nx) (w' := w) (hrun ?_) (hn _ _ ι' _ _ h h1 (.c (.ref (Nat.lt_succ_self _) ⟨_, _, _, h2⟩)))
              rw [h2, hr, ex]
            · refine wp_value (w' := w) (hrun hr) (hn _ σ ι _ _ h hs (.c (.pure ?_)))
              rw [ex]
              exact .nil
          · rcases h with ⟨g1, g2, h⟩ | ⟨g1, g2, h⟩
            · exact fresh (rows := []) (xs := []) ex (by simp) (.inl ⟨rfl, rfl, rfl⟩) .nil hy0 g1 g2 (.inl h)
            · exact fresh (rows := []) (xs := []) ex (by simp) (.inl ⟨rfl, rfl, rfl⟩) .nil hy0 g1 g2 (.inr h)
        · obtain ⟨adx, ex, hrx⟩ := repV_tsl r1
          rw [ex] at hrx
          by_cases hy0 : ys = []
          · subst hy0
            rcases h with ⟨h, _⟩ | ⟨_, _, h⟩
            · exact absurd rfl h
            · have hr := run_append_zero (P := P) (w := w) (ty := o.type) (base := adx) (n := rows.length) (c := rows.length) (ad := ady) (c' := cy) hd hi (Nat.le_refl _)
              rw [← ex, show (Value.slice ady 0 cy) = a.eval y from ey.symm] at hr
              refine wp_value (w' := w) (hrun hr) (hn _ σ ι _ _ h hs (.c (.pure ?_)))
              rw [ex, List.append_nil]
              exact hrx
          · have hb : ∃ xs : List Value, xs.length = rows.length * sz ∧ ((adx = none ∧ rows.length = 0 ∧ rows.length = 0) ∨ ∃ bd, adx = some bd ∧ ∀ (j : Nat) u, xs[j]? = some u → w.cell? (bd.add j) = some u) ∧ RowsRep w (Free w0.heap.size U ι σ.mem) sz rows xs := by
              by_cases hr0 : rows = []
              · subst hr0
                refine ⟨[], by simp, ?_, .nil⟩
                cases adx with
                | none => exact .inl ⟨rfl, rfl, rfl⟩
                | some bd => exact .inr ⟨bd, rfl, by simp⟩
              · obtain ⟨b, off, xs, rfl, _, hcx, hrr⟩ := pure_cells hrx hok2 h0 hr0
                exact ⟨xs, hrr.1, .inr ⟨_, rfl, fun j u hj => by rw [add_off]; exact hcx j u hj⟩, hrr⟩
            obtain ⟨xs, h1, h2, h3⟩ := hb
            rcases h with ⟨_, g1, g2, h⟩ | ⟨g1, g2, h⟩
            · exact fresh ex h1 h2 h3 hy0 g1 g2 (.inl h)
            · exact fresh ex h1 h2 h3 hy0 g1 g2 (.inr h)
  · cases ht
end
end Go.Abs
