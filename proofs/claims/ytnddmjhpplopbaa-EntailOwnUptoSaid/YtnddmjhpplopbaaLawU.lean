/- From a law's contract in the abstract machine to its row, where what the call reads is of bounded bulk. -/
import Derived.Test.YtnddmjhpplopbaaLaw
import Derived.JoinedCond
set_option linter.unusedVariables false
set_option linter.unusedSimpArgs false
namespace Go.Proofs.Ytnddmjhpplopbaa
open Go.ChangeShapes Go.WideShapes Go.ChangeAt Go.RowKit Go.Abs

/-! How many values pure cells hold. -/
mutual
def pBulk : PC → Nat
 | .val _ => 1
 | .slice rows => pBulkRs rows + 1
def pBulks : List PC → Nat
 | [] => 0
 | p :: r => pBulk p + pBulks r
def pBulkRs : List (List PC) → Nat
 | [] => 0
 | r :: t => pBulks r + pBulkRs t
end
theorem pBulks_append : ∀ {a b : List PC}, pBulks (a ++ b) = pBulks a + pBulks b
 | [], b => by simp [pBulks]
 | p :: a, b => by rw [List.cons_append, pBulks, pBulks, pBulks_append]; omega
theorem bulk_append {H : Type} : ∀ {l r : List (DataW H)}, Rows.uptoBulkAll (l ++ r) = Rows.uptoBulkAll l + Rows.uptoBulkAll r
 | [], r => by simp [Rows.uptoBulkAll]
 | x :: l, r => by simp only [List.cons_append, Rows.uptoBulkAll, bulk_append (l := l)]; omega

section
variable {H : Type} {enc : TypeId × Value → H} {P : Program} {W : World} {base : Nat} {sp : Nat → Bool} {held : Bool}
theorem fields_repU {f : TypeId → Option (List TS)} {n : Nat} {cs : List Value} (ih : ∀ t l cs x, f t = some l → DataW.trod enc P W base sp held n t cs = some x → ∃ ps, All2 (RepP W All) ps cs ∧ OkPs l ps ∧ pBulks ps ≤ Rows.uptoBulk x.1) :
  ∀ {fs : List Field} {k m : Nat} {l : List TS} {xs : List (DataW H × List MemPlace)}, shFs P f fs k m = some l → cs.length = m → xs.length = fs.length → (∀ (i : Nat) fd x, fs[i]? = some fd → xs[i]? = some x → DataW.trod enc P W base sp held n fd.type ((cs.drop fd.offset).take (P.cellsOf fd.type)) = some x) →
   ∃ ps, All2 (RepP W All) ps (cs.drop k) ∧ OkPs l ps ∧ pBulks ps ≤ Rows.uptoBulkAll (xs.map (·.1))
 |[], k, m, l, xs, h, hm, hl, _ => by
  unfold shFs at h
  split at h
  ·cases h
   refine ⟨[], ?_, ⟨rfl, fun i s p hs => by simp at hs⟩, by simp [pBulks]⟩
   rw [List.drop_eq_nil_of_le (by omega)]
   exact .nil
  ·cases h
 |fd :: fs, k, m, l, xs, h, hm, hl, hx => by
  obtain ⟨x, xs, rfl⟩ : ∃ x r, xs = x :: r := by
   cases xs with
   | nil => simp at hl
   | cons x r => exact ⟨x, r, rfl⟩
  unfold shFs at h
  split at h
  ·rename_i e
   split at h
   ·rename_i l1 h1
    split at h
    ·rename_i hc
     split at h
     ·rename_i l2 h2
      cases h
      have hx1 := hx 0 fd x rfl rfl
      obtain ⟨p1, g1, g2, g2b⟩ := ih _ _ _ _ h1 hx1
      obtain ⟨p2, g3, g4, g4b⟩ := fields_repU ih h2 hm (by simpa using hl) fun i fd x a b => hx (i + 1) fd x (by simpa using a) (by simpa using b)
      refine ⟨p1 ++ p2, ?_, g2.append g4, ?_⟩
      ·have : cs.drop k = (cs.drop k).take (P.cellsOf fd.type) ++ cs.drop (k + l1.length) := by
        rw [hc, ← List.drop_drop, List.take_append_drop]
       rw [this]
       subst e
       exact g1.append g3
      ·rw [pBulks_append, List.map_cons, Rows.uptoBulkAll]
       omega
     ·cases h
    ·cases h
   ·cases h
  ·cases h
theorem rows_bulk : ∀ {rows : List (List PC)} {ds : List (DataW H)}, rows.length = ds.length → (∀ (i : Nat) r d, rows[i]? = some r → ds[i]? = some d → pBulks r ≤ Rows.uptoBulk d) → pBulkRs rows ≤ Rows.uptoBulkAll ds
 | [], ds, _, _ => by simp [pBulkRs]
 | r :: rows, [], h, _ => by simp at h
 |r :: rows, d :: ds, h, hr => by
  have h1 := hr 0 r d rfl rfl
  have h2 := rows_bulk (rows := rows) (ds := ds) (by simpa using h) fun i r d a b => hr (i + 1) r d (by simpa using a) (by simpa using b)
  simp only [pBulkRs, Rows.uptoBulkAll]
  omega
/-- As read_rep; what is read is no less than what the cells hold. -/
theorem read_repU : ∀ {fuel sf : Nat} {t : TypeId} {l : List TS} {cs : List Value} {x : DataW H × List MemPlace}, shOf P sf t = some l → DataW.trod enc P W base sp held fuel t cs = some x → ∃ ps, All2 (RepP W All) ps cs ∧ OkPs l ps ∧ pBulks ps ≤ Rows.uptoBulk x.1
 | fuel, 0, t, l, cs, x, h, _ => by cases h
 |fuel, sf + 1, t, l, cs, x, h, hr => by
  unfold shOf at h
  split at h
  ·rename_i k ht
   cases h
   obtain ⟨n, rfl, rfl, hw⟩ := DataW.trod_int ht hr
   exact ⟨[.val (.int k n)], .cons (.val rfl) .nil, .one (.int hw), by simp [pBulks, pBulk, Rows.uptoBulk]⟩
  ·rename_i ht
   cases h
   obtain ⟨b, rfl, rfl⟩ := DataW.trod_bool ht hr
   exact ⟨[.val (.bool b)], .cons (.val rfl) .nil, .one .bool, by simp [pBulks, pBulk, Rows.uptoBulk]⟩
  ·rename_i ht
   cases h
   obtain ⟨s, rfl, rfl, hm⟩ := DataW.trod_string ht hr
   exact ⟨[.val (.string s)], .cons (.val rfl) .nil, .one (.str hm), by simp [pBulks, pBulk, Rows.uptoBulk]⟩
  ·rename_i e ht
   split at h
   ·rename_i l' hl'
    split at h
    ·rename_i hc
     cases h
     rcases DataW.trod_slice ht hr with ⟨rfl, rfl⟩ | ⟨a, len, cap, elems, rest, n, _, rfl, rfl, _, hle, hmx, hlen, hel, _, _⟩
     ·exact ⟨[.slice []], .cons (.slice (sz := 0) (fun _ _ => undef) rfl (Nat.le_refl _) (by simp) (fun i row h => by simp at h) (fun i row j p h => by simp at h) (fun i row j p h => by simp at h)) .nil, .one (.slice (by simp) (fun r h => by cases h) (fun r h => by cases h)), by simp [pBulks, pBulk, pBulkRs, Rows.uptoBulk]⟩
     ·have hall : ∀ i, i < len → ∃ x : List PC × List Value, W.cells? base (a.add (i * P.cellsOf e)) (P.cellsOf e) = some x.2 ∧ All2 (RepP W All) x.1 x.2 ∧ OkPs l' x.1 ∧ ∀ d, (elems.map (·.1))[i]? = some d → pBulks x.1 ≤ Rows.uptoBulk d := by
       intro i hi
       have h1 := hel i hi
       rw [List.getElem?_eq_getElem (by omega)] at h1
       obtain ⟨cs', h2, h3⟩ := Option.bind_eq_some_iff.1 h1
       obtain ⟨ps, h4, h5, h6⟩ := read_repU hl' h3
       refine ⟨(ps, cs'), h2, h4, h5, fun d hd => ?_⟩
       rw [List.getElem?_map, List.getElem?_eq_getElem (by omega)] at hd
       cases hd
       exact h6
      obtain ⟨L, hL, hQ⟩ := list_of hall
      have row : ∀ (i : Nat) r, (L.map Prod.fst)[i]? = some r → ∃ c, L[i]? = some (r, c) ∧ W.cells? base (a.add (i * P.cellsOf e)) (P.cellsOf e) = some c ∧ All2 (RepP W All) r c ∧ OkPs l' r ∧ ∀ d, (elems.map (·.1))[i]? = some d → pBulks r ≤ Rows.uptoBulk d := by
       intro i r hr
       rw [List.getElem?_map] at hr
       obtain ⟨y, hy, rfl⟩ := Option.map_eq_some_iff.1 hr
       exact ⟨y.2, hy, hQ i y hy⟩
      unfold maxLen at hmx
      refine ⟨[.slice (L.map Prod.fst)], .cons (.slice (sz := P.cellsOf e) (fun i j => (((L[i]?).map Prod.snd).getD []).getD j undef) (by simp [hL]) hle (by omega) ?_ ?_ ?_) .nil, .one (.slice (by unfold maxLen; simp [hL]; omega) ?_ ?_), ?_⟩
      ·intro i r hr
       obtain ⟨c, _, _, _, h5, _⟩ := row i r hr
       rw [h5.1, hc]
      ·intro i r j p hr hp
       obtain ⟨c, h1, h2, h3, h5, _⟩ := row i r hr
       obtain ⟨v, hv, _⟩ := h3.get hp
       obtain ⟨_, h6, h7⟩ := World.cells?_some h2
       have hj : j < P.cellsOf e := by
        have := (List.getElem?_eq_some_iff.1 hv).1
        omega
       have h8 := h7 j hj
       rw [hv] at h8
       obtain ⟨b, off, spot⟩ := a
       have hspot : spot = none := by
        have hi0 : 0 < L.length := by
         have := (List.getElem?_eq_some_iff.1 h1).1
         omega
        obtain ⟨g1, _, _⟩ := hQ 0 L[0] (List.getElem?_eq_getElem hi0)
        obtain ⟨_, g2, g3⟩ := World.cells?_some g1
        have g4 := g3 0 (by omega)
        rw [List.getElem?_eq_getElem (by omega)] at g4
        simpa [Addr.add] using World.cell?_spot g4
       subst hspot
       rw [add_plain, add_plain] at h8
       refine ⟨b, off, rfl, trivial, ?_⟩
       rw [← Nat.add_assoc, h8]
       simp [h1, hv]
      ·intro i r j p hr hp
       obtain ⟨c, h1, h2, h3, h5, _⟩ := row i r hr
       obtain ⟨v, hv, hrep⟩ := h3.get hp
       simpa [h1, hv] using hrep
      ·intro r hr
       obtain ⟨i, hi⟩ := List.mem_iff_getElem?.1 hr
       obtain ⟨c, _, _, _, h5, _⟩ := row i r hi
       exact h5.1
      ·intro r hr
       obtain ⟨i, hi⟩ := List.mem_iff_getElem?.1 hr
       obtain ⟨c, _, _, _, h5, _⟩ := row i r hi
       exact h5.2
      ·have := rows_bulk (rows := L.map Prod.fst) (ds := elems.map (·.1)) (by simp [hL, hlen]) fun i r d hr hd => by
        obtain ⟨c, _, _, _, _, h6⟩ := row i r hr
        exact h6 d hd
       simp only [pBulks, pBulk, Rows.uptoBulk]
       omega
    ·cases h
   ·cases h
  ·rename_i fs ht
   obtain ⟨xs, n, _, rfl, hl, hlen, hf⟩ := DataW.trod_struct ht hr
   have := fields_repU (n := n) (xs := xs) (fun t l cs x h hx => read_repU (sf := sf) h hx) h hl (by simpa using hlen) fun i fd x a b => by
    rw [hf i fd (by simpa using a), b]
   simp only [Rows.uptoBulk]
   obtain ⟨ps, k1, k2, k3⟩ := this
   exact ⟨ps, by simpa using k1, k2, by omega⟩
  ·cases h
/-- An argument, and how much it holds. -/
theorem arg_repU {r : Reach} {b0 : Nat} {t e : TypeId} {v : Value} {d : DataW H} {p : List MemPlace} {sf : Nat} {l : List TS} (ht : P.underlying t = some (.slice e)) (hs : shOf P sf t = some l) (hval : Value.okWide P W r b0 t v) (h : DataW.Trod enc P W base sp held t v d p) :
  ∃ ps, OkPs l ps ∧ RepV W All (fun _ => undef) 0 (argV false ps) v ∧ pBulks ps ≤ Rows.uptoBulk d := by
 obtain ⟨fuel, hf⟩ := h
 obtain ⟨ps, h1, h2, h3⟩ := read_repU hs hf
 refine ⟨ps, h2, ?_, h3⟩
 obtain ⟨a, n, c, rfl⟩ := okWide_slice ht hval
 have h1 : All2 (RepP W All) ps [.slice a n c] := h1
 cases h1 with
 | cons h t => exact .c (.pure h)
end
end Go.Proofs.Ytnddmjhpplopbaa
