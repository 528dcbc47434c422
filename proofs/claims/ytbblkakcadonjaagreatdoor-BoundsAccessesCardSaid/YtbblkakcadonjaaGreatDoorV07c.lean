/- Walks by the abstract machine: sums of forms. -/
import Derived.Test.YtbblkakcadonjaaGreatDoorV07b
set_option linter.unusedVariables false
set_option linter.unusedSimpArgs false
set_option maxRecDepth 20000
set_option maxHeartbeats 4000000
set_option maxRecDepth 1000000
namespace Go.Proofs.YtbblkakcadonjaaGreatDoor
open Go.Abs Go.RowKit

abbrev addM (nm : Nat) (f : Bool) (K : Int) (rows : List (List PC)) (B0 B1 B2 : Box) : List (Nat × Box) :=
 [(nm, .arr 83 2 rows), (4, .var [.pure (pB f)]), (3, .var [.pure (pI K), .ref nm]), (2, B2), (1, B1), (0, B0)]
abbrev wr (x : Int) : Int := IntKind.wrap .i64 x

theorem lin_Add_1_zero {x y : Int} (hx : in64 x) (hy : in64 y) (hz : wr (x + y) = 0) (n : ByteArray) (f : Bool) (K : Int) (rows : List (List PC)) (B0 B1 B2 : Box) :
  ICalls Tryz.prog n_lin_Add_1 [S n, I x, I y, .c (.ptr 4 0), .c (.ptr 3 0)] (addM 5 f K rows B0 B1 B2) 6 (.tup []) (addM 5 (f && decide (in64 (x + y))) K rows B0 B1 B2) 6 := by
 refine ICalls.of is_lin_Add_1 (by simp) fun _ => runW_sound ?_
 have p := lin_plus_abs hx hy
 change IntKind.wrap .i64 (x + y) = 0 at hz
 rw [hz] at p
 conv in c_lin_Add_1 => cbv
 generalize decide (in64 (x + y)) = g at *
 cases f
 ·repeat' first | simp (disch := omega) only [go_sem, *] | ((with_reducible refine condT ?_ ?_) <;> intro h <;> try omega) | (refine w_L p rfl rfl ?_)
  all_goals simp
 ·repeat' first | simp (disch := omega) only [go_sem, *] | ((with_reducible refine condT ?_ ?_) <;> intro h <;> try omega) | (refine w_L p rfl rfl ?_)
  all_goals simp
theorem lin_Add_1_some {x y : Int} (hx : in64 x) (hy : in64 y) (hz : wr (x + y) ≠ 0) (n : ByteArray) (f : Bool) (K : Int) (rows : List (List PC)) (hr : rows.length ≤ 4000000000) (B0 B1 B2 : Box) :
  ICalls Tryz.prog n_lin_Add_1 [S n, I x, I y, .c (.ptr 4 0), .c (.ptr 3 0)] (addM 5 f K rows B0 B1 B2) 6 (.tup []) (addM 6 (f && decide (in64 (x + y))) K (rows ++ [[pS n, pI (wr (x + y))]]) B0 B1 B2) 7 := by
 refine ICalls.of is_lin_Add_1 (by simp) fun _ => runW_sound ?_
 have p := lin_plus_abs hx hy
 change IntKind.wrap .i64 (x + y) ≠ 0 at hz
 conv in c_lin_Add_1 => cbv
 generalize decide (in64 (x + y)) = g at *
 simp only [wr]
 generalize IntKind.wrap .i64 (x + y) = z at *
 have hz' : ¬ z = 0 := hz
 cases f
 ·repeat' first | simp (disch := omega) only [go_sem, *, hz'] | ((with_reducible refine condT ?_ ?_) <;> intro h <;> try omega) | (refine w_L p rfl rfl ?_) | (refine app_own rfl (by intro h; cases h) (rowsOk_one rfl) (by simp; omega) (by simp; omega) ?_)
  all_goals simp
 ·repeat' first | simp (disch := omega) only [go_sem, *, hz'] | ((with_reducible refine condT ?_ ?_) <;> intro h <;> try omega) | (refine w_L p rfl rfl ?_) | (refine app_own rfl (by intro h; cases h) (rowsOk_one rfl) (by simp; omega) (by simp; omega) ?_)
  all_goals simp

def rowsT (T : List Tri) : List (List PC) := T.filterMap fun t => if wr (t.2.1 + t.2.2) = 0 then none else some [pS t.1, pI (wr (t.2.1 + t.2.2))]
def allT (T : List Tri) : Bool := T.all fun t => decide (in64 (t.2.1 + t.2.2))
abbrev bxL (k : Int) (l : List Mono) : Box := .var [.pure (pI k), .pure (pMonos l)]
abbrev bxZ : Box := .var [.pure (pI 0), .nils]
abbrev addM0 (f : Bool) (K : Int) (B0 B1 B2 : Box) : List (Nat × Box) := [(4, .var [.pure (pB f)]), (3, .var [.pure (pI K), .nils]), (2, B2), (1, B1), (0, B0)]
theorem tail_take (x : Mono) (a : List Mono) : List.take a.length (List.map mP a) = List.map mP a := List.take_of_length_le (by simp)
set_option maxHeartbeats 2000000 in
theorem lin_merge_abs {a b : List Mono} (ha : ∀ m ∈ a, in64 m.2) (hb : ∀ m ∈ b, in64 m.2) (hs : a.length + b.length ≤ 2000000000) (f : Bool) (K k1 k2 : Int) (l1 l2 : List Mono) :
  ICalls Tryz.prog n_lin_merge [.c (.pure (pMonos a)), .c (.pure (pMonos b)), .c (.clo n_lin_Add_1 [.ptr 4 0, .ptr 3 0])] (addM0 f K (bxL k1 l1) (bxL k2 l2) bxZ) 5 (.tup []) (addM 5 (f && allT (mergeX a b)) K (rowsT (mergeX a b)) (bxL k1 l1) (bxL k2 l2) bxZ) 6 := by
 refine ICalls.of is_lin_merge (by simp) fun _ => runW_sound ?_
 obtain ⟨F, hF⟩ : ∃ F, F = (f && allT (mergeX a b)) := ⟨_, rfl⟩
 obtain ⟨R, hR⟩ : ∃ R, R = rowsT (mergeX a b) := ⟨_, rfl⟩
 rw [← hF, ← hR]
 have HF := Lib.hid hF
 have HR : Hid (R = [] ++ rowsT (mergeX a b)) := Lib.hid (by rw [hR]; rfl)
 clear hF hR
 simp only [c_lin_merge]
 repeat' first | simp (disch := omega) only [go_sem, *] | ((with_reducible refine condT ?_ ?_) <;> intro h <;> try omega)
 refine AW_adoptM 3 1 83 2 _ rfl rfl (by decide) ?_
 refine AW_loop (fun s : List Mono × List Mono × Bool × List (List PC) => ⟨[(0, .c (.pure (pMonos s.1))), (1, .c (.pure (pMonos s.2.1))), (2, .c (.clo n_lin_Add_1 [.ptr 4 0, .ptr 3 0]))], addM 5 s.2.2.1 K s.2.2.2 (bxL k1 l1) (bxL k2 l2) bxZ, 6, 5⟩)
  (fun s => (∀ m ∈ s.1, in64 m.2) ∧ (∀ m ∈ s.2.1, in64 m.2) ∧ s.2.2.2.length + s.1.length + s.2.1.length ≤ 2000000000 ∧ Hid (F = (s.2.2.1 && allT (mergeX s.1 s.2.1))) ∧ Hid (R = s.2.2.2 ++ rowsT (mergeX s.1 s.2.1))) (fun s => s.1.length + s.2.1.length) ⟨(a, b, f, []), [], ⟨ha, hb, by simpa using hs, HF, HR⟩, by simp⟩ ?_
 clear ha hb hs HF HR
 rintro ⟨a, b, f, rows⟩ ⟨ha, hb, hs, HF, HR⟩
 refine runW_sound ?_
 simp only at ha hb hs HF HR
 have one : ∀ {t : Tri} {T : List Tri} {f : Bool} {rows : List (List PC)}, Hid (F = (f && allT (t :: T))) → Hid (R = rows ++ rowsT (t :: T)) →
   Hid (F = ((f && decide (in64 (t.2.1 + t.2.2))) && allT T)) ∧ (wr (t.2.1 + t.2.2) = 0 → Hid (R = rows ++ rowsT T)) ∧ (wr (t.2.1 + t.2.2) ≠ 0 → Hid (R = (rows ++ [[pS t.1, pI (wr (t.2.1 + t.2.2))]]) ++ rowsT T)) := by
  intro t T f rows h1 h2
  have g1 := h1.out
  have g2 := h2.out
  refine ⟨Lib.hid ?_, fun h => Lib.hid ?_, fun h => Lib.hid ?_⟩
  ·rw [g1, allT, List.all_cons, Bool.and_assoc]; rfl
  ·rw [g2, rowsT, List.filterMap_cons, if_pos h]; rfl
  ·rw [g2, rowsT, List.filterMap_cons, if_neg h, List.append_assoc]; rfl
 cases a with
 | nil =>
  cases b with
  | nil =>
   have hF := HF.out
   have hR := HR.out
   rw [mergeX_nil] at hF hR
   simp only [List.map_nil, allT, List.all_nil, Bool.and_true, rowsT, List.filterMap_nil, List.append_nil] at hF hR
   subst hF
   subst hR
   repeat' first | simp (disch := omega) only [go_sem, *] | ((with_reducible refine condT ?_ ?_) <;> intro h <;> try omega)
  | cons y b =>
   have hy := hb y List.mem_cons_self
   have hb' : ∀ m ∈ b, in64 m.2 := fun m hm => hb m (List.mem_cons_of_mem _ hm)
   have em : mergeX [] (y :: b) = (y.1, 0, y.2) :: mergeX [] b := by rw [mergeX_nil, mergeX_nil]; rfl
   rw [em] at HF HR
   obtain ⟨o1, o2, o3⟩ := one HF HR
   have rk : rowsOk 2 ([pS y.1, pI y.2] :: List.map mP b) := rowsOk_map (f := mP) (l := y :: b) fun _ => rfl
   have tk := tail_take y b
   simp only [List.length_cons, List.length_nil] at hs
   clear HF HR one hb
   by_cases hz : wr (0 + y.2) = 0
   ·have HR2 := o2 hz
    have q := lin_Add_1_zero in64_zero hy hz y.1 f K rows (bxL k1 l1) (bxL k2 l2) bxZ
    clear o2 o3
    repeat' first | simp (disch := omega) only [go_sem, *, mP, Int.natCast_zero, Int.toNat_zero, Int.toNat_one, Option.getD_some, Option.getD_none, rk, tk] | ((with_reducible refine condT ?_ ?_) <;> intro h <;> try omega) | (refine callW_i q ?_)
    refine ⟨([], b, _, rows), [], ⟨ha, hb', by simp; omega, o1, HR2⟩, by simp only [List.length_cons, List.length_nil]; omega, ?_⟩
    simp [tk]
    cases f <;> rfl
   ·have HR2 := o3 hz
    have q := lin_Add_1_some in64_zero hy hz y.1 f K rows (by omega) (bxL k1 l1) (bxL k2 l2) bxZ
    clear o2 o3
    repeat' first | simp (disch := omega) only [go_sem, *, mP, Int.natCast_zero, Int.toNat_zero, Int.toNat_one, Option.getD_some, Option.getD_none, rk, tk] | ((with_reducible refine condT ?_ ?_) <;> intro h <;> try omega) | (refine callW_i q ?_)
    refine ⟨([], b, _, _), [(5, 6)], ⟨ha, hb', by simp; omega, o1, HR2⟩, by simp only [List.length_cons, List.length_nil]; omega, ?_⟩
    simp [tk]
    cases f <;> rfl
 | cons x a =>
  have hx := ha x List.mem_cons_self
  have ha' : ∀ m ∈ a, in64 m.2 := fun m hm => ha m (List.mem_cons_of_mem _ hm)
  have rka : rowsOk 2 ([pS x.1, pI x.2] :: List.map mP a) := rowsOk_map (f := mP) (l := x :: a) fun _ => rfl
  have tka := tail_take x a
  cases b with
  | nil =>
   have em : mergeX (x :: a) [] = (x.1, x.2, 0) :: mergeX a [] := by rw [mergeX_left, mergeX_left]; rfl
   rw [em] at HF HR
   obtain ⟨o1, o2, o3⟩ := one HF HR
   simp only [List.length_cons, List.length_nil] at hs
   clear HF HR one ha
   by_cases hz : wr (x.2 + 0) = 0
   ·have HR2 := o2 hz
    have q := lin_Add_1_zero hx in64_zero hz x.1 f K rows (bxL k1 l1) (bxL k2 l2) bxZ
    clear o2 o3
    repeat' first | simp (disch := omega) only [go_sem, *, mP, Int.natCast_zero, Int.toNat_zero, Int.toNat_one, Option.getD_some, Option.getD_none, rka, tka] | ((with_reducible refine condT ?_ ?_) <;> intro h <;> try omega) | (refine callW_i q ?_)
    refine ⟨(a, [], _, rows), [], ⟨ha', hb, by simp; omega, o1, HR2⟩, by simp only [List.length_cons, List.length_nil]; omega, ?_⟩
    simp [tka]
    cases f <;> rfl
   ·have HR2 := o3 hz
    have q := lin_Add_1_some hx in64_zero hz x.1 f K rows (by omega) (bxL k1 l1) (bxL k2 l2) bxZ
    clear o2 o3
    repeat' first | simp (disch := omega) only [go_sem, *, mP, Int.natCast_zero, Int.toNat_zero, Int.toNat_one, Option.getD_some, Option.getD_none, rka, tka] | ((with_reducible refine condT ?_ ?_) <;> intro h <;> try omega) | (refine callW_i q ?_)
    refine ⟨(a, [], _, _), [(5, 6)], ⟨ha', hb, by simp; omega, o1, HR2⟩, by simp only [List.length_cons, List.length_nil]; omega, ?_⟩
    simp [tka]
    cases f <;> rfl
  | cons y b =>
   have hy := hb y List.mem_cons_self
   have hb' : ∀ m ∈ b, in64 m.2 := fun m hm => hb m (List.mem_cons_of_mem _ hm)
   have rkb : rowsOk 2 ([pS y.1, pI y.2] :: List.map mP b) := rowsOk_map (f := mP) (l := y :: b) fun _ => rfl
   have tkb := tail_take y b
   rw [mergeX_cons] at HF HR
   simp only [List.length_cons] at hs
   by_cases hl : sless x.1 y.1 = true
   ·rw [if_pos hl] at HF HR
    obtain ⟨o1, o2, o3⟩ := one HF HR
    have hl' : Op.bytesLess x.1.toList y.1.toList = true := hl
    clear HF HR one ha
    by_cases hz : wr (x.2 + 0) = 0
    ·have HR2 := o2 hz
     have q := lin_Add_1_zero hx in64_zero hz x.1 f K rows (bxL k1 l1) (bxL k2 l2) bxZ
     clear o2 o3
     repeat' first | simp (disch := omega) only [go_sem, *, mP, Int.natCast_zero, Int.toNat_zero, Int.toNat_one, Option.getD_some, Option.getD_none, rka, tka, hl'] | ((with_reducible refine condT ?_ ?_) <;> intro h <;> try omega) | (refine callW_i q ?_)
     refine ⟨(a, y :: b, _, rows), [], ⟨ha', hb, by simp; omega, o1, HR2⟩, by simp only [List.length_cons, List.length_nil]; omega, ?_⟩
     simp [tka]
     cases f <;> rfl
    ·have HR2 := o3 hz
     have q := lin_Add_1_some hx in64_zero hz x.1 f K rows (by omega) (bxL k1 l1) (bxL k2 l2) bxZ
     clear o2 o3
     repeat' first | simp (disch := omega) only [go_sem, *, mP, Int.natCast_zero, Int.toNat_zero, Int.toNat_one, Option.getD_some, Option.getD_none, rka, tka, hl'] | ((with_reducible refine condT ?_ ?_) <;> intro h <;> try omega) | (refine callW_i q ?_)
     refine ⟨(a, y :: b, _, _), [(5, 6)], ⟨ha', hb, by simp; omega, o1, HR2⟩, by simp only [List.length_cons, List.length_nil]; omega, ?_⟩
     simp [tka]
     cases f <;> rfl
   ·rw [if_neg hl] at HF HR
    have hl' : Op.bytesLess x.1.toList y.1.toList = false := by
     cases h : Op.bytesLess x.1.toList y.1.toList with
     | false => rfl
     | true => exact absurd h hl
    by_cases hr : sless y.1 x.1 = true
    ·rw [if_pos hr] at HF HR
     obtain ⟨o1, o2, o3⟩ := one HF HR
     have hr' : Op.bytesLess y.1.toList x.1.toList = true := hr
     clear HF HR one hb
     by_cases hz : wr (0 + y.2) = 0
     ·have HR2 := o2 hz
      have q := lin_Add_1_zero in64_zero hy hz y.1 f K rows (bxL k1 l1) (bxL k2 l2) bxZ
      clear o2 o3
      repeat' first | simp (disch := omega) only [go_sem, *, mP, Int.natCast_zero, Int.toNat_zero, Int.toNat_one, Option.getD_some, Option.getD_none, rkb, tkb, hl', hr'] | ((with_reducible refine condT ?_ ?_) <;> intro h <;> try omega) | (refine callW_i q ?_)
      refine ⟨(x :: a, b, _, rows), [], ⟨ha, hb', by simp; omega, o1, HR2⟩, by simp only [List.length_cons, List.length_nil]; omega, ?_⟩
      simp [tkb]
      cases f <;> rfl
     ·have HR2 := o3 hz
      have q := lin_Add_1_some in64_zero hy hz y.1 f K rows (by omega) (bxL k1 l1) (bxL k2 l2) bxZ
      clear o2 o3
      repeat' first | simp (disch := omega) only [go_sem, *, mP, Int.natCast_zero, Int.toNat_zero, Int.toNat_one, Option.getD_some, Option.getD_none, rkb, tkb, hl', hr'] | ((with_reducible refine condT ?_ ?_) <;> intro h <;> try omega) | (refine callW_i q ?_)
      refine ⟨(x :: a, b, _, _), [(5, 6)], ⟨ha, hb', by simp; omega, o1, HR2⟩, by simp only [List.length_cons, List.length_nil]; omega, ?_⟩
      simp [tkb]
      cases f <;> rfl
    ·rw [if_neg hr] at HF HR
     obtain ⟨o1, o2, o3⟩ := one HF HR
     have hr' : Op.bytesLess y.1.toList x.1.toList = false := by
      cases h : Op.bytesLess y.1.toList x.1.toList with
      | false => rfl
      | true => exact absurd h hr
     clear HF HR one hb ha
     by_cases hz : wr (x.2 + y.2) = 0
     ·have HR2 := o2 hz
      have q := lin_Add_1_zero hx hy hz x.1 f K rows (bxL k1 l1) (bxL k2 l2) bxZ
      clear o2 o3
      repeat' first | simp (disch := omega) only [go_sem, *, mP, Int.natCast_zero, Int.toNat_zero, Int.toNat_one, Option.getD_some, Option.getD_none, rka, rkb, tka, tkb, hl', hr'] | ((with_reducible refine condT ?_ ?_) <;> intro h <;> try omega) | (refine callW_i q ?_)
      refine ⟨(a, b, _, rows), [], ⟨ha', hb', by simp; omega, o1, HR2⟩, by simp only [List.length_cons, List.length_nil]; omega, ?_⟩
      simp [tka, tkb]
      cases f <;> rfl
     ·have HR2 := o3 hz
      have q := lin_Add_1_some hx hy hz x.1 f K rows (by omega) (bxL k1 l1) (bxL k2 l2) bxZ
      clear o2 o3
      repeat' first | simp (disch := omega) only [go_sem, *, mP, Int.natCast_zero, Int.toNat_zero, Int.toNat_one, Option.getD_some, Option.getD_none, rka, rkb, tka, tkb, hl', hr'] | ((with_reducible refine condT ?_ ?_) <;> intro h <;> try omega) | (refine callW_i q ?_)
      refine ⟨(a, b, _, _), [(5, 6)], ⟨ha', hb', by simp; omega, o1, HR2⟩, by simp only [List.length_cons, List.length_nil]; omega, ?_⟩
      simp [tka, tkb]
      cases f <;> rfl

noncomputable def addE (a b : Lin) : Lin × Int := if ¬ linOk a.2 ∨ ¬ linOk b.2 then ((0, []), 1) else addS a b
theorem allT_iff {T : List Tri} : allT T = true ↔ ∀ t ∈ T, in64 (t.2.1 + t.2.2) := by simp [allT]
theorem rowsT_eq {T : List Tri} (h : allT T = true) : rowsT T = (addT T).map mP := by
 rw [allT_iff] at h
 rw [rowsT, addT, List.map_filterMap]
 induction T with
 | nil => rfl
 | cons t r ih =>
  have h1 := h t List.mem_cons_self
  have e : wr (t.2.1 + t.2.2) = t.2.1 + t.2.2 := wrap_i64 h1
  rw [List.filterMap_cons, List.filterMap_cons, e, ih fun t ht => h t (List.mem_cons_of_mem _ ht)]
  by_cases h0 : t.2.1 + t.2.2 = 0
  ·rw [if_pos h0, if_pos h0]; rfl
  ·rw [if_neg h0, if_neg h0]; rfl
theorem lin_Add_abs {a b : Lin} (ha : lin64 a) (hb : lin64 b) (hsa : short a.2) (hsb : short b.2) : PCalls Tryz.prog n_lin_Add [aLin a.1 a.2, aLin b.1 b.2] (aLinE (addE a b)) := by
 refine PCalls.of is_lin_Add (by simp) fun _ => runW_sound ?_
 obtain ⟨k1, l1⟩ := a
 obtain ⟨k2, l2⟩ := b
 obtain ⟨hk1, hl1⟩ := ha
 obtain ⟨hk2, hl2⟩ := hb
 simp only at hk1 hl1 hk2 hl2 hsa hsb
 have pv1 := lin_Validate_abs k1 l1
 have pv2 := lin_Validate_abs k2 l2
 have pp := lin_plus_abs hk1 hk2
 conv in c_lin_Add => cbv
 by_cases o1 : linOk l1
 ·by_cases o2 : linOk l2
  ·rw [addE, if_neg (by simp [o1, o2]), addS]
   rw [if_pos o1] at pv1
   rw [if_pos o2] at pv2
   have q := lin_merge_abs hl1 hl2 (by unfold short at hsa hsb; omega) (decide (in64 (k1 + k2))) (wr (k1 + k2)) k1 k2 l1 l2
   have hend : (if addOk (k1, l1) (k2, l2) then (addV (k1, l1) (k2, l2), 0) else ((0, []), 3) : Lin × Int) = if (decide (in64 (k1 + k2)) && allT (mergeX l1 l2)) = true then ((k1 + k2, addT (mergeX l1 l2)), 0) else ((0, []), 3) := by
    by_cases h : addOk (k1, l1) (k2, l2)
    ·rw [if_pos h, if_pos (by rw [Bool.and_eq_true, decide_eq_true_iff, allT_iff]; exact h)]; rfl
    ·rw [if_neg h, if_neg (by rw [Bool.and_eq_true, decide_eq_true_iff, allT_iff]; exact h)]
   rw [hend]
   have hK : in64 (k1 + k2) → wr (k1 + k2) = k1 + k2 := fun h => wrap_i64 h
   have hrows := @rowsT_eq (mergeX l1 l2)
   generalize mergeX l1 l2 = T at *
   clear hend
   by_cases hfin : (decide (in64 (k1 + k2)) && allT T) = true
   ·rw [if_pos hfin]
    have h1 := hfin
    rw [Bool.and_eq_true, decide_eq_true_iff] at h1
    rw [hfin, hrows h1.2] at q
    have e := hK h1.1
    rw [e] at q
    have e' : IntKind.wrap .i64 (k1 + k2) = k1 + k2 := e
    rw [decide_eq_true h1.1] at q
    rw [e', decide_eq_true h1.1] at pp
    clear hfin h1 e e' hK hrows hl1 hl2
    repeat' first | simp (disch := omega) only [go_sem, *] | ((with_reducible refine condT ?_ ?_) <;> intro h <;> try omega) | (refine w_L pv1 rfl rfl ?_) | (refine w_L pv2 rfl rfl ?_) | (refine w_L pp rfl rfl ?_) | (refine callW_i q ?_)
   ·rw [if_neg hfin]
    have h1 : (decide (in64 (k1 + k2)) && allT T) = false := by simpa using hfin
    rw [h1] at q
    generalize rowsT T = rr at *
    simp only [wr] at q
    generalize IntKind.wrap .i64 (k1 + k2) = W at *
    generalize decide (in64 (k1 + k2)) = D at *
    clear h1 hfin hK hrows hl1 hl2
    repeat' first | simp (disch := omega) only [go_sem, *] | ((with_reducible refine condT ?_ ?_) <;> intro h <;> try omega) | (refine w_L pv1 rfl rfl ?_) | (refine w_L pv2 rfl rfl ?_) | (refine w_L pp rfl rfl ?_) | (refine callW_i q ?_)
    rfl
  ·rw [addE, if_pos (.inr o2)]
   rw [if_pos o1] at pv1
   rw [if_neg o2] at pv2
   repeat' first | simp (disch := omega) only [go_sem, *] | ((with_reducible refine condT ?_ ?_) <;> intro h <;> try omega) | (refine w_L pv1 rfl rfl ?_) | (refine w_L pv2 rfl rfl ?_)
   rfl
 ·rw [addE, if_pos (.inl o1)]
  rw [if_neg o1] at pv1
  repeat' first | simp (disch := omega) only [go_sem, *] | ((with_reducible refine condT ?_ ?_) <;> intro h <;> try omega) | (refine w_L pv1 rfl rfl ?_) | (refine w_L pv2 rfl rfl ?_)
  rfl
end Go.Proofs.YtbblkakcadonjaaGreatDoor
