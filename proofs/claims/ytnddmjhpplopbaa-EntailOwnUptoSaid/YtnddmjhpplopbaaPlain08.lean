/- Plain laws: the negation of a constraint, what implies means, its certificates. -/
import Derived.Test.YtnddmjhpplopbaaPlain07h
set_option linter.unusedVariables false
set_option linter.unusedSimpArgs false
namespace Go.Proofs.Ytnddmjhpplopbaa
open Go.Abs Go.RowKit

/-- The two alternatives of a negation. -/
def lessV (f : Lin) : Con := ((-1 - f.1, f.2.map fun m => (m.1, -m.2)), false)
def moreV (f : Lin) : Con := ((f.1 - 1, f.2), false)
def minAt (l : List Mono) : Prop := ∃ m ∈ l, m.2 = -9223372036854775808
noncomputable instance (l : List Mono) : Decidable (minAt l) := Classical.propDecidable _
noncomputable def negS (c : Con) : List Con × Int :=
 if ¬ linOk c.1.2 then ([], 1) else if minAt c.1.2 then ([], 3) else if c.2 = false then ([lessV c.1], 0)
 else if c.1.1 = -9223372036854775808 then ([], 3) else ([moreV c.1, lessV c.1], 0)
def okL (l : List Con) : Prop := ∀ c ∈ l, linOk c.1.2
noncomputable instance (l : List Con) : Decidable (okL l) := Classical.propDecidable _
noncomputable def negaS (l : List Con) (c : Con) : List Con × Int := if ¬ okL l ∨ ¬ linOk c.1.2 then ([], 1) else negS c
/-- Each alternative is refuted. -/
noncomputable def implG (l : List Con) (fuel : Int) : List Con → List Int → List Int × Bool × Int
 | [], acc => (acc, true, 0)
 | p :: r, acc => if (infS (l ++ [p]) fuel).2.2 ≠ 0 then ([], false, (infS (l ++ [p]) fuel).2.2) else if (infS (l ++ [p]) fuel).2.1 = false then ([], false, 0) else implG l fuel r (acc ++ (infS (l ++ [p]) fuel).1)
noncomputable def implS (l : List Con) (c : Con) (fuel : Int) : List Int × Bool × Int := if (negaS l c).2 ≠ 0 then ([], false, (negaS l c).2) else implG l fuel (negaS l c).1 []
noncomputable def chkG (l : List Con) (b : List Int) : Nat → List Con → Int
 | _, [] => 0
 | i, p :: r => if checkS (l ++ [p]) ((b.take ((i + 1) * (l.length + 1))).drop (i * (l.length + 1))) ≠ 0 then checkS (l ++ [p]) ((b.take ((i + 1) * (l.length + 1))).drop (i * (l.length + 1))) else chkG l b (i + 1) r
noncomputable def chkS (l : List Con) (c : Con) (b : List Int) : Int := if (negaS l c).2 ≠ 0 then (negaS l c).2 else if b.length ≠ (negaS l c).1.length * (l.length + 1) then 17 else chkG l b 0 (negaS l c).1

theorem lessV_64 {f : Lin} (h : lin64 f) (hm : ¬ minAt f.2) : con64 (lessV f) := by
 refine ⟨?_, fun m hm' => ?_⟩
 ·have := h.1
  show in64 (-1 - f.1)
  unfold in64 at *
  omega
 ·obtain ⟨z, hz, rfl⟩ := List.mem_map.1 hm'
  have h1 := h.2 z hz
  have h2 : z.2 ≠ -9223372036854775808 := fun e => hm ⟨z, hz, e⟩
  show in64 (-z.2)
  unfold in64 at *
  omega
theorem moreV_64 {f : Lin} (h : lin64 f) (hm : f.1 ≠ -9223372036854775808) : con64 (moreV f) := by
 refine ⟨?_, h.2⟩
 have := h.1
 show in64 (f.1 - 1)
 unfold in64 at *
 omega
theorem negS_64 {c : Con} (h : con64 c) : ∀ d ∈ (negS c).1, con64 d := by
 unfold negS
 (repeat' split) <;> intro d hd
 ·cases hd
 ·cases hd
 ·rename_i h1 h2
  rw [List.mem_singleton.1 hd]
  exact lessV_64 h h1
 ·cases hd
 ·rename_i h1 h2 h3
  rcases List.mem_cons.1 hd with rfl | hd
  ·exact moreV_64 h h3
  ·rw [List.mem_singleton.1 hd]
   exact lessV_64 h h1
theorem negaS_64 {l : List Con} {c : Con} (h : con64 c) : ∀ d ∈ (negaS l c).1, con64 d := by
 unfold negaS
 split
 ·intro d hd; cases hd
 ·exact negS_64 h
theorem negS_tot {c d : Con} (h : d ∈ (negS c).1) : d.1.2.length = c.1.2.length := by
 unfold negS at h
 (repeat' split at h)
 ·cases h
 ·cases h
 ·rw [List.mem_singleton.1 h]
  simp [lessV]
 ·cases h
 ·rcases List.mem_cons.1 h with rfl | h
  ·rfl
  ·rw [List.mem_singleton.1 h]
   simp [lessV]
theorem negaS_tot {l : List Con} {c d : Con} (h : d ∈ (negaS l c).1) : d.1.2.length = c.1.2.length := by
 unfold negaS at h
 split at h
 ·cases h
 ·exact negS_tot h
theorem negS_two (c : Con) : (negS c).1.length ≤ 2 := by
 unfold negS
 (repeat' split) <;> simp
theorem negaS_two (l : List Con) (c : Con) : (negaS l c).1.length ≤ 2 := by
 unfold negaS
 split
 ·simp
 ·exact negS_two c
theorem negaS_err (l : List Con) (c : Con) : (negaS l c).2 = 0 ∨ (negaS l c).1 = [] := by
 unfold negaS negS
 (repeat' split) <;> simp
/-- A certificate has one multiplier for each constraint. -/
theorem checkS_len {l : List Con} {b : List Int} (h : checkS l b = 0) : b.length = l.length := by
 unfold checkS at h
 split at h
 ·exact absurd h ‹_›
 ·rename_i h0
  split at h
  ·exact absurd h ‹_›
  ·rename_i h1
   have ht : tightL l = ((tightL l).1, 0) := Prod.ext rfl (Classical.not_not.1 h0)
   have hc : conCombine (tightL l).1 b = ((conCombine (tightL l).1 b).1, 0) := Prod.ext rfl (Classical.not_not.1 h1)
   rw [← (conCombine_spec hc).1, (tightL_spec ht).1]
theorem infS_cert {l : List Con} {fuel : Int} (h64 : ∀ c ∈ l, con64 c) (h : (infS l fuel).2.1 = true) : checkS l (infS l fuel).1 = 0 := by
 obtain ⟨h1, h2⟩ := infS_law (fuel := fuel) h64
 by_cases h0 : askedS l fuel = 0
 ·exact (h2 h0).2.1 h
 ·rw [h1 h0] at h
  cases h
theorem infS_no {l : List Con} {fuel : Int} (h64 : ∀ c ∈ l, con64 c) (h : (infS l fuel).2.1 = false) : (infS l fuel).1 = [] := by
 obtain ⟨h1, h2⟩ := infS_law (fuel := fuel) h64
 by_cases h0 : askedS l fuel = 0
 ·exact (h2 h0).2.2 h
 ·rw [h1 h0]
theorem infS_bad {l : List Con} {fuel : Int} (h64 : ∀ c ∈ l, con64 c) (h : (infS l fuel).2.2 ≠ 0) : (infS l fuel).2.1 = false := by
 obtain ⟨h1, h2⟩ := infS_law (fuel := fuel) h64
 by_cases h0 : askedS l fuel = 0
 ·exact ((h2 h0).1 h).2.2
 ·rw [h1 h0]
theorem infS_len {l : List Con} {fuel : Int} (h64 : ∀ c ∈ l, con64 c) : (infS l fuel).1.length ≤ l.length := by
 cases h : (infS l fuel).2.1 with
 | false => rw [infS_no h64 h]; simp
 | true => exact Nat.le_of_eq (checkS_len (infS_cert h64 h))
theorem app_64 {l : List Con} {p : Con} (h : ∀ c ∈ l, con64 c) (hp : con64 p) : ∀ c ∈ l ++ [p], con64 c := fun c hc => by
 rcases List.mem_append.1 hc with hc | hc
 ·exact h c hc
 ·rw [List.mem_singleton.1 hc]; exact hp
theorem implG_spec {l : List Con} {fuel : Int} (h64 : ∀ c ∈ l, con64 c) : ∀ {P : List Con} {acc b : List Int} {i : Nat}, (∀ p ∈ P, con64 p) → acc.length = i * (l.length + 1) → implG l fuel P acc = (b, true, 0) →
  (∃ r, b = acc ++ r) ∧ b.length = (i + P.length) * (l.length + 1) ∧ chkG l b i P = 0 ∧ ∀ p ∈ P, (infS (l ++ [p]) fuel).2.1 = true
 |[], acc, b, i, _, ha, h => by
  rw [implG] at h
  cases h
  exact ⟨⟨[], by simp⟩, by simpa using ha, rfl, by simp⟩
 |p :: P, acc, b, i, hP, ha, h => by
  have hp := app_64 h64 (hP p List.mem_cons_self)
  rw [implG] at h
  split at h
  ·cases h
  ·split at h
   ·cases h
   ·rename_i h1 h2
    have h2 : (infS (l ++ [p]) fuel).2.1 = true := by simpa using h2
    have hc := infS_cert hp h2
    have hl := checkS_len hc
    rw [List.length_append, List.length_singleton] at hl
    have hs : (i + 1) * (l.length + 1) = i * (l.length + 1) + (l.length + 1) := Nat.succ_mul _ _
    obtain ⟨⟨r, g1⟩, g2, g3, g4⟩ := implG_spec h64 (i := i + 1) (fun q hq => hP q (List.mem_cons_of_mem _ hq)) (by rw [List.length_append, ha, hl, hs]) h
    generalize (infS (l ++ [p]) fuel).1 = B at *
    have hw : (b.take ((i + 1) * (l.length + 1))).drop (i * (l.length + 1)) = B := by
     have e1 : (i + 1) * (l.length + 1) = (acc ++ B).length := by rw [List.length_append, ha, hl, hs]
     rw [g1, e1, List.take_left, ← ha, List.drop_left]
    refine ⟨⟨B ++ r, by rw [g1, List.append_assoc]⟩, by rw [g2, List.length_cons]; congr 1; omega, ?_, fun q hq => ?_⟩
    ·rw [chkG, hw, if_neg (not_not_intro hc), g3]
    ·rcases List.mem_cons.1 hq with rfl | hq
     ·exact h2
     ·exact g4 q hq
/-- What is derived is accepted. -/
theorem implS_check {l : List Con} {c : Con} {fuel : Int} {b : List Int} (h64 : ∀ c ∈ l, con64 c) (hc : con64 c) (h : implS l c fuel = (b, true, 0)) : chkS l c b = 0 := by
 unfold implS at h
 split at h
 ·cases h
 ·rename_i h0
  obtain ⟨g1, g2, g3, g4⟩ := implG_spec h64 (i := 0) (negaS_64 hc) (by simp) h
  unfold chkS
  rw [if_neg h0, if_neg (by rw [g2]; simp), g3]
theorem evI_lessV {x : ByteArray → Int} {f : Lin} : evI x (lessV f).1.2 = -evI x f.2 := evI_neg
/-- What is derived holds. -/
theorem implS_holds {x : ByteArray → Int} {l : List Con} {c : Con} {fuel : Int} {b : List Int} (h64 : ∀ c ∈ l, con64 c) (hc : con64 c) (h : implS l c fuel = (b, true, 0)) (hl : ∀ d ∈ l, holds (castX x) d) : holds (castX x) c := by
 unfold implS at h
 split at h
 ·cases h
 ·rename_i h0
  obtain ⟨_, _, _, g4⟩ := implG_spec h64 (i := 0) (negaS_64 hc) (by simp) h
  have key : ∀ p ∈ (negaS l c).1, ¬ holds (castX x) p := fun p hp hh => by
   have h1 := g4 p hp
   rw [infS_holds (x := x) (app_64 h64 (negaS_64 hc p hp)) (fun d hd => by
    rcases List.mem_append.1 hd with hd | hd
    ·exact hl d hd
    ·rw [List.mem_singleton.1 hd]; exact hh)] at h1
   cases h1
  unfold negaS at h0 key
  split at h0
  ·exact absurd (show (1 : Int) ≠ 0 by decide) h0
  ·rename_i hok
   rw [if_neg hok] at key
   unfold negS at h0 key
   split at h0
   ·exact absurd (show (1 : Int) ≠ 0 by decide) h0
   ·rename_i h1
    rw [if_neg h1] at key
    split at h0
    ·exact absurd (show (3 : Int) ≠ 0 by decide) h0
    ·rename_i h2
     rw [if_neg h2] at key
     have e := evI_lessV (x := x) (f := c.1)
     rw [holds_cast]
     split at h0
     ·rename_i h3
      rw [if_pos h3] at key
      have k1 := key _ (List.mem_singleton.2 rfl)
      rw [holds_cast, e] at k1
      rw [h3]
      refine ⟨?_, fun h => by cases h⟩
      apply Classical.byContradiction
      intro hn
      refine k1 ⟨?_, fun h => by cases h⟩
      show 0 ≤ -1 - c.1.1 + -evI x c.1.2
      omega
     ·rename_i h3
      rw [if_neg h3] at key
      split at h0
      ·exact absurd (show (3 : Int) ≠ 0 by decide) h0
      ·rename_i h4
       rw [if_neg h4] at key
       have k1 := key (lessV c.1) (by simp)
       have k2 := key (moreV c.1) (by simp)
       rw [holds_cast, e] at k1
       rw [holds_cast] at k2
       have k1 : ¬ 0 ≤ -1 - c.1.1 + -evI x c.1.2 := fun h => k1 ⟨h, fun h => by cases h⟩
       have k2 : ¬ 0 ≤ c.1.1 - 1 + evI x c.1.2 := fun h => k2 ⟨h, fun h => by cases h⟩
       omega
/-- The questions, for the reference. -/
noncomputable def questS (l : List Con) (c : Con) : List (List Con) × Int := if (negaS l c).2 ≠ 0 then ([], (negaS l c).2) else ((negaS l c).1.map fun p => l ++ [p], 0)
/-- A bound is tried. -/
noncomputable def provS (l : List Con) (f : Lin) (fuel b : Int) : Bool × Int := if (addE f (-b, [])).2 ≠ 0 then (false, (addE f (-b, [])).2) else (implS l ((addE f (-b, [])).1, false) fuel).2
noncomputable def bisS (l : List Con) (f : Lin) (fuel : Int) : Nat → Int → Int → Int × Bool × Int
 | 0, low, _ => (low, true, 0)
 |N + 1, low, high => if high ≤ low + 1 then (low, true, 0) else
  if (provS l f fuel ((low + high) / 2)).2 ≠ 0 then (0, false, (provS l f fuel ((low + high) / 2)).2) else
  if (provS l f fuel ((low + high) / 2)).1 = true then bisS l f fuel N ((low + high) / 2) high else bisS l f fuel N low ((low + high) / 2)
noncomputable def lowS (l : List Con) (f : Lin) (fuel : Int) : Int × Bool × Int :=
 if ¬ okL l ∨ ¬ linOk f.2 then (0, false, 1) else
 if (provS l f fuel (-1099511627776)).2 ≠ 0 ∨ (provS l f fuel (-1099511627776)).1 = false then (0, false, (provS l f fuel (-1099511627776)).2) else
 bisS l f fuel 2199023255553 (-1099511627776) 1099511627777
noncomputable def uppS (l : List Con) (f : Lin) (fuel : Int) : Int × Bool × Int :=
 if ¬ okL l then (0, false, 1) else if (scaleE f (-1)).2 ≠ 0 then (0, false, (scaleE f (-1)).2) else
 (-(lowS l (scaleE f (-1)).1 fuel).1, (lowS l (scaleE f (-1)).1 fuel).2)
noncomputable def belowS (f s : Lin) : Lin × Int :=
 if (scaleE f (-1)).2 ≠ 0 then ((0, []), (scaleE f (-1)).2) else
 if (addE s (scaleE f (-1)).1).2 ≠ 0 then ((0, []), (addE s (scaleE f (-1)).1).2) else addE (addE s (scaleE f (-1)).1).1 (-1, [])
noncomputable def rangeS (l : List Con) (f s : Lin) (fuel : Int) : Bool × Int :=
 if ¬ okL l ∨ ¬ linOk f.2 ∨ ¬ linOk s.2 then (false, 1) else
 if (implS l (f, false) fuel).2.2 ≠ 0 ∨ (implS l (f, false) fuel).2.1 = false then (false, (implS l (f, false) fuel).2.2) else
 if (belowS f s).2 ≠ 0 then (false, (belowS f s).2) else (implS l ((belowS f s).1, false) fuel).2
end Go.Proofs.Ytnddmjhpplopbaa
