/- Plain laws: the search of layer 7, as functions on lists. -/
import Derived.Test.YtnddmjhpplopbaaV07k
set_option linter.unusedVariables false
set_option linter.unusedSimpArgs false
namespace Go.Proofs.Ytnddmjhpplopbaa
open Go.Abs Go.RowKit

theorem combS_64 : ∀ {l : List (Con × Int)} {out : Lin} {eq : Bool}, lin64 out → con64 (combS out eq l).1
 | [], out, eq, h => h
 |p :: r, out, eq, h => by
  rw [combS]
  split
  ·exact ⟨in64_zero, fun m hm => by cases hm⟩
  ·rename_i hn
   exact combS_64 (addV_64 (Classical.byContradiction fun h' => hn (.inr h')))
theorem conZ_64 : con64 conZ := ⟨in64_zero, fun m hm => by cases hm⟩
theorem conCombine_64 (l : List Con) (b : List Int) : con64 (conCombine l b).1 := by
 rw [conCombine]
 split
 ·exact conZ_64
 ·split
  ·exact conZ_64
  ·exact combS_64 ⟨in64_zero, fun m hm => by cases hm⟩
def totZ : List (Con × Int) → Nat
 | [] => 0
 | p :: r => p.1.1.2.length + totZ r
theorem combS_len : ∀ {l : List (Con × Int)} {out : Lin} {eq : Bool}, (combS out eq l).1.1.2.length ≤ out.2.length + totZ l
 | [], out, eq => Nat.le_refl _
 |p :: r, out, eq => by
  rw [combS]
  split
  ·exact Nat.zero_le _
  ·have h1 := combS_len (l := r) (out := addV out (scaleV p.1.1 p.2)) (eq := eq && (p.1.2 || decide (p.2 = 0)))
   have h2 := addV_len out (scaleV p.1.1 p.2)
   have h3 := scaleV_len p.1.1 p.2
   show _ ≤ out.2.length + (p.1.1.2.length + totZ r)
   omega
theorem conCombine2_len (a b : Con) (x y : Int) : (conCombine [a, b] [x, y]).1.1.2.length ≤ a.1.2.length + b.1.2.length := by
 rw [conCombine]
 split
 ·exact Nat.zero_le _
 ·split
  ·exact Nat.zero_le _
  ·refine Nat.le_trans combS_len ?_
   simp [totZ]
/-- A constraint with its multipliers. -/
abbrev Row := Con × List Int
def rowZ : Row := (conZ, [])
def gcdB (g : Nat) (l : List Int) : Nat := l.foldl (fun g n => Nat.gcd g n.natAbs) g
def tdL (g : Nat) (l : List Mono) : List Mono := l.map fun m => (m.1, m.2.tdiv (g : Int))
def tdB (g : Nat) (l : List Int) : List Int := l.map fun n => n.tdiv (g : Int)
def reducedS (d : Row) : Row :=
 if gcdB 0 d.2 < 2 ∨ 4611686018427387904 < gcdB 0 d.2 then d else
 (((d.1.1.1.tdiv (gcdB 0 d.2 : Int), tdL (gcdB 0 d.2) d.1.1.2), d.1.2), tdB (gcdB 0 d.2) d.2)
/-- The sum of two multipliers, as 64-bit numbers. -/
def sumOk (x y : Int) (p : Int × Int) : Bool := decide (in64 (p.1 * x)) && (decide (in64 (p.2 * y)) && decide (in64 (p.1 * x + p.2 * y)))
def sumsF (x y : Int) : List (Int × Int) → Option (List Int)
 | [] => some []
 | p :: r => if sumOk x y p = true then (sumsF x y r).map ((p.1 * x + p.2 * y) :: ·) else none
/-- x times a plus y times b. -/
noncomputable def mergeS (fuel : Int) (a b : Row) (x y : Int) : Row × Int :=
 if fuel ≤ 0 then (rowZ, 14) else
 if (conCombine [a.1, b.1] [x, y]).2 ≠ 0 then (rowZ, (conCombine [a.1, b.1] [x, y]).2) else
 match sumsF x y (a.2.zip b.2) with
 | none => (rowZ, 3)
 | some l => (reducedS ((conCombine [a.1, b.1] [x, y]).1, l), 0)
/-- The row r has the monomials of d. -/
def simRow (r d : Row) : Prop := r.1.2 = d.1.2 ∧ r.1.1.2 = d.1.1.2 ∧ (d.1.2 = false ∨ r.1.1.1 = d.1.1.1)
noncomputable instance (r d : Row) : Decidable (simRow r d) := Classical.propDecidable _
noncomputable def addR (d : Row) : List Row → Option (List Row)
 | [] => none
 | r :: l => if simRow r d then some ((if d.1.1.1 < r.1.1.1 then d else r) :: l) else (addR d l).map (r :: ·)
noncomputable def addS2 (rows : List Row) (d : Row) : List Row × Int :=
 if d.1.1.2 = [] ∧ ¬ conBad d.1 then (rows, 0) else
 match addR d rows with
 | some l => (l, 0)
 | none => if 256 ≤ rows.length then (rows, 2) else (rows ++ [d], 0)
/-- The first equation with the name, from the k-th row on. -/
def eqAt (n : ByteArray) : Nat → List Row → Option Nat
 | _, [] => none
 | k, r :: l => if cf r.1.1.2 n ≠ 0 ∧ r.1.2 = true then some k else eqAt n (k + 1) l
def lows (n : ByteArray) (l : List Row) : Nat := (l.filter fun r => decide (0 < cf r.1.1.2 n)).length
def ups (n : ByteArray) (l : List Row) : Nat := (l.filter fun r => decide (cf r.1.1.2 n < 0)).length
def chooseF (rows : List Row) : List ByteArray → Int → ByteArray → ByteArray × Int × Bool
 | [], best, name => (name, -1, decide (0 ≤ best))
 |v :: vs, best, name => match eqAt v 0 rows with
  | some k => (v, k, true)
  | none => if best < 0 ∨ ((lows v rows * ups v rows : Nat) : Int) < best then chooseF rows vs ((lows v rows * ups v rows : Nat) : Int) v else chooseF rows vs best name
def namesAll (rows : List Row) : List ByteArray := rows.flatMap fun r => r.1.1.2.map (·.1)
/-- The multipliers for an equation. -/
def cancelX (c d : Int) : Int × Int × Bool :=
 ((sgnE (c.natAbs / Nat.gcd c.natAbs d.natAbs) false).1, (sgnE (d.natAbs / Nat.gcd c.natAbs d.natAbs) (decide (0 < c) == decide (0 < d))).1,
  (sgnE (c.natAbs / Nat.gcd c.natAbs d.natAbs) false).2 && (sgnE (d.natAbs / Nat.gcd c.natAbs d.natAbs) (decide (0 < c) == decide (0 < d))).2)
def factorsX (p q : Int) : Int × Int × Bool :=
 ((sgnE (q.natAbs / Nat.gcd p.natAbs q.natAbs) false).1, (sgnE (p.natAbs / Nat.gcd p.natAbs q.natAbs) false).1, (sgnE (q.natAbs / Nat.gcd p.natAbs q.natAbs) false).2 && (sgnE (p.natAbs / Nat.gcd p.natAbs q.natAbs) false).2)
/-- The system: rows, steps left, error. -/
abbrev Sys := List Row × Int × Int
/-- One row more: x times a plus y times b. -/
noncomputable def mergeAdd (a b : Row) (x y : Int) (acc : List Row) (fuel : Int) : Sys :=
 if (mergeS fuel a b x y).2 ≠ 0 then (acc, fuel - 1, (mergeS fuel a b x y).2) else ((addS2 acc (mergeS fuel a b x y).1).1, fuel - 1, (addS2 acc (mergeS fuel a b x y).1).2)
/-- A step for each element, up to the first error. -/
def runF {α : Type} (step : α → List Row → Int → Sys) : List α → List Row → Int → Sys
 | [], acc, fuel => (acc, fuel, 0)
 | x :: l, acc, fuel => if (step x acc fuel).2.2 ≠ 0 then step x acc fuel else runF step l (step x acc fuel).1 (step x acc fuel).2.1
/-- The row r without the name: by the equation q, the e-th row. -/
noncomputable def stepE (n : ByteArray) (q : Row) (e : Nat) (r : Nat × Row) (acc : List Row) (fuel : Int) : Sys :=
 if r.1 = e then (acc, fuel, 0) else
 if cf r.2.1.1.2 n = 0 then ((addS2 acc r.2).1, fuel, (addS2 acc r.2).2) else
 if (cancelX (cf q.1.1.2 n) (cf r.2.1.1.2 n)).2.2 = false then (acc, fuel, 3) else
 mergeAdd r.2 q (cancelX (cf q.1.1.2 n) (cf r.2.1.1.2 n)).1 (cancelX (cf q.1.1.2 n) (cf r.2.1.1.2 n)).2.1 acc fuel
/-- A row without the name. -/
noncomputable def stepR (n : ByteArray) (r : Row) (acc : List Row) (fuel : Int) : Sys :=
 if cf r.1.1.2 n = 0 then ((addS2 acc r).1, fuel, (addS2 acc r).2) else (acc, fuel, 0)
/-- Two rows. -/
noncomputable def stepP (n : ByteArray) (a b : Row) (acc : List Row) (fuel : Int) : Sys :=
 if cf a.1.1.2 n ≤ 0 ∨ 0 ≤ cf b.1.1.2 n then (acc, fuel, 0) else
 if (factorsX (cf a.1.1.2 n) (cf b.1.1.2 n)).2.2 = false then (acc, fuel, 3) else
 mergeAdd a b (factorsX (cf a.1.1.2 n) (cf b.1.1.2 n)).1 (factorsX (cf a.1.1.2 n) (cf b.1.1.2 n)).2.1 acc fuel
def numF {α : Type} : Nat → List α → List (Nat × α)
 | _, [] => []
 | k, x :: l => (k, x) :: numF (k + 1) l
noncomputable def substS (n : ByteArray) (e : Nat) (rows : List Row) (fuel : Int) : Sys := runF (stepE n (rows.getD e rowZ) e) (numF 0 rows) [] fuel
noncomputable def combS2 (n : ByteArray) (rows : List Row) (fuel : Int) : Sys :=
 if (runF (stepR n) rows [] fuel).2.2 ≠ 0 then runF (stepR n) rows [] fuel else runF (fun a => runF (stepP n a) rows) rows (runF (stepR n) rows [] fuel).1 (runF (stepR n) rows [] fuel).2.1
end Go.Proofs.Ytnddmjhpplopbaa
