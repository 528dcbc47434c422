/- Plain laws: tight constraints. -/
import Derived.Test.YtnddmjhpplopbaaPlain07b
set_option linter.unusedVariables false
set_option linter.unusedSimpArgs false
namespace Go.Proofs.Ytnddmjhpplopbaa

def gcdF (g : Nat) (l : List Mono) : Nat := l.foldl (fun g m => Nat.gcd g m.2.natAbs) g
def gcdL (l : List Mono) : Nat := gcdF 0 l
theorem gcdF_dvd : ∀ {l : List Mono} {g : Nat}, gcdF g l ∣ g ∧ ∀ m ∈ l, gcdF g l ∣ m.2.natAbs
 | [], g => ⟨Nat.dvd_refl _, fun m hm => by cases hm⟩
 |x :: r, g => by
  obtain ⟨h1, h2⟩ := gcdF_dvd (l := r) (g := Nat.gcd g x.2.natAbs)
  refine ⟨Nat.dvd_trans h1 (Nat.gcd_dvd_left _ _), fun m hm => ?_⟩
  rcases List.mem_cons.1 hm with rfl | hm
  ·exact Nat.dvd_trans h1 (Nat.gcd_dvd_right _ _)
  ·exact h2 m hm
theorem gcdL_dvd {l : List Mono} {m : Mono} (h : m ∈ l) : gcdL l ∣ m.2.natAbs := gcdF_dvd.2 m h
theorem gcdL_dvdI {l : List Mono} {m : Mono} (h : m ∈ l) : (gcdL l : Int) ∣ m.2 := Int.ofNat_dvd_left.2 (gcdL_dvd h)
theorem gcdL_pos {l : List Mono} (h : l ≠ []) (h0 : ∀ m ∈ l, m.2 ≠ 0) : 0 < gcdL l := by
 cases l with
 | nil => exact absurd rfl h
 | cons m r =>
  have h1 := gcdL_dvd (l := m :: r) (m := m) List.mem_cons_self
  have h2 := h0 m List.mem_cons_self
  exact Nat.pos_of_dvd_of_pos h1 (by omega)
theorem gcdL_le {l : List Mono} (h : l ≠ []) (h0 : ∀ m ∈ l, m.2 ≠ 0) (h64 : ∀ m ∈ l, in64 m.2) : gcdL l ≤ 9223372036854775808 := by
 cases l with
 | nil => exact absurd rfl h
 | cons m r =>
  have h1 := gcdL_dvd (l := m :: r) (m := m) List.mem_cons_self
  have h2 := h0 m List.mem_cons_self
  have h3 := h64 m List.mem_cons_self
  have := Nat.le_of_dvd (by omega) h1
  unfold in64 at h3
  omega
def divL (g : Nat) (l : List Mono) : List Mono := l.map fun m => (m.1, m.2 / (g : Int))
theorem divL_ok {l : List Mono} (hl : linOk l) : linOk (divL (gcdL l) l) := by
 obtain ⟨h1, h2⟩ := linOk_iff.1 hl
 refine linOk_iff.2 ⟨?_, fun m hm => ?_⟩
 ·simp only [srt, divL, List.pairwise_map]; exact h1
 ·obtain ⟨x, hx, rfl⟩ := List.mem_map.1 hm
  refine ⟨(h2 x hx).1, fun h => (h2 x hx).2 ?_⟩
  have := Int.ediv_mul_cancel (gcdL_dvdI hx)
  simp only at h
  rw [h, Int.zero_mul] at this
  exact this.symm
theorem div_64 {x : Int} {g : Nat} (hx : in64 x) (hg : 0 < g) : in64 (x / (g : Int)) := by
 unfold in64 at *
 have h1 := Int.ediv_mul_le x (b := (g : Int)) (by omega)
 have h2 := Int.lt_ediv_add_one_mul_self x (b := (g : Int)) (by omega)
 generalize x / (g : Int) = q at *
 by_cases hq : 0 ≤ q
 ·have : q * 1 ≤ q * g := Int.mul_le_mul_of_nonneg_left (by omega) hq
  omega
 ·have : (-(q + 1)) * 1 ≤ (-(q + 1)) * g := Int.mul_le_mul_of_nonneg_left (by omega) (by omega)
  have e : -(q + 1) * (g : Int) = -((q + 1) * g) := Int.neg_mul _ _
  rw [e] at this
  omega
/-- Floors from truncated division. -/
theorem ediv_tdiv {x : Int} {g : Nat} (hg : 0 < g) : x / (g : Int) = if x.tmod g < 0 then x.tdiv g - 1 else x.tdiv g := by
 have h1 := Int.tmod_def x g
 have h2 : (x.tmod g).natAbs < g := by rw [Int.natAbs_tmod]; exact Nat.mod_lt _ (by simpa using hg)
 by_cases h : x.tmod g < 0
 ·rw [if_pos h]
  refine ((Int.ediv_emod_unique (r := x.tmod g + g) (by omega)).2 ⟨?_, by omega, by omega⟩).1
  rw [Int.mul_sub]; omega
 ·rw [if_neg h]
  exact ((Int.ediv_emod_unique (r := x.tmod g) (by omega)).2 ⟨by omega, by omega, by omega⟩).1
def conF : Con := ((-1, []), false)
/-- The tight constraint, its truth (0 neither, 1 true, 2 false) and the error. -/
noncomputable def tightS (c : Con) : Con × Int × Int :=
 if ¬ linOk c.1.2 then (conZ, 0, 1) else
 if c.1.2 = [] then (if c.1.1 = 0 ∨ (0 < c.1.1 ∧ c.2 = false) then (conZ, 1, 0) else (conF, 2, 0)) else
 if c.2 = true ∧ c.1.1.natAbs % gcdL c.1.2 ≠ 0 then (conF, 2, 0) else
 if c.2 = true ∧ (c.1.2.headD (.empty, 0)).2 < 0 then
  (if in64 (-(c.1.1 / (gcdL c.1.2 : Int))) ∧ ∀ m ∈ divL (gcdL c.1.2) c.1.2, in64 (-m.2) then (((-(c.1.1 / (gcdL c.1.2 : Int)), (divL (gcdL c.1.2) c.1.2).map fun m => (m.1, -m.2)), true), 0, 0) else (conZ, 0, 3)) else
 (((c.1.1 / (gcdL c.1.2 : Int), divL (gcdL c.1.2) c.1.2), c.2), 0, 0)
/-- A list of constraints, each tight. -/
noncomputable def tightF : List Con → List Con × Int
 | [] => ([], 0)
 | c :: r => if (tightS c).2.2 ≠ 0 then ([], (tightS c).2.2) else if (tightF r).2 ≠ 0 then ([], (tightF r).2) else ((tightS c).1 :: (tightF r).1, 0)
noncomputable def tightsS (l : List Con) : List Con × Int := if 256 < l.length then ([], 2) else tightF l
end Go.Proofs.Ytnddmjhpplopbaa
