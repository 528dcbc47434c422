/- The builtin copy for elements of several cells, and the closure of Scatter that copies a row, in the model's own words. -/
import Derived.Test.YtcnbccmmhcoanaaV00
import Derived.Test.YtcnbccmmhcoanaaBase2
import Derived.Laws.CopyOwn
set_option linter.unusedVariables false
set_option linter.unusedSimpArgs false
namespace Go.Proofs.Ytcnbccmmhcoanaa
open Go.Abs Go.RowKit

theorem run_copy_rows (P : Program) (w : World) (dT sT ty elem : TypeId) (g o dLen dCap : Nat) (a : Addr) (sLen sCap sz : Nat) (cur : Array Value) (t : TypeId) (cs : List Value)
  (hu : P.underlying dT = some (.slice elem)) (hs : (P.info? elem).map (·.size) = some sz)
  (hg : w.heap[g]? = some (.cells cur t (0, 0))) (hn : cs.length = Nat.min sLen dLen * sz)
  (hsrc : ∀ j v, cs[j]? = some v → w.cell? (a.add j) = some v) (hfit : o + cs.length ≤ cur.size) (h1 : ∀ v ∈ cs, v.oneCell' = true) :
  (Builtin.copy_ #[dT, sT] ty #[.slice (some ⟨g, o, none⟩) dLen dCap, .slice (some a) sLen sCap]).run P w =
   .ok (goInt (Nat.min sLen dLen)) (w.setRow g (cur.toList.take o ++ cs ++ cur.toList.drop (o + cs.length)).toArray) := by
 have hl := run_loadCells_list (P := P) w a cs hsrc
 have hst := run_storeCells_at P g o t cs 0 cur w hg (by simpa using hfit) h1
 cases hq : P.info? elem with
 | none => simp [hq] at hs
 | some i =>
  have hi : i.size = sz := by simpa [hq] using hs
  simp only [Nat.add_zero] at hst
  simp [Builtin.copy_, run_underlying hu, Builtin.lenOf, Builtin.firstCells, sizeOf, typeInfo, hq, hi, ← hn, hl, hst]
/-- The cells cs written into the block g from o on. -/
def setAt (w : World) (g : Nat) (cur : Array Value) (o : Nat) (cs : List Value) : World := w.setRow g (cur.toList.take o ++ (cs ++ cur.toList.drop (o + cs.length))).toArray
theorem step_copy_rows {P : Program} {ops : Array Oper} {o : Oper} {a : Act} {w : World} {K : Act → World → Prop} {Q : Exit → Act → World → Prop} {E : Prop} (hgd : o.guard = none) (d s : Operand) (dT sT : TypeId)
  (ho : o.op = .call { callee := .builtin .copy, args := #[d, s], argTypes := #[dT, sT] }) (elem : TypeId) (sz : Nat) (hu : P.underlying dT = some (.slice elem)) (hsz : (P.info? elem).map (·.size) = some sz)
  (g off dLen dCap : Nat) (ad : Addr) (sLen sCap : Nat) (hd : a.eval d = .slice (some ⟨g, off, none⟩) dLen dCap) (hs : a.eval s = .slice (some ad) sLen sCap)
  (cur : Array Value) (t : TypeId) (hg : w.heap[g]? = some (.cells cur t (0, 0))) (cs : List Value) (hn : cs.length = Nat.min sLen dLen * sz)
  (hsrc : ∀ j v, cs[j]? = some v → w.cell? (ad.add j) = some v) (hfit : off + cs.length ≤ cur.size) (h1 : ∀ v ∈ cs, v.oneCell' = true)
  (h : K (a.put o.dst (goInt (Nat.min sLen dLen))) (setAt w g cur off cs)) :
  if Region.wanted o (yielded ops a.tmps) = true then Oper.wp P o a w K Q else E := by
 have hw : Region.wanted o (yielded ops a.tmps) = true := by simp [Region.wanted, hgd]
 rw [if_pos hw]
 have hrun := run_copy_rows P w dT sT o.type elem g off dLen dCap ad sLen sCap sz cur t cs hu hsz hg hn hsrc hfit h1
 unfold Oper.wp
 simp [execOp, ho, resolve, invoke, builtin, hd, hs, hrun, Result.andThen]
 exact h

theorem scatter1_raw {w : World} {B1 B2 g n cap c m b2 o2 : Nat} {whole part many : Nat} {cur : Array Value} {t : TypeId} {cs : List Value}
  (h1 : w.cell? ⟨B1, 6, none⟩ = some (.slice (some ⟨g, 0, none⟩) n cap)) (h2 : w.cell? ⟨B2, 6, none⟩ = some (.slice (some ⟨b2, o2, none⟩) m c))
  (hg : w.heap[g]? = some (.cells cur t (0, 0))) (hn : part + many ≤ n) (hc : n ≤ cap) (hcap : n < 4294967296) (hm : whole + many ≤ m) (hmc : m ≤ c) (hm2 : m < 4294967296)
  (hp : 0 < many) (hl : cs.length = many * 2) (hsrc : ∀ j v, cs[j]? = some v → w.cell? ((⟨b2, o2 + whole * 2, none⟩ : Addr).add j) = some v) (hfit : part * 2 + many * 2 ≤ cur.size) (hone : ∀ v ∈ cs, v.oneCell' = true) :
  Calls Try.prog 25 #[.int .i64 whole, .int .i64 part, .int .i64 many, .pointer (some ⟨B1, 0, none⟩), .pointer (some ⟨B2, 0, none⟩)] w
   fun e w' => e = .returned (.tuple #[]) ∧ w' = setAt w.drew g cur (part * 2) cs := by
 have e1 : ((part : Int) + many).toNat = part + many := by omega
 have e2 : ((whole : Int) + many).toNat = whole + many := by omega
 have e3 : (part : Int).toNat = part := by omega
 have e4 : (whole : Int).toNat = whole := by omega
 have w1 : IntKind.wrap .i64 ((part : Int) + many) = (part : Int) + many := wrap_i64 (by omega)
 have w2 : IntKind.wrap .i64 ((whole : Int) + many) = (whole : Int) + many := wrap_i64 (by omega)
 have g1 : (part : Int) ≤ (part : Int) + many := by omega
 have g2 : (part : Int) + many ≤ cap := by omega
 have g3 : (whole : Int) ≤ (whole : Int) + many := by omega
 have g4 : (whole : Int) + many ≤ c := by omega
 have n1 : ¬ cap = part := by omega
 have n2 : ¬ c = whole := by omega
 go_enter Try.func25, Try.ntmps25
 go_wp2_with fail
 go_region_law (refine step_copy_rows rfl (.tmp 14) (.tmp 21) _ _ rfl 62 2 rfl (by kernel_rfl) g (part * 2) many (cap - part) ⟨b2, o2 + whole * 2, none⟩ many (c - whole) (by simp [Act.eval, Act.put]) (by simp [Act.eval, Act.put]) cur t (show w.drew.heap[g]? = _ from hg) cs (by rw [hl]; simp) (fun j v h => (show w.drew.cell? _ = _ from hsrc j v h)) (by omega) hone ?_)
 all_goals go_wp2
 all_goals go_end0
 all_goals exact ⟨rfl, rfl⟩
end Go.Proofs.Ytcnbccmmhcoanaa
