/- The abstract machine, run: a call whose arguments are closed is reckoned by the kernel. -/
import Derived.Test.YtehjbfljenpfoaaAbsQ
set_option linter.unusedVariables false
set_option linter.unusedSimpArgs false
namespace Go.Abs
open Go.RowKit

abbrev FPure := Bool → FuncId → List AV → Option AV
abbrev FImp := FuncId → List AV → List (Nat × Box) → Nat → Option (AV × List (Nat × Box) × Nat)
def chk {α : Type} (b : Bool) (r : Option α) : Option α := match b with
 | true => r
 | false => none
theorem chk_some {α : Type} {b : Bool} {r : Option α} {x : α} : chk b r = some x ↔ b = true ∧ r = some x := by cases b <;> simp [chk]
theorem beqN {a b : Nat} : Nat.beq a b = decide (a = b) := by
 by_cases h : a = b
 ·rw [decide_eq_true h, h]; exact Nat.beq_refl b
 ·rw [decide_eq_false h]
  cases e : Nat.beq a b
  ·rfl
  ·exact absurd (Nat.eq_of_beq_eq_true e) h
noncomputable def lookE (fr : List (Nat × AV)) (n : Nat) : AV := List.rec (motive := fun _ => AV) .top (fun x _ ih => Bool.rec ih x.2 (Nat.beq x.1 n)) fr
theorem lookE_eq {n : Nat} : ∀ {fr : List (Nat × AV)}, lookE fr n = look fr n
 | [] => rfl
 |(m, v) :: r => by
  refine (show lookE ((m, v) :: r) n = Bool.rec (motive := fun _ => AV) (lookE r n) v (Nat.beq m n) from rfl).trans ?_
  unfold look
  rw [beqN, lookE_eq]
  by_cases e : m = n <;> simp [e]
noncomputable def evE (fr : List (Nat × AV)) : AX → AV
 | .t n => lookE fr n
 | .k v => v
theorem evE_eq {fr : List (Nat × AV)} {x : AX} : evE fr x = x.ev fr := by
 cases x with
 | t n => exact lookE_eq
 | k v => rfl
noncomputable def findE (mem : List (Nat × Box)) (n : Nat) : Option Box := List.rec (motive := fun _ => Option Box) none (fun x _ ih => Bool.rec ih (some x.2) (Nat.beq x.1 n)) mem
theorem findE_eq {n : Nat} : ∀ {mem : List (Nat × Box)}, findE mem n = findB mem n
 | [] => rfl
 |(m, v) :: r => by
  refine (show findE ((m, v) :: r) n = Bool.rec (motive := fun _ => Option Box) (findE r n) (some v) (Nat.beq m n) from rfl).trans ?_
  unfold findB
  rw [beqN, findE_eq]
  by_cases e : m = n <;> simp [e]
noncomputable def setE (mem : List (Nat × Box)) (n : Nat) (c : Box) : List (Nat × Box) := List.rec (motive := fun _ => List (Nat × Box)) [] (fun x r ih => Bool.rec (x :: ih) ((x.1, c) :: r) (Nat.beq x.1 n)) mem
theorem setE_eq {n : Nat} {c : Box} : ∀ {mem : List (Nat × Box)}, setE mem n c = setB mem n c
 | [] => rfl
 |(m, v) :: r => by
  refine (show setE ((m, v) :: r) n c = Bool.rec (motive := fun _ => List (Nat × Box)) ((m, v) :: setE r n c) ((m, c) :: r) (Nat.beq m n) from rfl).trans ?_
  unfold setB
  rw [beqN, setE_eq]
  by_cases e : m = n <;> simp [e]
noncomputable def delE (mem : List (Nat × Box)) (n : Nat) : List (Nat × Box) := List.rec (motive := fun _ => List (Nat × Box)) [] (fun x _ ih => Bool.rec (x :: ih) ih (Nat.beq x.1 n)) mem
theorem delE_eq {n : Nat} : ∀ {mem : List (Nat × Box)}, delE mem n = delB mem n
 | [] => rfl
 |(m, v) :: r => by
  refine (show delE ((m, v) :: r) n = Bool.rec (motive := fun _ => List (Nat × Box)) ((m, v) :: delE r n) (delE r n) (Nat.beq m n) from rfl).trans ?_
  unfold delB
  rw [beqN, delE_eq]
  by_cases e : m = n <;> simp [e]
noncomputable def loadE (mem : List (Nat × Box)) : AC → Option (List AC)
 |.ptr nm off => match findE mem nm with
  | some (.var xs) => some (xs.drop off)
  | _ => none
 | .cptr cells => some (cells.map .pure)
 |.eptr nm sz row off => match findE mem nm with
  | some (.arr _ sz' rows) => if sz = sz' then (rows[row]?).map fun r => (r.drop off).map .pure else none
  | some (.arn _ sz' rows) => if sz = sz' then (rows[row]?).map fun r => r.drop off else none
  | _ => none
 | _ => none
theorem loadE_eq {mem : List (Nat × Box)} {q : AC} : loadE mem q = loadCells? mem q := by
 cases q <;> simp only [loadE, loadCells?, findE_eq] <;> rfl
noncomputable def rowsE (mem : List (Nat × Box)) : AV → Option (List (List PC))
 | .c (.pure (.slice rows)) => some rows
 | .c (.tsl rows) => some rows
 | .c .nils => some []
 |.c (.ref nm) => match findE mem nm with
  | some (.arr _ _ rows) => some rows
  | _ => none
 | _ => none
theorem rowsE_eq {mem : List (Nat × Box)} {v : AV} : rowsE mem v = rowsOf? mem v := by
 unfold rowsE rowsOf?
 simp only [findE_eq]
 rfl
def wrapE (k : IntKind) (n : Int) : Int := match k, n with
 |.i64, .ofNat a => match Nat.ble a 9223372036854775807 with
  | true => .ofNat a
  | false => IntKind.wrap .i64 (.ofNat a)
 |.i64, .negSucc a => match Nat.ble a 9223372036854775807 with
  | true => .negSucc a
  | false => IntKind.wrap .i64 (.negSucc a)
 |.u64, .ofNat a => match Nat.ble a 18446744073709551615 with
  | true => .ofNat a
  | false => IntKind.wrap .u64 (.ofNat a)
 | k, n => k.wrap n
theorem wrapE_eq {k : IntKind} {n : Int} : wrapE k n = k.wrap n := by
 unfold wrapE
 split
 ·split
  ·rename_i a h
   have := Nat.le_of_ble_eq_true h
   exact (wrap_i64 (by simp only [Int.ofNat_eq_natCast]; omega)).symm
  ·rfl
 ·split
  ·rename_i a h
   have := Nat.le_of_ble_eq_true h
   exact (wrap_i64 (by rw [Int.negSucc_eq]; omega)).symm
  ·rfl
 ·split
  ·rename_i a h
   have := Nat.le_of_ble_eq_true h
   exact (wrap_u64 (by simp only [Int.ofNat_eq_natCast]; omega)).symm
  ·rfl
 ·rfl
def eqU : List UInt8 → List UInt8 → Bool
 | [], [] => true
 |x :: xs, y :: ys => match Nat.beq x.toNat y.toNat with
  | true => eqU xs ys
  | false => false
 | _, _ => false
theorem eqU_iff : ∀ {a b : List UInt8}, eqU a b = true ↔ a = b
 | [], [] => by simp [eqU]
 | [], _ :: _ => by simp [eqU]
 | _ :: _, [] => by simp [eqU]
 |x :: xs, y :: ys => by
  unfold eqU
  rw [beqN]
  by_cases e : x.toNat = y.toNat
  ·have e' : x = y := UInt8.toNat_inj.1 e
   simp [e', eqU_iff]
  ·have e' : ¬ x = y := fun h => e (by rw [h])
   simp [e, e']
def ktB : KT → KT → Bool
 | .int a, .int b => decide (a = b)
 | .str, .str => true
 | .bool, .bool => true
 | _, _ => false
theorem ktB_eq {a b : KT} (h : ktB a b = true) : a = b := by cases a <;> cases b <;> simp_all [ktB]
def eqOkB : List ET → List AC → List AC → Bool
 | [], [], [] => true
 | .int k :: l, .pure (.val (.int k1 _)) :: xs, .pure (.val (.int k2 _)) :: ys => decide (k1 = k) && decide (k2 = k) && eqOkB l xs ys
 | .str :: l, .pure (.val (.string _)) :: xs, .pure (.val (.string _)) :: ys => eqOkB l xs ys
 | .bool :: l, .pure (.val (.bool _)) :: xs, .pure (.val (.bool _)) :: ys => eqOkB l xs ys
 | _, _, _ => false
theorem eqOkB_ok : ∀ {l : List ET} {xs ys : List AC}, eqOkB l xs ys = true → eqOk l xs ys := by
 intro l xs ys
 induction l, xs, ys using eqOkB.induct <;> simp_all [eqOkB, eqOk]
def eqPB : List AC → List AC → Bool
 | .pure (.val (.int _ a)) :: xs, .pure (.val (.int _ b)) :: ys => decide (a = b) && eqPB xs ys
 | .pure (.val (.string a)) :: xs, .pure (.val (.string b)) :: ys => eqU a.data.toList b.data.toList && eqPB xs ys
 | .pure (.val (.bool a)) :: xs, .pure (.val (.bool b)) :: ys => (a == b) && eqPB xs ys
 | _, _ => true
theorem eqPB_iff : ∀ {xs ys : List AC}, eqPB xs ys = true ↔ eqP xs ys := by
 intro xs ys
 induction xs, ys using eqPB.induct with
 | case1 a xs b ys ih => simp_all [eqPB, eqP]
 | case2 a xs b ys ih =>
  obtain ⟨a⟩ := a
  obtain ⟨b⟩ := b
  simp_all [eqPB, eqP, Array.toList_inj, eqU_iff]
 | case3 a xs b ys ih => simp_all [eqPB, eqP]
 | case4 xs ys h1 h2 h3 =>
  unfold eqPB eqP
  split
  ·exact absurd rfl (h1 _ _ _ _ _ _ rfl)
  ·exact absurd rfl (h2 _ _ _ _ rfl)
  ·exact absurd rfl (h3 _ _ _ _ rfl)
  ·simp
theorem eqPB_dec {xs ys : List AC} : dec (eqP xs ys) = eqPB xs ys := by
 unfold dec
 cases h : eqPB xs ys
 ·simp [← eqPB_iff, h]
 ·simp [← eqPB_iff, h]
def bytesB (a b : ByteArray) : Bool := eqU a.data.toList b.data.toList
theorem bytesB_beq {a b : ByteArray} : (a.toList == b.toList) = bytesB a b := by
 rw [ByteArray.toList_eq, ByteArray.toList_eq]
 by_cases h : a.data.toList = b.data.toList
 ·rw [bytesB, eqU_iff.2 h, beq_iff_eq]; exact h
 ·rw [bytesB, Bool.eq_false_iff.2 fun e => h (eqU_iff.1 e), beq_eq_false_iff_ne]; exact h
def binEI (op : BinOp) (k : IntKind) (a b : Int) : Option Value := match op with
 | .add => some (.int k (wrapE k (a + b)))
 | .sub => some (.int k (wrapE k (a - b)))
 | .mul => some (.int k (wrapE k (a * b)))
 | .quo => chk (decide (b ≠ 0)) (some (.int k (wrapE k (a.tdiv b))))
 | .rem => chk (decide (b ≠ 0)) (some (.int k (a.tmod b)))
 | .and => some (.int k (k.wrap (BitVec.ofInt k.bits a &&& BitVec.ofInt k.bits b).toNat))
 | .or => some (.int k (k.wrap (BitVec.ofInt k.bits a ||| BitVec.ofInt k.bits b).toNat))
 | .eql => some (.bool (a == b))
 | .neq => some (.bool (a != b))
 | .lss => some (.bool (decide (a < b)))
 | .leq => some (.bool (decide (a ≤ b)))
 | .gtr => some (.bool (decide (a > b)))
 | .geq => some (.bool (decide (a ≥ b)))
 | _ => none
def binES (op : BinOp) (a b : ByteArray) : Option Value := match op with
 | .add => chk (decide (a.size + b.size ≤ 9223372036854775807)) (some (.string (a ++ b)))
 | .eql => some (.bool (bytesB a b))
 | .neq => some (.bool (!bytesB a b))
 | .lss => some (.bool (Op.bytesLess a.data.toList b.data.toList))
 | .leq => some (.bool (Op.bytesLess a.data.toList b.data.toList || bytesB a b))
 | .gtr => some (.bool (!(Op.bytesLess a.data.toList b.data.toList || bytesB a b)))
 | .geq => some (.bool (!(Op.bytesLess a.data.toList b.data.toList)))
 | _ => none
def binE (op : BinOp) : Value → Value → Option Value
 | .int k a, .int k' b => chk (decide (k = k')) (binEI op k a b)
 | .string a, .string b => binES op a b
 | _, _ => none
def shiE (op : BinOp) : Value → Value → Option Value
 |.int k a, .int _ b => chk (decide (0 ≤ b)) (match op with
  | .shl => some (.int k (k.wrap (a * 2 ^ (min b.toNat k.bits))))
  | .shr => some (.int k (a.fdiv (2 ^ (min b.toNat k.bits))))
  | _ => none)
 | _, _ => none
theorem shiE_sound {op : BinOp} {x y r : Value} {K : Value → Prop} (h : shiE op x y = some r) (hk : K r) : shiftW op x y K := by
 unfold shiE at h
 split at h
 ·replace h := chk_some.1 h; obtain ⟨h1, h⟩ := h
  refine ⟨of_decide_eq_true h1, ?_⟩
  cases op <;> cases h <;> exact hk
 ·cases h
theorem binE_sound {op : BinOp} {x y r : Value} {K : Value → Prop} (h : binE op x y = some r) (hk : K r) : binW op x y K := by
 unfold binE at h
 simp only [binEI, binES] at h
 split at h
 ·replace h := chk_some.1 h; obtain ⟨h1, h⟩ := h
  refine ⟨of_decide_eq_true h1, ?_⟩
  cases op <;> simp only [chk_some, Option.some.injEq, reduceCtorEq, decide_eq_true_iff] at h
  case quo => obtain ⟨h1, rfl⟩ := h; exact ⟨h1, by rw [wrapE_eq] at hk; exact hk⟩
  case rem => obtain ⟨h1, rfl⟩ := h; exact ⟨h1, hk⟩
  all_goals (subst h; first | exact hk | (rw [wrapE_eq] at hk; exact hk))
 ·cases op <;> simp only [chk_some, Option.some.injEq, reduceCtorEq, decide_eq_true_iff] at h
  case add => obtain ⟨h1, rfl⟩ := h; exact ⟨h1, hk⟩
  all_goals (subst h; simp only [← bytesB_beq, ← ByteArray.toList_eq] at hk; exact hk)
 ·cases h

noncomputable def buildE (σ : St) : List (Nat × Nat × AX) → List AC → Option (List AC)
 | [], acc => some acc
 |(off, n, x) :: r, acc => match (evE σ.fr x).cells with
  | some ys => chk (decide (ys.length = n) && decide (off + n ≤ acc.length)) (buildE σ r (over acc off ys))
  | none => none
theorem buildE_sound {σ : St} {K : List AC → Prop} : ∀ {ps : List (Nat × Nat × AX)} {acc xs : List AC}, buildE σ ps acc = some xs → K xs → opW.buildW σ ps acc K
 | [], acc, xs, h, hk => by cases h; exact hk
 |(off, n, x) :: r, acc, xs, h, hk => by
  unfold buildE at h
  simp only [evE_eq] at h
  unfold opW.buildW
  split at h
  ·rename_i ys e
   replace h := chk_some.1 h; obtain ⟨h1, h⟩ := h
   rw [e]
   simp only [Bool.and_eq_true, decide_eq_true_iff] at h1
   exact ⟨h1, buildE_sound h hk⟩
  ·cases h
noncomputable def bslE (σ : St) (sz : Nat) : List AX → List (List PC) → Option (List (List PC))
 | [], acc => some acc
 |x :: r, acc => match (evE σ.fr x).cells with
  |some ys => match pcAs ys with
   | some zs => chk (decide (ys.length = sz)) (bslE σ sz r (acc ++ [zs]))
   | none => none
  | none => none
theorem bslE_sound {σ : St} {sz : Nat} {K : List (List PC) → Prop} : ∀ {l : List AX} {acc xs : List (List PC)}, bslE σ sz l acc = some xs → K xs → opW.bsliceW σ sz l acc K
 | [], acc, xs, h, hk => by cases h; exact hk
 |x :: r, acc, xs, h, hk => by
  unfold bslE at h
  simp only [evE_eq] at h
  unfold opW.bsliceW
  split at h
  ·rename_i ys e
   split at h
   ·rename_i zs e2
    replace h := chk_some.1 h; obtain ⟨h1, h⟩ := h
    rw [e]
    exact ⟨zs, e2, of_decide_eq_true h1, bslE_sound h hk⟩
   ·cases h
  ·cases h
noncomputable def bslFE (σ : St) (sz : Nat) : List AX → List (Nat × Box) → List (List PC) → Option (List (List PC) × List (Nat × Box))
 | [], mem, acc => some (acc, mem)
 |x :: r, mem, acc => match (evE σ.fr x).cells with
  |some ys => match frzAs mem ys with
   | some z => chk (decide (ys.length = sz)) (bslFE σ sz r z.2 (acc ++ [z.1]))
   | none => none
  | none => none
theorem bslFE_sound {σ : St} {sz : Nat} {K : List (List PC) → List (Nat × Box) → Prop} : ∀ {l : List AX} {mem : List (Nat × Box)} {acc : List (List PC)} {xs : List (List PC) × List (Nat × Box)}, bslFE σ sz l mem acc = some xs → K xs.1 xs.2 → opW.bsliceFW σ sz l mem acc K
 | [], mem, acc, xs, h, hk => by cases h; exact hk
 |x :: r, mem, acc, xs, h, hk => by
  unfold bslFE at h
  simp only [evE_eq] at h
  unfold opW.bsliceFW
  split at h
  ·rename_i ys e
   split at h
   ·rename_i zs e2
    replace h := chk_some.1 h; obtain ⟨h1, h⟩ := h
    rw [e]
    exact ⟨zs, e2, of_decide_eq_true h1, bslFE_sound h hk⟩
   ·cases h
  ·cases h
noncomputable def mkfnE (σ : St) : List AX → List AC → Option (List AC)
 | [], acc => some acc
 |x :: r, acc => match evE σ.fr x with
  | .c y => mkfnE σ r (acc ++ [y])
  | _ => none
theorem mkfnE_sound {σ : St} {K : List AC → Prop} : ∀ {l : List AX} {acc xs : List AC}, mkfnE σ l acc = some xs → K xs → opW.mkfnW σ l acc K
 | [], acc, xs, h, hk => by cases h; exact hk
 |x :: r, acc, xs, h, hk => by
  unfold mkfnE at h
  simp only [evE_eq] at h
  unfold opW.mkfnW
  split at h
  ·rename_i y e
   rw [e]
   exact mkfnE_sound h hk
  ·cases h

def rowsB (sz : Nat) (rows : List (List PC)) : Bool := rows.all fun r => r.length == sz
theorem rowsB_ok {sz : Nat} {rows : List (List PC)} (h : rowsB sz rows = true) : rowsOk sz rows := fun r hr => by
 have := List.all_eq_true.1 h r hr
 simpa using this
def lenB (bytes n : Nat) : Bool := decide (n * bytes ≤ 140737488355328) && decide (n ≤ 140737488355328)
noncomputable def appE (e sz bytes : Nat) (x y : AV) (ys : List (List PC)) (σ : St) : Option (AV × St) :=
 chk (rowsB sz ys) (match x with
 |.c (.ref nm) => match findE σ.mem nm with
  |some (.arr e' sz' rows) => chk (decide (e' = e) && decide (sz' = sz) && lenB bytes (rows.length + ys.length) && (match y with | .c (.ref m) => decide (m ≠ nm) | _ => true))
   (some (.c (.ref σ.nx), { σ with mem := (σ.nx, .arr e sz (rows ++ ys)) :: delE σ.mem nm, nx := σ.nx + 1 }))
  | _ => none
 | .c .nils => chk (lenB bytes (([] : List (List PC)).length + ys.length)) (some (.c (.ref σ.nx), { σ with mem := (σ.nx, .arr e sz ([] ++ ys)) :: σ.mem, nx := σ.nx + 1 }))
 |.c (.tsl rows) => match ys with
  | [] => chk (rowsB sz rows) (some (.c (.tsl rows), σ))
  | _ => chk (rowsB sz rows && lenB bytes (rows.length + ys.length)) (some (.c (.ref σ.nx), { σ with mem := (σ.nx, .arr e sz (rows ++ ys)) :: σ.mem, nx := σ.nx + 1 }))
 | _ => none)
theorem appE_sound {e sz bytes : Nat} {x y : AV} {ys : List (List PC)} {σ σ' : St} {v : AV} {K : Blk (AV → St → Prop)} (h : appE e sz bytes x y ys σ = some (v, σ')) (hk : K.out v σ') : @appW e sz bytes x y ys σ K := by
 unfold appE at h
 simp only [findE_eq, delE_eq] at h
 replace h := chk_some.1 h; obtain ⟨h0, h⟩ := h
 refine ⟨rowsB_ok h0, ?_⟩
 split at h
 ·rename_i nm
  split at h
  ·rename_i e' sz' rows ef
   replace h := chk_some.1 h; obtain ⟨h1, h⟩ := h
   simp only [Bool.and_eq_true, decide_eq_true_iff, lenB] at h1
   obtain ⟨⟨⟨rfl, rfl⟩, h2, h3⟩, h4⟩ := h1
   cases h
   refine .inl ⟨nm, rfl, ?_, rows, ef, h2, h3, hk⟩
   rintro rfl
   simp at h4
  ·cases h
 ·replace h := chk_some.1 h; obtain ⟨h1, h⟩ := h
  simp only [Bool.and_eq_true, decide_eq_true_iff, lenB] at h1
  cases h
  exact .inr (.inl ⟨rfl, .inl ⟨h1.1, h1.2, hk⟩⟩)
 ·rename_i rows
  split at h
  ·replace h := chk_some.1 h; obtain ⟨h1, h⟩ := h
   cases h
   exact .inr (.inr ⟨rows, rfl, rowsB_ok h1, .inr (.inr ⟨rfl, hk⟩)⟩)
  ·rename_i hne
   replace h := chk_some.1 h; obtain ⟨h1, h⟩ := h
   simp only [Bool.and_eq_true, decide_eq_true_iff, lenB] at h1
   cases h
   exact .inr (.inr ⟨rows, rfl, rowsB_ok h1.1, .inl ⟨fun e => hne e, h1.2.1, h1.2.2, hk⟩⟩)
 ·cases h

structure EnvE where
 p : FPure
 i : FImp
 nz : FuncId → Bool
def addN (n : Nat) (l : List Nat) : List Nat := if l.contains n then l else l ++ [n]
def refsC (l : List Nat) : AC → List Nat
 | .ref n => addN n l
 | _ => l
def refsA : List AV → List Nat → List Nat
 | [], l => l
 | .c x :: r, l => refsA r (refsC l x)
 | .agg xs :: r, l => refsA r (xs.foldl refsC l)
 | _ :: r, l => refsA r l
def giveE (E : EnvE) (z : Bool) (f : FuncId) (σ : St) (args : List AV) : List Nat := match z with
 |true => match E.nz f with
  | true => []
  | false => refsA args []
 | false => []
def pureE (E : EnvE) (g : Bool) (f : FuncId) (args : List AV) (σ : St) : Option AV :=
 match purVs σ.mem args with
 |some ps => match E.p g f ps with
  |some r => match flatV r || args.all norefV with
   | true => some r
   | false => none
  | none => none
 | none => none
noncomputable def callE (E : EnvE) (g z : Bool) (f : FuncId) (args : List AV) (σ : St) : Option (AV × St) :=
 match frzLA (giveE E z f σ args) σ args with
 |(σ, args) => match pureE E (g && (E.nz f || !args.all norefV)) f args σ with
  | some r => some (r, σ)
  |none => match g with
   |true => match E.i f args σ.mem σ.nx with
    | some (r, m, n) => some (r, { σ with mem := m, nx := n })
    | none => none
   | false => none
theorem callE_sound {P : Program} {E : EnvE} (hP : ∀ g f as r, E.p g f as = some r → PCalls P f as r) (hI : ∀ f as m n r m' n', E.i f as m n = some (r, m', n') → ICalls P f as m n r m' n')
  {g z : Bool} {f : FuncId} {args : List AV} {σ σ' : St} {v : AV} {K : Blk (AV → St → Prop)} (h : callE E g z f args σ = some (v, σ')) (hk : K.out v σ') : @callW P g z f args σ K := by
 unfold callE at h
 split at h
 rename_i σ1 args1 e0
 refine ⟨giveE E z f σ args, σ1, args1, ?_, e0, ?_⟩
 ·unfold giveE
  split
  ·exact .inr rfl
  ·exact .inl rfl
 split at h
 ·rename_i r e
  cases h
  unfold pureE at e
  split at e
  ·rename_i ps e2
   split at e
   ·rename_i r' e3
    split at e
    ·rename_i e4
     cases e
     refine .inl ⟨ps, e2, _, .inl ⟨hP _ _ _ _ e3, ?_⟩, hk⟩
     simpa using e4
    ·cases e
   ·cases e
  ·cases e
 ·split at h
  ·split at h
   ·rename_i r m n e
    cases h
    exact .inr ⟨rfl, _, _, _, hI _ _ _ _ _ _ _ e, hk⟩
   ·cases h
  ·cases h

noncomputable def e_mv (E : EnvE) (σ : St) (x : AX) : Option (AV × St) := some (evE σ.fr x, σ)
noncomputable def e_pick (E : EnvE) (σ : St) (c a b : AX) : Option (AV × St) := match evE σ.fr c with
 | .c (.pure (.val (.bool true))) => some (evE σ.fr a, σ)
 | .c (.pure (.val (.bool false))) => some (evE σ.fr b, σ)
 | _ => none
noncomputable def e_box (E : EnvE) (σ : St) (x : AX) : Option (AV × St) := match (evE σ.fr x).cells with
 | some xs => some (.c (.ptr σ.nx 0), { σ with mem := (σ.nx, .var xs) :: σ.mem, nx := σ.nx + 1 })
 | none => none
noncomputable def e_load (E : EnvE) (σ : St) (n : Option Nat) (p : AX) : Option (AV × St) := match evE σ.fr p with
 |.c q => match loadE σ.mem q with
  |some xs => match n with
   |none => match xs with
    | x :: _ => some (.c x, σ)
    | [] => none
   | some n => chk (decide (n ≤ xs.length)) (some (.agg (xs.take n), σ))
  | none => none
 | _ => none
noncomputable def e_store (E : EnvE) (σ : St) (n : Nat) (p v : AX) : Option (AV × St) := match (evE σ.fr v).cells with
 |some ys => match evE σ.fr p with
  |.c (.ptr nm off) => match findE σ.mem nm with
   | some (.var xs) => chk (decide (ys.length = n) && decide (off + n ≤ xs.length)) (some (.tup [], { σ with mem := setE σ.mem nm (.var (over xs off ys)) }))
   | _ => none
  |.c (.eptr nm sz row off) => match findE σ.mem nm with
   |some (.arr e sz' rows) => chk (decide (sz = sz') && decide (ys.length = n) && decide (off + n ≤ sz)) (match pcAs ys, rows[row]? with
    | some zs, some r => some (.tup [], { σ with mem := setE σ.mem nm (.arr e sz (rows.set row (over r off zs))) })
    | _, _ => none)
   | _ => none
  | _ => none
 | none => none
noncomputable def e_bin (E : EnvE) (σ : St) (op : BinOp) (x y : AX) : Option (AV × St) := match evE σ.fr x, evE σ.fr y with
 |.c (.pure (.val a)), .c (.pure (.val b)) => match (match op with
  | .shl | .shr => shiE op a b
  | _ => binE op a b) with
  | some r => some (.c (.pure (.val r)), σ)
  | none => none
 | _, _ => none
noncomputable def e_eqb (E : EnvE) (σ : St) (neg : Bool) (x y : AX) : Option (AV × St) := match evE σ.fr x, evE σ.fr y with
 | .c (.pure (.val (.bool a))), .c (.pure (.val (.bool b))) => some (.c (.pure (.val (.bool ((a == b) != neg)))), σ)
 | _, _ => none
noncomputable def e_eqs (E : EnvE) (σ : St) (neg : Bool) (l : List ET) (x y : AX) : Option (AV × St) := match evE σ.fr x, evE σ.fr y with
 | .agg xs, .agg ys => chk (eqOkB l xs ys) (some (.c (.pure (.val (.bool (eqPB xs ys != neg)))), σ))
 | _, _ => none
noncomputable def e_un (E : EnvE) (σ : St) (op : UnOp) (x : AX) : Option (AV × St) := match op, evE σ.fr x with
 | .not, .c (.pure (.val (.bool b))) => some (.c (.pure (.val (.bool (!b)))), σ)
 | .neg, .c (.pure (.val (.int k n))) => some (.c (.pure (.val (.int k (wrapE k (0 - n))))), σ)
 | _, _ => none
noncomputable def e_conv (E : EnvE) (σ : St) (k : IntKind) (x : AX) : Option (AV × St) := match evE σ.fr x with
 | .c (.pure (.val (.int _ n))) => some (.c (.pure (.val (.int k (wrapE k n)))), σ)
 | _ => none
noncomputable def e_fieldA (E : EnvE) (σ : St) (off : Nat) (p : AX) : Option (AV × St) := match evE σ.fr p with
 | .c (.ptr nm o) => some (.c (.ptr nm (o + off)), σ)
 | .c (.cptr cells) => some (.c (.cptr (cells.drop off)), σ)
 | .c (.eptr nm sz row o) => some (.c (.eptr nm sz row (o + off)), σ)
 | _ => none
noncomputable def e_field (E : EnvE) (σ : St) (off : Nat) (n : Option Nat) (x : AX) : Option (AV × St) := match evE σ.fr x with
 |.agg xs => match n with
  |none => match xs.drop off with
   | x :: _ => some (.c x, σ)
   | [] => none
  | some n => chk (decide (off + n ≤ xs.length)) (some (.agg ((xs.drop off).take n), σ))
 | _ => none
noncomputable def e_idxA (E : EnvE) (σ : St) (sz : Nat) (x i : AX) : Option (AV × St) := match evE σ.fr i with
 |.c (.pure (.val (.int _ i))) => match evE σ.fr x with
  |.c (.pure (.slice rows)) | .c (.tsl rows) => match rows[i.toNat]? with
   | some r => chk (decide (0 ≤ i) && decide (r.length = sz) && decide (0 < sz)) (some (.c (.cptr r), σ))
   | none => none
  |.c (.ref nm) => match findE σ.mem nm with
   | some (.arr _ sz' rows) => chk (decide (sz' = sz) && decide (0 < sz) && decide (0 ≤ i) && decide (i < rows.length)) (some (.c (.eptr nm sz i.toNat 0), σ))
   | _ => none
  | _ => none
 | _ => none
noncomputable def e_idxR (E : EnvE) (σ : St) (len sz : Nat) (x i : AX) : Option (AV × St) := match evE σ.fr x, evE σ.fr i with
 | .c (.ptr nm o), .c (.pure (.val (.int _ i))) => chk (decide (0 ≤ i) && decide (i < len)) (some (.c (.ptr nm (o + i.toNat * sz)), σ))
 | .c (.cptr cells), .c (.pure (.val (.int _ i))) => chk (decide (0 ≤ i) && decide (i < len)) (some (.c (.cptr (cells.drop (i.toNat * sz))), σ))
 | _, _ => none
noncomputable def e_nilc (E : EnvE) (σ : St) (x : AX) : Option (AV × St) := match evE σ.fr x with
 | .c (.ptr nm o) => some (.c (.ptr nm o), σ)
 | .c (.cptr cells) => some (.c (.cptr cells), σ)
 | .c (.eptr nm sz row o) => some (.c (.eptr nm sz row o), σ)
 | .c (.clo f caps) => some (.c (.clo f caps), σ)
 | _ => none
noncomputable def e_fnil (E : EnvE) (σ : St) (neg : Bool) (x : AX) : Option (AV × St) := match evE σ.fr x with
 | .c (.clo _ _) => some (.c (.pure (.val (.bool neg))), σ)
 | .c (.pure (.val .nilFunc)) => some (.c (.pure (.val (.bool (!neg)))), σ)
 | _ => none
noncomputable def e_idxS (E : EnvE) (σ : St) (x i : AX) : Option (AV × St) := match evE σ.fr x, evE σ.fr i with
 |.c (.pure (.val (.string s))), .c (.pure (.val (.int _ i))) => match s[i.toNat]? with
  | some b => chk (decide (0 ≤ i)) (some (.c (.pure (.val (.int .u8 b.toNat))), σ))
  | none => none
 | _, _ => none
noncomputable def e_build (E : EnvE) (σ : St) (zero : List AC) (parts : List (Nat × Nat × AX)) : Option (AV × St) := match buildE σ parts zero with
 | some xs => some (.agg xs, σ)
 | none => none
noncomputable def e_bslice (E : EnvE) (σ : St) (sz : Nat) (rows : List AX) : Option (AV × St) := match bslE σ sz rows [] with
 | some rs => some (.c (.tsl rs), σ)
 | none => none
noncomputable def e_mkslice (E : EnvE) (σ : St) (e sz bytes : Nat) (zero : List PC) (l : AX) : Option (AV × St) := match evE σ.fr l with
 | .c (.pure (.val (.int .i64 n))) => chk (decide (0 ≤ n) && decide (n ≤ 281474976710656) && decide (bytes * n ≤ 281474976710656))
   (some (.c (.ref σ.nx), { σ with mem := (σ.nx, .arr e sz (List.replicate n.toNat zero)) :: σ.mem, nx := σ.nx + 1 }))
 | _ => none
noncomputable def e_slc (E : EnvE) (σ : St) (sz : Nat) (x : AX) (lo hi mx : Option AX) : Option (AV × St) := match evE σ.fr x with
 | .c (.ref _) => none
 |v => match rowsE σ.mem v, opW.boundOf σ lo, opW.boundOf σ hi, opW.boundOf σ mx with
  |some rows, some lo, some hi, some mx => chk (rowsB sz rows && decide (0 ≤ lo.getD 0) && decide (lo.getD 0 ≤ hi.getD rows.length) && decide (hi.getD rows.length ≤ mx.getD rows.length) && decide (mx.getD rows.length ≤ rows.length))
   (some (.c (if mx.isSome = true ∧ mx = hi then .tsl ((rows.take (hi.getD rows.length).toNat).drop (lo.getD 0).toNat) else .pure (.slice ((rows.take (hi.getD rows.length).toNat).drop (lo.getD 0).toNat))), σ))
  | _, _, _, _ => none
noncomputable def e_slcS (E : EnvE) (σ : St) (x : AX) (lo hi : Option AX) : Option (AV × St) := match evE σ.fr x, opW.boundOf σ lo, opW.boundOf σ hi with
 |.c (.pure (.val (.string s))), some lo, some hi => chk (decide (0 ≤ lo.getD 0) && decide (lo.getD 0 ≤ hi.getD s.size) && decide (hi.getD s.size ≤ s.size))
  (some (.c (.pure (.val (.string (s.extract (lo.getD 0).toNat (hi.getD s.size).toNat)))), σ))
 | _, _, _ => none
noncomputable def e_ext (E : EnvE) (σ : St) (x : AX) (i : Nat) : Option (AV × St) := match evE σ.fr x with
 |.tup vs => match vs[i]? with
  | some v => some (v, σ)
  | none => none
 | _ => none
noncomputable def e_len (E : EnvE) (σ : St) (x : AX) : Option (AV × St) := match evE σ.fr x with
 | .c (.pure (.slice rows)) | .c (.tsl rows) => some (.c (.pure (.val (.int .i64 rows.length))), σ)
 | .c .nils => some (.c (.pure (.val (.int .i64 0))), σ)
 |.c (.ref nm) => match findE σ.mem nm with
  | some (.arr _ _ rows) => some (.c (.pure (.val (.int .i64 rows.length))), σ)
  | _ => none
 | _ => none
noncomputable def e_lenS (E : EnvE) (σ : St) (x : AX) : Option (AV × St) := match evE σ.fr x with
 | .c (.pure (.val (.string s))) => some (.c (.pure (.val (.int .i64 s.size))), σ)
 | _ => none
noncomputable def e_mm (E : EnvE) (σ : St) (mx : Bool) (x y : AX) : Option (AV × St) := match evE σ.fr x, evE σ.fr y with
 | .c (.pure (.val (.int k a))), .c (.pure (.val (.int _ b))) => some (.c (.pure (.val (.int k (if mx = true then max a b else min a b)))), σ)
 | _, _ => none
noncomputable def e_snil (E : EnvE) (σ : St) (neg : Bool) (x : AX) : Option (AV × St) := match evE σ.fr x with
 | .c .nils => some (.c (.pure (.val (.bool (!neg)))), σ)
 | .c (.pure (.slice rows)) | .c (.tsl rows) => chk (rows.any fun r => !r.isEmpty) (some (.c (.pure (.val (.bool neg))), σ))
 |.c (.ref nm) => match findE σ.mem nm with
  | some (.arr _ _ rows) => chk (rows.any fun r => !r.isEmpty) (some (.c (.pure (.val (.bool neg))), σ))
  | _ => none
 | _ => none
noncomputable def e_app (E : EnvE) (σ : St) (e sz bytes : Nat) (x y : AX) : Option (AV × St) := match rowsE σ.mem (evE σ.fr y) with
 | some ys => appE e sz bytes (evE σ.fr x) (evE σ.fr y) ys σ
 | none => none
noncomputable def e_mkfn (E : EnvE) (σ : St) (f : FuncId) (caps : List AX) : Option (AV × St) := match mkfnE σ caps [] with
 | some xs => some (.c (.clo f xs), σ)
 | none => none
noncomputable def e_call (E : EnvE) (σ : St) (g z : Bool) (f : AX) (args : List AX) : Option (AV × St) := match evE σ.fr f with
 | .c (.clo f caps) => callE E g z f ((args.map fun x => evE σ.fr x) ++ caps.map .c) σ
 | _ => none
noncomputable def e_bsliceF (E : EnvE) (σ : St) (sz : Nat) (rows : List AX) : Option (AV × St) := match bslFE σ sz rows σ.mem [] with
 | some (rs, mem) => some (.c (.tsl rs), { σ with mem := mem })
 | none => none
noncomputable def e_mkmap (E : EnvE) (σ : St) (kt : KT) (n : Option Nat) : Option (AV × St) := some (.c (.mref σ.nx), { σ with mem := (σ.nx, .map kt n []) :: σ.mem, nx := σ.nx + 1 })
noncomputable def e_mget (E : EnvE) (σ : St) (kt : KT) (n : Option Nat) (zero : List AC) (ok : Bool) (m k : AX) : Option (AV × St) := match evE σ.fr k with
 |.c (.pure (.val kv)) => match mkOf kt kv with
  |some mk => match evE σ.fr m with
   |.c (.mref nm) => match findE σ.mem nm with
    |some (.map kt' n' ents) => chk (ktB kt' kt && decide (n' = n)) (match mlook ents mk with
     | some ps => some (if ok = true then .tup [mval n ps, .c (.pure (.val (.bool true)))] else mval n ps, σ)
     | none => some (if ok = true then .tup [mval n zero, .c (.pure (.val (.bool false)))] else mval n zero, σ))
    | _ => none
   | .c (.pure (.fmap kt' n' es)) => chk (ktB kt' kt && decide (n' = n)) (match mlook (entsOf es) mk with
     | some ps => some (if ok = true then .tup [mval n ps, .c (.pure (.val (.bool true)))] else mval n ps, σ)
     | none => some (if ok = true then .tup [mval n zero, .c (.pure (.val (.bool false)))] else mval n zero, σ))
   | _ => none
  | none => none
 | _ => none
noncomputable def e_mput (E : EnvE) (σ : St) (kt : KT) (n : Option Nat) (m k v : AX) : Option (AV × St) := match evE σ.fr k with
 |.c (.pure (.val kv)) => match mkOf kt kv with
  |some mk => match evE σ.fr m with
   |.c (.mref nm) => match mcells n (evE σ.fr v) with
    |some ys => match findE σ.mem nm with
     | some (.map kt' n' ents) => chk (ktB kt' kt && decide (n' = n)) (some (.tup [], { σ with mem := setE σ.mem nm (.map kt n (mset ents mk ys)) }))
     | _ => none
    | none => none
   | _ => none
  | none => none
 | _ => none
noncomputable def opE (E : EnvE) (o : AOp) (σ : St) : Option (AV × St) :=
 match o with
 | .mv x => e_mv E σ x
 | .pick c a b => e_pick E σ c a b
 | .box x => e_box E σ x
 | .load n p => e_load E σ n p
 | .store n p v => e_store E σ n p v
 | .bin op x y => e_bin E σ op x y
 | .eqb neg x y => e_eqb E σ neg x y
 | .eqs neg l x y => e_eqs E σ neg l x y
 | .un op x => e_un E σ op x
 | .conv k x => e_conv E σ k x
 | .fieldA off p => e_fieldA E σ off p
 | .field off n x => e_field E σ off n x
 | .idxA sz x i => e_idxA E σ sz x i
 | .idxR len sz x i => e_idxR E σ len sz x i
 | .nilc x => e_nilc E σ x
 | .idxS x i => e_idxS E σ x i
 | .build zero parts => e_build E σ zero parts
 | .bslice sz rows => e_bslice E σ sz rows
 | .mkslice e sz bytes zero l => e_mkslice E σ e sz bytes zero l
 | .slc sz x lo hi mx => e_slc E σ sz x lo hi mx
 | .slcS x lo hi => e_slcS E σ x lo hi
 | .ext x i => e_ext E σ x i
 | .len x => e_len E σ x
 | .lenS x => e_lenS E σ x
 | .mm mx x y => e_mm E σ mx x y
 | .snil neg x => e_snil E σ neg x
 | .fnil neg x => e_fnil E σ neg x
 | .app e sz bytes x y => e_app E σ e sz bytes x y
 | .mkfn f caps => e_mkfn E σ f caps
 | .call g z f args => e_call E σ g z f args
 | .bsliceF sz rows => e_bsliceF E σ sz rows
 | .mkmap kt n => e_mkmap E σ kt n
 | .mget kt n zero ok m k => e_mget E σ kt n zero ok m k
 | .mput kt n m k v => e_mput E σ kt n m k v
 | _ => none
theorem nilW_any {rows : List (List PC)} {A B : Blk Prop} (h : (rows.any fun r => !r.isEmpty) = true) (hb : B.out) : @nilW rows A B := by
 refine ⟨fun h0 => ?_, hb⟩
 obtain ⟨r, hr, e⟩ := List.any_eq_true.1 h
 rw [h0 r hr] at e
 cases e
section
variable {P : Program} {E : EnvE} (hP : ∀ g f as r, E.p g f as = some r → PCalls P f as r) (hI : ∀ f as m n r m' n', E.i f as m n = some (r, m', n') → ICalls P f as m n r m' n')
include hP hI
theorem opE_sound {o : AOp} {σ σ' : St} {v : AV} {K : AV → St → Prop} (h : opE E o σ = some (v, σ')) (hk : K v σ') : opW P o σ K := by
 cases o <;> simp only [opE, e_mv, e_pick, e_box, e_load, e_store, e_bin, e_eqb, e_eqs, e_un, e_conv, e_fieldA, e_field, e_idxA, e_idxR, e_nilc, e_fnil, e_idxS, e_build, e_bslice, e_mkslice, e_slc, e_slcS, e_ext, e_len, e_lenS, e_mm, e_snil, e_app, e_mkfn, e_call, e_bsliceF, e_mkmap, e_mget, e_mput, evE_eq, findE_eq, setE_eq, loadE_eq, rowsE_eq, wrapE_eq] at h <;> simp only [opW]
 case mv x => cases h; exact hk
 case pick c a b =>
  split at h
  ·rename_i e
   cases h
   rw [e]
   exact ⟨fun _ => hk, fun e => by cases e⟩
  ·rename_i e
   cases h
   rw [e]
   exact ⟨(fun e => by cases e), fun _ => hk⟩
  ·cases h
 case box x => split at h <;> cases h; rename_i e; rw [e]; exact hk
 case load n p =>
  split at h
  ·rename_i q e
   rw [e]
   dsimp only
   split at h
   ·rename_i xs e2
    rw [e2]
    dsimp only
    split at h
    ·split at h <;> cases h
     exact hk
    ·replace h := chk_some.1 h; obtain ⟨h1, h⟩ := h
     cases h
     exact ⟨of_decide_eq_true h1, hk⟩
   ·cases h
  ·cases h
 case store n p w =>
  split at h
  ·rename_i ys e
   rw [e]
   split at h
   ·rename_i nm off e2
    rw [e2]
    dsimp only
    split at h
    ·rename_i xs e3
     rw [e3]
     replace h := chk_some.1 h; obtain ⟨h1, h⟩ := h
     simp only [Bool.and_eq_true, decide_eq_true_iff] at h1
     cases h
     exact ⟨h1, hk⟩
    ·cases h
   ·rename_i nm sz row off e2
    rw [e2]
    dsimp only
    split at h
    ·rename_i e0 sz' rows e3
     rw [e3]
     replace h := chk_some.1 h; obtain ⟨h1, h⟩ := h
     simp only [Bool.and_eq_true, decide_eq_true_iff] at h1
     split at h
     ·rename_i zs r e4 e5
      cases h
      exact ⟨⟨h1.1.1, h1.1.2, h1.2⟩, zs, e4, r, e5, hk⟩
     ·cases h
    ·cases h
   ·cases h
  ·cases h
 case bin op x y =>
  split at h
  ·rename_i a b e1 e2
   rw [e1, e2]
   dsimp only
   split at h
   ·rename_i r e
    cases h
    cases op
    case shl => exact shiE_sound e hk
    case shr => exact shiE_sound e hk
    all_goals exact binE_sound e hk
   ·cases h
  ·cases h
 case eqb neg x y => split at h <;> cases h; rename_i e1 e2; rw [e1, e2]; exact hk
 case eqs neg l x y =>
  split at h
  ·rename_i e1 e2
   rw [e1, e2]
   replace h := chk_some.1 h; obtain ⟨h1, h⟩ := h
   cases h
   refine ⟨eqOkB_ok h1, ?_⟩
   show K _ _
   rw [eqPB_dec]
   exact hk
  ·cases h
 case un op x => split at h <;> cases h <;> (rename_i e; rw [e]; exact hk)
 case conv k x => split at h <;> cases h; rename_i e; rw [e]; exact hk
 case fieldA off p => split at h <;> cases h <;> (rename_i e; rw [e]; exact hk)
 case field off n x =>
  split at h
  ·rename_i xs e
   rw [e]
   dsimp only
   split at h
   ·split at h <;> cases h
    rename_i e2
    dsimp only
    rw [e2]
    exact hk
   ·replace h := chk_some.1 h; obtain ⟨h1, h⟩ := h
    cases h
    exact ⟨of_decide_eq_true h1, hk⟩
  ·cases h
 case idxA sz x i =>
  split at h
  ·rename_i e1
   rw [e1]
   split at h
   ·rename_i rows e2
    rw [e2]
    split at h
    ·rename_i r e3
     replace h := chk_some.1 h; obtain ⟨h1, h⟩ := h
     simp only [Bool.and_eq_true, decide_eq_true_iff] at h1
     cases h
     exact ⟨h1.1.1, r, e3, ⟨h1.1.2, h1.2⟩, hk⟩
    ·cases h
   ·rename_i rows e2
    rw [e2]
    split at h
    ·rename_i r e3
     replace h := chk_some.1 h; obtain ⟨h1, h⟩ := h
     simp only [Bool.and_eq_true, decide_eq_true_iff] at h1
     cases h
     exact ⟨h1.1.1, r, e3, ⟨h1.1.2, h1.2⟩, hk⟩
    ·cases h
   ·rename_i nm e2
    rw [e2]
    dsimp only
    split at h
    ·rename_i e3
     rw [e3]
     replace h := chk_some.1 h; obtain ⟨h1, h⟩ := h
     simp only [Bool.and_eq_true, decide_eq_true_iff] at h1
     cases h
     exact ⟨⟨h1.1.1.1, h1.1.1.2, h1.1.2, h1.2⟩, hk⟩
    ·cases h
   ·cases h
  ·cases h
 case idxR len sz x i =>
  split at h
  ·rename_i e1 e2
   rw [e1, e2]
   replace h := chk_some.1 h; obtain ⟨h1, h⟩ := h
   simp only [Bool.and_eq_true, decide_eq_true_iff] at h1
   cases h
   exact ⟨h1, hk⟩
  ·rename_i e1 e2
   rw [e1, e2]
   replace h := chk_some.1 h; obtain ⟨h1, h⟩ := h
   simp only [Bool.and_eq_true, decide_eq_true_iff] at h1
   cases h
   exact ⟨h1, hk⟩
  ·cases h
 case nilc x => split at h <;> cases h <;> (rename_i e; rw [e]; exact hk)
 case idxS x i =>
  split at h
  ·rename_i e1 e2
   rw [e1, e2]
   split at h
   ·rename_i b e3
    replace h := chk_some.1 h; obtain ⟨h1, h⟩ := h
    cases h
    exact ⟨of_decide_eq_true h1, b, e3, hk⟩
   ·cases h
  ·cases h
 case build z ps => split at h <;> cases h; rename_i e; exact buildE_sound e hk
 case bslice sz rows => split at h <;> cases h; rename_i e; exact bslE_sound e hk
 case mkslice e0 sz bytes z l =>
  split at h
  ·rename_i e
   rw [e]
   replace h := chk_some.1 h; obtain ⟨h1, h⟩ := h
   simp only [Bool.and_eq_true, decide_eq_true_iff] at h1
   cases h
   exact ⟨⟨h1.1.1, h1.1.2, h1.2⟩, hk⟩
  ·cases h
 case slc sz x lo hi mx =>
  split at h
  ·cases h
  ·rename_i hn
   split at h
   ·rename_i rows l1 h1 m1 e1 e2 e3 e4
    replace h := chk_some.1 h; obtain ⟨hc, h⟩ := h
    simp only [Bool.and_eq_true, decide_eq_true_iff] at hc
    cases h
    split
    ·rename_i nm e
     exact absurd e (hn nm)
    ·exact ⟨rows, e1, l1, e2, h1, e3, m1, e4, ⟨rowsB_ok hc.1.1.1.1, hc.1.1.1.2, hc.1.1.2, hc.1.2, hc.2⟩, hk⟩
   ·cases h
 case slcS x lo hi =>
  split at h
  ·rename_i e1 e2 e3
   rw [e1, e2, e3]
   replace h := chk_some.1 h; obtain ⟨h1, h⟩ := h
   simp only [Bool.and_eq_true, decide_eq_true_iff] at h1
   cases h
   exact ⟨⟨h1.1.1, h1.1.2, h1.2⟩, hk⟩
  ·cases h
 case ext x i =>
  split at h
  ·rename_i e
   rw [e]
   split at h
   ·rename_i v' e2
    cases h
    exact ⟨_, e2, hk⟩
   ·cases h
  ·cases h
 case len x =>
  split at h
  ·rename_i e; cases h; rw [e]; exact hk
  ·rename_i e; cases h; rw [e]; exact hk
  ·rename_i e; cases h; rw [e]; exact hk
  ·rename_i e
   rw [e]
   dsimp only
   split at h <;> cases h
   rename_i e2
   rw [e2]
   exact hk
  ·cases h
 case lenS x => split at h <;> cases h; rename_i e; rw [e]; exact hk
 case mm mx x y => split at h <;> cases h; rename_i e1 e2; rw [e1, e2]; exact hk
 case mm4 => cases h
 case ment => cases h
 case eput => cases h
 case dead => cases h
 case fnil => split at h <;> cases h <;> (rename_i e; rw [e]; exact hk)
 case snil neg x =>
  split at h
  ·rename_i e; cases h; rw [e]; exact hk
  ·rename_i e
   replace h := chk_some.1 h; obtain ⟨h1, h⟩ := h
   cases h; rw [e]; exact nilW_any h1 hk
  ·rename_i e
   replace h := chk_some.1 h; obtain ⟨h1, h⟩ := h
   cases h; rw [e]; exact nilW_any h1 hk
  ·rename_i e
   rw [e]
   dsimp only
   split at h
   ·rename_i e2
    replace h := chk_some.1 h; obtain ⟨h1, h⟩ := h
    cases h; rw [e2]; exact nilW_any h1 hk
   ·cases h
  ·cases h
 case app e0 sz bytes x y =>
  split at h
  ·rename_i ys e
   exact ⟨ys, e, appE_sound h hk⟩
  ·cases h
 case mkfn f caps => split at h <;> cases h; rename_i e; exact mkfnE_sound e hk
 case call g z f args =>
  split at h
  ·rename_i f caps e
   rw [e]
   exact callE_sound hP hI h hk
  ·cases h
 case bsliceF sz rows => split at h <;> cases h; rename_i e; exact bslFE_sound e hk
 case mkmap kt n => cases h; exact hk
 case mget kt n z ok m k =>
  split at h
  ·rename_i e
   rw [e]
   split at h
   ·rename_i mk e1
    refine ⟨mk, e1, ?_⟩
    dsimp only
    split at h
    ·rename_i nm e2
     rw [e2]
     dsimp only
     split at h
     ·rename_i kt' n' ents e3
      rw [e3]
      replace h := chk_some.1 h; obtain ⟨h1, h⟩ := h
      simp only [Bool.and_eq_true, decide_eq_true_iff] at h1
      refine ⟨⟨ktB_eq h1.1, h1.2⟩, ?_⟩
      dsimp only
      split at h
      ·rename_i ps e4
       cases h
       rw [e4]
       exact caseW_intro (fun x e => by cases e; exact hk) (fun e => by cases e)
      ·rename_i e4
       cases h
       rw [e4]
       exact caseW_intro (fun x e => by cases e) (fun _ => hk)
     ·cases h
    ·rename_i kt' n' es e2
     rw [e2]
     replace h := chk_some.1 h; obtain ⟨h1, h⟩ := h
     simp only [Bool.and_eq_true, decide_eq_true_iff] at h1
     refine ⟨⟨ktB_eq h1.1, h1.2⟩, ?_⟩
     dsimp only
     split at h
     ·rename_i ps e4
      cases h
      rw [e4]
      exact caseW_intro (fun x e => by cases e; exact hk) (fun e => by cases e)
     ·rename_i e4
      cases h
      rw [e4]
      exact caseW_intro (fun x e => by cases e) (fun _ => hk)
    ·cases h
   ·cases h
  ·cases h
 case mput kt n m k w =>
  split at h
  ·rename_i e
   rw [e]
   split at h
   ·rename_i mk e1
    refine ⟨mk, e1, ?_⟩
    dsimp only
    split at h
    ·rename_i nm e2
     rw [e2]
     split at h
     ·rename_i ys e3
      refine ⟨ys, e3, ?_⟩
      dsimp only
      split at h
      ·rename_i kt' n' ents e4
       rw [e4]
       replace h := chk_some.1 h; obtain ⟨h1, h⟩ := h
       simp only [Bool.and_eq_true, decide_eq_true_iff] at h1
       cases h
       exact ⟨⟨ktB_eq h1.1, h1.2⟩, hk⟩
      ·cases h
     ·cases h
    ·cases h
   ·cases h
  ·cases h

end
noncomputable def keepB (σ : St) : AOp → Bool
 | .box _ | .mkslice .. | .mkmap .. => true
 |.app _ _ _ x _ => match evE σ.fr x with
  | .c (.ref _) => false
  | _ => true
 | _ => false
def noneB : Option Box → Bool
 | none => true
 | some _ => false
theorem keepB_ext {E : EnvE} {o : AOp} {σ σ' : St} {v : AV} (h : opE E o σ = some (v, σ')) (hk : keepB σ o = true) (hn : noneB (findB σ.mem σ.nx) = true) : extC σ.mem σ'.mem := by
 have hn : findB σ.mem σ.nx = none := by cases e : findB σ.mem σ.nx with | none => rfl | some b => rw [e] at hn; cases hn
 cases o <;> simp only [keepB, evE_eq, reduceCtorEq, Bool.false_eq_true] at hk
 case box x => simp only [opE, e_box, e_mkslice, e_mkmap, e_app, evE_eq, findE_eq, rowsE_eq] at h; split at h <;> cases h; exact .inr ⟨_, _, rfl, hn⟩
 case mkslice e0 sz bytes z l =>
  simp only [opE, e_box, e_mkslice, e_mkmap, e_app, evE_eq, findE_eq, rowsE_eq] at h
  split at h
  ·replace h := chk_some.1 h; obtain ⟨h1, h⟩ := h
   cases h
   exact .inr ⟨_, _, rfl, hn⟩
  ·cases h
 case mkmap kt n => simp only [opE, e_box, e_mkslice, e_mkmap, e_app, evE_eq, findE_eq, rowsE_eq] at h; cases h; exact .inr ⟨_, _, rfl, hn⟩
 case app e0 sz bytes x y =>
  simp only [opE, e_box, e_mkslice, e_mkmap, e_app, evE_eq, findE_eq, rowsE_eq] at h
  split at h
  ·unfold appE at h
   simp only [findE_eq, delE_eq] at h
   replace h := chk_some.1 h; obtain ⟨h0, h⟩ := h
   split at h
   ·rename_i e; rw [e] at hk; cases hk
   ·replace h := chk_some.1 h; obtain ⟨h1, h⟩ := h
    cases h
    exact .inr ⟨_, _, rfl, hn⟩
   ·split at h
    ·replace h := chk_some.1 h; obtain ⟨h1, h⟩ := h
     cases h
     exact .inl rfl
    ·replace h := chk_some.1 h; obtain ⟨h1, h⟩ := h
     cases h
     exact .inr ⟨_, _, rfl, hn⟩
   ·cases h
  ·cases h
noncomputable def guardE (σ : St) (g : AG) : Option Bool := match g.guard with
 | none => some true
 |some (t, want) => match lookE σ.fr t with
  | .c (.pure (.val (.bool b))) => some (b == want)
  | .tup [] => some false
  | _ => none
noncomputable def opsE (E : EnvE) (gs : List AG) : St → Option St := List.rec (motive := fun _ => St → Option St) (fun σ => some σ) (fun g _ ih σ => match guardE σ g with
  |some true => match opE E g.op σ with
   | some (v, σ') => ih (σ'.put g.dst v)
   | none => none
  | some false => ih (σ.put g.dst (.tup []))
  | none => none) gs
theorem opsE_cons {E : EnvE} {g : AG} {r : List AG} {σ : St} : opsE E (g :: r) σ = match guardE σ g with
  |some true => match opE E g.op σ with
   | some (v, σ') => opsE E r (σ'.put g.dst v)
   | none => none
  | some false => opsE E r (σ.put g.dst (.tup []))
  | none => none := rfl
noncomputable def opsXE (E : EnvE) (gs : List (Bool × AG)) : St → Option St := List.rec (motive := fun _ => St → Option St) (fun σ => some σ) (fun x _ ih σ => match guardE σ x.2 with
  |some true => match opE E x.2.op σ with
   | some (v, σ') => chk (!x.1 || (keepB σ x.2.op && noneB (findB σ.mem σ.nx))) (ih (σ'.put x.2.dst v))
   | none => none
  | some false => ih (σ.put x.2.dst (.tup []))
  | none => none) gs
theorem opsXE_cons {E : EnvE} {x : Bool} {g : AG} {r : List (Bool × AG)} {σ : St} : opsXE E ((x, g) :: r) σ = match guardE σ g with
  |some true => match opE E g.op σ with
   | some (v, σ') => chk (!x || (keepB σ g.op && noneB (findB σ.mem σ.nx))) (opsXE E r (σ'.put g.dst v))
   | none => none
  | some false => opsXE E r (σ.put g.dst (.tup []))
  | none => none := rfl
section
variable {P : Program} {E : EnvE} (hP : ∀ g f as r, E.p g f as = some r → PCalls P f as r) (hI : ∀ f as m n r m' n', E.i f as m n = some (r, m', n') → ICalls P f as m n r m' n')
include hP hI
theorem opsE_sound : ∀ {gs : List AG} {σ σ' : St} {K : St → Prop}, opsE E gs σ = some σ' → K σ' → opsW P gs σ K
 | [], σ, σ', K, h, hk => by cases h; exact hk
 |g :: r, σ, σ', K, h, hk => by
  rw [opsE_cons] at h
  simp only [guardE, lookE_eq] at h
  unfold opsW
  cases hg : g.guard with
  | none =>
   rw [hg] at h
   dsimp only at h ⊢
   split at h
   ·rename_i v σ1 e
    exact opE_sound hP hI e (opsE_sound h hk)
   ·cases h
  | some tw =>
   obtain ⟨t, want⟩ := tw
   rw [hg] at h
   dsimp only at h ⊢
   split
   ·rename_i b e
    rw [e] at h
    dsimp only at h
    refine ⟨fun e2 => ?_, fun e2 => ?_⟩
    ·rw [e2] at h
     dsimp only at h ⊢
     split at h
     ·rename_i v σ1 e3
      exact opE_sound hP hI e3 (opsE_sound h hk)
     ·cases h
    ·rw [e2] at h
     exact opsE_sound h hk
   ·rename_i e
    rw [e] at h
    exact opsE_sound h hk
   ·rename_i h1 h2
    split at h
    ·rename_i e2
     split at e2
     ·rename_i b e3; exact (h1 b e3).elim
     ·rename_i e3; exact (h2 e3).elim
     ·cases e2
    ·rename_i e2
     split at e2
     ·rename_i b e3; exact (h1 b e3).elim
     ·rename_i e3; exact (h2 e3).elim
     ·cases e2
    ·cases h
theorem opsXE_sound : ∀ {gs : List (Bool × AG)} {σ σ' : St} {K : St → Prop}, opsXE E gs σ = some σ' → K σ' → opsX P gs σ K
 | [], σ, σ', K, h, hk => by cases h; exact hk
 |(x, g) :: r, σ, σ', K, h, hk => by
  have one : ∀ {v σ1}, opE E g.op σ = some (v, σ1) → chk (!x || (keepB σ g.op && noneB (findB σ.mem σ.nx))) (opsXE E r (σ1.put g.dst v)) = some σ' → opW P g.op σ fun v σ' => andW (x = true → extC σ.mem σ'.mem) (K := ⟨opsX P r (σ'.put g.dst v) K⟩) := by
   intro v σ1 e h
   replace h := chk_some.1 h; obtain ⟨h1, h⟩ := h
   refine opE_sound hP hI e ⟨fun hx => ?_, opsXE_sound h hk⟩
   simp only [hx, Bool.not_true, Bool.false_or, Bool.and_eq_true] at h1
   exact keepB_ext e h1.1 h1.2
  rw [opsXE_cons] at h
  simp only [guardE, lookE_eq] at h
  unfold opsX
  cases hg : g.guard with
  | none =>
   rw [hg] at h
   dsimp only at h ⊢
   split at h
   ·rename_i v σ1 e
    exact one e h
   ·cases h
  | some tw =>
   obtain ⟨t, want⟩ := tw
   rw [hg] at h
   dsimp only at h ⊢
   split
   ·rename_i b e
    rw [e] at h
    dsimp only at h
    refine ⟨fun e2 => ?_, fun e2 => ?_⟩
    ·rw [e2] at h
     dsimp only at h ⊢
     split at h
     ·rename_i v σ1 e3
      exact one e3 h
     ·cases h
    ·rw [e2] at h
     exact opsXE_sound h hk
   ·rename_i e
    rw [e] at h
    exact opsXE_sound h hk
   ·rename_i h1 h2
    split at h
    ·rename_i e2
     split at e2
     ·rename_i b e3; exact (h1 b e3).elim
     ·rename_i e3; exact (h2 e3).elim
     ·cases e2
    ·rename_i e2
     split at e2
     ·rename_i b e3; exact (h1 b e3).elim
     ·rename_i e3; exact (h2 e3).elim
     ·cases e2
    ·cases h
end

noncomputable def hasF (t : Nat) (l : List (Nat × AV)) : Bool := List.rec (motive := fun _ => Bool) false (fun x _ ih => Bool.rec ih true (Nat.beq x.1 t)) l
theorem hasF_cons {t k : Nat} {v : AV} {r : List (Nat × AV)} : hasF t ((k, v) :: r) = Bool.rec (hasF t r) true (Nat.beq k t) := rfl
theorem hasF_nil {t : Nat} : hasF t [] = false := rfl
noncomputable def normF (acc l : List (Nat × AV)) : List (Nat × AV) := List.rec (motive := fun _ => List (Nat × AV) → List (Nat × AV)) (fun acc => acc) (fun x _ ih acc => Bool.rec (ih (acc ++ [x])) (ih acc) (hasF x.1 acc)) l acc
theorem normF_cons {acc r : List (Nat × AV)} {x : Nat × AV} : normF acc (x :: r) = Bool.rec (normF (acc ++ [x]) r) (normF acc r) (hasF x.1 acc) := rfl
theorem look_app {t : Nat} {b : List (Nat × AV)} : ∀ {a : List (Nat × AV)}, look (a ++ b) t = if hasF t a = true then look a t else look b t
 | [] => by simp [hasF_nil]
 |(k, v) :: a => by
  simp only [List.cons_append, look, hasF_cons, beqN]
  by_cases e : k = t
  ·simp [e]
  ·simp only [e, if_false, decide_false]
   exact look_app
theorem normF_look {t : Nat} : ∀ {l acc : List (Nat × AV)}, look (normF acc l) t = look (acc ++ l) t
 | [], acc => by rw [List.append_nil]; rfl
 |(k, v) :: r, acc => by
  rw [normF_cons]
  cases h : hasF k acc
  ·show look (normF (acc ++ [(k, v)]) r) t = _
   rw [normF_look]
   simp
  ·show look (normF acc r) t = _
   rw [normF_look, look_app, look_app]
   by_cases e : hasF t acc = true
   ·simp [e]
   ·have hne : ¬ k = t := fun e2 => e (e2 ▸ h)
    simp [e, look, hne]
section
variable {P : Program} {nt : Nat} {σ : St} {Q : AExit → St → Prop}
theorem AW_fr {c : ACode} {fr : List (Nat × AV)} (h : ∀ t, look fr t = look σ.fr t) (hA : AW P nt c { σ with fr := fr } Q) : AW P nt c σ Q :=
 fun c' hc w0 U rd ds ι a w hr hs hz => hA c' hc w0 U rd ds ι a w hr ⟨fun t => by rw [h]; exact hs.val t, hs.defers, hs.names, hs.box, hs.apart, hs.below, hs.keep, hs.base⟩ hz
noncomputable def iterE (f : St → Option (AExit × St)) : Nat → St → Option (AExit × St)
 | 0, _ => none
 |n + 1, σ => match f { σ with fr := normF [] σ.fr } with
  | some (.normal, σ') => iterE f n σ'
  | r => r
theorem AW_iter {f : St → Option (AExit × St)} {x : ACode} (hf : ∀ σ e σ' (Q : AExit → St → Prop), f σ = some (e, σ') → Q e σ' → AW P nt x σ Q) {n : Nat} {e : AExit} {σ' : St} (h : iterE f n σ = some (e, σ')) (hk : Q e σ') : AW P nt (.loop x) σ Q := by
 intro c' hc w0 U rd ds ι a w hrd hs hz
 cases c' <;> simp [compC] at hc
 all_goals (try (split at hc <;> simp at hc))
 rename_i c1
 refine wpIn_loop_rounds n ?_
 have key : ∀ n σ U1 ds1 ι a w, Ext w0.heap.size rd U ds U1 ds1 → iterE f n σ = some (e, σ') → Sim w0 U1 σ ι a w → a.tmps.size = nt → Code.roundsIn (FR rd) 0 P c1 (Post w0 U rd ds nt Q) n (sh ds1 a) w := by
  intro n
  induction n with
  | zero => intro σ U1 ds1 ι a w hx h; cases h
  | succ n ih =>
   intro σ U1 ds1 ι a w hx h hs hz
   rw [roundsIn_succ]
   unfold iterE at h
   cases hr : f { σ with fr := normF [] σ.fr } with
   | none => rw [hr] at h; cases h
   | some r =>
    obtain ⟨e1, σ1⟩ := r
    rw [hr] at h
    refine wpIn_mono (AW_fr (fr := normF [] σ.fr) (fun t => normF_look) (hf _ _ _ (fun e σ => e = e1 ∧ σ = σ1) hr ⟨rfl, rfl⟩) _ hc w0 U1 rd ds1 ι a w (hrd.ext hx) hs hz) ?_
    rintro e a1 w1 ⟨e', σ', ι', U', ds', a0, rfl, ⟨rfl, rfl⟩, hs', hz', rfl, hx'⟩
    cases e' with
    | normal => exact ih _ _ _ _ a0 w1 (hx.trans hx') h hs' hz'
    | exit i => cases h; exact ⟨.exit i, _, ι', U', ds', a0, rfl, hk, hs', hz', rfl, hx.trans hx'⟩
    | ret => cases h; exact ⟨.ret, _, ι', U', ds', a0, rfl, hk, hs', hz', rfl, hx.trans hx'⟩
 exact key _ _ _ _ _ a w .refl h hs hz
end
def all2B {α : Type} (f : α → α → Bool) : List α → List α → Bool
 | [], [] => true
 | x :: xs, y :: ys => f x y && all2B f xs ys
 | _, _ => false
theorem all2B_eq {α : Type} {f : α → α → Bool} (h : ∀ x y, f x y = true → x = y) : ∀ {l m : List α}, all2B f l m = true → l = m
 | [], [], _ => rfl
 | [], _ :: _, e => by cases e
 | _ :: _, [], e => by cases e
 |x :: xs, y :: ys, e => by
  simp only [all2B, Bool.and_eq_true] at e
  rw [h _ _ e.1, all2B_eq h e.2]
def valB : Value → Value → Bool
 | .int k a, .int l b => decide (k = l) && decide (a = b)
 | .bool a, .bool b => a == b
 | .string a, .string b => bytesB a b
 | .nilFunc, .nilFunc => true
 | _, _ => false
theorem valB_eq : ∀ {x y : Value}, valB x y = true → x = y := by
 intro x y h
 unfold valB at h
 split at h
 ·simp only [Bool.and_eq_true, decide_eq_true_iff] at h; rw [h.1, h.2]
 ·rw [eq_of_beq h]
 ·rename_i a b
  obtain ⟨⟨a⟩⟩ := a
  obtain ⟨⟨b⟩⟩ := b
  have h := eqU_iff.1 h
  simp only at h
  rw [h]
 ·rfl
 ·cases h
def pcB : Nat → PC → PC → Bool
 | _ + 1, .val a, .val b => valB a b
 | n + 1, .slice r, .slice s => all2B (all2B (pcB n)) r s
 | _, _, _ => false
theorem pcB_eq : ∀ {n : Nat} {x y : PC}, pcB n x y = true → x = y
 | 0, x, y, h => by unfold pcB at h; cases h
 |n + 1, x, y, h => by
  unfold pcB at h
  split at h
  ·rw [valB_eq h]
  ·rw [all2B_eq (fun _ _ h => all2B_eq (fun _ _ h => pcB_eq h) h) h]
  ·cases h
def acB (d : Nat) : Nat → AC → AC → Bool
 | _ + 1, .pure a, .pure b => pcB d a b
 | _ + 1, .nils, .nils => true
 | _ + 1, .top, .top => true
 | _ + 1, .tsl r, .tsl s => all2B (all2B (pcB d)) r s
 | _ + 1, .cptr r, .cptr s => all2B (pcB d) r s
 | _ + 1, .ptr a b, .ptr a' b' => decide (a = a') && decide (b = b')
 | _ + 1, .ref a, .ref b => decide (a = b)
 | _ + 1, .mref a, .mref b => decide (a = b)
 | _ + 1, .eptr a b c e, .eptr a' b' c' e' => decide (a = a') && decide (b = b') && decide (c = c') && decide (e = e')
 | n + 1, .clo f r, .clo g s => decide (f = g) && all2B (acB d n) r s
 | _, _, _ => false
theorem acB_eq {d : Nat} : ∀ {n : Nat} {x y : AC}, acB d n x y = true → x = y
 | 0, x, y, h => by unfold acB at h; cases h
 |n + 1, x, y, h => by
  unfold acB at h
  split at h
  ·rw [pcB_eq h]
  ·rfl
  ·rfl
  ·rw [all2B_eq (fun _ _ h => all2B_eq (fun _ _ h => pcB_eq h) h) h]
  ·rw [all2B_eq (fun _ _ h => pcB_eq h) h]
  ·simp only [Bool.and_eq_true, decide_eq_true_iff] at h; rw [h.1, h.2]
  ·rw [of_decide_eq_true h]
  ·rw [of_decide_eq_true h]
  ·simp only [Bool.and_eq_true, decide_eq_true_iff] at h; rw [h.1.1.1, h.1.1.2, h.1.2, h.2]
  ·simp only [Bool.and_eq_true, decide_eq_true_iff] at h; rw [h.1, all2B_eq (fun _ _ h => acB_eq h) h.2]
  ·cases h
def avB : Nat → AV → AV → Bool
 | _ + 1, .c a, .c b => acB 12 4 a b
 | _ + 1, .agg r, .agg s => all2B (acB 12 4) r s
 | n + 1, .tup r, .tup s => all2B (avB n) r s
 | _ + 1, .top, .top => true
 | _, _, _ => false
theorem avB_eq : ∀ {n : Nat} {x y : AV}, avB n x y = true → x = y
 | 0, x, y, h => by unfold avB at h; cases h
 |n + 1, x, y, h => by
  unfold avB at h
  split at h
  ·rw [acB_eq h]
  ·rw [all2B_eq (fun _ _ h => acB_eq h) h]
  ·rw [all2B_eq (fun _ _ h => avB_eq h) h]
  ·rfl
  ·cases h
def boxB : Nat × Box → Nat × Box → Bool
 | (a, .var xs), (b, .var ys) => decide (a = b) && all2B (acB 12 4) xs ys
 | (a, .arr e s xs), (b, .arr e' s' ys) => decide (a = b) && decide (e = e') && decide (s = s') && all2B (all2B (pcB 12)) xs ys
 | (a, .map k n xs), (b, .map k' n' ys) => decide (a = b) && ktB k k' && decide (n = n') && all2B (fun x y => decide (x.1 = y.1) && all2B (acB 12 4) x.2 y.2) xs ys
 | _, _ => false
theorem boxB_eq : ∀ (x y : Nat × Box), boxB x y = true → x = y := by
 rintro ⟨a, x⟩ ⟨b, y⟩ h
 unfold boxB at h
 split at h
 ·rename_i e1 e2
  cases e1; cases e2
  simp only [Bool.and_eq_true, decide_eq_true_iff] at h; rw [h.1, all2B_eq (fun _ _ h => acB_eq h) h.2]
 ·rename_i e1 e2
  cases e1; cases e2
  simp only [Bool.and_eq_true, decide_eq_true_iff] at h; rw [h.1.1.1, h.1.1.2, h.1.2, all2B_eq (fun _ _ h => all2B_eq (fun _ _ h => pcB_eq h) h) h.2]
 ·rename_i e1 e2
  cases e1; cases e2
  simp only [Bool.and_eq_true, decide_eq_true_iff] at h
  rw [h.1.1.1, ktB_eq h.1.1.2, h.1.2, all2B_eq (fun x y h => by
   simp only [Bool.and_eq_true, decide_eq_true_iff] at h
   exact Prod.ext h.1 (all2B_eq (fun _ _ h => acB_eq h) h.2)) h.2]
 ·cases h
noncomputable def frB (a b : List (Nat × AV)) : Bool := (a.all fun x => avB 4 (lookE a x.1) (lookE b x.1)) && b.all fun x => avB 4 (lookE a x.1) (lookE b x.1)
theorem look_none {t : Nat} : ∀ {a : List (Nat × AV)}, (∀ x ∈ a, x.1 ≠ t) → look a t = .top
 | [], _ => rfl
 |(k, v) :: a, h => by
  rw [look, if_neg (h _ List.mem_cons_self)]
  exact look_none fun x hx => h x (List.mem_cons_of_mem _ hx)
theorem frB_eq {a b : List (Nat × AV)} (h : frB a b = true) (t : Nat) : look a t = look b t := by
 simp only [frB, Bool.and_eq_true, List.all_eq_true, lookE_eq] at h
 by_cases ha : ∃ x ∈ a, x.1 = t
 ·obtain ⟨x, hx, rfl⟩ := ha
  exact avB_eq (h.1 x hx)
 ·by_cases hb : ∃ x ∈ b, x.1 = t
  ·obtain ⟨x, hx, rfl⟩ := hb
   exact avB_eq (h.2 x hx)
  ·rw [look_none fun x hx e => ha ⟨x, hx, e⟩, look_none fun x hx e => hb ⟨x, hx, e⟩]
noncomputable def stB (a b : St) : Bool := frB a.fr b.fr && all2B boxB a.mem b.mem && decide (a.nx = b.nx) && decide (a.base = b.base)
theorem AW_postFr {P : Program} {nt : Nat} {c : ACode} {σ : St} {Q : AExit → St → Prop} (h : AW P nt c σ fun e τ => ∃ fr, (∀ t, look fr t = look τ.fr t) ∧ Q e { τ with fr := fr }) : AW P nt c σ Q :=
 fun c' hc w0 U rd ds ι a w hr hs hz => wpIn_mono (h c' hc w0 U rd ds ι a w hr hs hz) fun e a w ⟨e', σ', ι', U', ds', a0, h1, ⟨fr, h2, h3⟩, h4, h5⟩ =>
  ⟨e', { σ' with fr := fr }, ι', U', ds', a0, h1, h3, ⟨fun t => by rw [h2]; exact h4.val t, h4.defers, h4.names, h4.box, h4.apart, h4.below, h4.keep, h4.base⟩, h5⟩
noncomputable def drawsE (E : EnvE) (σ r : St) : List (List (Bool × AG)) → Bool
 | [] => true
 |gs :: gss => match opsXE E gs σ with
  | some τ => stB r τ && drawsE E σ r gss
  | none => false
theorem drawsE_sound {P : Program} {E : EnvE} (hP : ∀ g f as r, E.p g f as = some r → PCalls P f as r) (hI : ∀ f as m n r m' n', E.i f as m n = some (r, m', n') → ICalls P f as m n r m' n') {σ r : St} {K : St → Prop} (hk : K r) : ∀ {gss : List (List (Bool × AG))}, drawsE E σ r gss = true → drawW P gss σ fun τ => ∃ fr, (∀ t, look fr t = look τ.fr t) ∧ K { τ with fr := fr }
 | [], h => trivial
 |gs :: gss, h => by
  unfold drawsE at h
  have one : ∀ {τ : St}, stB r τ = true → ∃ fr, (∀ t, look fr t = look τ.fr t) ∧ K { τ with fr := fr } := by
   intro τ h
   simp only [stB, Bool.and_eq_true, decide_eq_true_iff] at h
   refine ⟨r.fr, fun t => frB_eq h.1.1.1 t, ?_⟩
   rw [← h.2, ← h.1.2, ← all2B_eq boxB_eq h.1.1.2]
   exact hk
  split at h
  ·rename_i τ e
   simp only [Bool.and_eq_true] at h
   cases gss with
   | nil => exact opsXE_sound hP hI e (one h.1)
   | cons gs' gss => exact ⟨opsXE_sound hP hI e (one h.1), drawsE_sound hP hI hk h.2⟩
  ·cases h
noncomputable def drawE (E : EnvE) (gss : List (List (Bool × AG))) (σ : St) : Option St := match gss with
 | [] => none
 |gs :: r => match opsXE E gs σ with
  | some σ' => chk (drawsE E σ σ' (gs :: r)) (some σ')
  | none => none
def ownN (σ : St) : List Nat := σ.mem.filterMap fun x => match x.2 with
 | .arr .. => if σ.base ≤ x.1 then some x.1 else none
 | _ => none
noncomputable def regE (E : EnvE) (gs : List AG) (σ : St) : Option (AExit × St) := match opsE E gs σ with
 | some σ' => some (.normal, σ')
 |none => match opsE E gs (frzLA (ownN σ) σ []).1 with
  | some σ' => some (.normal, σ')
  | none => none
noncomputable def drwE (E : EnvE) (gss : List (List (Bool × AG))) (σ : St) : Option (AExit × St) := match drawE E gss { σ with fr := normF [] σ.fr } with
 | some σ' => some (.normal, σ')
 |none => match drawE E gss (frzLA (ownN { σ with fr := normF [] σ.fr }) { σ with fr := normF [] σ.fr } []).1 with
  | some σ' => some (.normal, σ')
  | none => none
noncomputable def exC (E : EnvE) (n : Nat) : ACode → St → Option (AExit × St)
 | .skip, σ => some (.normal, σ)
 | .region gs false, σ => regE E gs σ
 | .draw gss, σ => drwE E gss σ
 |.seq a b, σ => match exC E n a σ with
  | some (.normal, σ') => exC E n b σ'
  | r => r
 |.cond c a b, σ => match evE σ.fr c with
  | .c (.pure (.val (.bool true))) => exC E n a σ
  | .c (.pure (.val (.bool false))) => exC E n b σ
  | _ => none
 |.block id a, σ => match exC E n a σ with
  | some (.exit i, σ') => if i = id then some (.normal, σ') else some (.exit i, σ')
  | r => r
 | .loop a, σ => iterE (exC E n a) n σ
 | .exit i, σ => some (.exit i, σ)
 | .ret, σ => some (.ret, σ)
 | _, _ => none
section
variable {P : Program} {E : EnvE} (hP : ∀ g f as r, E.p g f as = some r → PCalls P f as r) (hI : ∀ f as m n r m' n', E.i f as m n = some (r, m', n') → ICalls P f as m n r m' n')
include hP hI
theorem exC_sound {nt n : Nat} : ∀ {c : ACode} {σ σ' : St} {e : AExit} {Q : AExit → St → Prop}, exC E n c σ = some (e, σ') → Q e σ' → AW P nt c σ Q := by
 intro c
 induction c with
 | skip => intro σ σ' e Q h hk; unfold exC at h; cases h; exact AW_skip hk
 | exit i => intro σ σ' e Q h hk; unfold exC at h; cases h; exact AW_exit hk
 | ret => intro σ σ' e Q h hk; unfold exC at h; cases h; exact AW_ret hk
 | rangeF => intro σ σ' e Q h hk; unfold exC at h; cases h
 | region gs d =>
  intro σ σ' e Q h hk
  cases d with
  | true => unfold exC at h; cases h
  | false =>
   unfold exC regE at h
   split at h
   ·rename_i e1
    cases h
    exact AW_region (opsE_sound hP hI e1 hk)
   ·split at h <;> cases h
    rename_i e1
    exact AW_frz (ownN σ) (AW_region (opsE_sound hP hI e1 hk))
 | draw gss =>
  intro σ σ' e Q h hk
  have one : ∀ {τ : St}, drawE E gss τ = some σ' → Q .normal σ' → AW P nt (.draw gss) τ Q := by
   intro τ h hk
   unfold drawE at h
   split at h
   ·cases h
   ·split at h
    ·replace h := chk_some.1 h; obtain ⟨h1, h⟩ := h
     cases h
     exact AW_postFr (AW_draw (drawsE_sound hP hI hk h1))
    ·cases h
  unfold exC drwE at h
  refine AW_fr (fr := normF [] σ.fr) (fun t => normF_look) ?_
  split at h
  ·rename_i e1
   cases h
   exact one e1 hk
  ·split at h <;> cases h
   rename_i e1
   exact AW_frz _ (one e1 hk)
 | seq a b iha ihb =>
  intro σ σ' e Q h hk
  unfold exC at h
  cases hr : exC E n a σ with
  | none => rw [hr] at h; cases h
  | some r =>
   obtain ⟨e1, σ1⟩ := r
   rw [hr] at h
   refine AW_seq (iha hr ?_)
   cases e1 with
   | normal => exact ihb h hk
   | exit i => cases h; exact hk
   | ret => cases h; exact hk
 | cond c a b iha ihb =>
  intro σ σ' e Q h hk
  unfold exC at h
  simp only [evE_eq] at h
  split at h
  ·rename_i e1; exact AW_cond e1 (fun _ => iha h hk) (fun e => by cases e)
  ·rename_i e1; exact AW_cond e1 (fun e => by cases e) (fun _ => ihb h hk)
  ·cases h
 | block id a iha =>
  intro σ σ' e Q h hk
  unfold exC at h
  cases hr : exC E n a σ with
  | none => rw [hr] at h; cases h
  | some r =>
   obtain ⟨e1, σ1⟩ := r
   rw [hr] at h
   refine AW_block (iha hr ?_)
   cases e1 with
   | normal => cases h; exact hk
   | exit i =>
    dsimp only at h
    show if i = id then Q .normal σ1 else Q (.exit i) σ1
    split at h <;> cases h
    ·rw [if_pos ‹_›]; exact hk
    ·rw [if_neg ‹_›]; exact hk
   | ret => cases h; exact hk
 | loop a iha =>
  intro σ σ' e Q h hk
  unfold exC at h
  exact AW_iter (fun σ e σ' Q h1 h2 => iha h1 h2) h hk
end
noncomputable def resOneE (σ : St) : AR → Option AV
 | .t n => some (lookE σ.fr n)
 |.cell n a => match lookE σ.fr a with
  |.c q => match loadE σ.mem q with
   |some xs => match n with
    |none => match xs with
     | x :: _ => some (.c x)
     | [] => none
    | some n => chk (decide (n ≤ xs.length)) (some (.agg (xs.take n)))
   | none => none
  | _ => none
noncomputable def resE (σ : St) : List AR → List AV → Option (List AV)
 | [], acc => some acc
 |r :: rs, acc => match resOneE σ r with
  | some v => resE σ rs (acc ++ [v])
  | none => none
theorem resOneE_sound {σ : St} {r : AR} {v : AV} {K : AV → Prop} (h : resOneE σ r = some v) (hk : K v) : resOne σ r K := by
 cases r with
 | t n => simp only [resOneE, lookE_eq] at h; cases h; exact hk
 | cell n a =>
  simp only [resOneE, lookE_eq, loadE_eq] at h
  simp only [resOne]
  split at h
  ·rename_i q e
   rw [e]
   dsimp only
   split at h
   ·rename_i xs e1
    rw [e1]
    unfold loadW
    dsimp only
    split at h
    ·split at h <;> cases h
     exact hk
    ·replace h := chk_some.1 h; obtain ⟨h1, h⟩ := h
     cases h
     exact ⟨of_decide_eq_true h1, hk⟩
   ·cases h
  ·cases h
theorem resE_sound {σ : St} {K : List AV → Prop} : ∀ {rs : List AR} {acc vs : List AV}, resE σ rs acc = some vs → K vs → resW σ rs acc K
 | [], acc, vs, h, hk => by cases h; exact hk
 |r :: rs, acc, vs, h, hk => by
  unfold resE at h
  split at h
  ·rename_i v e
   exact resOneE_sound (K := fun v => resW σ rs (acc ++ [v]) K) e (resE_sound h hk)
  ·cases h
noncomputable def endE (σ : St) (rs : List AR) : AExit → Option (List AV)
 | .exit _ => none
 | _ => resE σ rs []
noncomputable def runI (P : Program) (E : EnvE) (L : Nat) : FImp := fun f args mem nx => match tabOf P f with
 |some (nt, c, rs) => chk (decide (args.length ≤ nt)) (match exC E L c ⟨argsFr args 0, mem, nx, nx⟩ with
  |some (e, σ) => match endE σ rs e with
   | some vs => chk (decide (σ.base = nx)) (some (packV vs, σ.mem, σ.nx))
   | none => none
  | none => none)
 | none => none
noncomputable def runP (P : Program) (E : EnvE) (L : Nat) (f : FuncId) (args : List AV) : Option AV := match tabOf P f with
 |some (nt, c, rs) => chk (decide (args.length ≤ nt)) (match exC E L c ⟨argsFr args 0, [], 0, 0⟩ with
  |some (e, σ) => match endE σ rs e with
   | some vs => purR σ.mem (packV vs)
   | none => none
  | none => none)
 | none => none
noncomputable def evT (P : Program) (O : FuncId → List AV → Option AV) (nz : FuncId → Bool) (L : Nat) : Nat → EnvE
 | 0 => ⟨fun _ f as => O f as, fun _ _ _ _ => none, nz⟩
 | d + 1 => ⟨fun g f as => match O f as with
   | some r => some r
   |none => match g with
    | true => none
    | false => runP P (evT P O nz L d) L f as, runI P (evT P O nz L d) L, nz⟩
theorem evT_sound {P : Program} {O : FuncId → List AV → Option AV} {nz : FuncId → Bool} {L : Nat} (hO : ∀ f as r, O f as = some r → PCalls P f as r) : ∀ d, (∀ g f as r, (evT P O nz L d).p g f as = some r → PCalls P f as r) ∧ ∀ f as m n r m' n', (evT P O nz L d).i f as m n = some (r, m', n') → ICalls P f as m n r m' n'
 | 0 => ⟨fun _ f as r h => hO f as r h, fun _ _ _ _ _ _ _ h => by cases h⟩
 |d + 1 => by
  obtain ⟨hP, hI⟩ := evT_sound (nz := nz) (L := L) hO d
  refine ⟨fun g f as r h => ?_, fun f as m n r m' n' h => ?_⟩
  ·unfold evT at h
   dsimp only at h
   split at h
   ·rename_i r' e
    cases h
    exact hO _ _ _ e
   ·split at h
    ·cases h
    ·unfold runP at h
     split at h
     ·rename_i nt c rs e1
      replace h := chk_some.1 h; obtain ⟨h1, h⟩ := h
      split at h
      ·rename_i e σ e2
       split at h
       ·rename_i vs e3
        refine PCalls.of (tabOf_is e1) (of_decide_eq_true h1) fun _ => exC_sound hP hI e2 ?_
        cases e with
        | exit i => cases e3
        | normal => exact resE_sound e3 h
        | ret => exact resE_sound e3 h
       ·cases h
      ·cases h
     ·cases h
  ·unfold evT at h
   dsimp only at h
   unfold runI at h
   split at h
   ·rename_i nt c rs e1
    replace h := chk_some.1 h; obtain ⟨h1, h⟩ := h
    split at h
    ·rename_i e σ e2
     split at h
     ·rename_i vs e3
      replace h := chk_some.1 h; obtain ⟨h4, h⟩ := h
      cases h
      refine ICalls.of (tabOf_is e1) (of_decide_eq_true h1) fun _ => exC_sound hP hI e2 ?_
      cases e with
      | exit i => cases e3
      | normal => exact resE_sound e3 ⟨rfl, rfl, rfl, of_decide_eq_true h4⟩
      | ret => exact resE_sound e3 ⟨rfl, rfl, rfl, of_decide_eq_true h4⟩
     ·cases h
    ·cases h
   ·cases h
theorem PCalls.run {P : Program} (O : FuncId → List AV → Option AV) (nz : FuncId → Bool) (L d : Nat) {f : FuncId} {args : List AV} {res : AV} (hO : ∀ f as r, O f as = some r → PCalls P f as r) (h : (evT P O nz L d).p false f args = some res) : PCalls P f args res :=
 (evT_sound hO d).1 _ _ _ _ h
end Go.Abs
