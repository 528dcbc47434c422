/- The abstract machine: a walk that simp takes by itself. -/
import Derived.Test.YtcbnnjadgkgheaaAbs18
set_option linter.unusedVariables false
set_option linter.unusedSimpArgs false
namespace Go.Abs
open Go.RowKit

/-- The walk, where simp leaves it. -/
def AWb (P : Program) (nt : Nat) (c : ACode) (σ : St) [Q : Blk (AExit → St → Prop)] : Prop := AW P nt c σ Q.out
/-- The walk, as far as it goes by itself. -/
def runW (P : Program) (nt : Nat) : ACode → St → (AExit → St → Prop) → Prop
  | .skip, σ, Q => Q .normal σ
  | .region gs false, σ, Q => opsW P gs σ (Q .normal)
  | .region gs true, σ, Q => AWb P nt (.region gs true) σ (Q := ⟨Q⟩)
  | .seq a b, σ, Q => runW P nt a σ fun
    | .normal, σ => runW P nt b σ Q
    | .exit i, σ => Q (.exit i) σ
    | .ret, σ => Q .ret σ
  | .cond c a b, σ, Q => match c.ev σ.fr with
    | .c (.pure (.val (.bool t))) => condW t (A := ⟨runW P nt a σ Q⟩) (B := ⟨runW P nt b σ Q⟩)
    | _ => False
  | .block id a, σ, Q => runW P nt a σ fun
    | .normal, σ => Q .normal σ
    | .exit i, σ => if i = id then Q .normal σ else Q (.exit i) σ
    | .ret, σ => Q .ret σ
  | .loop a, σ, Q => AWb P nt (.loop a) σ (Q := ⟨Q⟩)
  | .exit i, σ, Q => Q (.exit i) σ
  | .ret, σ, Q => Q .ret σ

theorem runW_sound {P : Program} {nt : Nat} : ∀ {c : ACode} {σ : St} {Q : AExit → St → Prop}, runW P nt c σ Q → AW P nt c σ Q
  | .skip, σ, Q, h => AW_skip h
  | .region gs false, σ, Q, h => AW_region h
  | .region gs true, σ, Q, h => h
  | .seq a b, σ, Q, h => by
    simp only [runW] at h
    refine AW_seq ((runW_sound (c := a) h).mono ?_)
    intro e σ h
    cases e with
    | normal => exact runW_sound (c := b) h
    | exit i => exact h
    | ret => exact h
  | .cond c a b, σ, Q, h => by
    simp only [runW] at h
    split at h
    · exact AW_cond ‹_› (fun e => runW_sound (c := a) (h.1 e)) (fun e => runW_sound (c := b) (h.2 e))
    · exact h.elim
  | .block id a, σ, Q, h => by
    simp only [runW] at h
    refine AW_block ((runW_sound (c := a) h).mono ?_)
    intro e σ h
    cases e with
    | normal => exact h
    | exit i => exact h
    | ret => exact h
  | .loop a, σ, Q, h => h
  | .exit i, σ, Q, h => AW_exit h
  | .ret, σ, Q, h => AW_ret h

theorem AW_bnd {P : Program} {nt : Nat} {c : ACode} {σ : St} {Q : AExit → St → Prop} (t : Nat) (h : bndV (look σ.fr t) → AW P nt c σ Q) : AW P nt c σ Q :=
  fun c' hc w0 U ι a w hs hz => h (bnd_repV (hs.val t)) c' hc w0 U ι a w hs hz

theorem callW_of {P : Program} {g : Bool} {f : FuncId} {args pargs : List AV} {σ : St} {K : Blk (AV → St → Prop)} {res : AV} (h : PCalls P f pargs res) (hp : purVs σ.mem args = some pargs) (hs : flatV res = true ∨ args.all norefV = true) (hk : K.out res σ) : @callW P g f args σ K :=
  .inl ⟨pargs, hp, res, .inl ⟨h, hs⟩, hk⟩
theorem callW_i {P : Program} {f : FuncId} {args : List AV} {σ : St} {K : Blk (AV → St → Prop)} {res : AV} {mem' : List (Nat × Box)} {nx' : Nat} (h : ICalls P f args σ.mem σ.nx res mem' nx') (hk : K.out res { σ with mem := mem', nx := nx' }) : @callW P true f args σ K :=
  .inr ⟨rfl, res, mem', nx', h, hk⟩
/-- The length of an array of the call's own. -/
theorem AW_bndM {P : Program} {nt : Nat} {c : ACode} {σ : St} {Q : AExit → St → Prop} (nm e sz : Nat) (rows : List (List PC)) (hf : findB σ.mem nm = some (.arr e sz rows)) (h : rows.length ≤ 9223372036854775807 → AW P nt c σ Q) : AW P nt c σ Q :=
  fun c' hc w0 U ι a w hs hz => by
    obtain ⟨cells, g0, g1, g2, g3⟩ := hs.box _ _ hf
    exact h g2 c' hc w0 U ι a w hs hz

theorem wrap_i64 {x : Int} (h1 : -9223372036854775808 ≤ x ∧ x ≤ 9223372036854775807) : IntKind.wrap .i64 x = x := by
  rw [IntKind.wrap_i64]; omega
theorem wrap_u64 {x : Int} (h1 : 0 ≤ x ∧ x ≤ 18446744073709551615) : IntKind.wrap .u64 x = x := by
  have : IntKind.wrap .u64 x = x % 18446744073709551616 := by simp [IntKind.wrap, IntKind.bits, IntKind.signed]
  rw [this]; omega
theorem rowsOk_nil {sz : Nat} : rowsOk sz [] := fun r h => by cases h
theorem rowsOk_one {sz : Nat} {r : List PC} (h : r.length = sz) : rowsOk sz [r] := fun x hx => by
  rw [List.mem_singleton] at hx; rw [hx]; exact h
theorem rowsOk_map {α : Type} {sz : Nat} {f : α → List PC} {l : List α} (h : ∀ x, (f x).length = sz) : rowsOk sz (l.map f) := fun r hr => by
  obtain ⟨x, _, rfl⟩ := List.mem_map.1 hr; exact h x
theorem rowsOk_append {sz : Nat} {r s : List (List PC)} (h : rowsOk sz r) (h' : rowsOk sz s) : rowsOk sz (r ++ s) := fun x hx => by
  rcases List.mem_append.1 hx with e | e
  · exact h x e
  · exact h' x e
theorem rowsOk_take {sz n : Nat} {r : List (List PC)} (h : rowsOk sz r) : rowsOk sz (r.take n) := fun x hx => h x (List.mem_of_mem_take hx)
theorem rowsOk_drop {sz n : Nat} {r : List (List PC)} (h : rowsOk sz r) : rowsOk sz (r.drop n) := fun x hx => h x (List.mem_of_mem_drop hx)

/-- Abbreviations. -/
abbrev I (n : Int) : AV := .c (.pure (.val (.int .i64 n)))
abbrev B (b : Bool) : AV := .c (.pure (.val (.bool b)))
abbrev S (s : ByteArray) : AV := .c (.pure (.val (.string s)))
/-- A list of ints as a slice. -/
abbrev pInts (xs : List Int) : PC := .slice (xs.map fun n => [.val (.int .i64 n)])
abbrev aInts (xs : List Int) : AV := .c (.pure (pInts xs))

section
variable {P : Program} {nt : Nat} {σ : St} {Q : AExit → St → Prop} {K : St → Prop}
theorem runW_skip : runW P nt .skip σ Q = Q .normal σ := propext ⟨id, id⟩
theorem runW_region {gs : List AG} : runW P nt (.region gs false) σ Q = opsW P gs σ (Q .normal) := propext ⟨id, id⟩
theorem runW_draw {gs : List AG} : runW P nt (.region gs true) σ Q = AWb P nt (.region gs true) σ (Q := ⟨Q⟩) := propext ⟨id, id⟩
theorem runW_seq {a b : ACode} : runW P nt (.seq a b) σ Q = runW P nt a σ (fun e σ => match e with
    | .normal => runW P nt b σ Q
    | .exit i => Q (.exit i) σ
    | .ret => Q .ret σ) := by
  simp only [runW]
  congr 1
  funext e σ
  cases e <;> rfl
theorem runW_cond {c : AX} {a b : ACode} : runW P nt (.cond c a b) σ Q = match c.ev σ.fr with
    | .c (.pure (.val (.bool t))) => condW t (A := ⟨runW P nt a σ Q⟩) (B := ⟨runW P nt b σ Q⟩)
    | _ => False := propext ⟨id, id⟩
theorem runW_block {id : Nat} {a : ACode} : runW P nt (.block id a) σ Q = runW P nt a σ (fun e σ => match e with
    | .normal => Q .normal σ
    | .exit i => if i = id then Q .normal σ else Q (.exit i) σ
    | .ret => Q .ret σ) := by
  simp only [runW]
  congr 1
  funext e σ
  cases e <;> rfl
theorem runW_loop {a : ACode} : runW P nt (.loop a) σ Q = AWb P nt (.loop a) σ (Q := ⟨Q⟩) := propext ⟨id, id⟩
theorem runW_exit {i : Nat} : runW P nt (.exit i) σ Q = Q (.exit i) σ := propext ⟨id, id⟩
theorem runW_ret : runW P nt .ret σ Q = Q .ret σ := propext ⟨id, id⟩
theorem opsW_nil : opsW P [] σ K = K σ := propext ⟨id, id⟩
theorem opsW_cons {d : Option Nat} {op : AOp} {r : List AG} : opsW P (⟨d, none, op⟩ :: r) σ K = opW P op σ fun v σ' => opsW P r (σ'.put d v) K := propext ⟨id, id⟩
theorem opsW_guard {d : Option Nat} {op : AOp} {t : Nat} {want : Bool} {r : List AG} : opsW P (⟨d, some (t, want), op⟩ :: r) σ K = match look σ.fr t with
    | .c (.pure (.val (.bool b))) => condW (b == want) (A := ⟨opW P op σ fun v σ' => opsW P r (σ'.put d v) K⟩) (B := ⟨opsW P r (σ.put d (.tup [])) K⟩)
    | .tup [] => opsW P r (σ.put d (.tup [])) K
    | _ => False := propext ⟨id, id⟩
end
section
variable {P : Program} {σ : St} {K : AV → St → Prop}
theorem opW_mv {x : AX} : opW P (.mv x) σ K = (K (x.ev σ.fr) σ) := propext ⟨id, id⟩
theorem opW_pick {c : AX} {a : AX} {b : AX} : opW P (.pick c a b) σ K = (match c.ev σ.fr with
    | .c (.pure (.val (.bool t))) => condW t (A := ⟨K (a.ev σ.fr) σ⟩) (B := ⟨K (b.ev σ.fr) σ⟩)
    | _ => False) := propext ⟨id, id⟩
theorem opW_box {x : AX} : opW P (.box x) σ K = (match (x.ev σ.fr).cells with
    | some xs => K (.c (.ptr σ.nx 0)) { σ with mem := (σ.nx, .var xs) :: σ.mem, nx := σ.nx + 1 }
    | none => False) := propext ⟨id, id⟩
theorem opW_load {n : Option Nat} {p : AX} : opW P (.load n p) σ K = (match p.ev σ.fr with
    | .c q => match loadCells? σ.mem q with
      | some xs => match n with
        | none => match xs with
          | x :: _ => K (.c x) σ
          | [] => False
        | some n => andW (n ≤ xs.length) (K := ⟨K (.agg (xs.take n)) σ⟩)
      | none => False
    | _ => False) := propext ⟨id, id⟩
theorem opW_store {n : Nat} {p : AX} {v : AX} : opW P (.store n p v) σ K = (match (v.ev σ.fr).cells, p.ev σ.fr with
    | some ys, .c (.ptr nm off) => match findB σ.mem nm with
      | some (.var xs) => andW (ys.length = n ∧ off + n ≤ xs.length) (K := ⟨K (.tup []) { σ with mem := setB σ.mem nm (.var (over xs off ys)) }⟩)
      | _ => False
    | some ys, .c (.eptr nm sz row off) => match findB σ.mem nm with
      | some (.arr e sz' rows) => andW (sz = sz' ∧ ys.length = n ∧ off + n ≤ sz) (K := ⟨optW (pcAs ys) (K := ⟨fun zs => optW rows[row]? (K := ⟨fun r =>
          K (.tup []) { σ with mem := setB σ.mem nm (.arr e sz (rows.set row (over r off zs))) }⟩)⟩)⟩)
      | _ => False
    | _, _ => False) := propext ⟨id, id⟩
theorem opW_bin {op : BinOp} {x : AX} {y : AX} : opW P (.bin op x y) σ K = (match x.ev σ.fr, y.ev σ.fr with
    | .c (.pure (.val a)), .c (.pure (.val b)) => match op with
      | .shl | .shr => shiftW op a b fun v => K (.c (.pure (.val v))) σ
      | _ => binW op a b fun v => K (.c (.pure (.val v))) σ
    | _, _ => False) := propext ⟨id, id⟩
theorem opW_eqb {neg : Bool} {x : AX} {y : AX} : opW P (.eqb neg x y) σ K = (match x.ev σ.fr, y.ev σ.fr with
    | .c (.pure (.val (.bool a))), .c (.pure (.val (.bool b))) => K (.c (.pure (.val (.bool ((a == b) != neg))))) σ
    | _, _ => False) := propext ⟨id, id⟩
theorem opW_un {op : UnOp} {x : AX} : opW P (.un op x) σ K = (match op, x.ev σ.fr with
    | .not, .c (.pure (.val (.bool b))) => K (.c (.pure (.val (.bool (!b))))) σ
    | .neg, .c (.pure (.val (.int k n))) => K (.c (.pure (.val (.int k (k.wrap (0 - n)))))) σ
    | .xor, .c (.pure (.val (.int k n))) => K (.c (.pure (.val (.int k (k.wrap (BitVec.ofInt k.bits (if k.signed then -1 else k.max) ^^^ BitVec.ofInt k.bits n).toNat))))) σ
    | _, _ => False) := propext ⟨id, id⟩
theorem opW_conv {k : IntKind} {x : AX} : opW P (.conv k x) σ K = (match x.ev σ.fr with
    | .c (.pure (.val (.int _ n))) => K (.c (.pure (.val (.int k (k.wrap n))))) σ
    | _ => False) := propext ⟨id, id⟩
theorem opW_fieldA {off : Nat} {p : AX} : opW P (.fieldA off p) σ K = (match p.ev σ.fr with
    | .c (.ptr nm o) => K (.c (.ptr nm (o + off))) σ
    | .c (.cptr cells) => K (.c (.cptr (cells.drop off))) σ
    | .c (.eptr nm sz row o) => K (.c (.eptr nm sz row (o + off))) σ
    | _ => False) := propext ⟨id, id⟩
theorem opW_field {off : Nat} {n : Option Nat} {x : AX} : opW P (.field off n x) σ K = (match x.ev σ.fr with
    | .agg xs => match n with
      | none => match xs.drop off with
        | x :: _ => K (.c x) σ
        | [] => False
      | some n => andW (off + n ≤ xs.length) (K := ⟨K (.agg ((xs.drop off).take n)) σ⟩)
    | _ => False) := propext ⟨id, id⟩
theorem opW_idxA {sz : Nat} {x : AX} {i : AX} : opW P (.idxA sz x i) σ K = (match x.ev σ.fr, i.ev σ.fr with
    | .c (.pure (.slice rows)), .c (.pure (.val (.int _ i))) | .c (.tsl rows), .c (.pure (.val (.int _ i))) => andW (0 ≤ i) (K := ⟨optW rows[i.toNat]? (K := ⟨fun r => andW (r.length = sz ∧ 0 < sz) (K := ⟨K (.c (.cptr r)) σ⟩)⟩)⟩)
    | .c (.ref nm), .c (.pure (.val (.int _ i))) => match findB σ.mem nm with
      | some (.arr _ sz' rows) => andW (sz' = sz ∧ 0 < sz ∧ 0 ≤ i ∧ i < rows.length) (K := ⟨K (.c (.eptr nm sz i.toNat 0)) σ⟩)
      | _ => False
    | _, _ => False) := propext ⟨id, id⟩
theorem opW_idxR {len : Nat} {sz : Nat} {x : AX} {i : AX} : opW P (.idxR len sz x i) σ K = (match x.ev σ.fr, i.ev σ.fr with
    | .c (.ptr nm o), .c (.pure (.val (.int _ i))) => andW (0 ≤ i ∧ i < len) (K := ⟨K (.c (.ptr nm (o + i.toNat * sz))) σ⟩)
    | .c (.cptr cells), .c (.pure (.val (.int _ i))) => andW (0 ≤ i ∧ i < len) (K := ⟨K (.c (.cptr (cells.drop (i.toNat * sz)))) σ⟩)
    | _, _ => False) := propext ⟨id, id⟩
theorem opW_nilc {x : AX} : opW P (.nilc x) σ K = (match x.ev σ.fr with
    | .c (.ptr nm o) => K (.c (.ptr nm o)) σ
    | .c (.cptr cells) => K (.c (.cptr cells)) σ
    | .c (.eptr nm sz row o) => K (.c (.eptr nm sz row o)) σ
    | .c (.clo f caps) => K (.c (.clo f caps)) σ
    | _ => False) := propext ⟨id, id⟩
theorem opW_idxS {x : AX} {i : AX} : opW P (.idxS x i) σ K = (match x.ev σ.fr, i.ev σ.fr with
    | .c (.pure (.val (.string s))), .c (.pure (.val (.int _ i))) => andW (0 ≤ i) (K := ⟨optW s[i.toNat]? (K := ⟨fun b => K (.c (.pure (.val (.int .u8 b.toNat)))) σ⟩)⟩)
    | _, _ => False) := propext ⟨id, id⟩
theorem opW_build {zero : List AC} {parts : List (Nat × Nat × AX)} : opW P (.build zero parts) σ K = (opW.buildW σ parts zero fun xs => K (.agg xs) σ) := propext ⟨id, id⟩
theorem opW_bslice {sz : Nat} {rows : List AX} : opW P (.bslice sz rows) σ K = (opW.bsliceW σ sz rows [] fun rs => K (.c (.tsl rs)) σ) := propext ⟨id, id⟩
theorem opW_mkslice {e : Nat} {sz : Nat} {bytes : Nat} {zero : List PC} {l : AX} : opW P (.mkslice e sz bytes zero l) σ K = (match l.ev σ.fr with
    | .c (.pure (.val (.int .i64 n))) => andW (0 ≤ n ∧ n ≤ 281474976710656 ∧ bytes * n ≤ 281474976710656) (K := ⟨
        K (.c (.ref σ.nx)) { σ with mem := (σ.nx, .arr e sz (List.replicate n.toNat zero)) :: σ.mem, nx := σ.nx + 1 }⟩)
    | _ => False) := propext ⟨id, id⟩
theorem opW_slc {sz : Nat} {x : AX} {lo : Option AX} {hi : Option AX} {mx : Option AX} : opW P (.slc sz x lo hi mx) σ K = (match x.ev σ.fr with
    | .c (.ref _) => False
    | v => optW (rowsOf? σ.mem v) (K := ⟨fun rows => optW (opW.boundOf σ lo) (K := ⟨fun lo => optW (opW.boundOf σ hi) (K := ⟨fun hi => optW (opW.boundOf σ mx) (K := ⟨fun mx =>
      andW (rowsOk sz rows ∧ 0 ≤ lo.getD 0 ∧ lo.getD 0 ≤ hi.getD rows.length ∧ hi.getD rows.length ≤ mx.getD rows.length ∧ mx.getD rows.length ≤ rows.length) (K := ⟨
      K (.c (if mx.isSome = true ∧ mx = hi then .tsl ((rows.take (hi.getD rows.length).toNat).drop (lo.getD 0).toNat) else .pure (.slice ((rows.take (hi.getD rows.length).toNat).drop (lo.getD 0).toNat)))) σ⟩)⟩)⟩)⟩)⟩)) := propext ⟨id, id⟩
theorem opW_slcS {x : AX} {lo : Option AX} {hi : Option AX} : opW P (.slcS x lo hi) σ K = (match x.ev σ.fr, opW.boundOf σ lo, opW.boundOf σ hi with
    | .c (.pure (.val (.string s))), some lo, some hi => andW (0 ≤ lo.getD 0 ∧ lo.getD 0 ≤ hi.getD s.size ∧ hi.getD s.size ≤ s.size) (K := ⟨
      K (.c (.pure (.val (.string (s.extract (lo.getD 0).toNat (hi.getD s.size).toNat))))) σ⟩)
    | _, _, _ => False) := propext ⟨id, id⟩
theorem opW_ext {x : AX} {i : Nat} : opW P (.ext x i) σ K = (match x.ev σ.fr with
    | .tup vs => optW vs[i]? (K := ⟨fun v => K v σ⟩)
    | _ => False) := propext ⟨id, id⟩
theorem opW_len {x : AX} : opW P (.len x) σ K = (match x.ev σ.fr with
    | .c (.pure (.slice rows)) | .c (.tsl rows) => K (.c (.pure (.val (.int .i64 rows.length)))) σ
    | .c .nils => K (.c (.pure (.val (.int .i64 0)))) σ
    | .c (.ref nm) => match findB σ.mem nm with
      | some (.arr _ _ rows) => K (.c (.pure (.val (.int .i64 rows.length)))) σ
      | _ => False
    | _ => False) := propext ⟨id, id⟩
theorem opW_lenS {x : AX} : opW P (.lenS x) σ K = (match x.ev σ.fr with
    | .c (.pure (.val (.string s))) => K (.c (.pure (.val (.int .i64 s.size)))) σ
    | _ => False) := propext ⟨id, id⟩
theorem opW_mm {mx : Bool} {x : AX} {y : AX} : opW P (.mm mx x y) σ K = (match x.ev σ.fr, y.ev σ.fr with
    | .c (.pure (.val (.int k a))), .c (.pure (.val (.int _ b))) => K (.c (.pure (.val (.int k (if mx = true then max a b else min a b))))) σ
    | _, _ => False) := propext ⟨id, id⟩
theorem opW_fnil {neg : Bool} {x : AX} : opW P (.fnil neg x) σ K = (match x.ev σ.fr with
    | .c (.clo _ _) => K (.c (.pure (.val (.bool neg)))) σ
    | .c (.pure (.val .nilFunc)) => K (.c (.pure (.val (.bool (!neg))))) σ
    | _ => False) := propext ⟨id, id⟩
theorem opW_app {e : Nat} {sz : Nat} {bytes : Nat} {x : AX} {y : AX} : opW P (.app e sz bytes x y) σ K = (optW (rowsOf? σ.mem (y.ev σ.fr)) (K := ⟨fun ys => appW e sz bytes (x.ev σ.fr) (y.ev σ.fr) ys σ (K := ⟨K⟩)⟩)) := propext ⟨id, id⟩
theorem opW_mkfn {f : FuncId} {caps : List AX} : opW P (.mkfn f caps) σ K = (opW.mkfnW σ caps [] fun xs => K (.c (.clo f xs)) σ) := propext ⟨id, id⟩
theorem opW_call {g : Bool} {f : AX} {args : List AX} : opW P (.call g f args) σ K = (match f.ev σ.fr with
    | .c (.clo f caps) => callW P g f (args.map (·.ev σ.fr) ++ caps.map .c) σ (K := ⟨K⟩)
    | _ => False) := propext ⟨id, id⟩
theorem opW_bsliceF {sz : Nat} {rows : List AX} : opW P (.bsliceF sz rows) σ K = (opW.bsliceFW σ sz rows σ.mem [] fun rs mem => K (.c (.tsl rs)) { σ with mem := mem }) := propext ⟨id, id⟩
theorem opW_mkmap {kt : KT} {n : Option Nat} : opW P (.mkmap kt n) σ K = (K (.c (.mref σ.nx)) { σ with mem := (σ.nx, .map kt n []) :: σ.mem, nx := σ.nx + 1 }) := propext ⟨id, id⟩
theorem opW_mget {kt : KT} {n : Option Nat} {zero : List PC} {ok : Bool} {m : AX} {k : AX} : opW P (.mget kt n zero ok m k) σ K = (match k.ev σ.fr with
    | .c (.pure (.val kv)) => optW (mkOf kt kv) (K := ⟨fun mk => match m.ev σ.fr with
      | .c (.mref nm) => match findB σ.mem nm with
        | some (.map kt' n' ents) => andW (kt' = kt ∧ n' = n) (K := ⟨caseW (mlook ents mk) (A := ⟨fun ps => K (if ok = true then .tup [mval n ps, .c (.pure (.val (.bool true)))] else mval n ps) σ⟩)
          (B := ⟨K (if ok = true then .tup [mval n zero, .c (.pure (.val (.bool false)))] else mval n zero) σ⟩)⟩)
        | _ => False
      | _ => False⟩)
    | _ => False) := propext ⟨id, id⟩
theorem opW_mput {kt : KT} {n : Option Nat} {m : AX} {k : AX} {v : AX} : opW P (.mput kt n m k v) σ K = (match k.ev σ.fr with
    | .c (.pure (.val kv)) => optW (mkOf kt kv) (K := ⟨fun mk => match m.ev σ.fr with
      | .c (.mref nm) => optW (mcells n (v.ev σ.fr)) (K := ⟨fun ys => optW (frzAs σ.mem ys) (K := ⟨fun z => match findB z.2 nm with
        | some (.map kt' n' ents) => andW (kt' = kt ∧ n' = n) (K := ⟨K (.tup []) { σ with mem := setB z.2 nm (.map kt n (mset ents mk z.1)) }⟩)
        | _ => False⟩)⟩)
      | _ => False⟩)
    | _ => False) := propext ⟨id, id⟩
end
section
variable {P : Program} {σ : St}
theorem bsliceW_nil {sz : Nat} {acc : List (List PC)} {K : List (List PC) → Prop} : opW.bsliceW σ sz [] acc K = K acc := propext ⟨id, id⟩
theorem bsliceW_cons {sz : Nat} {x : AX} {r : List AX} {acc : List (List PC)} {K : List (List PC) → Prop} : opW.bsliceW σ sz (x :: r) acc K = (match (x.ev σ.fr).cells with
      | some ys => optW (pcAs ys) (K := ⟨fun zs => andW (ys.length = sz) (K := ⟨opW.bsliceW σ sz r (acc ++ [zs]) K⟩)⟩)
      | none => False) := propext ⟨id, id⟩
theorem bsliceFW_nil {sz : Nat} {mem : List (Nat × Box)} {acc : List (List PC)} {K : List (List PC) → List (Nat × Box) → Prop} : opW.bsliceFW σ sz [] mem acc K = K acc mem := propext ⟨id, id⟩
theorem bsliceFW_cons {sz : Nat} {x : AX} {r : List AX} {mem : List (Nat × Box)} {acc : List (List PC)} {K : List (List PC) → List (Nat × Box) → Prop} : opW.bsliceFW σ sz (x :: r) mem acc K = (match (x.ev σ.fr).cells with
      | some ys => optW (frzAs mem ys) (K := ⟨fun z => andW (ys.length = sz) (K := ⟨opW.bsliceFW σ sz r z.2 (acc ++ [z.1]) K⟩)⟩)
      | none => False) := propext ⟨id, id⟩
theorem buildW_nil {acc : List AC} {K : List AC → Prop} : opW.buildW σ [] acc K = K acc := propext ⟨id, id⟩
theorem buildW_cons {off n : Nat} {x : AX} {r : List (Nat × Nat × AX)} {acc : List AC} {K : List AC → Prop} : opW.buildW σ ((off, n, x) :: r) acc K = (match (x.ev σ.fr).cells with
      | some ys => andW (ys.length = n ∧ off + n ≤ acc.length) (K := ⟨opW.buildW σ r (over acc off ys) K⟩)
      | none => False) := propext ⟨id, id⟩
theorem mkfnW_nil {acc : List AC} {K : List AC → Prop} : opW.mkfnW σ [] acc K = K acc := propext ⟨id, id⟩
theorem mkfnW_cons {x : AX} {r : List AX} {acc : List AC} {K : List AC → Prop} : opW.mkfnW σ (x :: r) acc K = (match x.ev σ.fr with
      | .c y => opW.mkfnW σ r (acc ++ [y]) K
      | _ => False) := propext ⟨id, id⟩
end
section
variable {k : IntKind} {a b : Int} {s u : ByteArray} {K : Value → Prop}
theorem binI_add : binI .add k a b K = K (.int k (k.wrap (a + b))) := propext ⟨id, id⟩
theorem binI_sub : binI .sub k a b K = K (.int k (k.wrap (a - b))) := propext ⟨id, id⟩
theorem binI_mul : binI .mul k a b K = K (.int k (k.wrap (a * b))) := propext ⟨id, id⟩
theorem binI_quo : binI .quo k a b K = andW (b ≠ 0) (K := ⟨K (.int k (k.wrap (a.tdiv b)))⟩) := propext ⟨id, id⟩
theorem binI_rem : binI .rem k a b K = andW (b ≠ 0) (K := ⟨K (.int k (a.tmod b))⟩) := propext ⟨id, id⟩
theorem binI_and : binI .and k a b K = K (.int k (k.wrap (BitVec.ofInt k.bits a &&& BitVec.ofInt k.bits b).toNat)) := propext ⟨id, id⟩
theorem binI_or : binI .or k a b K = K (.int k (k.wrap (BitVec.ofInt k.bits a ||| BitVec.ofInt k.bits b).toNat)) := propext ⟨id, id⟩
theorem binI_xor : binI .xor k a b K = K (.int k (k.wrap (BitVec.ofInt k.bits a ^^^ BitVec.ofInt k.bits b).toNat)) := propext ⟨id, id⟩
theorem binI_andNot : binI .andNot k a b K = K (.int k (k.wrap (BitVec.ofInt k.bits a &&& ~~~ BitVec.ofInt k.bits b).toNat)) := propext ⟨id, id⟩
theorem binI_eql : binI .eql k a b K = K (.bool (a == b)) := propext ⟨id, id⟩
theorem binI_neq : binI .neq k a b K = K (.bool (a != b)) := propext ⟨id, id⟩
theorem binI_lss : binI .lss k a b K = K (.bool (decide (a < b))) := propext ⟨id, id⟩
theorem binI_leq : binI .leq k a b K = K (.bool (decide (a ≤ b))) := propext ⟨id, id⟩
theorem binI_gtr : binI .gtr k a b K = K (.bool (decide (a > b))) := propext ⟨id, id⟩
theorem binI_geq : binI .geq k a b K = K (.bool (decide (a ≥ b))) := propext ⟨id, id⟩
theorem binS_add : binS .add s u K = andW (s.size + u.size ≤ 9223372036854775807) (K := ⟨K (.string (s ++ u))⟩) := propext ⟨id, id⟩
theorem binS_eql : binS .eql s u K = K (.bool (s.toList == u.toList)) := propext ⟨id, id⟩
theorem binS_neq : binS .neq s u K = K (.bool (!(s.toList == u.toList))) := propext ⟨id, id⟩
theorem binS_lss : binS .lss s u K = K (.bool (Op.bytesLess s.toList u.toList)) := propext ⟨id, id⟩
theorem binS_leq : binS .leq s u K = K (.bool (Op.bytesLess s.toList u.toList || s.toList == u.toList)) := propext ⟨id, id⟩
theorem binS_gtr : binS .gtr s u K = K (.bool (!(Op.bytesLess s.toList u.toList || s.toList == u.toList))) := propext ⟨id, id⟩
theorem binS_geq : binS .geq s u K = K (.bool (!(Op.bytesLess s.toList u.toList))) := propext ⟨id, id⟩
theorem binW_int {op : BinOp} {k' : IntKind} : binW op (.int k a) (.int k' b) K = andW (k = k') (K := ⟨binI op k a b K⟩) := propext ⟨id, id⟩
theorem binW_str {op : BinOp} : binW op (.string s) (.string u) K = binS op s u K := propext ⟨id, id⟩
theorem shiftI_shl : shiftI .shl k a b K = K (.int k (k.wrap (a * 2 ^ (min b.toNat k.bits)))) := propext ⟨id, id⟩
theorem shiftI_shr : shiftI .shr k a b K = K (.int k (a.fdiv (2 ^ (min b.toNat k.bits)))) := propext ⟨id, id⟩
theorem shiftW_int {op : BinOp} {k' : IntKind} : shiftW op (.int k a) (.int k' b) K = andW (0 ≤ b) (K := ⟨shiftI op k a b K⟩) := propext ⟨id, id⟩
end
section
variable {σ : St} {K : List AV → Prop} {L : AV → Prop}
theorem resW_nil {acc : List AV} : resW σ [] acc K = K acc := propext ⟨id, id⟩
theorem resW_cons {r : AR} {rs : List AR} {acc : List AV} : resW σ (r :: rs) acc K = resOne σ r fun v => resW σ rs (acc ++ [v]) K := propext ⟨id, id⟩
theorem resOne_t {n : Nat} : resOne σ (.t n) L = L (look σ.fr n) := propext ⟨id, id⟩
theorem resOne_cell {n : Option Nat} {a : Nat} : resOne σ (.cell n a) L = (match look σ.fr a with
    | .c q => match loadCells? σ.mem q with
      | some xs => loadW n xs L
      | none => False
    | _ => False) := propext ⟨id, id⟩
theorem loadW_one {x : AC} {xs : List AC} : loadW none (x :: xs) L = L (.c x) := propext ⟨id, id⟩
theorem loadW_row {n : Nat} {xs : List AC} : loadW (some n) xs L = andW (n ≤ xs.length) (K := ⟨L (.agg (xs.take n))⟩) := propext ⟨id, id⟩
end
theorem put_none {σ : St} {v : AV} : σ.put none v = σ := rfl
theorem put_some {σ : St} {d : Nat} {v : AV} : σ.put (some d) v = { σ with fr := (d, v) :: σ.fr } := rfl
theorem look_cons {m n : Nat} {v : AV} {r : List (Nat × AV)} : look ((m, v) :: r) n = if m = n then v else look r n := by rw [look]

attribute [go_sem ↓] runW_skip runW_region runW_draw runW_seq runW_cond runW_block runW_loop runW_exit runW_ret opsW_nil opsW_cons opsW_guard look_cons
attribute [go_sem ↓] opW_mv opW_pick opW_box opW_load opW_store opW_bin opW_eqb opW_un opW_conv opW_fieldA opW_field opW_idxA opW_idxR opW_nilc opW_idxS opW_build opW_bslice opW_mkslice opW_slc opW_slcS opW_ext opW_len opW_lenS opW_mm opW_fnil opW_app opW_mkfn opW_call opW_bsliceF opW_mkmap opW_mget opW_mput AX.ev andW_true optW_some condW_true condW_false caseW_some caseW_none put_none put_some
attribute [go_sem ↓] binI_add binI_sub binI_mul binI_quo binI_rem binI_and binI_or binI_xor binI_andNot binI_eql binI_neq binI_lss binI_leq binI_gtr binI_geq binS_add binS_eql binS_neq binS_lss binS_leq binS_gtr binS_geq shiftI_shl shiftI_shr
attribute [go_sem] binW_int binW_str shiftW_int bsliceW_nil bsliceW_cons bsliceFW_nil bsliceFW_cons buildW_nil buildW_cons mkfnW_nil mkfnW_cons
attribute [go_sem] loadCells? findB setB delB AV.cells over purVs purV purAs purA purC purCs purP purPs pcAs pcA frzAs frzA rowsOf? opW.boundOf argsFr mcells mval mkOf MK.val
attribute [go_sem ↓] retW retI resW_nil resW_cons resOne_t resOne_cell loadW_one loadW_row
attribute [go_sem] packV purR thenW blockW loopW
end Go.Abs
