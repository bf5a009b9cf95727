/- A verification-condition calculus over the model's weakest preconditions: definitions that the kernel computes on a function's code, and their soundness. No condition. -/
import Derived.WalkKit
import Derived.StillTail
import Derived.Deep.Quiet
import Derived.Below
import Derived.KernelRfl
import Derived.Laws.MakeOwn
import Derived.Laws.Tables
import Derived.Laws.Small
namespace Go.Proofs.Ytleiddajojgmmaa.VC
open Go Go.RowKit
set_option linter.unusedSimpArgs false
set_option linter.unusedVariables false

/-! ## Small connectives -/
def condP (b : Bool) (x y : Prop) : Prop := match b with | true => x | false => y
theorem condP_i {b : Bool} {x y : Prop} (h1 : b = true → x) (h2 : b = false → y) : condP b x y := by
  cases b
  · exact h2 rfl
  · exact h1 rfl
theorem condD {p : Prop} [Decidable p] {x y : Prop} (h1 : p → x) (h2 : ¬ p → y) : condP (decide p) x y :=
  condP_i (fun h => h1 (of_decide_eq_true h)) (fun h => h2 (of_decide_eq_false h))
theorem condP_t {b : Bool} {x y : Prop} (hb : b = true) (h : x) : condP b x y := by subst hb; exact h
theorem condP_f {b : Bool} {x y : Prop} (hb : b = false) (h : y) : condP b x y := by subst hb; exact h

theorem cT {b : Bool} {x y : Prop} (h : b = true) (hx : x) : condP b x y := condP_i (fun _ => hx) fun h' => by rw [h] at h'; cases h'
theorem cF {b : Bool} {x y : Prop} (h : b = false) (hy : y) : condP b x y := condP_i (fun h' => by rw [h] at h'; cases h') fun _ => hy
/-- How a temporary is held. -/
inductive VK | int (k : IntKind) | bool | raw | ptr
def VK.T : VK → Type | .int _ => Int | .bool => Bool | .raw => Value | .ptr => Addr
def VK.val : (k : VK) → k.T → Value | .int k, n => .int k n | .bool, b => .bool b | .raw, v => v | .ptr, a => .pointer (some a)
def VK.ex : VK → (Value → Prop) → Prop
  | .int k, f => ∃ n : Int, f (.int k n)
  | .bool, f => ∃ b : Bool, f (.bool b)
  | .raw, f => ∃ v : Value, f v
  | .ptr, f => ∃ a : Addr, f (.pointer (some a))
def exL : List VK → (List Value → Prop) → Prop
  | [], f => f []
  | k :: r, f => k.ex fun v => exL r fun vs => f (v :: vs)
inductive RK | one (k : VK) | many (l : List VK)
def RK.ex : RK → (Value → Prop) → Prop
  | .one k, f => k.ex f
  | .many l, f => exL l fun vs => f (.tuple vs.toArray)
theorem VK.ex_elim {k : VK} {f : Value → Prop} (h : k.ex f) : ∃ v, f v := by
  cases k with
  | int k => exact let ⟨n, h⟩ := h; ⟨_, h⟩
  | bool => exact let ⟨n, h⟩ := h; ⟨_, h⟩
  | raw => exact h
  | ptr => exact let ⟨n, h⟩ := h; ⟨_, h⟩
theorem exL_elim : ∀ {l : List VK} {f : List Value → Prop}, exL l f → ∃ vs, f vs
  | [], _, h => ⟨_, h⟩
  | k :: r, f, h => by
    obtain ⟨v, h⟩ := VK.ex_elim h
    obtain ⟨vs, h⟩ := exL_elim h
    exact ⟨_, h⟩
theorem RK.ex_elim {k : RK} {f : Value → Prop} (h : k.ex f) : ∃ v, f v := by
  cases k with
  | one k => exact VK.ex_elim h
  | many l => obtain ⟨vs, h⟩ := exL_elim h; exact ⟨_, h⟩

def vkOf (P : Program) (t : TypeId) : VK :=
  match P.underlying t with
  | some (.int k) => .int k
  | some .bool => .bool
  | _ => .raw
def rkOf (P : Program) (t : TypeId) : RK :=
  match P.underlying t with
  | some (.tuple ts) => .many (ts.toList.map (vkOf P))
  | _ => .one (vkOf P t)

def oneV (v : Value) : Prop := v.cells = #[v] ∧ v.oneCell' = true
/-- A value of one cell, and then the rest. -/
def oneK (k : VK) (v : Value) (rest : Prop) : Prop :=
  match k with
  | .raw => oneV v ∧ rest
  | _ => match v with
    | .int _ _ => rest
    | .bool _ => rest
    | _ => False
theorem oneK_out {k : VK} {v : Value} {rest : Prop} (h : oneK k v rest) : oneV v ∧ rest := by
  cases k
  case raw => exact h
  all_goals
    unfold oneK at h
    dsimp only at h
    split at h
    · exact ⟨⟨rfl, rfl⟩, h⟩
    · exact ⟨⟨rfl, rfl⟩, h⟩
    · exact h.elim
/-- Some n values. -/
def exN : Nat → (List Value → Prop) → Prop
  | 0, f => f []
  | n + 1, f => ∃ c : Value, exN n fun l => f (c :: l)
theorem exN_out : ∀ {n : Nat} {f : List Value → Prop}, exN n f → ∃ l : List Value, l.length = n ∧ f l
  | 0, f, h => ⟨[], rfl, h⟩
  | n + 1, f, ⟨c, h⟩ => by
    obtain ⟨l, h1, h2⟩ := exN_out h
    exact ⟨c :: l, by simp [h1], h2⟩
def layAll : Array Value → Nat → List Value → Array Value
  | cs, _, [] => cs
  | cs, off, q :: r => layAll (cs.setIfInBounds off q) (off + 1) r
theorem lay_fold : ∀ (l : List Value) (cs : Array Value) (off k : Nat), (l.zipIdx k).foldl (fun (cs : Array Value) (p : Value × Nat) => cs.setIfInBounds (off + p.2) p.1) cs = layAll cs (off + k) l
  | [], _, _, _ => rfl
  | q :: r, cs, off, k => by
    rw [List.zipIdx_cons, List.foldl_cons, lay_fold r _ off (k + 1)]
    rfl
/-- The parts of a record are laid: of one cell each, or of more. -/
def bfill (place : Nat → Option (Nat × Nat)) (kind : Nat → VK) : List (Nat × Value) → Array Value → (Array Value → Prop) → Prop
  | [], cs, K => K cs
  | (i, v) :: r, cs, K => match place i with
    | some (off, 1) => oneK (kind i) v (match decide (off + 1 ≤ cs.size) with
      | true => bfill place kind r (cs.setIfInBounds off v) K
      | false => False)
    | some (off, n + 2) => exN (n + 2) fun qs => v = .agg qs.toArray ∧ (match decide (off + (n + 2) ≤ cs.size) with
      | true => bfill place kind r (layAll cs off qs) K
      | false => False)
    | _ => False
theorem bfill_out {place : Nat → Option (Nat × Nat)} {kind : Nat → VK} : ∀ {parts : List (Nat × Value)} {cs : Array Value} {K : Array Value → Prop}, bfill place kind parts cs K → ∃ cells, Instr.fill place cs parts = some cells ∧ K cells
  | [], cs, K, h => ⟨cs, rfl, h⟩
  | (i, v) :: r, cs, K, h => by
    unfold bfill at h
    split at h
    · rename_i off hp
      obtain ⟨⟨h1, _⟩, h⟩ := oneK_out h
      split at h
      · rename_i hd
        obtain ⟨cells, hc, hk⟩ := bfill_out h
        refine ⟨cells, ?_, hk⟩
        have hd := of_decide_eq_true hd
        simp only [Instr.fill, hp, h1]
        rw [if_neg (by simp; omega)]
        simpa [Array.zipIdx] using hc
      · exact h.elim
    · rename_i off n hp
      have h4 := exN_out h
      clear h
      obtain ⟨qs, hl, hv, h5⟩ := h4
      subst hv
      split at h5
      · rename_i hd
        obtain ⟨cells, hc, hk⟩ := bfill_out h5
        refine ⟨cells, ?_, hk⟩
        have hd := of_decide_eq_true hd
        have h1 : (Value.agg qs.toArray).cells = qs.toArray := rfl
        simp only [Instr.fill, hp, h1]
        rw [if_neg (by simp; omega)]
        have hf := lay_fold qs cs off 0
        rw [Nat.add_zero] at hf
        rw [← hf] at hc
        rw [← Array.foldl_toList, Array.toList_zipIdx]
        exact hc
      · exact h5.elim
    · exact h.elim
def buildV (P : Program) (t : TypeId) (parts : List (Nat × Value)) (K : Value → Prop) : Prop :=
  match P.info? t, P.underlying t with
  | some it, some (.struct fields) => match it.zero, fields.toList.mapM (fun f => (P.info? f.type).map fun i => (f.offset, i.size)) with
    | some z, some places => bfill (places.toArray[·]?) (fun i => match fields[i]? with | some f => vkOf P f.type | none => .raw) parts z.cells fun cs => K (.agg cs)
    | _, _ => False
  | _, _ => match P.built t parts with
    | some cells => K (.agg cells)
    | none => False
theorem buildV_out {P : Program} {t : TypeId} {parts : List (Nat × Value)} {K : Value → Prop} (h : buildV P t parts K) : ∃ cells, P.built t parts = some cells ∧ K (.agg cells) := by
  unfold buildV at h
  split at h
  · rename_i it fields hi hu
    split at h
    · rename_i z places hz hp
      obtain ⟨cells, hc, hk⟩ := bfill_out h
      refine ⟨cells, ?_, hk⟩
      unfold Program.built
      simp only [hi, hu, hz, hp]
      exact hc
    · exact h.elim
  · split at h
    · exact ⟨_, by assumption, h⟩
    · exact h.elim

/-! ## Pure operations -/
def posP (n : Nat) (p : Prop) : Prop := match n with | 0 => False | _ + 1 => p
theorem posP_out {n : Nat} {p : Prop} (h : posP n p) : n ≠ 0 ∧ p := by
  cases n with
  | zero => exact h.elim
  | succ n => exact ⟨by omega, h⟩
def inR (z : Int) : Prop := -9223372036854775808 ≤ z ∧ z ≤ 9223372036854775807
def arith (k : IntKind) (z : Int) (K : Value → Prop) : Prop :=
  match k with
  | .i64 => inR z ∧ K (.int .i64 z)
  | k => K (.int k (k.wrap z))
def iAnd (k : IntKind) (x y : Int) : Int := k.wrap ((BitVec.ofInt k.bits x &&& BitVec.ofInt k.bits y).toNat : Int)
def iOr (k : IntKind) (x y : Int) : Int := k.wrap ((BitVec.ofInt k.bits x ||| BitVec.ofInt k.bits y).toNat : Int)
def iXor (k : IntKind) (x y : Int) : Int := k.wrap ((BitVec.ofInt k.bits x ^^^ BitVec.ofInt k.bits y).toNat : Int)
def iAndNot (k : IntKind) (x y : Int) : Int := k.wrap ((BitVec.ofInt k.bits x &&& ~~~ BitVec.ofInt k.bits y).toNat : Int)
def iShl (k : IntKind) (x y : Int) : Int := k.wrap (x * 2 ^ (min y.toNat k.bits))
def iShr (k : IntKind) (x y : Int) : Int := x.fdiv (2 ^ (min y.toNat k.bits))
def intV (op : BinOp) (k : IntKind) (x y : Int) (K : Value → Prop) : Prop :=
  match op with
  | .add => arith k (x + y) K
  | .sub => arith k (x - y) K
  | .mul => arith k (x * y) K
  | .quo => y ≠ 0 ∧ K (.int k (k.wrap (x.tdiv y)))
  | .rem => y ≠ 0 ∧ K (.int k (x.tmod y))
  | .and => K (.int k (iAnd k x y))
  | .or => K (.int k (iOr k x y))
  | .xor => K (.int k (iXor k x y))
  | .andNot => K (.int k (iAndNot k x y))
  | .shl => 0 ≤ y ∧ K (.int k (iShl k x y))
  | .shr => 0 ≤ y ∧ K (.int k (iShr k x y))
  | .eql => K (.bool (decide (x = y)))
  | .neq => K (.bool (!decide (x = y)))
  | .lss => K (.bool (decide (x < y)))
  | .leq => K (.bool (decide (x ≤ y)))
  | .gtr => K (.bool (decide (y < x)))
  | .geq => K (.bool (decide (y ≤ x)))
/-- Any other binary operation: its value in every world. -/
def PBinR (P : Program) (op : BinOp) (t : TypeId) (ox oy : Operand) (x y : Value) (b : Bool) : Prop :=
  ∀ w, (do eqGuard op t ox oy x y; binOp op t x y : Sem Value).run P w = .ok (.bool b) w
def PBin (P : Program) (op : BinOp) (t : TypeId) (ox oy : Operand) (x y : Value) (K : Value → Prop) : Prop :=
  ∃ b : Bool, PBinR P op t ox oy x y b ∧ K (.bool b)
def binV (P : Program) (op : BinOp) (t : TypeId) (ox oy : Operand) (x y : Value) (K : Value → Prop) : Prop :=
  match vkOf P t with
  | .int _ => match x, y with
    | .int k a, .int k' b => match op with
      | .shl => intV op k a b K
      | .shr => intV op k a b K
      | op => if k = k' then intV op k a b K else False
    | _, _ => False
  | .bool => match x, y with
    | .bool a, .bool b => match op with
      | .eql => K (.bool (a == b))
      | .neq => K (.bool (a != b))
      | _ => False
    | _, _ => False
  | _ => PBin P op t ox oy x y K
def unV (op : UnOp) (x : Value) (K : Value → Prop) : Prop :=
  match op, x with
  | .not, .bool b => K (.bool !b)
  | .neg, .int k n => arith k (0 - n) K
  | .xor, .int k n => K (.int k (iXor k (if k.signed then -1 else k.max) n))
  | _, _ => False
def convV (P : Program) (s d : TypeId) (x : Value) (K : Value → Prop) : Prop :=
  match vkOf P s, vkOf P d, x with
  | .int _, .int k, .int _ n => K (.int k (k.wrap n))
  | _, _, _ => False
def extV (x : Value) (i : Nat) (K : Value → Prop) : Prop :=
  match x with
  | .tuple vs => match vs[i]? with
    | some v => K v
    | none => False
  | _ => False
def idxV (sz : Nat) (x i : Value) (K : Value → Prop) : Prop :=
  match i with
  | .int _ j => ∃ a len cap, x = .slice (some a) len cap ∧ (0 ≤ j ∧ j < len) ∧ K (.pointer (some (a.add (j.toNat * sz))))
  | _ => False
def idxA (n sz : Nat) (x i : Value) (K : Value → Prop) : Prop :=
  match x, i with
  | .pointer (some a), .int _ j => (0 ≤ j ∧ j < n) ∧ K (.pointer (some (a.add (j.toNat * sz))))
  | _, _ => False
def fldV (P : Program) (s : TypeId) (x : Value) (f : Nat) (K : Value → Prop) : Prop :=
  match P.underlying s, x with
  | some (.struct fs), .pointer (some a) => match fs[f]? with
    | some fd => posP (P.cellsOf fd.type) (K (.pointer (some (a.add fd.offset))))
    | none => False
  | _, _ => False
/-- A part of an aggregate: one cell, or an aggregate of its own. -/
def partV (P : Program) (t : TypeId) (x : Value) (off : Nat) (K : Value → Prop) : Prop :=
  match P.underlying t with
  | some (.struct _) | some (.array _ _) => posP (P.cellsOf t) (∃ cs, x = .agg cs ∧ K (.agg (cs.extract off (off + P.cellsOf t))))
  | some _ => (vkOf P t).ex fun v => (∃ cs, x = .agg cs ∧ cs[off]? = some v) ∧ K v
  | none => False
def lenV (x : Value) (K : Value → Prop) : Prop := ∃ a n c, x = .slice a n c ∧ K (.int .i64 (n : Int))
/-- A bound of a slice expression: what is typed, or what stands in its place. (With a third bound the second one must be there.) -/
def sbOk (z : Option Value) (l d : Nat) : Prop := match z with | some (.int _ z) => z = (l : Int) | none => l = d | _ => False
def sbR (lo hi mx : Option Value) (n c l h m : Nat) : Prop := sbOk lo l 0 ∧ sbOk hi h n ∧ sbOk mx m c ∧ ((mx.isSome → hi.isSome) ∧ l ≤ h ∧ h ≤ m ∧ m ≤ c)
def sliceV (sz : Nat) (x : Value) (lo hi mx : Option Value) (K : Value → Prop) : Prop :=
  ∃ a n c, x = .slice a n c ∧ ∃ l h m : Nat, sbR lo hi mx n c l h m ∧ K (.slice (if m = l then a else a.map (·.add (l * sz))) (h - l) (m - l))
def nilV (x : Value) (K : Value → Prop) : Prop := (∃ a, x = .pointer (some a)) ∧ K x

/-- The value of an operation that looks at no world. -/
def pureV (P : Program) (o : Oper) (ρ : Operand → Value) (K : Value → Prop) : Prop :=
  match o.op with
  | .move x => K (ρ x)
  | .assign x => K (ρ x)
  | .pick c x y => match ρ c with
    | .bool b => K (match b with | true => ρ x | false => ρ y)
    | _ => False
  | .binOp op t x y _ => binV P op t x y (ρ x) (ρ y) K
  | .unOp op _ x => unV op (ρ x) K
  | .convert s d x => convV P s d (ρ x) K
  | .extract t i => extV (ρ t) i K
  | .makeFunc f a b => K (.func f (a.map ρ) (b.map ρ))
  | .indexAddr t x i => match P.underlying t with
    | some (.slice e) => posP (P.cellsOf e) (idxV (P.cellsOf e) (ρ x) (ρ i) K)
    | some (.array n e) => posP (P.cellsOf e) (idxA n (P.cellsOf e) (ρ x) (ρ i) K)
    | _ => False
  | .fieldAddr s x f => fldV P s (ρ x) f K
  | .field s x f => match P.underlying s with
    | some (.struct fs) => match fs[f]? with
      | some fd => partV P fd.type (ρ x) fd.offset K
      | none => False
    | _ => False
  | .index t x i => match P.underlying t, ρ i with
    | some (.array n e), .int _ j => posP (P.cellsOf e) ((0 ≤ j ∧ j < n) ∧ partV P e (ρ x) (j.toNat * P.cellsOf e) K)
    | _, _ => False
  | .slice t x lo hi mx => match P.underlying t with
    | some (.slice e) => posP (P.cellsOf e) (sliceV (P.cellsOf e) (ρ x) (lo.map ρ) (hi.map ρ) (mx.map ρ) K)
    | _ => False
  | .nilCheck x => nilV (ρ x) K
  | .build t parts => buildV P t (parts.toList.map fun p => (p.1, ρ p.2)) K
  | .call { callee := .builtin .len, args, argTypes } => match args.toList, argTypes.toList with
    | [x], [t] => match P.underlying t with
      | some (.slice _) => lenV (ρ x) K
      | _ => False
    | _, _ => False
  | .call { callee := .builtin .min, args, .. } => match args.toList with
    | [x, y] => match ρ x, ρ y with
      | .int k a, .int _ b => K (.int k (if b < a then b else a))
      | _, _ => False
    | _ => False
  | .call { callee := .builtin .max, args, .. } => match args.toList with
    | [x, y] => match ρ x, ρ y with
      | .int k a, .int _ b => K (.int k (if a < b then b else a))
      | _, _ => False
    | _ => False
  | _ => False
def isPure (o : Op) : Bool :=
  match o with
  | .move _ | .assign _ | .pick .. | .binOp .. | .unOp .. | .convert .. | .extract .. | .makeFunc .. | .indexAddr .. | .fieldAddr .. | .field .. | .index .. | .slice .. | .nilCheck .. | .build .. => true
  | .call { callee := .builtin .len, .. } | .call { callee := .builtin .min, .. } | .call { callee := .builtin .max, .. } => true
  | _ => false
/-- What it comes to: one value, in every world, the world left alone. -/
def Runs (P : Program) (s : Sem Next) (K : Value → Prop) : Prop := ∃ v, (∀ w, s.run P w = .ok (.value v) w) ∧ K v

theorem lift_v {P : Program} {s : Sem Value} {v : Value} (h : ∀ w, s.run P w = .ok v w) (w : World) :
    ((do pure (.value (← s)) : Sem Next)).run P w = .ok (.value v) w := by
  simp [h w]
theorem underlying_run {P : Program} {t : TypeId} {d : TypeDesc} (h : P.underlying t = some d) (w : World) : (underlying t).run P w = .ok d w := by
  simp [underlying, h]
theorem cellsOf_run {P : Program} {t : TypeId} (h : P.cellsOf t ≠ 0) (w : World) : (sizeOf t).run P w = .ok (P.cellsOf t) w := by
  unfold Program.cellsOf at *
  cases hi : P.info? t with
  | none => simp [hi] at h
  | some i => simp [sizeOf, typeInfo, hi]

theorem wrap_of {z : Int} (h : -9223372036854775808 ≤ z ∧ z ≤ 9223372036854775807) : IntKind.i64.wrap z = z := by
  rw [IntKind.wrap_i64]; omega
theorem arith_out {k : IntKind} {z : Int} {K : Value → Prop} (h : arith k z K) : K (.int k (k.wrap z)) := by
  cases k <;> first
    | exact h
    | (obtain ⟨h1, h2⟩ := h; rw [wrap_of h1]; exact h2)
theorem intV_runs {P : Program} {op : BinOp} {k : IntKind} {x y : Int} {t : TypeId} {ox oy : Operand} {K : Value → Prop} (hsh : op = .shl ∨ op = .shr → False) (h : intV op k x y K) :
    ∃ v, (∀ w, (do eqGuard op t ox oy (.int k x) (.int k y); binOp op t (.int k x) (.int k y) : Sem Value).run P w = .ok v w) ∧ K v := by
  have e : ∀ w, (do eqGuard op t ox oy (.int k x) (.int k y); binOp op t (.int k x) (.int k y) : Sem Value).run P w = (binOp op t (.int k x) (.int k y)).run P w := by
    intro w; simp [eqGuard_at_int]
  simp only [e]
  cases op
  case add => exact ⟨_, fun w => by simp [binOp, Op.intArith], arith_out h⟩
  case sub => exact ⟨_, fun w => by simp [binOp, Op.intArith], arith_out h⟩
  case mul => exact ⟨_, fun w => by simp [binOp, Op.intArith], arith_out h⟩
  case quo => exact ⟨_, fun w => by simp [binOp, Op.intDiv, h.1], h.2⟩
  case rem => exact ⟨_, fun w => by simp [binOp, Op.intDiv, h.1], h.2⟩
  case and => exact ⟨_, fun w => by simp [binOp, Op.intBits]; rfl, h⟩
  case or => exact ⟨_, fun w => by simp [binOp, Op.intBits]; rfl, h⟩
  case xor => exact ⟨_, fun w => by simp [binOp, Op.intBits]; rfl, h⟩
  case andNot => exact ⟨.int k (iAndNot k x y), fun w => by simp [binOp, Op.intBits, iAndNot], h⟩
  case shl => exact (hsh (.inl rfl)).elim
  case shr => exact (hsh (.inr rfl)).elim
  case eql => exact ⟨.bool (decide (x = y)), fun w => by simp [binOp, Op.intCmp]; rfl, h⟩
  case neq => exact ⟨.bool (!decide (x = y)), fun w => by simp [binOp, Op.intCmp]; rfl, h⟩
  case lss => exact ⟨_, fun w => by simp [binOp, Op.intCmp], h⟩
  case leq => exact ⟨_, fun w => by simp [binOp, Op.intCmp], h⟩
  case gtr => exact ⟨_, fun w => by simp [binOp, Op.intCmp], h⟩
  case geq => exact ⟨_, fun w => by simp [binOp, Op.intCmp], h⟩
theorem shift_runs {P : Program} {op : BinOp} {k k' : IntKind} {x y : Int} {t : TypeId} {ox oy : Operand} {K : Value → Prop} (hsh : op = .shl ∨ op = .shr) (h : intV op k x y K) :
    ∃ v, (∀ w, (do eqGuard op t ox oy (.int k x) (.int k' y); binOp op t (.int k x) (.int k' y) : Sem Value).run P w = .ok v w) ∧ K v := by
  rcases hsh with rfl | rfl
  · exact ⟨_, fun w => by simp [eqGuard_at_int, binOp, Op.shift, Int.not_lt.2 h.1]; rfl, h.2⟩
  · exact ⟨_, fun w => by simp [eqGuard_at_int, binOp, Op.shift, Int.not_lt.2 h.1]; rfl, h.2⟩

theorem runs_v {P : Program} {s : Sem Value} {K : Value → Prop} (h : ∃ v, (∀ w, s.run P w = .ok v w) ∧ K v) : Runs P (do pure (.value (← s))) K := by
  obtain ⟨v, h, hk⟩ := h
  exact ⟨v, lift_v h, hk⟩
theorem runs_pure {P : Program} {v : Value} {K : Value → Prop} (h : K v) : Runs P (pure (.value v)) K := ⟨v, fun _ => rfl, h⟩
theorem binV_runs {P : Program} {op : BinOp} {t : TypeId} {ox oy : Operand} {x y : Value} {K : Value → Prop} (h : binV P op t ox oy x y K) :
    ∃ v, (∀ w, (do eqGuard op t ox oy x y; binOp op t x y : Sem Value).run P w = .ok v w) ∧ K v := by
  unfold binV at h
  split at h
  · split at h
    · split at h
      · exact shift_runs (.inl rfl) h
      · exact shift_runs (.inr rfl) h
      · split at h
        · rename_i hk
          subst hk
          refine intV_runs ?_ h
          rintro (e | e)
          · simp_all
          · simp_all
        · exact h.elim
    · exact h.elim
  · rename_i hv
    have ht : P.underlying t = some .bool := by
      unfold vkOf at hv
      split at hv <;> simp_all
    split at h
    · rename_i a b
      split at h
      · refine ⟨_, fun w => ?_, h⟩
        simp only [eqGuard_at_bool, Sem.run_bind, Sem.run_pure, Result.andThen_ok, run_eql_bool w t a b ht]
      · refine ⟨_, fun w => ?_, h⟩
        simp only [eqGuard_at_bool, Sem.run_bind, Sem.run_pure, Result.andThen_ok, run_neq_bool w t a b ht, bne]
      · exact h.elim
    · exact h.elim
  · obtain ⟨b, hr, hk⟩ := h
    exact ⟨_, hr, hk⟩
theorem vkOf_int {P : Program} {t : TypeId} {k : IntKind} (h : vkOf P t = .int k) : P.underlying t = some (.int k) := by
  unfold vkOf at h
  split at h <;> simp_all
theorem part_one {P : Program} {t : TypeId} {d : TypeDesc} (hd : P.underlying t = some d) (h1 : ∀ fs, d ≠ .struct fs) (h2 : ∀ n e, d ≠ .array n e) (cs : Array Value) (off : Nat) (v : Value) (hv : cs[off]? = some v) (w : World) :
    (part t cs off).run P w = .ok v w := by
  have : (isAgg t).run P w = .ok false w := by
    unfold isAgg
    simp only [Sem.run_bind, underlying_run hd, Result.andThen_ok]
    cases d <;> first | rfl | exact absurd rfl (h1 _) | exact absurd rfl (h2 _ _)
  unfold part
  simp only [Sem.run_bind, this, Result.andThen_ok]
  simp [hv]
theorem part_agg {P : Program} {t : TypeId} {d : TypeDesc} (hd : P.underlying t = some d) (h : (∃ fs, d = .struct fs) ∨ ∃ n e, d = .array n e) (hs : P.cellsOf t ≠ 0) (cs : Array Value) (off : Nat) (w : World) :
    (part t cs off).run P w = .ok (.agg (cs.extract off (off + P.cellsOf t))) w := by
  have : (isAgg t).run P w = .ok true w := by
    unfold isAgg
    simp only [Sem.run_bind, underlying_run hd, Result.andThen_ok]
    rcases h with ⟨fs, rfl⟩ | ⟨n, e, rfl⟩ <;> rfl
  unfold part
  simp only [Sem.run_bind, this, Result.andThen_ok]
  simp [cellsOf_run hs]
theorem partV_runs {P : Program} {t : TypeId} {x : Value} {off : Nat} {K : Value → Prop} (h : partV P t x off K) :
    ∃ cs v, x = .agg cs ∧ (∀ w, (part t cs off).run P w = .ok v w) ∧ K v := by
  unfold partV at h
  split at h
  · rename_i fs hd
    obtain ⟨hs, cs, rfl, hk⟩ := posP_out h
    exact ⟨cs, _, rfl, part_agg hd (.inl ⟨_, rfl⟩) hs cs off, hk⟩
  · rename_i n e hd
    obtain ⟨hs, cs, rfl, hk⟩ := posP_out h
    exact ⟨cs, _, rfl, part_agg hd (.inr ⟨_, _, rfl⟩) hs cs off, hk⟩
  · rename_i d h1 h2 hd
    obtain ⟨v, ⟨cs, rfl, hv⟩, hk⟩ := VK.ex_elim h
    exact ⟨cs, v, rfl, part_one hd (fun fs e => h1 fs e) (fun n e' e => h2 n e' e) cs off v hv, hk⟩
  · exact h.elim
theorem sliceBounds_runs {P : Program} {n c l h m : Nat} {lo hi mx : Option Value} {w : World} (h1 : sbOk lo l 0) (h2 : sbOk hi h n) (h3 : sbOk mx m c) (hb : (mx.isSome → hi.isSome) ∧ l ≤ h ∧ h ≤ m ∧ m ≤ c) :
    (Instr.sliceBounds true n c lo hi mx).run P w = .ok (l, h, m) w := by
  have b : ∀ (k : IntKind) (z y : Nat) (code : BoundsCode), z ≤ y → (Instr.sliceBound (.int k (z : Int)) y code).run P w = .ok z w := by
    intro k z y code hzy
    rw [run_sliceBound w k z y code (by omega) (by omega)]
    simp
  have c1 : ∀ (k : IntKind) (code : BoundsCode), (Instr.sliceBound (.int k (m : Int)) c code).run P w = .ok m w := fun k code => b k m c code (by omega)
  have c2 : ∀ (k : IntKind) (code : BoundsCode), (Instr.sliceBound (.int k (h : Int)) m code).run P w = .ok h w := fun k code => b k h m code (by omega)
  have c3 : ∀ (k : IntKind) (code : BoundsCode), (Instr.sliceBound (.int k (h : Int)) c code).run P w = .ok h w := fun k code => b k h c code (by omega)
  have c4 : ∀ (k : IntKind) (code : BoundsCode), (Instr.sliceBound (.int k (l : Int)) h code).run P w = .ok l w := fun k code => b k l h code (by omega)
  clear b
  rcases lo with _ | lo <;> rcases hi with _ | hi <;> rcases mx with _ | mx
  all_goals (try cases lo) <;> (try cases hi) <;> (try cases mx)
  all_goals simp only [sbOk] at h1 h2 h3
  all_goals first
    | exact h1.elim
    | exact h2.elim
    | exact h3.elim
    | (simp at hb; done)
    | (simp_all [Instr.sliceBounds]; done)
set_option maxHeartbeats 1000000 in
theorem pureV_runs {P : Program} {o : Oper} {ρ : Operand → Value} {K : Value → Prop} (h : pureV P o ρ K) : Runs P (execOp ρ o) K := by
  unfold pureV at h
  split at h
  all_goals rename_i hop
  all_goals simp only [execOp, hop]
  · exact runs_pure h
  · exact runs_pure h
  · split at h
    · rename_i b hb
      refine ⟨_, fun w => ?_, h⟩
      simp only [hb, asBool]
      cases b <;> rfl
    · exact h.elim
  · exact runs_v (binV_runs h)
  · refine runs_v ?_
    unfold unV at h
    split at h
    · exact ⟨_, fun w => by simp [Op.unary, *], h⟩
    · exact ⟨_, fun w => by simp [Op.unary, Op.intArith, *], arith_out h⟩
    · exact ⟨.int _ _, fun w => by simp [Op.unary, Op.intBits, *]; rfl, h⟩
    · exact h.elim
  · refine runs_v ?_
    unfold convV at h
    split at h
    · rename_i hs hd hx
      exact ⟨_, fun w => by simp [convert, underlying_run (vkOf_int hs), underlying_run (vkOf_int hd), hx, Conv.intToInt], h⟩
    · exact h.elim
  · refine runs_v ?_
    unfold extV at h
    split at h
    · rename_i hx
      split at h
      · rename_i hv
        exact ⟨_, fun w => by simp [Instr.extract, hx, hv], h⟩
      · exact h.elim
    · exact h.elim
  · exact runs_v ⟨_, fun w => rfl, h⟩
  · refine runs_v ?_
    split at h
    · rename_i e ht
      obtain ⟨hs, h⟩ := posP_out h
      unfold idxV at h
      split at h
      · rename_i k j hi
        obtain ⟨a, len, cap, hx, hb, hk⟩ := h
        exact ⟨_, fun w => by simp [Instr.indexAt, asIntOf, hi, hx, underlying_run ht, hb, cellsOf_run hs], hk⟩
      · exact h.elim
    · rename_i n e ht
      obtain ⟨hs, h⟩ := posP_out h
      unfold idxA at h
      split at h
      · rename_i a k j hx hi
        obtain ⟨hb, hk⟩ := h
        exact ⟨_, fun w => by simp [Instr.indexAt, asIntOf, hi, hx, underlying_run ht, Instr.sureAddr, hb, cellsOf_run hs], hk⟩
      · exact h.elim
    · exact h.elim
  · refine runs_v ?_
    unfold fldV at h
    split at h
    · rename_i fs a ht hx
      split at h
      · rename_i fd hfd
        obtain ⟨hs, hk⟩ := posP_out h
        exact ⟨_, fun w => by simp [Instr.fieldAt, underlying_run ht, hfd, hx, Instr.sureAddr, fieldPlace, cellsOf_run hs, hs], hk⟩
      · exact h.elim
    · exact h.elim
  · refine runs_v ?_
    split at h
    · rename_i fs ht
      split at h
      · rename_i fd hfd
        obtain ⟨cs, v, hx, hr, hk⟩ := partV_runs h
        exact ⟨v, fun w => by simp [Instr.field, underlying_run ht, hfd, hx, asAgg, hr], hk⟩
      · exact h.elim
    · exact h.elim
  · refine runs_v ?_
    split at h
    · rename_i n e k j ht hi
      obtain ⟨hs, hb, h⟩ := posP_out h
      obtain ⟨cs, v, hx, hr, hk⟩ := partV_runs h
      exact ⟨v, fun w => by simp [Instr.index, asIntOf, hi, underlying_run ht, hx, hb, cellsOf_run hs, hr], hk⟩
    · exact h.elim
  · refine runs_v ?_
    split at h
    · rename_i e ht
      obtain ⟨hs, h⟩ := posP_out h
      obtain ⟨a, n, c, hx, l, hh, m, ⟨h1, h2, h3, hb⟩, hk⟩ := h
      refine ⟨_, fun w => ?_, hk⟩
      have b1 : (Instr.sliceBounds true n c _ _ _).run P w = .ok (l, hh, m) w := sliceBounds_runs h1 h2 h3 hb
      simp only [Instr.sliceAt, Sem.run_bind, underlying_run ht, Result.andThen_ok, hx, Instr.slice, b1, cellsOf_run hs, Sem.run_pure]
    · exact h.elim
  · obtain ⟨⟨a, ha⟩, hk⟩ := h
    exact ⟨ρ _, fun w => by simp only [ha]; rfl, hk⟩
  · obtain ⟨cells, hc, hk⟩ := buildV_out h
    exact runs_v ⟨_, fun w => run_build w _ _ cells (by rw [← hc]; simp), hk⟩
  · rename_i _ args ats
    split at h
    · rename_i x t ha hat
      have ea : args = #[x] := by apply Array.ext'; simpa using ha
      have et : ats = #[t] := by apply Array.ext'; simpa using hat
      subst ea; subst et
      split at h
      · rename_i e ht
        obtain ⟨a, n, c, hx, hk⟩ := h
        refine ⟨_, fun w => ?_, hk⟩
        simp [resolve, invoke, builtin, Builtin.len_, underlying_run ht, hx, goInt]
      · exact h.elim
    · exact h.elim
  · rename_i _ args _
    split at h
    · rename_i x y ha
      have ea : args = #[x, y] := by apply Array.ext'; simpa using ha
      subst ea
      split at h
      · rename_i hx hy
        refine ⟨_, fun w => ?_, h⟩
        simp [resolve, invoke, builtin, Builtin.min_, Builtin.min2, hx, hy]
      · exact h.elim
    · exact h.elim
  · rename_i _ args _
    split at h
    · rename_i x y ha
      have ea : args = #[x, y] := by apply Array.ext'; simpa using ha
      subst ea
      split at h
      · rename_i hx hy
        refine ⟨_, fun w => ?_, h⟩
        simp [resolve, invoke, builtin, Builtin.max_, Builtin.max2, hx, hy]
      · exact h.elim
    · exact h.elim
  · exact h.elim
end Go.Proofs.Ytleiddajojgmmaa.VC

/- The calculus, second part: operations that look at the world, regions, code, and soundness of the whole. No condition. -/
namespace Go.Proofs.Ytleiddajojgmmaa.VC
open Go Go.RowKit
set_option linter.unusedSimpArgs false
set_option linter.unusedVariables false

/-! ## Worlds -/
def dr (w : World) (m : Nat) : World := { w with drawn := m }
/-- What may have been drawn by then. -/
abbrev DM (w : World) : Type := { m : Nat // w.drawn ≤ m }
@[simp] theorem dr_heap (w : World) (m : Nat) : (dr w m).heap = w.heap := rfl
@[simp] theorem dr_cell (w : World) (m : Nat) (a : Addr) : (dr w m).cell? a = w.cell? a := rfl
@[simp] theorem dr_frozen (w : World) (m : Nat) (a : Addr) : (dr w m).frozen? a = w.frozen? a := rfl
/-- Nothing that was there has turned. -/
def Grow (w w' : World) : Prop := Below w.heap.size w w'
theorem Grow.refl (w : World) : Grow w w := Below.refl _ _
theorem Grow.trans {a b c : World} (h : Grow a b) (k : Grow b c) : Grow a c := Below.trans h (Below.mono k h.size)
theorem Grow.dr {a b : World} (h : Grow a b) (m : Nat) : Grow a (dr b m) := ⟨h.os, h.tape, h.output, h.size, h.block⟩
theorem Grow.alloc {a b : World} (h : Grow a b) (o : Obj) : Grow a (b.alloc o) := Below.alloc h h.size o
theorem Grow.cell {w w' : World} (h : Grow w w') {a : Addr} {v : Value} (hc : w.cell? a = some v) : w'.cell? a = some v :=
  (Below.cell h (World.block_lt_of_cell? w a hc)).trans hc
theorem Grow.setCell {a b : World} (h : Grow a b) {p : Addr} (hp : a.heap.size ≤ p.block) (v : Value) : Grow a (b.setCell p v) := Below.setCell h hp v

/-! ## Operations -/
/-- The functions that are entered when they are called. -/
def Callable (P : Program) (f : FuncId) : Prop := ∀ args w, (callFunc f args).run P w = .ok (.enter f args) w
variable (C : Nat → Bool)
def PCall (P : Program) (k : RK) (f : FuncId) (args : Array Value) (w : World) (K : Value → World → Prop) : Prop :=
  Calls P f args w fun e w' => k.ex fun v => e = .returned v ∧ K v w'
def PCallV (P : Program) (k : RK) (f : Value) (args : Array Value) (w : World) (K : Value → World → Prop) : Prop :=
  ∃ g fst cap, f = .func (.func g) fst cap ∧ C g = true ∧ PCall P k g (fst ++ args ++ cap) w K
def QCall (P : Program) (k : RK) (f : FuncId) (args : Array Value) (w : World) (K : Value → Prop) : Prop :=
  k.ex fun v => (∀ w', Grow w w' → Calls P f args w' fun e w'' => e = .returned v ∧ Grow w' w'') ∧ K v
def QCallV (P : Program) (k : RK) (f : Value) (args : Array Value) (w : World) (K : Value → Prop) : Prop :=
  ∃ g fst cap, f = .func (.func g) fst cap ∧ C g = true ∧ QCall P k g (fst ++ args ++ cap) w K
def PRun (P : Program) (k : RK) (s : Sem Value) (w : World) (K : Value → World → Prop) : Prop :=
  k.ex fun v => ∃ w', s.run P w = .ok v w' ∧ K v w'
/-- A step of a range over a map of ints to ints: nothing is left, or an entry comes out. -/
def PNext (P : Program) (s : Sem Value) (w : World) (K : Value → World → Prop) : Prop :=
  (∃ w' : World, s.run P w = .ok (.tuple #[.bool false]) w' ∧ K (.tuple #[.bool false]) w') ∨
  ∃ (k v : Value) (w' : World), s.run P w = .ok (.tuple #[.bool true, k, v]) w' ∧ K (.tuple #[.bool true, k, v]) w'
def PEnt (P : Program) (s : Sem Value) (w : World) (K : Value → World → Prop) : Prop :=
  ∃ (k v : Value) (w' : World), s.run P w = .ok (.tuple #[k, v]) w' ∧ K (.tuple #[k, v]) w'
def PRunU (P : Program) (s : Sem Unit) (w : World) (K : World → Prop) : Prop := ∃ w', s.run P w = .ok () w' ∧ K w'
def cellAt (w : World) (addr v : Value) : Prop := match addr with | .pointer (some a) => w.cell? a = some v | _ => False
def cellsAt (w : World) (addr : Value) (cs : List Value) : Prop := match addr with | .pointer (some a) => ∀ j v, cs[j]? = some v → w.cell? (a.add j) = some v | _ => False
def loadV (P : Program) (t : TypeId) (addr : Value) (w : World) (K : Value → Prop) : Prop :=
  match P.underlying t with
  | some (.struct _) | some (.array _ _) => posP (P.cellsOf t) (∃ cs : List Value, cs.length = P.cellsOf t ∧ cellsAt w addr cs ∧ K (.agg cs.toArray))
  | some _ => (vkOf P t).ex fun v => cellAt w addr v ∧ K v
  | none => False
def oneL (k : VK) : List Value → Prop → Prop
  | [], rest => rest
  | v :: vs, rest => oneK k v (oneL k vs rest)
def is1 (n : Nat) (p : Prop) : Prop := match n with | 1 => p | _ => False
theorem is1_out {n : Nat} {p : Prop} (h : is1 n p) : n = 1 ∧ p := by
  unfold is1 at h
  split at h
  · exact ⟨rfl, h⟩
  · exact h.elim
def storeA (P : Program) (addr : Value) (cs : Array Value) (w : World) (K : World → Prop) : Prop :=
  match addr with
  | .pointer (some a) => PRunU P (storeCells a cs.toList) w K
  | _ => False
def storeV (P : Program) (t : TypeId) (addr x : Value) (w : World) (K : World → Prop) : Prop :=
  match P.underlying t with
  | some (.struct _) | some (.array _ _) => ∃ cs, x = .agg cs ∧ cs.size = P.cellsOf t ∧ posP (P.cellsOf t) (storeA P addr cs w K)
  | some _ => match addr with
    | .pointer (some a) => is1 (P.cellsOf t) (oneK (vkOf P t) x ((∃ old, w.cell? a = some old) ∧ w.frozen? a = false ∧ ∀ w', w' = w.setCell a x → K w'))
    | _ => False
  | none => False
def newPtr (w : World) : Value := .pointer (some ⟨w.heap.size, 0, none⟩)
def allocV (P : Program) (e : TypeId) (w : World) (K : Value → World → Prop) : Prop :=
  match P.info? e with
  | some i => match i.zero with
    | some z => ∀ w', w' = w.alloc (.cells z.cells e) → K (.pointer (some ⟨w.heap.size, 0, none⟩)) w'
    | none => False
  | none => False
def boxV (P : Program) (e : TypeId) (x : Value) (w : World) (K : Value → World → Prop) : Prop :=
  match P.underlying e with
  | some (.struct _) | some (.array _ _) => ∃ cs, x = .agg cs ∧ ∀ w', w' = w.alloc (.cells cs e) → K (.pointer (some ⟨w.heap.size, 0, none⟩)) w'
  | some _ => oneK (vkOf P e) x (∀ w', w' = w.alloc (.cells #[x] e) → K (.pointer (some ⟨w.heap.size, 0, none⟩)) w')
  | none => False
def place : List (Nat × Value) → List Value → List Value
  | [], cs => cs
  | (i, v) :: r, cs => place r (cs.set i v)
def bsV (P : Program) (t : TypeId) (n : Nat) (parts : List (Nat × Value)) (w : World) (K : Value → World → Prop) : Prop :=
  match P.underlying t with
  | some (.slice e) => match P.info? e with
    | some i => match i.zero, i.size with
      | some z, 1 => match z.cells.toList, (decide (n ≤ 16777216) && parts.all fun p => decide (p.1 < n)) with
        | [z0], true => oneL (vkOf P e) (parts.map (·.2)) (∀ w', w' = w.alloc (.cells (place parts (List.replicate n z0)).toArray e) → K (.slice (some ⟨w.heap.size, 0, none⟩) n n) w')
        | _, _ => False
      | _, _ => PRun P (.one .raw) (Instr.buildSlice t n parts.toArray) w K
    | none => False
  | _ => False
def makeV (P : Program) (t : TypeId) (l c : Value) (w : World) (K : Value → World → Prop) : Prop :=
  match P.underlying t with
  | some (.slice e) => match P.info? e with
    | some i => match i.zero, l, c with
      | some z, .int _ a, .int _ b => (0 ≤ a ∧ a ≤ b ∧ (i.bytes : Int) * b ≤ 281474976710656 ∧ b ≤ 9223372036854775807) ∧
          ∀ w', w' = w.alloc (.cells (madeCells z.cells (b.toNat * i.size)) e) → K (.slice (some ⟨w.heap.size, 0, none⟩) a.toNat b.toNat) w'
      | _, _, _ => False
    | none => False
  | _ => False
def PApp (P : Program) (t ty : TypeId) (s x : Value) (w : World) (K : Value → World → Prop) : Prop :=
  ∃ v' w', (Builtin.append_ #[t, t] ty #[s, x]).run P w = .ok v' w' ∧ K v' w'
def PClear (P : Program) (ats : Array TypeId) (ty : TypeId) (args : Array Value) (w : World) (K : Value → World → Prop) : Prop :=
  ∃ w', (Builtin.clear_ ats ty args).run P w = .ok (.tuple #[]) w' ∧ K (.tuple #[]) w'
def effV (P : Program) (o : Oper) (ρ : Operand → Value) (w : World) (K : Value → World → Prop) : Prop :=
  match o.op with
  | .load t a => loadV P t (ρ a) w fun v => K v w
  | .store t a x => storeV P t (ρ a) (ρ x) w fun w' => K undef w'
  | .alloc e => allocV P e w K
  | .box e x => boxV P e (ρ x) w K
  | .buildSlice t n parts => bsV P t n (parts.toList.map fun p => (p.1, ρ p.2)) w K
  | .makeSlice t l c => makeV P t (ρ l) (ρ c) w K
  | .call { callee := .value (.func f), args, .. } => match C f with
    | true => PCall P (rkOf P o.type) f (args.map ρ) w K
    | false => False
  | .call { callee := .value f, args, .. } => PCallV C P (rkOf P o.type) (ρ f) (args.map ρ) w K
  | .call { callee := .builtin .append, args, argTypes } => match args.toList, argTypes.toList with
    | [s, x], [t, t'] => if t = t' then PApp P t o.type (ρ s) (ρ x) w K else PRun P (.one .raw) (Builtin.append_ #[t, t'] o.type #[ρ s, ρ x]) w K
    | _, _ => False
  | .call { callee := .builtin .copy, args, argTypes } => PRun P (.one (.int .i64)) (Builtin.copy_ argTypes o.type (args.map ρ)) w K
  | .call { callee := .builtin .len, args, argTypes } => PRun P (.one (.int .i64)) (Builtin.len_ argTypes o.type (args.map ρ)) w K
  | .call { callee := .builtin .clear, args, argTypes } => PClear P argTypes o.type (args.map ρ) w K
  | .lookup t m k ok => PRun P (rkOf P o.type) (Instr.lookup t (ρ m) (ρ k) ok) w K
  | .makeMap t r => PRun P (.one .raw) (Instr.makeMap t (r.map ρ)) w K
  | .mapUpdate t m k x => PRunU P (Instr.mapUpdate t (ρ m) (ρ k) (ρ x)) w fun w' => K undef w'
  | .insert t m k x => PRunU P (Instr.mapUpdate t (ρ m) (ρ k) (ρ x)) w fun w' => K undef w'
  | .mapEntry t m k => PRun P (.one .raw) (Instr.mapEntry t (ρ m) (ρ k)) w K
  | .entryStore t m s x => PRunU P (Instr.entryStore t (ρ m) (ρ s) (ρ x)) w fun w' => K undef w'
  | .range t x => PRun P (.one .raw) (Instr.range t (ρ x)) w K
  | .next it s => match s with
    | false => PNext P (Instr.next (ρ it) false o.type) w K
    | true => PRun P (rkOf P o.type) (Instr.next (ρ it) true o.type) w K
  | .entry it => PEnt P (Instr.entry (ρ it)) w K
  | _ => False
/-- Is this 'len' one of a slice? -/
def lenPure (P : Program) (o : Op) : Bool :=
  match o with
  | .call { callee := .builtin .len, argTypes, .. } => match argTypes.toList with
    | [t] => match P.underlying t with
      | some (.slice _) => true
      | _ => false
    | _ => false
  | o => isPure o
def opV (P : Program) (o : Oper) (ρ : Operand → Value) (w : World) (K : Value → World → Prop) : Prop :=
  match lenPure P o.op with
  | true => pureV P o ρ fun v => K v w
  | false => effV C P o ρ w K
/-- What an operation comes to, calls by what they are proved to do. -/
def OpOk (P : Program) (K : Value → World → Prop) : Result Next → Prop
  | .ok (.value v) w' => K v w'
  | .ok .skip w' => K undef w'
  | .ok (.enter f args) w' => Calls P f args w' fun e w'' => ∃ v, e = .returned v ∧ K v w''
  | _ => False
theorem OpOk.wp {P : Program} {o : Oper} {a : Act} {w : World} {next : Act → World → Prop} {Q : Exit → Act → World → Prop}
    (h : OpOk P (fun v w' => next (a.put o.dst v) w') ((execOp a.eval o).run P w)) : o.wp P a w next Q := by
  unfold Oper.wp
  generalize (execOp a.eval o).run P w = r at *
  cases r with
  | ok n w' =>
    cases n <;> simp only [OpOk] at h <;> simp only [Oper.upon]
    case value v => exact h
    case skip => exact h
    case enter f args =>
      refine h.mono ?_
      rintro e w'' ⟨v, rfl, hk⟩
      exact hk
  | halt x w' => exact h.elim
theorem OpOk.mono {P : Program} {K K' : Value → World → Prop} (hk : ∀ v w, K v w → K' v w) {r : Result Next} (h : OpOk P K r) : OpOk P K' r := by
  cases r with
  | ok n w' =>
    cases n <;> simp only [OpOk] at h ⊢
    case value v => exact hk _ _ h
    case skip => exact hk _ _ h
    case enter f args => exact h.mono fun e w'' ⟨v, he, hv⟩ => ⟨v, he, hk _ _ hv⟩
  | halt x w' => exact h.elim
theorem ok_v {P : Program} {s : Sem Value} {w w' : World} {v : Value} {K : Value → World → Prop} (h : s.run P w = .ok v w') (hk : K v w') : OpOk P K ((do pure (.value (← s)) : Sem Next).run P w) := by
  simp [h, OpOk, hk]
theorem ok_u {P : Program} {s : Sem Unit} {w w' : World} {K : Value → World → Prop} (h : s.run P w = .ok () w') (hk : K undef w') : OpOk P K ((do s; pure .skip : Sem Next).run P w) := by
  simp [h, OpOk, hk]
theorem ok_run {P : Program} {k : RK} {s : Sem Value} {w : World} {K : Value → World → Prop} (h : PRun P k s w K) : OpOk P K ((do pure (.value (← s)) : Sem Next).run P w) := by
  obtain ⟨v, w', hr, hk⟩ := RK.ex_elim h
  exact ok_v hr hk
theorem ok_runU {P : Program} {s : Sem Unit} {w : World} {K : Value → World → Prop} (h : PRunU P s w fun w' => K undef w') : OpOk P K ((do s; pure .skip : Sem Next).run P w) := by
  obtain ⟨w', hr, hk⟩ := h
  exact ok_u hr hk
theorem isAgg_run {P : Program} {t : TypeId} {d : TypeDesc} (hd : P.underlying t = some d) (w : World) : (isAgg t).run P w = .ok (match d with | .struct _ | .array _ _ => true | _ => false) w := by
  unfold isAgg
  simp only [Sem.run_bind, underlying_run hd, Result.andThen_ok]
  cases d <;> rfl
theorem loadV_ok {P : Program} {t : TypeId} {addr : Value} {w : World} {K : Value → Prop} (h : loadV P t addr w K) : ∃ v, (∀ w', (∀ a u, w.cell? a = some u → w'.cell? a = some u) → (Instr.loadAt t addr).run P w' = .ok v w') ∧ K v := by
  have agg : ∀ d, P.underlying t = some d → ((∃ fs, d = .struct fs) ∨ ∃ n e, d = .array n e) → posP (P.cellsOf t) (∃ cs : List Value, cs.length = P.cellsOf t ∧ cellsAt w addr cs ∧ K (.agg cs.toArray)) →
      ∃ v, (∀ w', (∀ a u, w.cell? a = some u → w'.cell? a = some u) → (Instr.loadAt t addr).run P w' = .ok v w') ∧ K v := by
    intro d hd hag hp
    obtain ⟨hs, cs, hl, hc, hk⟩ := posP_out hp
    refine ⟨_, fun w' hw => ?_, hk⟩
    unfold cellsAt at hc
    split at hc
    · rename_i a
      have ha : (isAgg t).run P w' = .ok true w' := by
        rw [isAgg_run hd]
        rcases hag with ⟨fs, rfl⟩ | ⟨n, e, rfl⟩ <;> rfl
      have hr := run_loadCells_list (P := P) (w := w') a cs (fun j v hj => hw _ _ (hc j v hj))
      rw [hl] at hr
      simp [Instr.loadAt, Instr.sureAddr, loadVar, ha, cellsOf_run hs, hr]
    · exact hc.elim
  unfold loadV at h
  split at h
  · rename_i fs hd; exact agg _ hd (.inl ⟨_, rfl⟩) h
  · rename_i n e hd; exact agg _ hd (.inr ⟨_, _, rfl⟩) h
  · rename_i d h1 h2 hd
    obtain ⟨v, hc, hk⟩ := VK.ex_elim h
    refine ⟨v, fun w' hw => ?_, hk⟩
    unfold cellAt at hc
    split at hc
    · rename_i a
      have ha : (isAgg t).run P w' = .ok false w' := by
        rw [isAgg_run hd]
        cases d <;> first | rfl | exact (h1 _ rfl).elim | exact (h2 _ _ rfl).elim
      simp [Instr.loadAt, Instr.sureAddr, loadVar, ha, hw _ _ hc]
    · exact hc.elim
  · exact h.elim

theorem add0 (a : Addr) : a.add 0 = a := by simp [Addr.add]
theorem storeOne_run {P : Program} {t : TypeId} {d : TypeDesc} (hd : P.underlying t = some d) (hs : P.cellsOf t = 1) {a : Addr} {x old : Value} {w : World} (hx : oneV x) (hc : w.cell? a = some old) (hf : w.frozen? a = false) :
    (Instr.storeAt t (.pointer (some a)) x).run P w = .ok () (w.setCell a x) := by
  have h1 : (sizeOf t).run P w = .ok 1 w := by rw [cellsOf_run (by omega), hs]
  simp [Instr.storeAt, Instr.sureAddr, storeVar, h1, hx.1, storeCells, run_store, hx.2, add0, hc, hf]
theorem setPlace {size : Nat} : ∀ (parts : List (Nat × Value)) (cs : List Value), (∀ p ∈ parts, p.1 < cs.length) → (∀ p ∈ parts, p.2.cells = #[p.2]) →
    Instr.fill (fun i => some (i * 1, 1)) cs.toArray parts = some (place parts cs).toArray
  | [], cs, _, _ => rfl
  | (i, v) :: r, cs, h1, h2 => by
    have hv : v.cells = #[v] := h2 (i, v) (by simp)
    have hi : i < cs.length := h1 (i, v) (by simp)
    have := setPlace (size := size) r (cs.set i v) (fun p hp => by rw [List.length_set]; exact h1 p (by simp [hp])) (fun p hp => h2 p (by simp [hp]))
    simp only [Instr.fill, place, hv]
    rw [if_neg (by simp; omega)]
    simp
    rw [← this]
    simp
theorem oneL_out {k : VK} : ∀ {vs : List Value} {rest : Prop}, oneL k vs rest → (∀ v ∈ vs, oneV v) ∧ rest
  | [], rest, h => ⟨by simp, h⟩
  | v :: vs, rest, h => by
    obtain ⟨h1, h2⟩ := oneK_out h
    obtain ⟨h3, h4⟩ := oneL_out h2
    exact ⟨by simp; exact ⟨h1, h3⟩, h4⟩
theorem bsV_ok {P : Program} {t : TypeId} {n : Nat} {parts : List (Nat × Value)} {w : World} {K : Value → World → Prop} (h : bsV P t n parts w K) : OpOk P K ((do pure (.value (← Instr.buildSlice t n parts.toArray)) : Sem Next).run P w) := by
  unfold bsV at h
  split at h
  · rename_i e ht
    split at h
    · rename_i i hi
      split at h
      · rename_i z hz hsz
        split at h
        · rename_i z0 hz0 hb
          simp only [Bool.and_eq_true, decide_eq_true_eq, List.all_eq_true] at hb
          obtain ⟨hv, hk⟩ := oneL_out h
          have hz1 : z.cells = #[z0] := by apply Array.ext'; simpa using hz0
          have hf := setPlace (size := 1) parts (List.replicate n z0) (by simpa using hb.2) (fun p hp => (hv p.2 (List.mem_map.2 ⟨p, hp, rfl⟩)).1)
          have hcells : (Array.range n).map (fun j => z.cells[j % z.cells.size]!) = (List.replicate n z0).toArray := by
            rw [hz1]; apply Array.ext'; simp [Nat.mod_one]; apply List.ext_getElem <;> simp
          refine ok_v (v := .slice (some ⟨w.heap.size, 0, none⟩) n n) (w' := w.alloc (.cells (place parts (List.replicate n z0)).toArray e)) ?_ (hk _ rfl)
          have hs : (sizeOf e).run P w = .ok 1 w := by simp [sizeOf, typeInfo, hi, hsz]
          have hzr : (zeroValue e).run P w = .ok z w := by simp [zeroValue, typeInfo, hi, hz]
          simp only [Instr.buildSlice, Sem.run_bind, underlying_run ht, Result.andThen_ok, hs, Nat.mul_one]
          rw [if_neg (by have := hb.1; omega)]
          by_cases hn : n = 0
          · subst hn
            have hp : parts = [] := by
              cases parts with
              | nil => rfl
              | cons p r => have := hb.2 p (by simp); omega
            subst hp
            simp [place, Instr.fill, newRow, Array.range_zero']
          · simp only [Nat.mul_one] at hf
            simp only [hn, if_false, Sem.run_bind, hzr, Result.andThen_ok, Sem.run_pure, hcells, hf, newRow, run_newObj]
            rfl
        · exact h.elim
      · exact ok_run h
    · exact h.elim
  · exact h.elim

theorem makeV_ok {P : Program} {t : TypeId} {l c : Value} {w : World} {K : Value → World → Prop} (h : makeV P t l c w K) : OpOk P K ((do pure (.value (← Instr.makeSlice t l c)) : Sem Next).run P w) := by
  unfold makeV at h
  split at h
  · rename_i e ht
    split at h
    · rename_i i hi
      split at h
      · rename_i z kl a kc b hz
        obtain ⟨⟨h0, h1, h2, h3⟩, hk⟩ := h
        exact ok_v (run_make w t e i z ht hi hz kl kc a b h0 h1 h2 h3) (hk _ rfl)
      · exact h.elim
    · exact h.elim
  · exact h.elim
theorem storeV_ok {P : Program} {t : TypeId} {addr x : Value} {w : World} {K : Value → World → Prop} (h : storeV P t addr x w fun w' => K undef w') : OpOk P K ((do Instr.storeAt t addr x; pure .skip : Sem Next).run P w) := by
  have agg : (∃ cs, x = .agg cs ∧ cs.size = P.cellsOf t ∧ posP (P.cellsOf t) (storeA P addr cs w fun w' => K undef w')) → OpOk P K ((do Instr.storeAt t addr x; pure .skip : Sem Next).run P w) := by
    rintro ⟨cs, rfl, hsz, hp⟩
    obtain ⟨hs, hp⟩ := posP_out hp
    unfold storeA at hp
    split at hp
    · rename_i a
      obtain ⟨w', hr, hk⟩ := hp
      refine ok_u (w' := w') ?_ hk
      simp [Instr.storeAt, Instr.sureAddr, storeVar, cellsOf_run hs, Value.cells, hsz, hr]
    · exact hp.elim
  unfold storeV at h
  split at h
  · exact agg h
  · exact agg h
  · rename_i d h1 h2 hd
    split at h
    · rename_i a
      obtain ⟨hs, h⟩ := is1_out h
      obtain ⟨hx, ⟨old, ho⟩, hf, hk⟩ := oneK_out h
      exact ok_u (storeOne_run hd hs hx ho hf) (hk _ rfl)
    · exact h.elim
  · exact h.elim
theorem allocV_ok {P : Program} {e : TypeId} {w : World} {K : Value → World → Prop} (h : allocV P e w K) : OpOk P K ((do pure (.value (← Instr.alloc e true (.tuple #[]))) : Sem Next).run P w) := by
  unfold allocV at h
  split at h
  · rename_i i hi
    split at h
    · rename_i z hz
      refine ok_v (v := .pointer (some ⟨w.heap.size, 0, none⟩)) (w' := w.alloc (.cells z.cells e)) ?_ (h _ rfl)
      simp [Instr.alloc, zeroValue, typeInfo, hi, hz, newVar, newRow]
    · exact h.elim
  · exact h.elim
theorem boxV_ok {P : Program} {e : TypeId} {x : Value} {w : World} {K : Value → World → Prop} (h : boxV P e x w K) : OpOk P K ((do pure (.value (← Instr.box e x)) : Sem Next).run P w) := by
  unfold boxV at h
  split at h
  · obtain ⟨cs, rfl, hk⟩ := h
    exact ok_v (v := .pointer (some ⟨w.heap.size, 0, none⟩)) (w' := w.alloc (.cells cs e)) (by simp [Instr.box, newVar, newRow, Value.cells]) (hk _ rfl)
  · obtain ⟨cs, rfl, hk⟩ := h
    exact ok_v (v := .pointer (some ⟨w.heap.size, 0, none⟩)) (w' := w.alloc (.cells cs e)) (by simp [Instr.box, newVar, newRow, Value.cells]) (hk _ rfl)
  · obtain ⟨hx, hk⟩ := oneK_out h
    exact ok_v (v := .pointer (some ⟨w.heap.size, 0, none⟩)) (w' := w.alloc (.cells #[x] e)) (by simp [Instr.box, newVar, newRow, hx.1]) (hk _ rfl)
  · exact h.elim
theorem call_ok {P : Program} {k : RK} {f : FuncId} (hf : Callable P f) {args : Array Value} {w : World} {K : Value → World → Prop} (h : PCall P k f args w K) : OpOk P K ((callFunc f args).run P w) := by
  rw [hf]
  refine Calls.mono h ?_
  intro e w' hr
  obtain ⟨v, he, hk⟩ := RK.ex_elim hr
  exact ⟨v, he, hk⟩
variable {C}
set_option maxHeartbeats 1000000 in
theorem effV_ok {P : Program} (hC : ∀ f, C f = true → Callable P f) {o : Oper} {ρ : Operand → Value} (hρ : ∀ f, ρ (.func f) = .func (.func f) #[] #[]) {w : World} {K : Value → World → Prop} (h : effV C P o ρ w K) : OpOk P K ((execOp ρ o).run P w) := by
  unfold effV at h
  split at h
  all_goals rename_i hop
  all_goals simp only [execOp, hop]
  · obtain ⟨v, hr, hk⟩ := loadV_ok h
    exact ok_v (hr w (fun _ _ h => h)) hk
  · exact storeV_ok h
  · exact allocV_ok h
  · exact boxV_ok h
  · rename_i parts
    have := bsV_ok h
    have e : (List.map (fun p => (p.1, ρ p.2)) parts.toList).toArray = parts.map (fun p => (p.1, ρ p.2)) := by
      apply Array.ext'; simp only [Array.toList_map]
    rw [e] at this
    exact this
  · exact makeV_ok h
  · split at h
    · rename_i hcf
      have := call_ok (hC _ hcf) h
      simpa [resolve, hρ, Deferred.ofValue, invoke] using this
    · exact h.elim
  · obtain ⟨g, fst, cap, hf, hcg, hp⟩ := h
    have := call_ok (hC _ hcg) hp
    simpa [resolve, Deferred.ofValue, invoke, hf] using this
  · rename_i _ args ats
    split at h
    · rename_i s x t t' ha hat
      have ea : args = #[s, x] := by apply Array.ext'; simpa using ha
      have et : ats = #[t, t'] := by apply Array.ext'; simpa using hat
      subst ea; subst et
      split at h
      · rename_i htt
        subst htt
        obtain ⟨v', w', hr, hk⟩ := h
        have := ok_v hr hk
        simpa [resolve, invoke, builtin] using this
      · have := ok_run h
        simpa [resolve, invoke, builtin] using this
    · exact h.elim
  · have := ok_run h
    simpa [resolve, invoke, builtin] using this
  · have := ok_run h
    simpa [resolve, invoke, builtin] using this
  · obtain ⟨w', hr, hk⟩ := h
    have := ok_v hr hk
    simpa [resolve, invoke, builtin] using this
  · exact ok_run h
  · exact ok_run h
  · exact ok_runU h
  · exact ok_runU h
  · exact ok_run h
  · exact ok_runU h
  · exact ok_run h
  · split at h
    · rcases h with ⟨w', hr, hk⟩ | ⟨k, v, w', hr, hk⟩
      · exact ok_v hr hk
      · exact ok_v hr hk
    · exact ok_run h
  · obtain ⟨k, v, w', hr, hk⟩ := h
    exact ok_v hr hk
  · exact h.elim
theorem opV_ok {P : Program} (hC : ∀ f, C f = true → Callable P f) {o : Oper} {ρ : Operand → Value} (hρ : ∀ f, ρ (.func f) = .func (.func f) #[] #[]) {w : World} {K : Value → World → Prop} (h : opV C P o ρ w K) : OpOk P K ((execOp ρ o).run P w) := by
  unfold opV at h
  split at h
  · obtain ⟨v, hr, hk⟩ := pureV_runs h
    rw [hr]
    exact hk
  · exact effV_ok hC hρ h
end Go.Proofs.Ytleiddajojgmmaa.VC
