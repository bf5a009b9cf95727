/- The calculus, second part: operations that look at the world, regions, code, and soundness of the whole. No condition. -/
import Derived.Test.YtddpjdlhgggbkaaVc
namespace Go.Proofs.Ytddpjdlhgggbkaa.VC
open Go Go.RowKit
set_option linter.unusedSimpArgs false
set_option linter.unusedVariables false

/-! ## Worlds -/
def dr (w : World) (m : Nat) : World := { w with drawn := m }
/-- What may have been drawn by then. -/
abbrev DM (w : World) : Type := { m : Nat // w.drawn ≤ m }
@[simp] theorem dr_heap (w : World) (m : Nat) : (dr w m).heap = w.heap := rfl
@[simp] theorem dr_cell (w : World) (m : Nat) (a : Addr) : (dr w m).cell? a = w.cell? a := rfl
@[simp] theorem dr_frozen (w : World) (m : Nat) (a : Addr) : (dr w m).frozen? a = w.frozen? a := rfl
/-- Nothing that was there has turned. -/
def Grow (w w' : World) : Prop := Below w.heap.size w w'
theorem Grow.refl (w : World) : Grow w w := Below.refl _ _
theorem Grow.trans {a b c : World} (h : Grow a b) (k : Grow b c) : Grow a c := Below.trans h (Below.mono k h.size)
theorem Grow.dr {a b : World} (h : Grow a b) (m : Nat) : Grow a (dr b m) := ⟨h.os, h.tape, h.output, h.size, h.block⟩
theorem Grow.alloc {a b : World} (h : Grow a b) (o : Obj) : Grow a (b.alloc o) := Below.alloc h h.size o
theorem Grow.cell {w w' : World} (h : Grow w w') {a : Addr} {v : Value} (hc : w.cell? a = some v) : w'.cell? a = some v :=
  (Below.cell h (World.block_lt_of_cell? w a hc)).trans hc
theorem Grow.setCell {a b : World} (h : Grow a b) {p : Addr} (hp : a.heap.size ≤ p.block) (v : Value) : Grow a (b.setCell p v) := Below.setCell h hp v

/-! ## Operations -/
/-- The functions that are entered when they are called. -/
def Callable (P : Program) (f : FuncId) : Prop := ∀ args w, (callFunc f args).run P w = .ok (.enter f args) w
variable (C : Nat → Bool)
def PCall (P : Program) (k : RK) (f : FuncId) (args : Array Value) (w : World) (K : Value → World → Prop) : Prop :=
  Calls P f args w fun e w' => k.ex fun v => e = .returned v ∧ K v w'
def PCallV (P : Program) (k : RK) (f : Value) (args : Array Value) (w : World) (K : Value → World → Prop) : Prop :=
  ∃ g fst cap, f = .func (.func g) fst cap ∧ C g = true ∧ PCall P k g (fst ++ args ++ cap) w K
def QCall (P : Program) (k : RK) (f : FuncId) (args : Array Value) (w : World) (K : Value → Prop) : Prop :=
  k.ex fun v => (∀ w', Grow w w' → Calls P f args w' fun e w'' => e = .returned v ∧ Grow w' w'') ∧ K v
def QCallV (P : Program) (k : RK) (f : Value) (args : Array Value) (w : World) (K : Value → Prop) : Prop :=
  ∃ g fst cap, f = .func (.func g) fst cap ∧ C g = true ∧ QCall P k g (fst ++ args ++ cap) w K
def PRun (P : Program) (k : RK) (s : Sem Value) (w : World) (K : Value → World → Prop) : Prop :=
  k.ex fun v => ∃ w', s.run P w = .ok v w' ∧ K v w'
def PRunU (P : Program) (s : Sem Unit) (w : World) (K : World → Prop) : Prop := ∃ w', s.run P w = .ok () w' ∧ K w'
def cellAt (w : World) (addr v : Value) : Prop := match addr with | .pointer (some a) => w.cell? a = some v | _ => False
def cellsAt (w : World) (addr : Value) (cs : List Value) : Prop := match addr with | .pointer (some a) => ∀ j v, cs[j]? = some v → w.cell? (a.add j) = some v | _ => False
def loadV (P : Program) (t : TypeId) (addr : Value) (w : World) (K : Value → Prop) : Prop :=
  match P.underlying t with
  | some (.struct _) | some (.array _ _) => posP (P.cellsOf t) (∃ cs : List Value, cs.length = P.cellsOf t ∧ cellsAt w addr cs ∧ K (.agg cs.toArray))
  | some _ => (vkOf P t).ex fun v => cellAt w addr v ∧ K v
  | none => False
def oneL (k : VK) : List Value → Prop → Prop
  | [], rest => rest
  | v :: vs, rest => oneK k v (oneL k vs rest)
def is1 (n : Nat) (p : Prop) : Prop := match n with | 1 => p | _ => False
theorem is1_out {n : Nat} {p : Prop} (h : is1 n p) : n = 1 ∧ p := by
  unfold is1 at h
  split at h
  · exact ⟨rfl, h⟩
  · exact h.elim
def storeA (P : Program) (addr : Value) (cs : Array Value) (w : World) (K : World → Prop) : Prop :=
  match addr with
  | .pointer (some a) => PRunU P (storeCells a cs.toList) w K
  | _ => False
def storeV (P : Program) (t : TypeId) (addr x : Value) (w : World) (K : World → Prop) : Prop :=
  match P.underlying t with
  | some (.struct _) | some (.array _ _) => ∃ cs, x = .agg cs ∧ cs.size = P.cellsOf t ∧ posP (P.cellsOf t) (storeA P addr cs w K)
  | some _ => match addr with
    | .pointer (some a) => is1 (P.cellsOf t) (oneK (vkOf P t) x ((∃ old, w.cell? a = some old) ∧ w.frozen? a = false ∧ ∀ w', w' = w.setCell a x → K w'))
    | _ => False
  | none => False
def newPtr (w : World) : Value := .pointer (some ⟨w.heap.size, 0, none⟩)
def allocV (P : Program) (e : TypeId) (w : World) (K : Value → World → Prop) : Prop :=
  match P.info? e with
  | some i => match i.zero with
    | some z => ∀ w', w' = w.alloc (.cells z.cells e) → K (.pointer (some ⟨w.heap.size, 0, none⟩)) w'
    | none => False
  | none => False
def boxV (P : Program) (e : TypeId) (x : Value) (w : World) (K : Value → World → Prop) : Prop :=
  match P.underlying e with
  | some (.struct _) | some (.array _ _) => ∃ cs, x = .agg cs ∧ ∀ w', w' = w.alloc (.cells cs e) → K (.pointer (some ⟨w.heap.size, 0, none⟩)) w'
  | some _ => oneK (vkOf P e) x (∀ w', w' = w.alloc (.cells #[x] e) → K (.pointer (some ⟨w.heap.size, 0, none⟩)) w')
  | none => False
def place : List (Nat × Value) → List Value → List Value
  | [], cs => cs
  | (i, v) :: r, cs => place r (cs.set i v)
def bsV (P : Program) (t : TypeId) (n : Nat) (parts : List (Nat × Value)) (w : World) (K : Value → World → Prop) : Prop :=
  match P.underlying t with
  | some (.slice e) => match P.info? e with
    | some i => match i.zero, i.size with
      | some z, 1 => match z.cells.toList, (decide (n ≤ 16777216) && parts.all fun p => decide (p.1 < n)) with
        | [z0], true => oneL (vkOf P e) (parts.map (·.2)) (∀ w', w' = w.alloc (.cells (place parts (List.replicate n z0)).toArray e) → K (.slice (some ⟨w.heap.size, 0, none⟩) n n) w')
        | _, _ => False
      | _, _ => PRun P (.one .raw) (Instr.buildSlice t n parts.toArray) w K
    | none => False
  | _ => False
def makeV (P : Program) (t : TypeId) (l c : Value) (w : World) (K : Value → World → Prop) : Prop :=
  match P.underlying t with
  | some (.slice e) => match P.info? e with
    | some i => match i.zero, l, c with
      | some z, .int _ a, .int _ b => (0 ≤ a ∧ a ≤ b ∧ (i.bytes : Int) * b ≤ 281474976710656 ∧ b ≤ 9223372036854775807) ∧
          ∀ w', w' = w.alloc (.cells (madeCells z.cells (b.toNat * i.size)) e) → K (.slice (some ⟨w.heap.size, 0, none⟩) a.toNat b.toNat) w'
      | _, _, _ => False
    | none => False
  | _ => False
def PApp (P : Program) (t ty : TypeId) (s x : Value) (w : World) (K : Value → World → Prop) : Prop :=
  ∃ v' w', (Builtin.append_ #[t, t] ty #[s, x]).run P w = .ok v' w' ∧ K v' w'
def PClear (P : Program) (ats : Array TypeId) (ty : TypeId) (args : Array Value) (w : World) (K : Value → World → Prop) : Prop :=
  ∃ w', (Builtin.clear_ ats ty args).run P w = .ok (.tuple #[]) w' ∧ K (.tuple #[]) w'
def effV (P : Program) (o : Oper) (ρ : Operand → Value) (w : World) (K : Value → World → Prop) : Prop :=
  match o.op with
  | .load t a => loadV P t (ρ a) w fun v => K v w
  | .store t a x => storeV P t (ρ a) (ρ x) w fun w' => K undef w'
  | .alloc e => allocV P e w K
  | .box e x => boxV P e (ρ x) w K
  | .buildSlice t n parts => bsV P t n (parts.toList.map fun p => (p.1, ρ p.2)) w K
  | .makeSlice t l c => makeV P t (ρ l) (ρ c) w K
  | .call { callee := .value (.func f), args, .. } => match C f with
    | true => PCall P (rkOf P o.type) f (args.map ρ) w K
    | false => False
  | .call { callee := .value f, args, .. } => PCallV C P (rkOf P o.type) (ρ f) (args.map ρ) w K
  | .call { callee := .builtin .append, args, argTypes } => match args.toList, argTypes.toList with
    | [s, x], [t, t'] => if t = t' then PApp P t o.type (ρ s) (ρ x) w K else PRun P (.one .raw) (Builtin.append_ #[t, t'] o.type #[ρ s, ρ x]) w K
    | _, _ => False
  | .call { callee := .builtin .copy, args, argTypes } => PRun P (.one (.int .i64)) (Builtin.copy_ argTypes o.type (args.map ρ)) w K
  | .call { callee := .builtin .len, args, argTypes } => PRun P (.one (.int .i64)) (Builtin.len_ argTypes o.type (args.map ρ)) w K
  | .call { callee := .builtin .clear, args, argTypes } => PClear P argTypes o.type (args.map ρ) w K
  | .lookup t m k ok => PRun P (rkOf P o.type) (Instr.lookup t (ρ m) (ρ k) ok) w K
  | .makeMap t r => PRun P (.one .raw) (Instr.makeMap t (r.map ρ)) w K
  | .mapUpdate t m k x => PRunU P (Instr.mapUpdate t (ρ m) (ρ k) (ρ x)) w fun w' => K undef w'
  | .insert t m k x => PRunU P (Instr.mapUpdate t (ρ m) (ρ k) (ρ x)) w fun w' => K undef w'
  | .mapEntry t m k => PRun P (.one .raw) (Instr.mapEntry t (ρ m) (ρ k)) w K
  | .entryStore t m s x => PRunU P (Instr.entryStore t (ρ m) (ρ s) (ρ x)) w fun w' => K undef w'
  | .range t x => PRun P (.one .raw) (Instr.range t (ρ x)) w K
  | .next it s => PRun P (rkOf P o.type) (Instr.next (ρ it) s o.type) w K
  | .entry it => PRun P (rkOf P o.type) (Instr.entry (ρ it)) w K
  | _ => False
/-- Is this 'len' one of a slice? -/
def lenPure (P : Program) (o : Op) : Bool :=
  match o with
  | .call { callee := .builtin .len, argTypes, .. } => match argTypes.toList with
    | [t] => match P.underlying t with
      | some (.slice _) => true
      | _ => false
    | _ => false
  | o => isPure o
def opV (P : Program) (o : Oper) (ρ : Operand → Value) (w : World) (K : Value → World → Prop) : Prop :=
  match lenPure P o.op with
  | true => pureV P o ρ fun v => K v w
  | false => effV C P o ρ w K
/-- What an operation comes to, calls by what they are proved to do. -/
def OpOk (P : Program) (K : Value → World → Prop) : Result Next → Prop
  | .ok (.value v) w' => K v w'
  | .ok .skip w' => K undef w'
  | .ok (.enter f args) w' => Calls P f args w' fun e w'' => ∃ v, e = .returned v ∧ K v w''
  | _ => False
theorem OpOk.wp {P : Program} {o : Oper} {a : Act} {w : World} {next : Act → World → Prop} {Q : Exit → Act → World → Prop}
    (h : OpOk P (fun v w' => next (a.put o.dst v) w') ((execOp a.eval o).run P w)) : o.wp P a w next Q := by
  unfold Oper.wp
  generalize (execOp a.eval o).run P w = r at *
  cases r with
  | ok n w' =>
    cases n <;> simp only [OpOk] at h <;> simp only [Oper.upon]
    case value v => exact h
    case skip => exact h
    case enter f args =>
      refine h.mono ?_
      rintro e w'' ⟨v, rfl, hk⟩
      exact hk
  | halt x w' => exact h.elim
theorem OpOk.mono {P : Program} {K K' : Value → World → Prop} (hk : ∀ v w, K v w → K' v w) {r : Result Next} (h : OpOk P K r) : OpOk P K' r := by
  cases r with
  | ok n w' =>
    cases n <;> simp only [OpOk] at h ⊢
    case value v => exact hk _ _ h
    case skip => exact hk _ _ h
    case enter f args => exact h.mono fun e w'' ⟨v, he, hv⟩ => ⟨v, he, hk _ _ hv⟩
  | halt x w' => exact h.elim
theorem ok_v {P : Program} {s : Sem Value} {w w' : World} {v : Value} {K : Value → World → Prop} (h : s.run P w = .ok v w') (hk : K v w') : OpOk P K ((do pure (.value (← s)) : Sem Next).run P w) := by
  simp [h, OpOk, hk]
theorem ok_u {P : Program} {s : Sem Unit} {w w' : World} {K : Value → World → Prop} (h : s.run P w = .ok () w') (hk : K undef w') : OpOk P K ((do s; pure .skip : Sem Next).run P w) := by
  simp [h, OpOk, hk]
theorem ok_run {P : Program} {k : RK} {s : Sem Value} {w : World} {K : Value → World → Prop} (h : PRun P k s w K) : OpOk P K ((do pure (.value (← s)) : Sem Next).run P w) := by
  obtain ⟨v, w', hr, hk⟩ := RK.ex_elim h
  exact ok_v hr hk
theorem ok_runU {P : Program} {s : Sem Unit} {w : World} {K : Value → World → Prop} (h : PRunU P s w fun w' => K undef w') : OpOk P K ((do s; pure .skip : Sem Next).run P w) := by
  obtain ⟨w', hr, hk⟩ := h
  exact ok_u hr hk
theorem isAgg_run {P : Program} {t : TypeId} {d : TypeDesc} (hd : P.underlying t = some d) (w : World) : (isAgg t).run P w = .ok (match d with | .struct _ | .array _ _ => true | _ => false) w := by
  unfold isAgg
  simp only [Sem.run_bind, underlying_run hd, Result.andThen_ok]
  cases d <;> rfl
theorem loadV_ok {P : Program} {t : TypeId} {addr : Value} {w : World} {K : Value → Prop} (h : loadV P t addr w K) : ∃ v, (∀ w', (∀ a u, w.cell? a = some u → w'.cell? a = some u) → (Instr.loadAt t addr).run P w' = .ok v w') ∧ K v := by
  have agg : ∀ d, P.underlying t = some d → ((∃ fs, d = .struct fs) ∨ ∃ n e, d = .array n e) → posP (P.cellsOf t) (∃ cs : List Value, cs.length = P.cellsOf t ∧ cellsAt w addr cs ∧ K (.agg cs.toArray)) →
      ∃ v, (∀ w', (∀ a u, w.cell? a = some u → w'.cell? a = some u) → (Instr.loadAt t addr).run P w' = .ok v w') ∧ K v := by
    intro d hd hag hp
    obtain ⟨hs, cs, hl, hc, hk⟩ := posP_out hp
    refine ⟨_, fun w' hw => ?_, hk⟩
    unfold cellsAt at hc
    split at hc
    · rename_i a
      have ha : (isAgg t).run P w' = .ok true w' := by
        rw [isAgg_run hd]
        rcases hag with ⟨fs, rfl⟩ | ⟨n, e, rfl⟩ <;> rfl
      have hr := run_loadCells_list (P := P) (w := w') a cs (fun j v hj => hw _ _ (hc j v hj))
      rw [hl] at hr
      simp [Instr.loadAt, Instr.sureAddr, loadVar, ha, cellsOf_run hs, hr]
    · exact hc.elim
  unfold loadV at h
  split at h
  · rename_i fs hd; exact agg _ hd (.inl ⟨_, rfl⟩) h
  · rename_i n e hd; exact agg _ hd (.inr ⟨_, _, rfl⟩) h
  · rename_i d h1 h2 hd
    obtain ⟨v, hc, hk⟩ := VK.ex_elim h
    refine ⟨v, fun w' hw => ?_, hk⟩
    unfold cellAt at hc
    split at hc
    · rename_i a
      have ha : (isAgg t).run P w' = .ok false w' := by
        rw [isAgg_run hd]
        cases d <;> first | rfl | exact (h1 _ rfl).elim | exact (h2 _ _ rfl).elim
      simp [Instr.loadAt, Instr.sureAddr, loadVar, ha, hw _ _ hc]
    · exact hc.elim
  · exact h.elim

theorem add0 (a : Addr) : a.add 0 = a := by simp [Addr.add]
theorem storeOne_run {P : Program} {t : TypeId} {d : TypeDesc} (hd : P.underlying t = some d) (hs : P.cellsOf t = 1) {a : Addr} {x old : Value} {w : World} (hx : oneV x) (hc : w.cell? a = some old) (hf : w.frozen? a = false) :
    (Instr.storeAt t (.pointer (some a)) x).run P w = .ok () (w.setCell a x) := by
  have h1 : (sizeOf t).run P w = .ok 1 w := by rw [cellsOf_run (by omega), hs]
  simp [Instr.storeAt, Instr.sureAddr, storeVar, h1, hx.1, storeCells, run_store, hx.2, add0, hc, hf]
theorem setPlace {size : Nat} : ∀ (parts : List (Nat × Value)) (cs : List Value), (∀ p ∈ parts, p.1 < cs.length) → (∀ p ∈ parts, p.2.cells = #[p.2]) →
    Instr.fill (fun i => some (i * 1, 1)) cs.toArray parts = some (place parts cs).toArray
  | [], cs, _, _ => rfl
  | (i, v) :: r, cs, h1, h2 => by
    have hv : v.cells = #[v] := h2 (i, v) (by simp)
    have hi : i < cs.length := h1 (i, v) (by simp)
    have := setPlace (size := size) r (cs.set i v) (fun p hp => by rw [List.length_set]; exact h1 p (by simp [hp])) (fun p hp => h2 p (by simp [hp]))
    simp only [Instr.fill, place, hv]
    rw [if_neg (by simp; omega)]
    simp
    rw [← this]
    simp
theorem oneL_out {k : VK} : ∀ {vs : List Value} {rest : Prop}, oneL k vs rest → (∀ v ∈ vs, oneV v) ∧ rest
  | [], rest, h => ⟨by simp, h⟩
  | v :: vs, rest, h => by
    obtain ⟨h1, h2⟩ := oneK_out h
    obtain ⟨h3, h4⟩ := oneL_out h2
    exact ⟨by simp; exact ⟨h1, h3⟩, h4⟩
theorem bsV_ok {P : Program} {t : TypeId} {n : Nat} {parts : List (Nat × Value)} {w : World} {K : Value → World → Prop} (h : bsV P t n parts w K) : OpOk P K ((do pure (.value (← Instr.buildSlice t n parts.toArray)) : Sem Next).run P w) := by
  unfold bsV at h
  split at h
  · rename_i e ht
    split at h
    · rename_i i hi
      split at h
      · rename_i z hz hsz
        split at h
        · rename_i z0 hz0 hb
          simp only [Bool.and_eq_true, decide_eq_true_eq, List.all_eq_true] at hb
          obtain ⟨hv, hk⟩ := oneL_out h
          have hz1 : z.cells = #[z0] := by apply Array.ext'; simpa using hz0
          have hf := setPlace (size := 1) parts (List.replicate n z0) (by simpa using hb.2) (fun p hp => (hv p.2 (List.mem_map.2 ⟨p, hp, rfl⟩)).1)
          have hcells : (Array.range n).map (fun j => z.cells[j % z.cells.size]!) = (List.replicate n z0).toArray := by
            rw [hz1]; apply Array.ext'; simp [Nat.mod_one]; apply List.ext_getElem <;> simp
          refine ok_v (v := .slice (some ⟨w.heap.size, 0, none⟩) n n) (w' := w.alloc (.cells (place parts (List.replicate n z0)).toArray e)) ?_ (hk _ rfl)
          have hs : (sizeOf e).run P w = .ok 1 w := by simp [sizeOf, typeInfo, hi, hsz]
          have hzr : (zeroValue e).run P w = .ok z w := by simp [zeroValue, typeInfo, hi, hz]
          simp only [Instr.buildSlice, Sem.run_bind, underlying_run ht, Result.andThen_ok, hs, Nat.mul_one]
          rw [if_neg (by have := hb.1; omega)]
          by_cases hn : n = 0
          · subst hn
            have hp : parts = [] := by
              cases parts with
              | nil => rfl
              | cons p r => have := hb.2 p (by simp); omega
            subst hp
            simp [place, Instr.fill, newRow, Array.range_zero']
          · simp only [Nat.mul_one] at hf
            simp only [hn, if_false, Sem.run_bind, hzr, Result.andThen_ok, Sem.run_pure, hcells, hf, newRow, run_newObj]
            rfl
        · exact h.elim
      · exact ok_run h
    · exact h.elim
  · exact h.elim

theorem makeV_ok {P : Program} {t : TypeId} {l c : Value} {w : World} {K : Value → World → Prop} (h : makeV P t l c w K) : OpOk P K ((do pure (.value (← Instr.makeSlice t l c)) : Sem Next).run P w) := by
  unfold makeV at h
  split at h
  · rename_i e ht
    split at h
    · rename_i i hi
      split at h
      · rename_i z kl a kc b hz
        obtain ⟨⟨h0, h1, h2, h3⟩, hk⟩ := h
        exact ok_v (run_make w t e i z ht hi hz kl kc a b h0 h1 h2 h3) (hk _ rfl)
      · exact h.elim
    · exact h.elim
  · exact h.elim
theorem storeV_ok {P : Program} {t : TypeId} {addr x : Value} {w : World} {K : Value → World → Prop} (h : storeV P t addr x w fun w' => K undef w') : OpOk P K ((do Instr.storeAt t addr x; pure .skip : Sem Next).run P w) := by
  have agg : (∃ cs, x = .agg cs ∧ cs.size = P.cellsOf t ∧ posP (P.cellsOf t) (storeA P addr cs w fun w' => K undef w')) → OpOk P K ((do Instr.storeAt t addr x; pure .skip : Sem Next).run P w) := by
    rintro ⟨cs, rfl, hsz, hp⟩
    obtain ⟨hs, hp⟩ := posP_out hp
    unfold storeA at hp
    split at hp
    · rename_i a
      obtain ⟨w', hr, hk⟩ := hp
      refine ok_u (w' := w') ?_ hk
      simp [Instr.storeAt, Instr.sureAddr, storeVar, cellsOf_run hs, Value.cells, hsz, hr]
    · exact hp.elim
  unfold storeV at h
  split at h
  · exact agg h
  · exact agg h
  · rename_i d h1 h2 hd
    split at h
    · rename_i a
      obtain ⟨hs, h⟩ := is1_out h
      obtain ⟨hx, ⟨old, ho⟩, hf, hk⟩ := oneK_out h
      exact ok_u (storeOne_run hd hs hx ho hf) (hk _ rfl)
    · exact h.elim
  · exact h.elim
theorem allocV_ok {P : Program} {e : TypeId} {w : World} {K : Value → World → Prop} (h : allocV P e w K) : OpOk P K ((do pure (.value (← Instr.alloc e true (.tuple #[]))) : Sem Next).run P w) := by
  unfold allocV at h
  split at h
  · rename_i i hi
    split at h
    · rename_i z hz
      refine ok_v (v := .pointer (some ⟨w.heap.size, 0, none⟩)) (w' := w.alloc (.cells z.cells e)) ?_ (h _ rfl)
      simp [Instr.alloc, zeroValue, typeInfo, hi, hz, newVar, newRow]
    · exact h.elim
  · exact h.elim
theorem boxV_ok {P : Program} {e : TypeId} {x : Value} {w : World} {K : Value → World → Prop} (h : boxV P e x w K) : OpOk P K ((do pure (.value (← Instr.box e x)) : Sem Next).run P w) := by
  unfold boxV at h
  split at h
  · obtain ⟨cs, rfl, hk⟩ := h
    exact ok_v (v := .pointer (some ⟨w.heap.size, 0, none⟩)) (w' := w.alloc (.cells cs e)) (by simp [Instr.box, newVar, newRow, Value.cells]) (hk _ rfl)
  · obtain ⟨cs, rfl, hk⟩ := h
    exact ok_v (v := .pointer (some ⟨w.heap.size, 0, none⟩)) (w' := w.alloc (.cells cs e)) (by simp [Instr.box, newVar, newRow, Value.cells]) (hk _ rfl)
  · obtain ⟨hx, hk⟩ := oneK_out h
    exact ok_v (v := .pointer (some ⟨w.heap.size, 0, none⟩)) (w' := w.alloc (.cells #[x] e)) (by simp [Instr.box, newVar, newRow, hx.1]) (hk _ rfl)
  · exact h.elim
theorem call_ok {P : Program} {k : RK} {f : FuncId} (hf : Callable P f) {args : Array Value} {w : World} {K : Value → World → Prop} (h : PCall P k f args w K) : OpOk P K ((callFunc f args).run P w) := by
  rw [hf]
  refine Calls.mono h ?_
  intro e w' hr
  obtain ⟨v, he, hk⟩ := RK.ex_elim hr
  exact ⟨v, he, hk⟩
variable {C}
set_option maxHeartbeats 1000000 in
theorem effV_ok {P : Program} (hC : ∀ f, C f = true → Callable P f) {o : Oper} {ρ : Operand → Value} (hρ : ∀ f, ρ (.func f) = .func (.func f) #[] #[]) {w : World} {K : Value → World → Prop} (h : effV C P o ρ w K) : OpOk P K ((execOp ρ o).run P w) := by
  unfold effV at h
  split at h
  all_goals rename_i hop
  all_goals simp only [execOp, hop]
  · obtain ⟨v, hr, hk⟩ := loadV_ok h
    exact ok_v (hr w (fun _ _ h => h)) hk
  · exact storeV_ok h
  · exact allocV_ok h
  · exact boxV_ok h
  · rename_i parts
    have := bsV_ok h
    have e : (List.map (fun p => (p.1, ρ p.2)) parts.toList).toArray = parts.map (fun p => (p.1, ρ p.2)) := by
      apply Array.ext'; simp only [Array.toList_map]
    rw [e] at this
    exact this
  · exact makeV_ok h
  · split at h
    · rename_i hcf
      have := call_ok (hC _ hcf) h
      simpa [resolve, hρ, Deferred.ofValue, invoke] using this
    · exact h.elim
  · obtain ⟨g, fst, cap, hf, hcg, hp⟩ := h
    have := call_ok (hC _ hcg) hp
    simpa [resolve, Deferred.ofValue, invoke, hf] using this
  · rename_i _ args ats
    split at h
    · rename_i s x t t' ha hat
      have ea : args = #[s, x] := by apply Array.ext'; simpa using ha
      have et : ats = #[t, t'] := by apply Array.ext'; simpa using hat
      subst ea; subst et
      split at h
      · rename_i htt
        subst htt
        obtain ⟨v', w', hr, hk⟩ := h
        have := ok_v hr hk
        simpa [resolve, invoke, builtin] using this
      · have := ok_run h
        simpa [resolve, invoke, builtin] using this
    · exact h.elim
  · have := ok_run h
    simpa [resolve, invoke, builtin] using this
  · have := ok_run h
    simpa [resolve, invoke, builtin] using this
  · obtain ⟨w', hr, hk⟩ := h
    have := ok_v hr hk
    simpa [resolve, invoke, builtin] using this
  · exact ok_run h
  · exact ok_run h
  · exact ok_runU h
  · exact ok_runU h
  · exact ok_run h
  · exact ok_runU h
  · exact ok_run h
  · exact ok_run h
  · exact ok_run h
  · exact h.elim
theorem opV_ok {P : Program} (hC : ∀ f, C f = true → Callable P f) {o : Oper} {ρ : Operand → Value} (hρ : ∀ f, ρ (.func f) = .func (.func f) #[] #[]) {w : World} {K : Value → World → Prop} (h : opV C P o ρ w K) : OpOk P K ((execOp ρ o).run P w) := by
  unfold opV at h
  split at h
  · obtain ⟨v, hr, hk⟩ := pureV_runs h
    rw [hr]
    exact hk
  · exact effV_ok hC hρ h
end Go.Proofs.Ytddpjdlhgggbkaa.VC
