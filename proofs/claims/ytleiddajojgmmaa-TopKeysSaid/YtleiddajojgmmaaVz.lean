/- Attacks between atoms, and what repairs they cannot change: an atom that nothing attacks can be answered first (Koutris, Wijsen). Of no program. No condition. -/
import Derived.Test.YtleiddajojgmmaaMs
import Derived.Test.YtleiddajojgmmaaVr
import Derived.MapKept
import Derived.Carry
import Derived.Maps.RangeRun
namespace Go.Proofs.Ytleiddajojgmmaa
set_option linter.unusedVariables false

def tV (ν : Nat → Int) (x : Int) : Int := if x < 0 then -x else ν x.toNat
def im (ν : Nat → Int) (a : Atm) : Atm := (a.1, a.2.map (tV ν))
section
variable (kl : Int → Nat)
/-- The key of an atom or of a fact. -/
def kF (a : Atm) : Atm := (a.1, a.2.take (kl a.1))
variable {kl}
theorem kF_rel {a b : Atm} (h : kF kl a = kF kl b) : a.1 = b.1 := (Prod.mk.inj h).1
variable (kl)
/-- What the key of F determines by the other atoms; what stands in D has a number already. -/
inductive Pl (atoms : List Atm) (D : Nat → Prop) (F : Atm) : Nat → Prop
  | base {x : Nat} : (x : Int) ∈ (kF kl F).2 → ¬ D x → Pl atoms D F x
  | step {G : Atm} {x : Nat} : G ∈ atoms → G.1 ≠ F.1 → (∀ y : Nat, (y : Int) ∈ (kF kl G).2 → ¬ D y → Pl atoms D F y) → (x : Int) ∈ G.2 → ¬ D x → Pl atoms D F x
/-- The variables that F reaches by those that its key does not determine. -/
inductive RV (atoms : List Atm) (D : Nat → Prop) (F : Atm) : Nat → Prop
  | base {x : Nat} : (x : Int) ∈ F.2 → ¬ D x → ¬ Pl kl atoms D F x → RV atoms D F x
  | step {G : Atm} {x y : Nat} : G ∈ atoms → (y : Int) ∈ G.2 → RV atoms D F y → (x : Int) ∈ G.2 → ¬ D x → ¬ Pl kl atoms D F x → RV atoms D F x
def Att (atoms : List Atm) (D : Nat → Prop) (F G : Atm) : Prop := G.1 ≠ F.1 ∧ ∃ x : Nat, (x : Int) ∈ G.2 ∧ RV kl atoms D F x
/-- A repair: of each block one fact. -/
structure Rp (db : List Atm) (r : Atm → Prop) : Prop where
  sub : ∀ a, r a → a ∈ db
  one : ∀ f ∈ db, ∃ g, r g ∧ kF kl g = kF kl f
  uniq : ∀ g g', r g → r g' → kF kl g = kF kl g' → g = g'
def Sat (r : Atm → Prop) (atoms : List Atm) (D : Nat → Prop) (m ν : Nat → Int) : Prop := (∀ x, D x → ν x = m x) ∧ ∀ a ∈ atoms, r (im ν a)
variable {kl} {atoms : List Atm} {D : Nat → Prop} {F G H : Atm} {db : List Atm} {r s : Atm → Prop} {m μ θ : Nat → Int} {A B F0 : Atm}
theorem RV.out {x : Nat} (h : RV kl atoms D F x) : ¬ D x ∧ ¬ Pl kl atoms D F x := by
  cases h with
  | base _ h1 h2 => exact ⟨h1, h2⟩
  | step _ _ _ _ h1 h2 => exact ⟨h1, h2⟩
/-! ## What all repairs share -/
open Classical in
open Classical in
theorem rep_ex (kl : Int → Nat) (db : List Atm) : ∃ r, Rp kl db r := by
  refine ⟨fun f => f ∈ db ∧ db.find? (fun g => decide (kF kl g = kF kl f)) = some f, fun a h => h.1, fun f hf => ?_, fun g g' h h' e => ?_⟩
  · cases hg : db.find? (fun g => decide (kF kl g = kF kl f)) with
    | none =>
      have := List.find?_eq_none.1 hg f hf
      simp at this
    | some g =>
      have h1 : kF kl g = kF kl f := by simpa using List.find?_some hg
      exact ⟨g, ⟨List.mem_of_find?_eq_some hg, by rw [h1]; exact hg⟩, h1⟩
  · have h1 := h.2
    rw [e, h'.2] at h1
    exact (Option.some.inj h1).symm
def putB (kl : Int → Nat) (s : Atm → Prop) (g : Atm) : Atm → Prop := fun f => (s f ∧ kF kl f ≠ kF kl g) ∨ f = g
theorem Rp.put (hs : Rp kl db s) {g : Atm} (hg : g ∈ db) : Rp kl db (putB kl s g) := by
  refine ⟨fun a ha => ?_, fun f hf => ?_, fun a b ha hb e => ?_⟩
  · rcases ha with ha | rfl
    · exact hs.sub a ha.1
    · exact hg
  · by_cases e : kF kl f = kF kl g
    · exact ⟨g, .inr rfl, e.symm⟩
    · obtain ⟨b, h1, h2⟩ := hs.one f hf
      exact ⟨b, .inl ⟨h1, fun h => e (h2.symm.trans h)⟩, h2⟩
  · rcases ha with ha | rfl <;> rcases hb with hb | rfl
    · exact hs.uniq a b ha.1 hb.1 e
    · exact absurd e ha.2
    · exact absurd e.symm hb.2
    · rfl
/-- Certain: true in every repair. -/
def Cert (kl : Int → Nat) (db atoms : List Atm) (D : Nat → Prop) (m : Nat → Int) : Prop := ∀ r, Rp kl db r → ∃ θ, Sat r atoms D m θ
def varU (D : Nat → Prop) (F0 : Atm) : Nat → Prop := fun x => D x ∨ (x : Int) ∈ F0.2
/-! ## Fewer atoms, more numbers: no new attacks -/
theorem pl_sub {rest : List Atm} (hrest : ∀ a, a ∈ rest ↔ a ∈ atoms ∧ a ≠ F0) {x : Nat} (h : Pl kl atoms D F x) : varU D F0 x ∨ Pl kl rest (varU D F0) F x := by
  induction h with
  | @base x h1 h2 =>
    by_cases hx : varU D F0 x
    · exact .inl hx
    · exact .inr (.base h1 hx)
  | @step G x hG hne _ h1 h2 ih =>
    by_cases hx : varU D F0 x
    · exact .inl hx
    · by_cases e : G = F0
      · exact absurd (.inr (e ▸ h1)) hx
      · refine .inr (.step ((hrest G).2 ⟨hG, e⟩) hne (fun y hy hDy => ?_) h1 hx)
        rcases ih y hy fun h => hDy (.inl h) with h | h
        · exact absurd h hDy
        · exact h
theorem rv_sub {rest : List Atm} (hrest : ∀ a, a ∈ rest ↔ a ∈ atoms ∧ a ≠ F0) {x : Nat} (h : RV kl rest (varU D F0) F x) : RV kl atoms D F x := by
  have np : ∀ {x}, ¬ varU D F0 x → ¬ Pl kl rest (varU D F0) F x → ¬ Pl kl atoms D F x := fun h1 h2 h => (pl_sub hrest h).elim h1 h2
  induction h with
  | base h1 h2 h3 => exact .base h1 (fun h => h2 (.inl h)) (np h2 h3)
  | @step G x y hG hy _ hx h2 h3 ih => exact .step ((hrest G).1 hG).1 hy ih hx (fun h => h2 (.inl h)) (np h2 h3)
theorem att_sub {rest : List Atm} (hrest : ∀ a, a ∈ rest ↔ a ∈ atoms ∧ a ≠ F0) (h : Att kl rest (varU D F0) F G) : Att kl atoms D F G := by
  obtain ⟨h1, x, h2, h3⟩ := h
  exact ⟨h1, x, h2, rv_sub hrest h3⟩
/-- The attacks have no cycle. -/
def Acy (kl : Int → Nat) (atoms : List Atm) (D : Nat → Prop) : Prop := ∃ rk : Int → Nat, ∀ F ∈ atoms, ∀ G ∈ atoms, Att kl atoms D F G → rk F.1 < rk G.1
theorem Acy.sub {rest : List Atm} (hrest : ∀ a, a ∈ rest ↔ a ∈ atoms ∧ a ≠ F0) (h : Acy kl atoms D) : Acy kl rest (varU D F0) := by
  obtain ⟨rk, h⟩ := h
  exact ⟨rk, fun F hF G hG ha => h F ((hrest F).1 hF).1 G ((hrest G).1 hG).1 (att_sub hrest ha)⟩
theorem least_of {α : Type} (f : α → Nat) : ∀ {l : List α}, l ≠ [] → ∃ a ∈ l, ∀ b ∈ l, f a ≤ f b
  | [], h => absurd rfl h
  | [a], _ => ⟨a, List.mem_cons_self .., fun b hb => by rw [List.mem_singleton.1 hb]; exact Nat.le_refl _⟩
  | a :: b :: l, _ => by
    obtain ⟨c, hc, hm⟩ := least_of f (l := b :: l) (by simp)
    by_cases h : f a ≤ f c
    · refine ⟨a, List.mem_cons_self .., fun x hx => ?_⟩
      rcases List.mem_cons.1 hx with rfl | hx
      · exact Nat.le_refl _
      · exact Nat.le_trans h (hm x hx)
    · refine ⟨c, List.mem_cons_of_mem _ hc, fun x hx => ?_⟩
      rcases List.mem_cons.1 hx with rfl | hx
      · omega
      · exact hm x hx
theorem Acy.free (h : Acy kl atoms D) (hne : atoms ≠ []) : ∃ F0 ∈ atoms, ∀ F ∈ atoms, ¬ Att kl atoms D F F0 := by
  obtain ⟨rk, h⟩ := h
  obtain ⟨F0, hF0, hm⟩ := least_of (fun a : Atm => rk a.1) hne
  exact ⟨F0, hF0, fun F hF ha => by have := h F hF F0 hF0 ha; have := hm F hF; omega⟩
/-! ## Three atoms -/
open Classical in
end
end Go.Proofs.Ytleiddajojgmmaa

/- Rounds that end at a fixed point; sets as numbers: closures, what is reached, attacks. Of no program. No condition. -/
namespace Go.Proofs.Ytleiddajojgmmaa
open VC
set_option linter.unusedVariables false

/-! ## Rounds -/
def iterF {σ : Type} (f : σ → σ) : Nat → σ → σ
  | 0, s => s
  | k + 1, s => f (iterF f k s)
def roundF {σ ι : Type} (step : ι → σ → σ) (l : List ι) (s : σ) : σ := l.foldl (fun s i => step i s) s
section
variable {σ ι : Type} {step : ι → σ → σ} {μ : σ → Nat} {P : σ → Prop}
end
/-! ## Sets as numbers -/
def bs (a b : Nat) : Prop := ∀ x, a.testBit x = true → b.testBit x = true
theorem bs_refl (a : Nat) : bs a a := fun _ h => h
theorem bs.trans {a b c : Nat} (h : bs a b) (k : bs b c) : bs a c := fun x hx => k x (h x hx)
theorem bs_antisymm {a b : Nat} (h : bs a b) (k : bs b a) : a = b := Nat.eq_of_testBit_eq fun x => by
  rw [Bool.eq_iff_iff]
  exact ⟨h x, k x⟩
theorem bs_or {a b c : Nat} : bs (a ||| b) c ↔ bs a c ∧ bs b c := by
  unfold bs
  simp only [Nat.testBit_or, Bool.or_eq_true]
  exact ⟨fun h => ⟨fun x hx => h x (.inl hx), fun x hx => h x (.inr hx)⟩, fun h x hx => hx.elim (h.1 x) (h.2 x)⟩
theorem bs_left (a b : Nat) : bs a (a ||| b) := (bs_or.1 (bs_refl _)).1
theorem bs_right (a b : Nat) : bs b (a ||| b) := (bs_or.1 (bs_refl _)).2
theorem nSub_zero {a b : Nat} : nSub a b = 0 ↔ bs a b := by
  constructor
  · intro h x hx
    have := nSub_bit a b x
    rw [h, Nat.zero_testBit, hx] at this
    simpa using this.symm
  · intro h
    refine Nat.eq_of_testBit_eq fun x => ?_
    rw [nSub_bit, Nat.zero_testBit]
    cases hx : a.testBit x with
    | false => rfl
    | true => rw [h x hx]; rfl
theorem and_ne_zero {a b : Nat} : a &&& b ≠ 0 ↔ ∃ x, a.testBit x = true ∧ b.testBit x = true := by
  constructor
  · intro h
    refine Classical.byContradiction fun hno => h (Nat.eq_of_testBit_eq fun x => ?_)
    rw [Nat.testBit_and, Nat.zero_testBit, ← Bool.not_eq_true, Bool.and_eq_true]
    exact fun h2 => hno ⟨x, h2⟩
  · rintro ⟨x, h1, h2⟩ h
    have := Nat.testBit_and a b x
    rw [h, Nat.zero_testBit, h1, h2] at this
    cases this
theorem maskOf (p : Nat → Prop) (n : Nat) : ∃ t : Nat, ∀ x, t.testBit x = true ↔ x < n ∧ p x := by
  induction n with
  | zero => exact ⟨0, fun x => by simp⟩
  | succ n ih =>
    obtain ⟨t, ht⟩ := ih
    by_cases h : p n
    · refine ⟨t ||| 2 ^ n, fun x => ?_⟩
      rw [Nat.testBit_or, Bool.or_eq_true, ht, Nat.testBit_two_pow, decide_eq_true_eq]
      constructor
      · rintro (⟨h1, h2⟩ | rfl)
        · exact ⟨by omega, h2⟩
        · exact ⟨by omega, h⟩
      · rintro ⟨h1, h2⟩
        by_cases e : n = x
        · exact .inr e
        · exact .inl ⟨by omega, h2⟩
    · refine ⟨t, fun x => ?_⟩
      rw [ht]
      constructor
      · exact fun h1 => ⟨by omega, h1.2⟩
      · rintro ⟨h1, h2⟩
        refine ⟨?_, h2⟩
        have : x ≠ n := fun e => h (e ▸ h2)
        omega
theorem bit_or_pow {r g i : Nat} : (r ||| 2 ^ g).testBit i = true ↔ r.testBit i = true ∨ i = g := by
  rw [Nat.testBit_or, Bool.or_eq_true, Nat.testBit_two_pow, decide_eq_true_eq]
  exact or_congr_right ⟨Eq.symm, Eq.symm⟩
/-! ## Closures -/
structure IsCl (l : List (Nat × Nat)) (s r : Nat) : Prop where
  sub : bs s r
  cl : ∀ d ∈ l, bs d.1 r → bs d.2 r
  min : ∀ t, bs s t → (∀ d ∈ l, bs d.1 t → bs d.2 t) → bs r t
theorem IsCl.uniq {l : List (Nat × Nat)} {s r r' : Nat} (h : IsCl l s r) (h' : IsCl l s r') : r = r' := bs_antisymm (h.min _ h'.sub h'.cl) (h'.min _ h.sub h.cl)
def stepC (d : Nat × Nat) (s : Nat) : Nat := if nSub d.1 s = 0 then s ||| d.2 else s
def clF (l : List (Nat × Nat)) (s : Nat) : Nat := iterF (roundF stepC l) l.length s
open Classical in
/-! ## What is reached -/
inductive RB (U : Nat → Nat) (n f : Nat) : Nat → Prop
  | base {x : Nat} : (U f).testBit x = true → RB U n f x
  | step {g x y : Nat} : g < n → (U g).testBit y = true → RB U n f y → (U g).testBit x = true → RB U n f x
def Hit (U : Nat → Nat) (n f g : Nat) : Prop := g = f ∨ g < n ∧ ∃ x, (U g).testBit x = true ∧ RB U n f x
/-- The program's way. -/
def stepR (U : Nat → Nat) (g : Nat) (p : Nat × Nat) : Nat × Nat := if U g &&& p.2 ≠ 0 then (p.1 ||| 2 ^ g, p.2 ||| U g) else p
structure RI (U : Nat → Nat) (n f : Nat) (p : Nat × Nat) : Prop where
  s1 : ∀ x, p.2.testBit x = true → RB U n f x
  r1 : ∀ g, p.1.testBit g = true → Hit U n f g
  rs : ∀ g, p.1.testBit g = true → bs (U g) p.2
  f1 : p.1.testBit f = true
theorem RI.step {U : Nat → Nat} {n f g : Nat} {p : Nat × Nat} (hg : g < n) (h : RI U n f p) : RI U n f (stepR U g p) := by
  unfold stepR
  split
  · rename_i h0
    obtain ⟨y, hy, hs⟩ := and_ne_zero.1 h0
    have hRy := h.s1 y hs
    refine ⟨fun x hx => ?_, fun i hi => ?_, fun i hi => ?_, bit_or_pow.2 (.inl h.f1)⟩
    · rw [Nat.testBit_or, Bool.or_eq_true] at hx
      rcases hx with hx | hx
      · exact h.s1 x hx
      · exact .step hg hy hRy hx
    · rcases bit_or_pow.1 hi with hi | rfl
      · exact h.r1 i hi
      · exact .inr ⟨hg, y, hy, hRy⟩
    · rcases bit_or_pow.1 hi with hi | rfl
      · exact (h.rs i hi).trans (bs_left _ _)
      · exact bs_right _ _
  · exact h
def reachN (U : Nat → Nat) (n f : Nat) : Nat := (iterF (roundF (stepR U) (List.range n)) n (2 ^ f, U f)).1
/-! ## Attacks, on sets of variables -/
def depsB (V K : List Nat) (f : Nat) : List (Nat × Nat) := ((List.range V.length).filter fun i => decide (i ≠ f)).map fun i => (K.getD i 0, V.getD i 0)
def plusN (V K : List Nat) (f : Nat) : Nat := clF (depsB V K f) (K.getD f 0)
def UN (V K : List Nat) (f i : Nat) : Nat := nSub (V.getD i 0) (plusN V K f)
/-- f attacks g. -/
def attN (V K : List Nat) (f g : Nat) : Bool := decide (g ≠ f) && (reachN (UN V K f) V.length f).testBit g
section
variable {kl : Int → Nat} {atoms : List Atm} {D : Nat → Prop} {V K : List Nat}
end
end Go.Proofs.Ytleiddajojgmmaa

/- Blocks and repairs as sets of places, and as sets of facts. Of no program. No condition. -/
namespace Go.Proofs.Ytleiddajojgmmaa
open VC
set_option linter.unusedVariables false

/-- How many Args of a relation are its key. -/
def klS (s : List Int) (r : Int) : Nat := (s.getD r.toNat 0).toNat
def fact0 : Atm := (0, [])
def fa (L : List Atm) (i : Nat) : Atm := L.getD i fact0
theorem fa_get {L : List Atm} {i : Nat} (h : i < L.length) : fa L i = L[i] := by simp [fa, List.getD, h]
section
variable (kl : Int → Nat) (L : List Atm)
def sameB (i j : Nat) : Bool := decide (kF kl (fa L i) = kF kl (fa L j))
/-- The first fact of the block of fact i. -/
def blkN (i : Nat) : Nat := ((List.range L.length).find? fun j => sameB kl L j i).getD 0
variable {kl L}
theorem sameB_iff {i j : Nat} : sameB kl L i j = true ↔ kF kl (fa L i) = kF kl (fa L j) := decide_eq_true_iff
theorem blk_spec {i : Nat} (hi : i < L.length) : blkN kl L i ≤ i ∧ kF kl (fa L (blkN kl L i)) = kF kl (fa L i) ∧ ∀ j, j < blkN kl L i → kF kl (fa L j) ≠ kF kl (fa L i) := by
  cases h : (List.range L.length).find? fun j => sameB kl L j i with
  | none =>
    have := List.find?_eq_none.1 h i (List.mem_range.2 hi)
    rw [sameB_iff] at this
    exact absurd rfl this
  | some b =>
    have e : blkN kl L i = b := by unfold blkN; rw [h]; rfl
    rw [e]
    obtain ⟨h1, h2⟩ := List.find?_range_eq_some.1 h
    have h2' := h2
    refine ⟨Nat.le_of_not_lt fun hlt => ?_, sameB_iff.1 h1, fun j hj he => ?_⟩
    · have := h2.2 i hlt
      rw [Bool.not_eq_true', ← Bool.not_eq_true, sameB_iff] at this
      exact this rfl
    · have := h2.2 j hj
      rw [Bool.not_eq_true', ← Bool.not_eq_true, sameB_iff] at this
      exact this he
theorem blk_lt {i : Nat} (hi : i < L.length) : blkN kl L i < L.length := Nat.lt_of_le_of_lt (blk_spec hi).1 hi
theorem blk_eq {i j : Nat} (hi : i < L.length) (hj : j < L.length) : blkN kl L i = blkN kl L j ↔ kF kl (fa L i) = kF kl (fa L j) := by
  have si := blk_spec (kl := kl) hi
  have sj := blk_spec (kl := kl) hj
  constructor
  · intro e
    rw [← si.2.1, ← sj.2.1, e]
  · intro e
    rcases Nat.lt_trichotomy (blkN kl L i) (blkN kl L j) with h | h | h
    · exact absurd (si.2.1.trans e) (sj.2.2 _ h)
    · exact h
    · exact absurd (sj.2.1.trans e.symm) (si.2.2 _ h)
theorem blk_blk {i : Nat} (hi : i < L.length) : blkN kl L (blkN kl L i) = blkN kl L i := (blk_eq (blk_lt hi) hi).2 (blk_spec hi).2.1
variable (kl L)
/-- In a set of places: how many stand in the block of i. -/
def inBlk (m i : Nat) : Nat := ((List.range L.length).filter fun j => m.testBit j && sameB kl L i j).length
def repB (m : Nat) : Bool := (List.range L.length).all fun i => decide (inBlk kl L m i = 1)
/-- All repairs, rising. -/
def allR : List Nat := (List.range (2 ^ L.length)).filter (repB kl L)
/-- The facts of a set of places. -/
def ofM (m : Nat) : List Atm := ((List.range L.length).filter m.testBit).map (fa L)
variable {kl L}
theorem mem_ofM {m : Nat} {a : Atm} : a ∈ ofM L m ↔ ∃ i, i < L.length ∧ m.testBit i = true ∧ fa L i = a := by
  unfold ofM
  rw [List.mem_map]
  constructor
  · rintro ⟨i, hi, e⟩
    obtain ⟨h1, h2⟩ := List.mem_filter.1 hi
    exact ⟨i, List.mem_range.1 h1, h2, e⟩
  · rintro ⟨i, h1, h2, e⟩
    exact ⟨i, List.mem_filter.2 ⟨List.mem_range.2 h1, h2⟩, e⟩
theorem fa_mem {i : Nat} (hi : i < L.length) : fa L i ∈ L := by rw [fa_get hi]; exact List.getElem_mem hi
theorem len_one {α : Type} {l : List α} : l.length = 1 ↔ ∃ a, l = [a] := List.length_eq_one_iff
theorem filter_one {n : Nat} {p : Nat → Bool} : ((List.range n).filter p).length = 1 ↔ ∃ i, i < n ∧ p i = true ∧ ∀ j, j < n → p j = true → j = i := by
  constructor
  · intro h
    obtain ⟨a, ha⟩ := len_one.1 h
    have hm : a ∈ (List.range n).filter p := by rw [ha]; exact List.mem_singleton.2 rfl
    obtain ⟨h1, h2⟩ := List.mem_filter.1 hm
    refine ⟨a, List.mem_range.1 h1, h2, fun j hj hp => ?_⟩
    have : j ∈ (List.range n).filter p := List.mem_filter.2 ⟨List.mem_range.2 hj, hp⟩
    rw [ha] at this
    exact List.mem_singleton.1 this
  · rintro ⟨i, hi, hp, hu⟩
    have h3 : ((List.range n).filter p).length ≤ [i].length := sub_len (List.nodup_range.filter _) fun x hx => by
      have := List.mem_filter.1 hx
      rw [hu x (List.mem_range.1 this.1) this.2]
      exact List.mem_singleton.2 rfl
    have h4 := List.length_pos_of_mem (List.mem_filter.2 ⟨List.mem_range.2 hi, hp⟩)
    simp only [List.length_singleton] at h3
    omega
theorem repB_iff {m : Nat} : repB kl L m = true ↔ ∀ i, i < L.length → ∃ j, j < L.length ∧ m.testBit j = true ∧ kF kl (fa L i) = kF kl (fa L j) ∧ ∀ j', j' < L.length → m.testBit j' = true → kF kl (fa L i) = kF kl (fa L j') → j' = j := by
  unfold repB
  rw [List.all_eq_true]
  refine ⟨fun h i hi => ?_, fun h i hi => ?_⟩
  · have := of_decide_eq_true (h i (List.mem_range.2 hi))
    unfold inBlk at this
    obtain ⟨j, h1, h2, h3⟩ := filter_one.1 this
    rw [Bool.and_eq_true, sameB_iff] at h2
    exact ⟨j, h1, h2.1, h2.2, fun j' a b c => h3 j' a (by rw [Bool.and_eq_true, sameB_iff]; exact ⟨b, c⟩)⟩
  · obtain ⟨j, h1, h2, h3, h4⟩ := h i (List.mem_range.1 hi)
    refine decide_eq_true (filter_one.2 ⟨j, h1, by rw [Bool.and_eq_true, sameB_iff]; exact ⟨h2, h3⟩, fun j' a b => ?_⟩)
    rw [Bool.and_eq_true, sameB_iff] at b
    exact h4 j' a b.1 b.2
theorem mem_allR {m : Nat} : m ∈ allR kl L ↔ m < 2 ^ L.length ∧ repB kl L m = true := by
  unfold allR
  rw [List.mem_filter, List.mem_range]
theorem fa_inj (hn : L.Nodup) {i j : Nat} (hi : i < L.length) (hj : j < L.length) (h : fa L i = fa L j) : i = j := by
  rw [fa_get hi, fa_get hj] at h
  exact List.getElem_inj hn |>.1 h
open Classical in
theorem mask_of (hn : L.Nodup) {r : Atm → Prop} (hr : Rp kl L r) : ∃ m ∈ allR kl L, ∀ a, a ∈ ofM L m ↔ r a := by
  obtain ⟨m, hm⟩ := maskOf (fun i => r (fa L i)) L.length
  refine ⟨m, mem_allR.2 ⟨?_, repB_iff.2 fun i hi => ?_⟩, fun a => ?_⟩
  · refine Nat.lt_pow_two_of_testBit _ fun i hi => ?_
    rw [← Bool.not_eq_true, hm]
    omega
  · obtain ⟨g, hg, e⟩ := hr.one _ (fa_mem hi)
    obtain ⟨j, hj, rfl⟩ := List.getElem_of_mem (hr.sub g hg)
    rw [← fa_get hj] at hg e
    refine ⟨j, hj, (hm j).2 ⟨hj, hg⟩, e.symm, fun j' hj' hb he => ?_⟩
    have := ((hm j').1 hb).2
    exact fa_inj hn hj' hj (hr.uniq _ _ this hg (he.symm.trans e.symm))
  · rw [mem_ofM]
    constructor
    · rintro ⟨i, hi, hb, rfl⟩
      exact ((hm i).1 hb).2
    · intro ha
      obtain ⟨i, hi, rfl⟩ := List.getElem_of_mem (hr.sub a ha)
      exact ⟨i, hi, (hm i).2 ⟨hi, by rwa [fa_get hi]⟩, fa_get hi⟩
theorem allR_ne (hn : L.Nodup) : allR kl L ≠ [] := by
  obtain ⟨r, hr⟩ := rep_ex kl L
  obtain ⟨m, hm, _⟩ := mask_of hn hr
  intro e
  rw [e] at hm
  cases hm
theorem Rp.congr {db : List Atm} {r r' : Atm → Prop} (h : Rp kl db r) (e : ∀ a, r a ↔ r' a) : Rp kl db r' := by
  have : r = r' := funext fun a => propext (e a)
  exact this ▸ h
/-! ## Strictly rising lists of numbers -/
def Inc (l : List Nat) : Prop := l.Pairwise (· < ·)
theorem inc_uniq : ∀ {l l' : List Nat}, Inc l → Inc l' → (∀ a, a ∈ l ↔ a ∈ l') → l = l'
  | [], [], _, _, _ => rfl
  | [], b :: s, _, _, h => absurd ((h b).2 (List.mem_cons_self ..)) (by simp)
  | a :: r, [], _, _, h => absurd ((h a).1 (List.mem_cons_self ..)) (by simp)
  | a :: r, b :: s, h1, h2, h => by
    obtain ⟨p1, p2⟩ := List.pairwise_cons.1 h1
    obtain ⟨q1, q2⟩ := List.pairwise_cons.1 h2
    have hab : a = b := by
      rcases List.mem_cons.1 ((h a).1 (List.mem_cons_self ..)) with e | hm
      · exact e
      · rcases List.mem_cons.1 ((h b).2 (List.mem_cons_self ..)) with e | hm2
        · exact e.symm
        · have := q1 a hm
          have := p1 b hm2
          omega
    subst hab
    congr 1
    refine inc_uniq p2 q2 fun x => ⟨fun hx => ?_, fun hx => ?_⟩
    · rcases List.mem_cons.1 ((h x).1 (List.mem_cons_of_mem _ hx)) with rfl | h3
      · have := p1 x hx; omega
      · exact h3
    · rcases List.mem_cons.1 ((h x).2 (List.mem_cons_of_mem _ hx)) with rfl | h3
      · have := q1 x hx; omega
      · exact h3
theorem inc_range (n : Nat) : Inc (List.range n) := List.pairwise_lt_range
theorem inc_allR : Inc (allR kl L) := List.Pairwise.sublist (List.filter_sublist ..) (inc_range _)
/-! ## The program's way to all repairs -/
variable (kl L)
/-- The places below k of the block that begins at j. -/
def bmask : Nat → Nat → Nat
  | 0, _ => 0
  | k + 1, j => if blkN kl L k = j then bmask k j ||| 2 ^ k else bmask k j
def kvP (k : Nat) : List (Nat × Nat) := ((List.range k).filter fun i => decide (blkN kl L i = i)).map fun i => (i, bmask kl L k i)
variable {kl L}
theorem bmask_bit : ∀ (k j i : Nat), (bmask kl L k j).testBit i = true ↔ i < k ∧ blkN kl L i = j
  | 0, j, i => by simp [bmask]
  | k + 1, j, i => by
    unfold bmask
    split
    · rename_i h
      rw [bit_or_pow, bmask_bit k j i]
      constructor
      · rintro (⟨h1, h2⟩ | rfl)
        · exact ⟨by omega, h2⟩
        · exact ⟨by omega, h⟩
      · rintro ⟨h1, h2⟩
        by_cases e : i = k
        · exact .inr e
        · exact .inl ⟨by omega, h2⟩
    · rename_i h
      rw [bmask_bit k j i]
      constructor
      · exact fun h1 => ⟨by omega, h1.2⟩
      · rintro ⟨h1, h2⟩
        have : i ≠ k := fun e => h (e ▸ h2)
        exact ⟨by omega, h2⟩
def bitsOf (n s : Nat) : List Nat := (List.range n).filter s.testBit
theorem mem_bitsOf {n s i : Nat} : i ∈ bitsOf n s ↔ i < n ∧ s.testBit i = true := by
  unfold bitsOf
  rw [List.mem_filter, List.mem_range]
/-- One more block. -/
def mulR (n : Nat) (out : List Nat) (s : Nat) : List Nat := out.flatMap fun r => (bitsOf n s).map fun i => r ||| 2 ^ i
def prodR (n : Nat) (sets : List Nat) : List Nat := sets.foldl (mulR n) [0]
theorem prodR_app (n : Nat) (sets : List Nat) (s : Nat) : prodR n (sets ++ [s]) = mulR n (prodR n sets) s := by simp [prodR]
def OneOf (n r s : Nat) : Prop := ∃ i, i < n ∧ r.testBit i = true ∧ s.testBit i = true ∧ ∀ j, j < n → r.testBit j = true → s.testBit j = true → j = i
theorem mem_prodR {n : Nat} : ∀ {sets : List Nat}, sets.Pairwise (fun s t => s &&& t = 0) → (∀ s ∈ sets, s < 2 ^ n) → ∀ r, r ∈ prodR n sets ↔ (∀ i, r.testBit i = true → ∃ s ∈ sets, s.testBit i = true) ∧ ∀ s ∈ sets, OneOf n r s := by
  intro sets
  induction h : sets.length generalizing sets with
  | zero =>
    intro _ _ r
    obtain rfl := List.length_eq_zero_iff.1 h
    simp only [prodR, List.foldl_nil, List.mem_singleton, List.not_mem_nil, false_and, exists_false, imp_false]
    constructor
    · rintro rfl
      exact ⟨fun i => by simp, fun s hs => by cases hs⟩
    · rintro ⟨h1, _⟩
      exact Nat.eq_of_testBit_eq fun i => by
        rw [Nat.zero_testBit, ← Bool.not_eq_true]
        exact h1 i
  | succ k ih =>
    intro hd hb r
    have hne : sets ≠ [] := fun e => by rw [e] at h; cases h
    obtain ⟨l, s, rfl⟩ : ∃ l s, sets = l ++ [s] := ⟨sets.dropLast, sets.getLast hne, (List.dropLast_concat_getLast hne).symm⟩
    obtain ⟨d1, _, d3⟩ := List.pairwise_append.1 hd
    have hb1 : ∀ t ∈ l, t < 2 ^ n := fun t ht => hb t (List.mem_append_left _ ht)
    have hbs := hb s (List.mem_append_right _ (List.mem_singleton.2 rfl))
    have hll : l.length = k := by simpa using h
    have ih := ih hll d1 hb1
    have disj : ∀ t ∈ l, ∀ i, t.testBit i = true → s.testBit i = true → False := fun t ht i h1 h2 => (and_ne_zero.2 ⟨i, h1, h2⟩) (d3 t ht s (List.mem_singleton.2 rfl))
    rw [prodR_app]
    unfold mulR
    rw [List.mem_flatMap]
    constructor
    · rintro ⟨r0, hr0, hm⟩
      obtain ⟨i, hi, rfl⟩ := List.mem_map.1 hm
      obtain ⟨h1, h2⟩ := (ih r0).1 hr0
      obtain ⟨hi1, hi2⟩ := mem_bitsOf.1 hi
      refine ⟨fun j hj => ?_, fun t ht => ?_⟩
      · rcases bit_or_pow.1 hj with hj | rfl
        · obtain ⟨t, ht, hb⟩ := h1 j hj
          exact ⟨t, List.mem_append_left _ ht, hb⟩
        · exact ⟨s, List.mem_append_right _ (List.mem_singleton.2 rfl), hi2⟩
      · rcases List.mem_append.1 ht with ht | ht
        · obtain ⟨j, a1, a2, a3, a4⟩ := h2 t ht
          refine ⟨j, a1, bit_or_pow.2 (.inl a2), a3, fun j' b1 b2 b3 => ?_⟩
          rcases bit_or_pow.1 b2 with b2 | rfl
          · exact a4 j' b1 b2 b3
          · exact (disj t ht _ b3 hi2).elim
        · rw [List.mem_singleton.1 ht]
          refine ⟨i, hi1, bit_or_pow.2 (.inr rfl), hi2, fun j' b1 b2 b3 => ?_⟩
          rcases bit_or_pow.1 b2 with b2 | rfl
          · obtain ⟨t, ht, hb⟩ := h1 j' b2
            exact (disj t ht j' hb b3).elim
          · rfl
    · rintro ⟨h1, h2⟩
      obtain ⟨i, a1, a2, a3, a4⟩ := h2 s (List.mem_append_right _ (List.mem_singleton.2 rfl))
      refine ⟨nSub r (2 ^ i), (ih _).2 ⟨fun j hj => ?_, fun t ht => ?_⟩, List.mem_map.2 ⟨i, mem_bitsOf.2 ⟨a1, a3⟩, ?_⟩⟩
      · rw [nSub_bit, Bool.and_eq_true, Bool.not_eq_true', Nat.testBit_two_pow, decide_eq_false_iff_not] at hj
        obtain ⟨t, ht, hb⟩ := h1 j hj.1
        rcases List.mem_append.1 ht with ht | ht
        · exact ⟨t, ht, hb⟩
        · rw [List.mem_singleton.1 ht] at hb
          have hjn : j < n := bit_lt hbs hb
          exact absurd (a4 j hjn hj.1 hb).symm hj.2
      · obtain ⟨j, b1, b2, b3, b4⟩ := h2 t (List.mem_append_left _ ht)
        refine ⟨j, b1, ?_, b3, fun j' c1 c2 c3 => ?_⟩
        · rw [nSub_bit, b2, Nat.testBit_two_pow, decide_eq_false]
          · rfl
          · rintro rfl
            exact disj t ht _ b3 a3
        · rw [nSub_bit, Bool.and_eq_true] at c2
          exact b4 j' c1 c2.1 c3
      · refine Nat.eq_of_testBit_eq fun j => ?_
        rw [Bool.eq_iff_iff, bit_or_pow, nSub_bit, Bool.and_eq_true, Bool.not_eq_true', Nat.testBit_two_pow, decide_eq_false_iff_not]
        constructor
        · rintro (h | rfl)
          · exact h.1
          · exact a2
        · intro hj
          by_cases e : i = j
          · exact .inr e.symm
          · exact .inl ⟨hj, e⟩
theorem nodup_prodR {n : Nat} : ∀ {sets : List Nat}, sets.Pairwise (fun s t => s &&& t = 0) → (∀ s ∈ sets, s < 2 ^ n) → (prodR n sets).Nodup := by
  intro sets
  induction h : sets.length generalizing sets with
  | zero =>
    intro _ _
    obtain rfl := List.length_eq_zero_iff.1 h
    simp [prodR]
  | succ k ih =>
    intro hd hb
    have hne : sets ≠ [] := fun e => by rw [e] at h; cases h
    obtain ⟨l, s, rfl⟩ : ∃ l s, sets = l ++ [s] := ⟨sets.dropLast, sets.getLast hne, (List.dropLast_concat_getLast hne).symm⟩
    obtain ⟨d1, _, d3⟩ := List.pairwise_append.1 hd
    have hb1 : ∀ t ∈ l, t < 2 ^ n := fun t ht => hb t (List.mem_append_left _ ht)
    have hll : l.length = k := by simpa using h
    have ih := ih hll d1 hb1
    have disj : ∀ t ∈ l, ∀ i, t.testBit i = true → s.testBit i = true → False := fun t ht i h1 h2 => (and_ne_zero.2 ⟨i, h1, h2⟩) (d3 t ht s (List.mem_singleton.2 rfl))
    have no : ∀ r ∈ prodR n l, ∀ i, r.testBit i = true → s.testBit i = true → False := fun r hr i h1 h2 => by
      obtain ⟨t, ht, hb⟩ := ((mem_prodR d1 hb1 r).1 hr).1 i h1
      exact disj t ht i hb h2
    rw [prodR_app]
    unfold mulR
    refine List.pairwise_flatMap.2 ⟨fun r hr => ?_, ih.imp_of_mem fun {r r'} hr hr' hne => ?_⟩
    · refine List.pairwise_map.2 ((List.nodup_range.filter _ : (bitsOf n s).Nodup).imp_of_mem fun {i j} hi hj hij e => hij ?_)
      have hi2 := (mem_bitsOf.1 hi).2
      have : (r ||| 2 ^ j).testBit i = true := by rw [← e]; exact bit_or_pow.2 (.inr rfl)
      rcases bit_or_pow.1 this with h | h
      · exact (no r hr i h hi2).elim
      · exact h
    · intro x hx y hx' exy
      subst exy
      obtain ⟨i, hi, rfl⟩ := List.mem_map.1 hx
      obtain ⟨j, hj, e⟩ := List.mem_map.1 hx'
      refine hne (Nat.eq_of_testBit_eq fun b => ?_)
      rw [Bool.eq_iff_iff]
      have key : ∀ b, s.testBit b = true → (r.testBit b = false ∧ r'.testBit b = false) := fun b hb => ⟨by rw [← Bool.not_eq_true]; exact fun h => no r hr b h hb, by rw [← Bool.not_eq_true]; exact fun h => no r' hr' b h hb⟩
      have hi2 := (mem_bitsOf.1 hi).2
      have hj2 := (mem_bitsOf.1 hj).2
      constructor
      · intro hb
        have : (r' ||| 2 ^ j).testBit b = true := by rw [e]; exact bit_or_pow.2 (.inl hb)
        rcases bit_or_pow.1 this with h | rfl
        · exact h
        · rw [(key _ hj2).1] at hb; cases hb
      · intro hb
        have : (r ||| 2 ^ i).testBit b = true := by rw [← e]; exact bit_or_pow.2 (.inl hb)
        rcases bit_or_pow.1 this with h | rfl
        · exact h
        · rw [(key _ hi2).2] at hb; cases hb
/-- The sets of all blocks, in any order: all repairs. -/
theorem prod_all {sets : List Nat} (hp : sets.Perm ((kvP kl L L.length).map Prod.snd)) : (prodR L.length sets).Nodup ∧ ∀ r, r ∈ prodR L.length sets ↔ r ∈ allR kl L := by
  have hset : ∀ s, s ∈ sets ↔ ∃ j, j < L.length ∧ blkN kl L j = j ∧ s = bmask kl L L.length j := fun s => by
    rw [hp.mem_iff, List.mem_map]
    unfold kvP
    constructor
    · rintro ⟨p, hp, rfl⟩
      obtain ⟨j, hj, rfl⟩ := List.mem_map.1 hp
      obtain ⟨h1, h2⟩ := List.mem_filter.1 hj
      exact ⟨j, List.mem_range.1 h1, of_decide_eq_true h2, rfl⟩
    · rintro ⟨j, h1, h2, rfl⟩
      exact ⟨_, List.mem_map.2 ⟨j, List.mem_filter.2 ⟨List.mem_range.2 h1, decide_eq_true h2⟩, rfl⟩, rfl⟩
  have hd : sets.Pairwise fun s t => s &&& t = 0 := by
    refine (hp.pairwise_iff (fun {a b} h => by rw [Nat.and_comm]; exact h)).2 ?_
    unfold kvP
    rw [List.map_map, List.pairwise_map]
    refine List.Pairwise.imp_of_mem (R := fun a b => a ≠ b) (fun {a b} _ _ hab => ?_) (List.nodup_range.filter _)
    refine Classical.byContradiction fun h0 => ?_
    obtain ⟨x, h1, h2⟩ := and_ne_zero.1 h0
    have h1 := (bmask_bit _ _ _).1 h1
    have h2 := (bmask_bit _ _ _).1 h2
    exact hab (h1.2.symm.trans h2.2)
  have hb : ∀ s ∈ sets, s < 2 ^ L.length := fun s hs => by
    obtain ⟨j, _, _, rfl⟩ := (hset s).1 hs
    refine Nat.lt_pow_two_of_testBit _ fun i hi => ?_
    rw [← Bool.not_eq_true, bmask_bit]
    omega
  refine ⟨nodup_prodR hd hb, fun r => ?_⟩
  rw [mem_prodR hd hb, mem_allR, repB_iff]
  constructor
  · rintro ⟨h1, h2⟩
    refine ⟨Nat.lt_pow_two_of_testBit _ fun i hi => ?_, fun i hi => ?_⟩
    · rw [← Bool.not_eq_true]
      intro hbit
      obtain ⟨s, hs, h3⟩ := h1 i hbit
      have := bit_lt (hb s hs) h3
      omega
    · obtain ⟨j, a1, a2, a3, a4⟩ := h2 _ ((hset _).2 ⟨blkN kl L i, blk_lt hi, blk_blk hi, rfl⟩)
      have e := ((bmask_bit _ _ _).1 a3).2
      refine ⟨j, a1, a2, (blk_eq hi a1).1 e.symm, fun j' b1 b2 b3 => a4 j' b1 b2 ((bmask_bit _ _ _).2 ⟨b1, ((blk_eq hi b1).2 b3).symm⟩)⟩
  · rintro ⟨h1, h2⟩
    refine ⟨fun i hi => ?_, fun s hs => ?_⟩
    · have hil : i < L.length := bit_lt h1 hi
      exact ⟨_, (hset _).2 ⟨blkN kl L i, blk_lt hil, blk_blk hil, rfl⟩, (bmask_bit _ _ _).2 ⟨hil, rfl⟩⟩
    · obtain ⟨b, hbl, hbb, rfl⟩ := (hset s).1 hs
      obtain ⟨j, a1, a2, a3, a4⟩ := h2 b hbl
      refine ⟨j, a1, a2, (bmask_bit _ _ _).2 ⟨a1, by rw [← (blk_eq hbl a1).2 a3, hbb]⟩, fun j' b1 b2 b3 => a4 j' b1 b2 ?_⟩
      have := ((bmask_bit _ _ _).1 b3).2
      exact (blk_eq hbl b1).1 (hbb.trans this.symm)
end
end Go.Proofs.Ytleiddajojgmmaa

/- Valid books: a schema, and facts without doubles. Of no program. No condition. -/
namespace Go.Proofs.Ytleiddajojgmmaa
open VC
set_option linter.unusedSimpArgs false
set_option linter.unusedVariables false

/-! ## Valid books -/
def okS (s : List Int) : Bool := decide (s.length = 6) && s.all fun x => decide (0 ≤ x) && decide (x ≤ 3)
/-- Of one relation all facts have as many Args, and no two are the same. -/
def okP : List Atm → Bool
  | [] => true
  | f :: r => r.all (fun g => !decide (f.1 = g.1) || (decide (f.2.length = g.2.length) && !decide (f.2 = g.2))) && okP r
def okR (s : List Int) (L : List Atm) : Bool := okS s && decide (L.length ≤ 12) && L.all okF && okP L
theorem okP_iff {L : List Atm} : okP L = true ↔ L.Pairwise fun f g => f.1 = g.1 → f.2.length = g.2.length ∧ f.2 ≠ g.2 := by
  induction L with
  | nil => simp [okP]
  | cons f r ih =>
    rw [okP, Bool.and_eq_true, ih, List.pairwise_cons, List.all_eq_true]
    refine and_congr_left fun _ => ?_
    refine forall_congr' fun g => forall_congr' fun _ => ?_
    by_cases h : f.1 = g.1
    · simp [h]
    · simp [h]
theorem okR_out {s : List Int} {L : List Atm} (h : okR s L = true) : okS s = true ∧ L.length ≤ 12 ∧ okFs L = true ∧ L.Nodup ∧ ∀ f ∈ L, ∀ g ∈ L, f.1 = g.1 → f.2.length = g.2.length := by
  simp only [okR, Bool.and_eq_true, decide_eq_true_eq] at h
  obtain ⟨⟨⟨h1, h2⟩, h3⟩, h4⟩ := h
  have hp := okP_iff.1 h4
  refine ⟨h1, h2, ?_, ?_, ?_⟩
  · simp only [okFs, Bool.and_eq_true, decide_eq_true_eq]
    exact ⟨by omega, h3⟩
  · exact hp.imp fun {a b} hab e => by subst e; exact (hab rfl).2 rfl
  · intro f hf g hg e
    have sym : L.Pairwise fun f g => f.1 = g.1 → f.2.length = g.2.length := hp.imp fun h e => (h e).1
    obtain ⟨i, hi, rfl⟩ := List.getElem_of_mem hf
    obtain ⟨j, hj, rfl⟩ := List.getElem_of_mem hg
    rcases Nat.lt_trichotomy i j with h | h | h
    · exact List.pairwise_iff_getElem.1 sym i j hi hj h e
    · subst h; rfl
    · exact (List.pairwise_iff_getElem.1 sym j i hj hi h e.symm).symm
theorem okS_out {s : List Int} (h : okS s = true) : s.length = 6 ∧ ∀ x ∈ s, 0 ≤ x ∧ x ≤ 3 := by
  simpa [okS, List.all_eq_true] using h
theorem okS_take {s : List Int} (h : okS s = true) : s.take 9 = s := List.take_of_length_le (by have := (okS_out h).1; omega)
theorem okR_trF {s : List Int} {L : List Atm} (h : okR s L = true) : trF L = L ∧ s.take 9 = s := ⟨trF_of (okR_out h).2.2.1, okS_take (okR_out h).1⟩
end Go.Proofs.Ytleiddajojgmmaa

/- Maps whose keys are ints: what they hold, as a list of pairs in the order of their making. No condition. -/
namespace Go.Proofs.Ytleiddajojgmmaa.VC
open Go Go.RowKit
set_option linter.unusedSimpArgs false
set_option linter.unusedVariables false

def idxK : List (Int × Value) → Int → Nat → Option (Nat × Value)
  | [], _, _ => none
  | (a, v) :: r, k, i => if k = a then some (i, v) else idxK r k (i + 1)
def getM (kv : List (Int × Value)) (k : Int) : Option Value := (idxK kv k 0).map (·.2)
def updM : List (Int × Value) → Int → Value → List (Int × Value)
  | [], k, v => [(k, v)]
  | (a, u) :: r, k, v => if k = a then (a, v) :: r else (a, u) :: updM r k v
theorem idxK_shift : ∀ (kv : List (Int × Value)) (k : Int) (i j : Nat), idxK kv k (i + j) = (idxK kv k i).map fun p => (p.1 + j, p.2)
  | [], _, _, _ => rfl
  | (a, v) :: r, k, i, j => by
    unfold idxK
    split
    · rfl
    · rw [show i + j + 1 = i + 1 + j by omega]; exact idxK_shift r k (i + 1) j
theorem getM_cons (a : Int) (v : Value) (r : List (Int × Value)) (k : Int) : getM ((a, v) :: r) k = if k = a then some v else getM r k := by
  unfold getM
  conv => lhs; unfold idxK
  split
  · rfl
  · rw [idxK_shift r k 0 1]; cases idxK r k 0 <;> rfl
theorem getM_upd : ∀ (kv : List (Int × Value)) (k j : Int) (v : Value), getM (updM kv k v) j = if j = k then some v else getM kv j
  | [], k, j, v => by unfold updM; rw [getM_cons]
  | (a, u) :: r, k, j, v => by
    unfold updM
    by_cases h : k = a
    · subst h
      rw [if_pos rfl, getM_cons, getM_cons]
      by_cases h2 : j = k <;> simp [h2]
    · rw [if_neg h, getM_cons, getM_cons, getM_upd r k j v]
      by_cases h2 : j = a
      · have : ¬ j = k := fun e => h (e.symm.trans h2)
        simp [h2, this]
        intro e; exact absurd e.symm h
      · simp [h2]
theorem getM_none : ∀ (kv : List (Int × Value)) (k : Int), getM kv k = none → updM kv k = fun v => kv ++ [(k, v)]
  | [], k, _ => rfl
  | (a, u) :: r, k, h => by
    rw [getM_cons] at h
    split at h
    · cases h
    · rename_i hne
      funext v
      unfold updM
      rw [if_neg hne, getM_none r k h]
      rfl
theorem idxK_none {kv : List (Int × Value)} {k : Int} (h : getM kv k = none) : idxK kv k 0 = none := by
  unfold getM at h
  simpa using h
/-- What a map holds. -/
structure MapI (w : World) (b : Nat) (kv : List (Int × Value)) : Prop where
  ex : ∃ es clock, w.heap[b]? = some (.map es clock) ∧ es.toList.map (fun e => (e.key, e.val)) = kv.map fun p => (Value.int .i64 p.1, p.2)
theorem MapI.lt {w : World} {b : Nat} {kv : List (Int × Value)} (h : MapI w b kv) : b < w.heap.size := by
  obtain ⟨es, c, h1, _⟩ := h.ex
  exact (Array.getElem?_eq_some_iff.1 h1).1
theorem MapI.fr {S : Nat → Prop} {w w' : World} {b : Nat} {kv : List (Int × Value)} (h : MapI w b kv) (hf : Fr S w w') (hs : ¬ S b) : MapI w' b kv := by
  have hlt := h.lt
  obtain ⟨es, c, h1, h2⟩ := h.ex
  exact ⟨es, c, (hf.block b hlt hs).trans h1, h2⟩
theorem MapI.grow {w w' : World} {b : Nat} {kv : List (Int × Value)} (h : MapI w b kv) (hf : Grow w w') : MapI w' b kv := h.fr (Fr.of_grow (S := fun _ => False) hf) id
theorem MapI.make {P : Program} (t : TypeId) (w : World) {K : Value → World → Prop} (hk : ∀ w', w' = w.alloc (.map #[] 0) → MapI w' w.heap.size [] → Grow w w' → w'.heap.size = w.heap.size + 1 → K (.map (some w.heap.size)) w') :
    ∃ v : Value, ∃ w' : World, (Instr.makeMap t none).run P w = .ok v w' ∧ K v w' := by
  refine ⟨_, _, run_makeMap t w, hk _ rfl ⟨#[], 0, heap_alloc_new w _, rfl⟩ ((Grow.refl w).alloc _) (by simp)⟩
theorem findNow_kv {k : Int} : ∀ (l : List MapEntry) (kv : List (Int × Value)) (i : Nat), l.map (fun e => (e.key, e.val)) = kv.map (fun p => (Value.int .i64 p.1, p.2)) → Instr.findNow (.int .i64) (.int .i64 k) l i = some (idxK kv k i)
  | [], kv, i, h => by
    have : kv = [] := by simpa using h.symm
    subst this; rfl
  | e :: l, [], i, h => by simp at h
  | e :: l, (a, v) :: r, i, h => by
    simp only [List.map_cons, List.cons.injEq, Prod.mk.injEq] at h
    obtain ⟨⟨h1, h2⟩, h3⟩ := h
    unfold Instr.findNow idxK
    rw [h1]
    simp only [Instr.sameNow, if_true]
    by_cases e1 : k = a
    · subst e1; simp [h2]
    · have : (k == a) = false := by simpa using e1
      simp only [this, if_neg e1]
      exact findNow_kv l r (i + 1) h3
theorem MapI.len {P : Program} {t kt et ty : TypeId} (ht : P.underlying t = some (.map kt et)) {w : World} {b : Nat} {kv : List (Int × Value)} (h : MapI w b kv) : (Builtin.len_ #[t] ty #[.map (some b)]).run P w = .ok (.int .i64 (kv.length : Int)) w := by
  obtain ⟨es, c, h1, h2⟩ := h.ex
  have : es.size = kv.length := by have := congrArg List.length h2; simpa using this
  simp [Builtin.len_, underlying_run ht, MapKept.run_getObj_map h1, goInt, this]
theorem MapI.get {P : Program} {t kt et : TypeId} {i : TypeInfo} {z : Value} (ht : P.underlying t = some (.map kt et)) (hk : P.underlying kt = some (.int .i64)) (hi : P.info? et = some i) (hz : i.zero = some z) {w : World} {b : Nat} {kv : List (Int × Value)} (h : MapI w b kv) (k : Int) (ok : Bool) :
    (Instr.lookup t (.map (some b)) (.int .i64 k) ok).run P w = .ok (if ok then .tuple #[(getM kv k).getD z, .bool (getM kv k).isSome] else (getM kv k).getD z) w := by
  obtain ⟨es, c, h1, h2⟩ := h.ex
  have hf : Instr.findNow (.int .i64) (.int .i64 k) es.toList 0 = some (idxK kv k 0) := findNow_kv _ _ _ h2
  have hc : ∀ e, (Instr.checkKey e 10000 kt (.int .i64 k)).run P w = .ok () w := fun e => MapKept.run_checkKey (k := .int .i64 k) hk (by simp [MapKept.IsKey]) e 9999
  have hzr : (zeroValue et).run P w = .ok z w := by simp [zeroValue, typeInfo, hi, hz]
  simp only [Instr.lookup, Sem.run_bind, underlying_run ht, Result.andThen_ok, MapKept.run_getObj_map h1, Sem.run_pure, hc, MapKept.run_findKey hk hf]
  unfold getM
  cases hx : idxK kv k 0 with
  | none => simp [hzr]
  | some p => simp
theorem updM_push {es : Array MapEntry} {kv : List (Int × Value)} {k : Int} {v : Value} {c : Nat} (h : es.toList.map (fun e => (e.key, e.val)) = kv.map fun p => (Value.int .i64 p.1, p.2)) (hn : idxK kv k 0 = none) :
    (es.push { key := .int .i64 k, val := v, born := c }).toList.map (fun e => (e.key, e.val)) = (updM kv k v).map fun p => (Value.int .i64 p.1, p.2) := by
  have : getM kv k = none := by unfold getM; rw [hn]; rfl
  rw [getM_none kv k this]
  simp [h]
theorem updM_modify {k : Int} {v u : Value} : ∀ (l : List MapEntry) (kv : List (Int × Value)) (j : Nat), l.map (fun e => (e.key, e.val)) = kv.map (fun p => (Value.int .i64 p.1, p.2)) → idxK kv k 0 = some (j, u) →
    (l.modify j fun e => { e with key := .int .i64 k, val := v }).map (fun e => (e.key, e.val)) = (updM kv k v).map fun p => (Value.int .i64 p.1, p.2)
  | [], kv, j, h, hi => by
    have : kv = [] := by simpa using h.symm
    subst this; cases hi
  | e :: l, [], j, h, hi => by cases hi
  | e :: l, (a, u') :: r, j, h, hi => by
    have h0 := h
    simp only [List.map_cons, List.cons.injEq, Prod.mk.injEq] at h
    obtain ⟨⟨h1, h2⟩, h3⟩ := h
    unfold idxK at hi
    unfold updM
    split at hi
    · rename_i e1
      simp only [Option.some.injEq, Prod.mk.injEq] at hi
      obtain ⟨rfl, rfl⟩ := hi
      subst e1
      rw [if_pos rfl]
      simp [h3]
    · rename_i e1
      rw [if_neg e1]
      rw [idxK_shift r k 0 1] at hi
      cases hx : idxK r k 0 with
      | none => rw [hx] at hi; cases hi
      | some p =>
        rw [hx] at hi
        simp only [Option.map_some, Option.some.injEq, Prod.mk.injEq] at hi
        obtain ⟨rfl, rfl⟩ := hi
        have := updM_modify (v := v) l r p.1 h3 (by rw [hx])
        simp only [List.modify_succ_cons, List.map_cons]
        rw [this, h1, h2]
theorem idxK_at : ∀ (kv : List (Int × Value)) (k : Int) (j : Nat) (u : Value), idxK kv k 0 = some (j, u) → kv[j]? = some (k, u)
  | [], _, _, _, h => by cases h
  | (a, v) :: r, k, j, u, h => by
    unfold idxK at h
    split at h
    · rename_i e
      simp only [Option.some.injEq, Prod.mk.injEq] at h
      obtain ⟨rfl, rfl⟩ := h
      subst e; rfl
    · rw [idxK_shift r k 0 1] at h
      cases hx : idxK r k 0 with
      | none => rw [hx] at h; cases h
      | some p =>
        rw [hx] at h
        simp only [Option.map_some, Option.some.injEq, Prod.mk.injEq] at h
        obtain ⟨rfl, rfl⟩ := h
        have := idxK_at r k p.1 p.2 (by rw [hx])
        simpa using this
theorem MapI.set {P : Program} {t kt et : TypeId} (ht : P.underlying t = some (.map kt et)) (hk : P.underlying kt = some (.int .i64)) {w : World} {b : Nat} {kv : List (Int × Value)} (h : MapI w b kv) (k : Int) (v : Value) :
    ∃ w', (Instr.mapUpdate t (.map (some b)) (.int .i64 k) v).run P w = .ok () w' ∧ MapI w' b (updM kv k v) ∧ Fr (fun q => q = b) w w' := by
  have hlt := h.lt
  obtain ⟨es, c, h1, h2⟩ := h.ex
  have hf : Instr.findNow (.int .i64) (.int .i64 k) es.toList 0 = some (idxK kv k 0) := findNow_kv _ _ _ h2
  have hc : ∀ e, (Instr.checkKey e 10000 kt (.int .i64 k)).run P w = .ok () w := fun e => MapKept.run_checkKey (k := .int .i64 k) hk (by simp [MapKept.IsKey]) e 9999
  have fr : ∀ o, Fr (fun q => q = b) w { w with heap := w.heap.setIfInBounds b o } := fun o => ⟨rfl, rfl, rfl, by simp, fun q _ hq => Array.getElem?_setIfInBounds_ne fun e => hq e.symm⟩
  have at_ : ∀ o, (w.heap.setIfInBounds b o)[b]? = some o := fun o => by simp [Array.getElem?_setIfInBounds, hlt]
  cases hx : idxK kv k 0 with
  | none =>
    rw [hx] at hf
    refine ⟨_, ?_, ⟨_, _, at_ (.map (es.push { key := .int .i64 k, val := v, born := c }) (c + 1)), updM_push h2 hx⟩, fr _⟩
    simp [Instr.mapUpdate, underlying_run ht, MapKept.run_getObj_map h1, hc, MapKept.run_findKey hk hf, MapKept.run_setObj_map _ h1]
  | some p =>
    obtain ⟨j, u⟩ := p
    rw [hx] at hf
    have hj : ∃ e, es[j]? = some e ∧ e.key = .int .i64 k := by
      have h4 := idxK_at kv k j u hx
      have h5 : (es.toList.map (fun e => (e.key, e.val)))[j]? = some (.int .i64 k, u) := by rw [h2, List.getElem?_map, h4]; rfl
      rw [List.getElem?_map, Option.map_eq_some_iff] at h5
      obtain ⟨e, he, h6⟩ := h5
      simp only [Prod.mk.injEq] at h6
      exact ⟨e, by simpa using he, h6.1⟩
    obtain ⟨e, he, hke⟩ := hj
    refine ⟨_, ?_, ⟨_, _, at_ (.map (es.modify j fun e => { e with key := .int .i64 k, val := v }) c), ?_⟩, fr _⟩
    · have hs : Instr.sameBits 10000 (.int .i64 k) (.int .i64 k) = true := by simp [Instr.sameBits]
      simp [Instr.mapUpdate, underlying_run ht, MapKept.run_getObj_map h1, hc, MapKept.run_findKey hk hf, MapKept.run_setObj_map _ h1, Instr.keyThatStays, he, hke, hs]
    · rw [Array.toList_modify]
      exact updM_modify es.toList kv j h2 hx
def mapSize (w : World) (b : Nat) : Nat := match w.heap[b]? with | some (.map es _) => es.size | _ => 0
theorem MapI.size {w : World} {b : Nat} {kv : List (Int × Value)} (h : MapI w b kv) : mapSize w b = kv.length := by
  obtain ⟨es, c, h1, h2⟩ := h.ex
  unfold mapSize
  rw [h1]
  have := congrArg List.length h2
  simpa using this
end Go.Proofs.Ytleiddajojgmmaa.VC

/- Maps whose keys are ints, gone through by range. No condition. -/
namespace Go.Proofs.Ytleiddajojgmmaa.VC
open Go Go.RowKit
open Go.ChangeMaps (setBlock)
set_option linter.unusedSimpArgs false
set_option linter.unusedVariables false

/-- What a map holds, each entry with a stamp of its own. -/
structure MapSt (w : World) (b : Nat) (kv : List (Int × Value)) : Prop where
  ex : ∃ es clock, w.heap[b]? = some (.map es clock) ∧ es.toList.map (fun e => (e.key, e.val)) = kv.map (fun p => (Value.int .i64 p.1, p.2)) ∧ (∀ e ∈ es.toList, e.born < clock) ∧ (es.toList.map (·.born)).Nodup
section
variable {w w' : World} {b : Nat} {kv : List (Int × Value)}
theorem MapSt.toI (h : MapSt w b kv) : MapI w b kv := by
  obtain ⟨es, c, h1, h2, _⟩ := h.ex
  exact ⟨es, c, h1, h2⟩
theorem MapSt.lt (h : MapSt w b kv) : b < w.heap.size := h.toI.lt
theorem MapSt.fr {S : Nat → Prop} (h : MapSt w b kv) (hf : Fr S w w') (hs : ¬ S b) : MapSt w' b kv := by
  have hlt := h.lt
  obtain ⟨es, c, h1, h2⟩ := h.ex
  exact ⟨es, c, (hf.block b hlt hs).trans h1, h2⟩
theorem MapSt.grow (h : MapSt w b kv) (hf : Grow w w') : MapSt w' b kv := h.fr (Fr.of_grow (S := fun _ => False) hf) id
theorem MapSt.make {P : Program} (t : TypeId) (w : World) {K : Value → World → Prop} (hk : ∀ w', w' = w.alloc (.map #[] 0) → MapSt w' w.heap.size [] → Grow w w' → w'.heap.size = w.heap.size + 1 → K (.map (some w.heap.size)) w') :
    ∃ v : Value, ∃ w' : World, (Instr.makeMap t none).run P w = .ok v w' ∧ K v w' := by
  refine ⟨_, _, run_makeMap t w, hk _ rfl ⟨#[], 0, heap_alloc_new w _, rfl, fun e he => by simp at he, by simp⟩ ((Grow.refl w).alloc _) (by simp)⟩
theorem map_modify_born {f : MapEntry → MapEntry} (hf : ∀ e, (f e).born = e.born) : ∀ (l : List MapEntry) (j : Nat), (l.modify j f).map (·.born) = l.map (·.born)
  | [], j => by simp
  | e :: r, 0 => by simp [hf]
  | e :: r, j + 1 => by simp [map_modify_born hf r j]
theorem MapSt.set {P : Program} {t kt et : TypeId} (ht : P.underlying t = some (.map kt et)) (hk : P.underlying kt = some (.int .i64)) (h : MapSt w b kv) (k : Int) (v : Value) :
    ∃ w', (Instr.mapUpdate t (.map (some b)) (.int .i64 k) v).run P w = .ok () w' ∧ MapSt w' b (updM kv k v) ∧ Fr (fun q => q = b) w w' := by
  have hlt := h.lt
  obtain ⟨es, c, h1, h2, h3, h4⟩ := h.ex
  have hf : Instr.findNow (.int .i64) (.int .i64 k) es.toList 0 = some (idxK kv k 0) := findNow_kv _ _ _ h2
  have hc : ∀ e, (Instr.checkKey e 10000 kt (.int .i64 k)).run P w = .ok () w := fun e => MapKept.run_checkKey (k := .int .i64 k) hk (by simp [MapKept.IsKey]) e 9999
  have fr : ∀ o, Fr (fun q => q = b) w { w with heap := w.heap.setIfInBounds b o } := fun o => ⟨rfl, rfl, rfl, by simp, fun q _ hq => Array.getElem?_setIfInBounds_ne fun e => hq e.symm⟩
  have at_ : ∀ o, (w.heap.setIfInBounds b o)[b]? = some o := fun o => by simp [Array.getElem?_setIfInBounds, hlt]
  cases hx : idxK kv k 0 with
  | none =>
    rw [hx] at hf
    refine ⟨_, ?_, ⟨_, _, at_ (.map (es.push { key := .int .i64 k, val := v, born := c }) (c + 1)), updM_push h2 hx, ?_, ?_⟩, fr _⟩
    · simp [Instr.mapUpdate, underlying_run ht, MapKept.run_getObj_map h1, hc, MapKept.run_findKey hk hf, MapKept.run_setObj_map _ h1]
    · intro e he
      simp only [Array.toList_push, List.mem_append, List.mem_singleton] at he
      rcases he with he | rfl
      · have := h3 e he; omega
      · show c < c + 1
        omega
    · rw [Array.toList_push, List.map_append]
      refine List.nodup_append.2 ⟨h4, by simp, fun a ha b hb e => ?_⟩
      obtain ⟨x, hx, rfl⟩ := List.mem_map.1 ha
      have := h3 x hx
      simp at hb
      omega
  | some p =>
    obtain ⟨j, u⟩ := p
    rw [hx] at hf
    have hj : ∃ e, es[j]? = some e ∧ e.key = .int .i64 k := by
      have h4 := idxK_at kv k j u hx
      have h5 : (es.toList.map (fun e => (e.key, e.val)))[j]? = some (.int .i64 k, u) := by rw [h2, List.getElem?_map, h4]; rfl
      rw [List.getElem?_map, Option.map_eq_some_iff] at h5
      obtain ⟨e, he, h6⟩ := h5
      simp only [Prod.mk.injEq] at h6
      exact ⟨e, by simpa using he, h6.1⟩
    obtain ⟨e, he, hke⟩ := hj
    have hborn : ((es.modify j fun e => { e with key := .int .i64 k, val := v }).toList.map (·.born)) = es.toList.map (·.born) := by
      rw [Array.toList_modify]
      exact map_modify_born (f := fun e => { e with key := .int .i64 k, val := v }) (fun _ => rfl) _ _
    refine ⟨_, ?_, ⟨_, _, at_ (.map (es.modify j fun e => { e with key := .int .i64 k, val := v }) c), ?_, fun x hx' => ?_, by rw [hborn]; exact h4⟩, fr _⟩
    · have hs : Instr.sameBits 10000 (.int .i64 k) (.int .i64 k) = true := by simp [Instr.sameBits]
      simp [Instr.mapUpdate, underlying_run ht, MapKept.run_getObj_map h1, hc, MapKept.run_findKey hk hf, MapKept.run_setObj_map _ h1, Instr.keyThatStays, he, hke, hs]
    · rw [Array.toList_modify]
      exact updM_modify es.toList kv j h2 hx
    · have : x.born ∈ es.toList.map (·.born) := by rw [← hborn]; exact List.mem_map.2 ⟨x, hx', rfl⟩
      obtain ⟨y, hy, e⟩ := List.mem_map.1 this
      rw [← e]
      exact h3 y hy
/-! ## range -/
def kvE (e : MapEntry) : Int × Value := (match e.key with | .int _ k => k | _ => 0, e.val)
/-- A range under way: what is still to come, in any order. -/
structure ItS (w : World) (b r : Nat) (kv left : List (Int × Value)) : Prop where
  ex : ∃ es clock since seen c0, w.heap[b]? = some (.map es clock) ∧ es.toList.map (fun e => (e.key, e.val)) = kv.map (fun p => (Value.int .i64 p.1, p.2)) ∧ (∀ e ∈ es.toList, e.born < since) ∧ (es.toList.map (·.born)).Nodup ∧ w.heap[r]? = some (.mapIter (some b) since seen c0) ∧ since ≤ c0 ∧ since ≤ clock ∧ left = ((es.toList.filter fun e => !seen.contains e.born).map kvE)
theorem kv_of {es : List MapEntry} (h : es.map (fun e => (e.key, e.val)) = kv.map (fun p => (Value.int .i64 p.1, p.2))) : es.map kvE = kv := by
  have : (es.map (fun e => (e.key, e.val))).map (fun p => ((match p.1 with | .int _ k => k | _ => 0 : Int), p.2)) = kv := by
    rw [h, List.map_map]
    conv => rhs; rw [← List.map_id kv]
    rfl
  rw [List.map_map] at this
  exact this
theorem key_of {es : List MapEntry} (h : es.map (fun e => (e.key, e.val)) = kv.map (fun p => (Value.int .i64 p.1, p.2))) : ∀ e ∈ es, e.key = .int .i64 (kvE e).1 := by
  intro e he
  have : (e.key, e.val) ∈ kv.map (fun p => (Value.int .i64 p.1, p.2)) := h ▸ List.mem_map.2 ⟨e, he, rfl⟩
  obtain ⟨p, hp, e2⟩ := List.mem_map.1 this
  have e3 : e.key = Value.int .i64 p.1 := (congrArg Prod.fst e2).symm
  unfold kvE
  rw [e3]
theorem ItS.fr {r : Nat} {left : List (Int × Value)} {S : Nat → Prop} (h : ItS w b r kv left) (hf : Fr S w w') (hb : ¬ S b) (hr : ¬ S r) : ItS w' b r kv left := by
  obtain ⟨es, clock, since, seen, c0, h1, h2, h3, h4, h5, h6⟩ := h.ex
  exact ⟨es, clock, since, seen, c0, (hf.block b (Array.getElem?_eq_some_iff.1 h1).1 hb).trans h1, h2, h3, h4, (hf.block r (Array.getElem?_eq_some_iff.1 h5).1 hr).trans h5, h6⟩
theorem ItS.grow {r : Nat} {left : List (Int × Value)} (h : ItS w b r kv left) (hf : Grow w w') : ItS w' b r kv left := h.fr (Fr.of_grow (S := fun _ => False) hf) id id
theorem MapSt.range {P : Program} {t kt et : TypeId} (ht : P.underlying t = some (.map kt et)) (h : MapSt w b kv) {K : Value → World → Prop} (hk : ∀ w', ItS w' b w.heap.size kv kv → Grow w w' → w'.heap.size = w.heap.size + 1 → K (.pointer (some ⟨w.heap.size, 0, none⟩)) w') :
    ∃ v : Value, ∃ w' : World, (Instr.range t (.map (some b))).run P w = .ok v w' ∧ K v w' := by
  obtain ⟨es, c, h1, h2, h3, h4⟩ := h.ex
  have hg : Grow w (w.alloc (.mapIter (some b) c #[] c)) := (Grow.refl w).alloc _
  refine ⟨_, _, run_range_map w t kt et b es c ht h1, hk _ ⟨es, c, c, #[], c, ?_, h2, h3, h4, heap_alloc_new w _, Nat.le_refl _, Nat.le_refl _, ?_⟩ hg (by simp)⟩
  · exact (hg.block b (Array.getElem?_eq_some_iff.1 h1).1).trans h1
  · have e : es.toList.filter (fun e => !(#[] : Array Nat).contains e.born) = es.toList := List.filter_eq_self.2 fun x _ => by simp
    rw [e, kv_of h2]
theorem perm_out {α : Type} {β : Type} [DecidableEq β] (f : α → β) : ∀ {l : List α} {e : α}, (l.map f).Nodup → e ∈ l → l.Perm (e :: l.filter fun x => decide (f x ≠ f e))
  | a :: r, e, hn, he => by
    rw [List.map_cons, List.nodup_cons] at hn
    rcases List.mem_cons.1 he with rfl | he
    · have : (e :: r).filter (fun x => decide (f x ≠ f e)) = r := by
        rw [List.filter_cons, if_neg (by simp)]
        refine List.filter_eq_self.2 fun x hx => decide_eq_true fun h => hn.1 ?_
        rw [← h]
        exact List.mem_map.2 ⟨x, hx, rfl⟩
      rw [this]
    · have hne : f a ≠ f e := fun h => hn.1 (h ▸ List.mem_map.2 ⟨e, he, rfl⟩)
      rw [List.filter_cons, if_pos (by simpa using hne)]
      exact ((perm_out f hn.2 he).cons a).trans (List.Perm.swap _ _ _)
/-- The step: nothing is left, or one of what is left comes out. -/
theorem ItS.next {P : Program} {r : Nat} {left : List (Int × Value)} (h : ItS w b r kv left) (hrb : r ≠ b) (ty : TypeId) :
    (left = [] ∧ (Instr.next (.pointer (some ⟨r, 0, none⟩)) false ty).run P w = .ok (.tuple #[.bool false]) w) ∨
    ∃ p left' w', left.Perm (p :: left') ∧ (Instr.next (.pointer (some ⟨r, 0, none⟩)) false ty).run P w = .ok (.tuple #[.bool true, .int .i64 p.1, p.2]) w' ∧ ItS w' b r kv left' ∧ Fr (fun q => q = r) w w' ∧ (Instr.entry (.pointer (some ⟨r, 0, none⟩))).run P w' = .ok (.tuple #[.int .i64 p.1, p.2]) w' := by
  obtain ⟨es, clock, since, seen, c0, h1, h2, h3, h4, h5, h6, h7, rfl⟩ := h.ex
  have hl : (leftOf es seen).toList = es.toList.filter fun e => !seen.contains e.born := by
    unfold leftOf
    simp
  rcases run_next_at (P := P) w ty r b since c0 seen es clock h5 h1 h3 h6 with ⟨h0, hrun⟩ | ⟨e, he, w1, hw1, hrun⟩
  · refine .inl ⟨?_, hrun⟩
    rw [← hl]
    have : (leftOf es seen).toList = [] := by
      apply List.eq_nil_of_length_eq_zero
      simpa using h0
    rw [this]
    rfl
  · refine .inr ⟨kvE e, (es.toList.filter fun x => !(seen.push e.born).contains x.born).map kvE, setBlock w1 r (.mapIter (some b) since (seen.push e.born) clock), ?_, ?_, ?_, ?_, ?_⟩
    · rw [hl] at he
      have hperm := perm_out (·.born) (l := es.toList.filter fun e => !seen.contains e.born) (e := e) (h4.sublist (List.Sublist.map _ (List.filter_sublist ..))) he
      have e2 : (es.toList.filter fun e => !seen.contains e.born).filter (fun x => decide (x.born ≠ e.born)) = es.toList.filter fun x => !(seen.push e.born).contains x.born := by
        rw [List.filter_filter]
        refine List.filter_congr fun x _ => ?_
        rw [Bool.eq_iff_iff]
        simp only [Bool.and_eq_true, decide_eq_true_eq, Bool.not_eq_true', ← Bool.not_eq_true, Array.contains_iff_mem, Array.mem_push, not_or]
        exact ⟨fun h => ⟨h.2, h.1⟩, fun h => ⟨h.2, h.1⟩⟩
      rw [e2] at hperm
      exact hperm.map kvE
    · have hm : e ∈ es.toList := by
        rw [hl] at he
        exact (List.mem_filter.1 he).1
      rw [hrun, key_of h2 e hm]
      rfl
    · have hb1 : (setBlock w1 r (.mapIter (some b) since (seen.push e.born) clock)).heap[b]? = some (.map es clock) := by
        have : w1.heap = w.heap := by rcases hw1 with rfl | rfl <;> rfl
        simp [setBlock, this, Array.getElem?_setIfInBounds_ne hrb, h1]
      have hr1 : (setBlock w1 r (.mapIter (some b) since (seen.push e.born) clock)).heap[r]? = some (.mapIter (some b) since (seen.push e.born) clock) := by
        have : w1.heap = w.heap := by rcases hw1 with rfl | rfl <;> rfl
        simp [setBlock, this, Array.getElem?_setIfInBounds, (Array.getElem?_eq_some_iff.1 h5).1]
      exact ⟨es, clock, since, seen.push e.born, clock, hb1, h2, h3, h4, hr1, h7, h7, rfl⟩
    · rcases hw1 with rfl | rfl
      · exact ⟨rfl, rfl, rfl, by simp [setBlock], fun q _ hq => Array.getElem?_setIfInBounds_ne (Ne.symm hq)⟩
      · exact ⟨rfl, rfl, rfl, by simp [setBlock], fun q _ hq => Array.getElem?_setIfInBounds_ne (Ne.symm hq)⟩
    · have hm : e ∈ es.toList := by
        rw [hl] at he
        exact (List.mem_filter.1 he).1
      have hb1 : (setBlock w1 r (.mapIter (some b) since (seen.push e.born) clock)).heap[b]? = some (.map es clock) := by
        have : w1.heap = w.heap := by rcases hw1 with rfl | rfl <;> rfl
        simp [setBlock, this, Array.getElem?_setIfInBounds_ne hrb, h1]
      have hr1 : (setBlock w1 r (.mapIter (some b) since (seen.push e.born) clock)).heap[r]? = some (.mapIter (some b) since (seen.push e.born) clock) := by
        have : w1.heap = w.heap := by rcases hw1 with rfl | rfl <;> rfl
        simp [setBlock, this, Array.getElem?_setIfInBounds, (Array.getElem?_eq_some_iff.1 h5).1]
      have := run_entry_at (P := P) (setBlock w1 r (.mapIter (some b) since (seen.push e.born) clock)) r b since seen es clock e hr1 hb1 hm h4
      rw [this, key_of h2 e hm]
      rfl
end
end Go.Proofs.Ytleiddajojgmmaa.VC
