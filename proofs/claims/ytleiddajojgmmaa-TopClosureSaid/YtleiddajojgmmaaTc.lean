/- Attacks between atoms, and what repairs they cannot change: an atom that nothing attacks can be answered first (Koutris, Wijsen). Of no program. No condition. -/
import Derived.Test.YtleiddajojgmmaaMv
import Derived.Test.YtleiddajojgmmaaVr
import Derived.MapKept
import Derived.Carry
import Derived.Maps.RangeRun
namespace Go.Proofs.Ytleiddajojgmmaa
set_option linter.unusedVariables false

def tV (ν : Nat → Int) (x : Int) : Int := if x < 0 then -x else ν x.toNat
def im (ν : Nat → Int) (a : Atm) : Atm := (a.1, a.2.map (tV ν))
section
variable (kl : Int → Nat)
/-- The key of an atom or of a fact. -/
def kF (a : Atm) : Atm := (a.1, a.2.take (kl a.1))
variable {kl}
variable (kl)
/-- What the key of F determines by the other atoms; what stands in D has a number already. -/
inductive Pl (atoms : List Atm) (D : Nat → Prop) (F : Atm) : Nat → Prop
  | base {x : Nat} : (x : Int) ∈ (kF kl F).2 → ¬ D x → Pl atoms D F x
  | step {G : Atm} {x : Nat} : G ∈ atoms → G.1 ≠ F.1 → (∀ y : Nat, (y : Int) ∈ (kF kl G).2 → ¬ D y → Pl atoms D F y) → (x : Int) ∈ G.2 → ¬ D x → Pl atoms D F x
/-- The variables that F reaches by those that its key does not determine. -/
inductive RV (atoms : List Atm) (D : Nat → Prop) (F : Atm) : Nat → Prop
  | base {x : Nat} : (x : Int) ∈ F.2 → ¬ D x → ¬ Pl kl atoms D F x → RV atoms D F x
  | step {G : Atm} {x y : Nat} : G ∈ atoms → (y : Int) ∈ G.2 → RV atoms D F y → (x : Int) ∈ G.2 → ¬ D x → ¬ Pl kl atoms D F x → RV atoms D F x
def Att (atoms : List Atm) (D : Nat → Prop) (F G : Atm) : Prop := G.1 ≠ F.1 ∧ ∃ x : Nat, (x : Int) ∈ G.2 ∧ RV kl atoms D F x
/-- A repair: of each block one fact. -/
structure Rp (db : List Atm) (r : Atm → Prop) : Prop where
  sub : ∀ a, r a → a ∈ db
  one : ∀ f ∈ db, ∃ g, r g ∧ kF kl g = kF kl f
  uniq : ∀ g g', r g → r g' → kF kl g = kF kl g' → g = g'
def Sat (r : Atm → Prop) (atoms : List Atm) (D : Nat → Prop) (m ν : Nat → Int) : Prop := (∀ x, D x → ν x = m x) ∧ ∀ a ∈ atoms, r (im ν a)
variable {kl} {atoms : List Atm} {D : Nat → Prop} {F G H : Atm} {db : List Atm} {r s : Atm → Prop} {m μ θ : Nat → Int} {A B F0 : Atm}
theorem RV.out {x : Nat} (h : RV kl atoms D F x) : ¬ D x ∧ ¬ Pl kl atoms D F x := by
  cases h with
  | base _ h1 h2 => exact ⟨h1, h2⟩
  | step _ _ _ _ h1 h2 => exact ⟨h1, h2⟩
/-! ## What all repairs share -/
theorem filter_lt {α : Type} {p q : α → Bool} : ∀ {l : List α}, (∀ x ∈ l, q x = true → p x = true) → (∃ a ∈ l, p a = true ∧ q a = false) → (l.filter q).length < (l.filter p).length
  | [], _, h => by obtain ⟨a, ha, _⟩ := h; cases ha
  | x :: l, hs, h => by
    have hle : ∀ l : List α, (∀ x ∈ l, q x = true → p x = true) → (l.filter q).length ≤ (l.filter p).length := fun l => by
      induction l with
      | nil => intro _; exact Nat.le_refl _
      | cons y l ih =>
        intro hs
        have := ih fun x hx => hs x (List.mem_cons_of_mem _ hx)
        have hy := hs y (List.mem_cons_self ..)
        rw [List.filter_cons, List.filter_cons]
        cases hq : q y with
        | true => rw [if_pos rfl, if_pos (hy hq), List.length_cons, List.length_cons]; omega
        | false =>
          rw [if_neg (by simp)]
          split
          · rw [List.length_cons]; omega
          · exact this
    obtain ⟨a, ha, hp, hq⟩ := h
    rw [List.filter_cons, List.filter_cons]
    rcases List.mem_cons.1 ha with rfl | ha
    · rw [hp, hq, if_pos rfl, if_neg (by simp), List.length_cons]
      have := hle l fun x hx => hs x (List.mem_cons_of_mem _ hx)
      omega
    · have ih := filter_lt (l := l) (fun x hx => hs x (List.mem_cons_of_mem _ hx)) ⟨a, ha, hp, hq⟩
      have hx := hs x (List.mem_cons_self ..)
      cases hqx : q x with
      | true => rw [if_pos rfl, if_pos (hx hqx), List.length_cons, List.length_cons]; omega
      | false =>
        rw [if_neg (by simp)]
        split
        · rw [List.length_cons]; omega
        · exact ih
open Classical in
open Classical in
def putB (kl : Int → Nat) (s : Atm → Prop) (g : Atm) : Atm → Prop := fun f => (s f ∧ kF kl f ≠ kF kl g) ∨ f = g
theorem Rp.put (hs : Rp kl db s) {g : Atm} (hg : g ∈ db) : Rp kl db (putB kl s g) := by
  refine ⟨fun a ha => ?_, fun f hf => ?_, fun a b ha hb e => ?_⟩
  · rcases ha with ha | rfl
    · exact hs.sub a ha.1
    · exact hg
  · by_cases e : kF kl f = kF kl g
    · exact ⟨g, .inr rfl, e.symm⟩
    · obtain ⟨b, h1, h2⟩ := hs.one f hf
      exact ⟨b, .inl ⟨h1, fun h => e (h2.symm.trans h)⟩, h2⟩
  · rcases ha with ha | rfl <;> rcases hb with hb | rfl
    · exact hs.uniq a b ha.1 hb.1 e
    · exact absurd e ha.2
    · exact absurd e.symm hb.2
    · rfl
/-- Certain: true in every repair. -/
def Cert (kl : Int → Nat) (db atoms : List Atm) (D : Nat → Prop) (m : Nat → Int) : Prop := ∀ r, Rp kl db r → ∃ θ, Sat r atoms D m θ
def varU (D : Nat → Prop) (F0 : Atm) : Nat → Prop := fun x => D x ∨ (x : Int) ∈ F0.2
/-! ## Fewer atoms, more numbers: no new attacks -/
theorem pl_sub {rest : List Atm} (hrest : ∀ a, a ∈ rest ↔ a ∈ atoms ∧ a ≠ F0) {x : Nat} (h : Pl kl atoms D F x) : varU D F0 x ∨ Pl kl rest (varU D F0) F x := by
  induction h with
  | @base x h1 h2 =>
    by_cases hx : varU D F0 x
    · exact .inl hx
    · exact .inr (.base h1 hx)
  | @step G x hG hne _ h1 h2 ih =>
    by_cases hx : varU D F0 x
    · exact .inl hx
    · by_cases e : G = F0
      · exact absurd (.inr (e ▸ h1)) hx
      · refine .inr (.step ((hrest G).2 ⟨hG, e⟩) hne (fun y hy hDy => ?_) h1 hx)
        rcases ih y hy fun h => hDy (.inl h) with h | h
        · exact absurd h hDy
        · exact h
theorem rv_sub {rest : List Atm} (hrest : ∀ a, a ∈ rest ↔ a ∈ atoms ∧ a ≠ F0) {x : Nat} (h : RV kl rest (varU D F0) F x) : RV kl atoms D F x := by
  have np : ∀ {x}, ¬ varU D F0 x → ¬ Pl kl rest (varU D F0) F x → ¬ Pl kl atoms D F x := fun h1 h2 h => (pl_sub hrest h).elim h1 h2
  induction h with
  | base h1 h2 h3 => exact .base h1 (fun h => h2 (.inl h)) (np h2 h3)
  | @step G x y hG hy _ hx h2 h3 ih => exact .step ((hrest G).1 hG).1 hy ih hx (fun h => h2 (.inl h)) (np h2 h3)
theorem att_sub {rest : List Atm} (hrest : ∀ a, a ∈ rest ↔ a ∈ atoms ∧ a ≠ F0) (h : Att kl rest (varU D F0) F G) : Att kl atoms D F G := by
  obtain ⟨h1, x, h2, h3⟩ := h
  exact ⟨h1, x, h2, rv_sub hrest h3⟩
/-- The attacks have no cycle. -/
def Acy (kl : Int → Nat) (atoms : List Atm) (D : Nat → Prop) : Prop := ∃ rk : Int → Nat, ∀ F ∈ atoms, ∀ G ∈ atoms, Att kl atoms D F G → rk F.1 < rk G.1
theorem Acy.sub {rest : List Atm} (hrest : ∀ a, a ∈ rest ↔ a ∈ atoms ∧ a ≠ F0) (h : Acy kl atoms D) : Acy kl rest (varU D F0) := by
  obtain ⟨rk, h⟩ := h
  exact ⟨rk, fun F hF G hG ha => h F ((hrest F).1 hF).1 G ((hrest G).1 hG).1 (att_sub hrest ha)⟩
theorem least_of {α : Type} (f : α → Nat) : ∀ {l : List α}, l ≠ [] → ∃ a ∈ l, ∀ b ∈ l, f a ≤ f b
  | [], h => absurd rfl h
  | [a], _ => ⟨a, List.mem_cons_self .., fun b hb => by rw [List.mem_singleton.1 hb]; exact Nat.le_refl _⟩
  | a :: b :: l, _ => by
    obtain ⟨c, hc, hm⟩ := least_of f (l := b :: l) (by simp)
    by_cases h : f a ≤ f c
    · refine ⟨a, List.mem_cons_self .., fun x hx => ?_⟩
      rcases List.mem_cons.1 hx with rfl | hx
      · exact Nat.le_refl _
      · exact Nat.le_trans h (hm x hx)
    · refine ⟨c, List.mem_cons_of_mem _ hc, fun x hx => ?_⟩
      rcases List.mem_cons.1 hx with rfl | hx
      · omega
      · exact hm x hx
theorem Acy.free (h : Acy kl atoms D) (hne : atoms ≠ []) : ∃ F0 ∈ atoms, ∀ F ∈ atoms, ¬ Att kl atoms D F F0 := by
  obtain ⟨rk, h⟩ := h
  obtain ⟨F0, hF0, hm⟩ := least_of (fun a : Atm => rk a.1) hne
  exact ⟨F0, hF0, fun F hF ha => by have := h F hF F0 hF0 ha; have := hm F hF; omega⟩
/-! ## Three atoms -/
open Classical in
end
end Go.Proofs.Ytleiddajojgmmaa

/- Rounds that end at a fixed point; sets as numbers: closures, what is reached, attacks. Of no program. No condition. -/
namespace Go.Proofs.Ytleiddajojgmmaa
open VC
set_option linter.unusedVariables false

/-! ## Rounds -/
def iterF {σ : Type} (f : σ → σ) : Nat → σ → σ
  | 0, s => s
  | k + 1, s => f (iterF f k s)
def roundF {σ ι : Type} (step : ι → σ → σ) (l : List ι) (s : σ) : σ := l.foldl (fun s i => step i s) s
section
variable {σ ι : Type} {step : ι → σ → σ} {μ : σ → Nat} {P : σ → Prop}
theorem roundF_fix {s : σ} : ∀ {l : List ι}, (∀ i ∈ l, step i s = s) → roundF step l s = s
  | [], _ => rfl
  | i :: r, h => by
    show roundF step r (step i s) = s
    rw [h i (List.mem_cons_self ..)]
    exact roundF_fix fun j hj => h j (List.mem_cons_of_mem _ hj)
theorem roundF_P : ∀ {l : List ι} {s : σ}, (∀ i ∈ l, ∀ s, P s → P (step i s)) → P s → P (roundF step l s)
  | [], _, _, h => h
  | i :: r, s, hP, h => roundF_P (l := r) (fun j hj => hP j (List.mem_cons_of_mem _ hj)) (hP i (List.mem_cons_self ..) s h)
theorem round_prog : ∀ {l : List ι} {s : σ}, (∀ i ∈ l, ∀ s, P s → P (step i s)) → (∀ i ∈ l, ∀ s, P s → step i s = s ∨ μ s < μ (step i s)) → P s → (∀ i ∈ l, step i s = s) ∨ μ s < μ (roundF step l s)
  | [], _, _, _, _ => .inl fun i hi => by cases hi
  | i :: r, s, hP, hg, h => by
    have ih := round_prog (l := r) (s := step i s) (fun j hj => hP j (List.mem_cons_of_mem _ hj)) (fun j hj => hg j (List.mem_cons_of_mem _ hj)) (hP i (List.mem_cons_self ..) s h)
    rcases hg i (List.mem_cons_self ..) s h with e | hlt
    · rw [e] at ih
      rcases ih with ih | ih
      · refine .inl fun j hj => ?_
        rcases List.mem_cons.1 hj with rfl | hj
        · exact e
        · exact ih j hj
      · refine .inr ?_
        show μ s < μ (roundF step r (step i s))
        rw [e]
        exact ih
    · refine .inr ?_
      show μ s < μ (roundF step r (step i s))
      rcases ih with ih | ih
      · rw [roundF_fix ih]
        exact hlt
      · omega
theorem iterF_P {l : List ι} {s : σ} (hP : ∀ i ∈ l, ∀ s, P s → P (step i s)) (h : P s) : ∀ k, P (iterF (roundF step l) k s)
  | 0 => h
  | k + 1 => roundF_P hP (iterF_P hP h k)
theorem rounds_fix {l : List ι} {s : σ} (hP : ∀ i ∈ l, ∀ s, P s → P (step i s)) (hg : ∀ i ∈ l, ∀ s, P s → step i s = s ∨ μ s < μ (step i s)) (h : P s) : ∀ k, (∀ i ∈ l, step i (iterF (roundF step l) k s) = iterF (roundF step l) k s) ∨ μ s + k ≤ μ (iterF (roundF step l) k s)
  | 0 => .inr (Nat.le_refl _)
  | k + 1 => by
    have hx := iterF_P hP h k
    rcases round_prog hP hg hx with e | hlt
    · refine .inl ?_
      show ∀ i ∈ l, step i (roundF step l (iterF (roundF step l) k s)) = roundF step l (iterF (roundF step l) k s)
      rw [roundF_fix e]
      exact e
    · rcases rounds_fix hP hg h k with e | ih
      · refine .inl ?_
        show ∀ i ∈ l, step i (roundF step l (iterF (roundF step l) k s)) = roundF step l (iterF (roundF step l) k s)
        rw [roundF_fix e]
        exact e
      · refine .inr ?_
        show μ s + (k + 1) ≤ μ (roundF step l (iterF (roundF step l) k s))
        omega
end
/-! ## Sets as numbers -/
def bs (a b : Nat) : Prop := ∀ x, a.testBit x = true → b.testBit x = true
theorem bs_refl (a : Nat) : bs a a := fun _ h => h
theorem bs.trans {a b c : Nat} (h : bs a b) (k : bs b c) : bs a c := fun x hx => k x (h x hx)
theorem bs_antisymm {a b : Nat} (h : bs a b) (k : bs b a) : a = b := Nat.eq_of_testBit_eq fun x => by
  rw [Bool.eq_iff_iff]
  exact ⟨h x, k x⟩
theorem bs_or {a b c : Nat} : bs (a ||| b) c ↔ bs a c ∧ bs b c := by
  unfold bs
  simp only [Nat.testBit_or, Bool.or_eq_true]
  exact ⟨fun h => ⟨fun x hx => h x (.inl hx), fun x hx => h x (.inr hx)⟩, fun h x hx => hx.elim (h.1 x) (h.2 x)⟩
theorem bs_left (a b : Nat) : bs a (a ||| b) := (bs_or.1 (bs_refl _)).1
theorem bs_right (a b : Nat) : bs b (a ||| b) := (bs_or.1 (bs_refl _)).2
theorem or_self_of {a b : Nat} (h : bs b a) : a ||| b = a := bs_antisymm (bs_or.2 ⟨bs_refl _, h⟩) (bs_left _ _)
theorem nSub_zero {a b : Nat} : nSub a b = 0 ↔ bs a b := by
  constructor
  · intro h x hx
    have := nSub_bit a b x
    rw [h, Nat.zero_testBit, hx] at this
    simpa using this.symm
  · intro h
    refine Nat.eq_of_testBit_eq fun x => ?_
    rw [nSub_bit, Nat.zero_testBit]
    cases hx : a.testBit x with
    | false => rfl
    | true => rw [h x hx]; rfl
theorem and_ne_zero {a b : Nat} : a &&& b ≠ 0 ↔ ∃ x, a.testBit x = true ∧ b.testBit x = true := by
  constructor
  · intro h
    refine Classical.byContradiction fun hno => h (Nat.eq_of_testBit_eq fun x => ?_)
    rw [Nat.testBit_and, Nat.zero_testBit, ← Bool.not_eq_true, Bool.and_eq_true]
    exact fun h2 => hno ⟨x, h2⟩
  · rintro ⟨x, h1, h2⟩ h
    have := Nat.testBit_and a b x
    rw [h, Nat.zero_testBit, h1, h2] at this
    cases this
theorem bit_or_pow {r g i : Nat} : (r ||| 2 ^ g).testBit i = true ↔ r.testBit i = true ∨ i = g := by
  rw [Nat.testBit_or, Bool.or_eq_true, Nat.testBit_two_pow, decide_eq_true_eq]
  exact or_congr_right ⟨Eq.symm, Eq.symm⟩
/-! ## Closures -/
structure IsCl (l : List (Nat × Nat)) (s r : Nat) : Prop where
  sub : bs s r
  cl : ∀ d ∈ l, bs d.1 r → bs d.2 r
  min : ∀ t, bs s t → (∀ d ∈ l, bs d.1 t → bs d.2 t) → bs r t
theorem IsCl.uniq {l : List (Nat × Nat)} {s r r' : Nat} (h : IsCl l s r) (h' : IsCl l s r') : r = r' := bs_antisymm (h.min _ h'.sub h'.cl) (h'.min _ h.sub h.cl)
def stepC (d : Nat × Nat) (s : Nat) : Nat := if nSub d.1 s = 0 then s ||| d.2 else s
theorem stepC_sub (d : Nat × Nat) (s : Nat) : bs s (stepC d s) := by
  unfold stepC
  split
  · exact bs_left _ _
  · exact bs_refl _
def clF (l : List (Nat × Nat)) (s : Nat) : Nat := iterF (roundF stepC l) l.length s
open Classical in
theorem clF_is (l : List (Nat × Nat)) (s : Nat) : IsCl l s (clF l s) := by
  have sub : bs s (clF l s) := iterF_P (P := fun r => bs s r) (fun d _ r h => h.trans (stepC_sub d r)) (bs_refl _) _
  have min : ∀ t, bs s t → (∀ d ∈ l, bs d.1 t → bs d.2 t) → bs (clF l s) t := fun t h1 h2 => iterF_P (P := fun r => bs r t) (fun d hd r h => by
    unfold stepC
    split
    · rename_i h0
      exact bs_or.2 ⟨h, h2 d hd ((nSub_zero.1 h0).trans h)⟩
    · exact h) h1 _
  refine ⟨sub, fun d hd hb => ?_, min⟩
  have fixed : (∀ d ∈ l, stepC d (clF l s) = clF l s) → bs d.2 (clF l s) := fun h => by
    have := h d hd
    unfold stepC at this
    rw [if_pos (nSub_zero.2 hb)] at this
    have h2 := bs_right (clF l s) d.2
    rwa [this] at h2
  have hprog : ∀ d ∈ l, ∀ r : Nat, True → stepC d r = r ∨ (l.filter fun d => decide (bs d.2 r)).length < (l.filter fun d' => decide (bs d'.2 (stepC d r))).length := fun d hd r _ => by
    by_cases hs : stepC d r = r
    · exact .inl hs
    · refine .inr (filter_lt (fun d' hd' h => decide_eq_true ((of_decide_eq_true h : bs d'.2 r).trans (stepC_sub d r))) ⟨d, hd, ?_, decide_eq_false fun h => hs ?_⟩)
      · refine decide_eq_true ?_
        unfold stepC
        split
        · exact bs_right _ _
        · rename_i h0
          exact absurd (if_neg h0) hs
      · unfold stepC
        split
        · exact or_self_of h
        · rfl
  rcases rounds_fix (P := fun _ => True) (μ := fun r => (l.filter fun d => decide (bs d.2 r)).length) (step := stepC) (l := l) (s := s) (fun _ _ _ _ => trivial) hprog trivial l.length with h | h
  · exact fixed h
  · have hle := List.length_filter_le (fun d : Nat × Nat => decide (bs d.2 (iterF (roundF stepC l) l.length s))) l
    have heq : (l.filter fun d => decide (bs d.2 (iterF (roundF stepC l) l.length s))).length = l.length := by omega
    have hall := List.filter_eq_self.1 (List.Sublist.eq_of_length (List.filter_sublist ..) heq) d hd
    exact of_decide_eq_true hall
/-! ## What is reached -/
inductive RB (U : Nat → Nat) (n f : Nat) : Nat → Prop
  | base {x : Nat} : (U f).testBit x = true → RB U n f x
  | step {g x y : Nat} : g < n → (U g).testBit y = true → RB U n f y → (U g).testBit x = true → RB U n f x
def Hit (U : Nat → Nat) (n f g : Nat) : Prop := g = f ∨ g < n ∧ ∃ x, (U g).testBit x = true ∧ RB U n f x
/-- The program's way. -/
def stepR (U : Nat → Nat) (g : Nat) (p : Nat × Nat) : Nat × Nat := if U g &&& p.2 ≠ 0 then (p.1 ||| 2 ^ g, p.2 ||| U g) else p
structure RI (U : Nat → Nat) (n f : Nat) (p : Nat × Nat) : Prop where
  s1 : ∀ x, p.2.testBit x = true → RB U n f x
  r1 : ∀ g, p.1.testBit g = true → Hit U n f g
  rs : ∀ g, p.1.testBit g = true → bs (U g) p.2
  f1 : p.1.testBit f = true
theorem RI.step {U : Nat → Nat} {n f g : Nat} {p : Nat × Nat} (hg : g < n) (h : RI U n f p) : RI U n f (stepR U g p) := by
  unfold stepR
  split
  · rename_i h0
    obtain ⟨y, hy, hs⟩ := and_ne_zero.1 h0
    have hRy := h.s1 y hs
    refine ⟨fun x hx => ?_, fun i hi => ?_, fun i hi => ?_, bit_or_pow.2 (.inl h.f1)⟩
    · rw [Nat.testBit_or, Bool.or_eq_true] at hx
      rcases hx with hx | hx
      · exact h.s1 x hx
      · exact .step hg hy hRy hx
    · rcases bit_or_pow.1 hi with hi | rfl
      · exact h.r1 i hi
      · exact .inr ⟨hg, y, hy, hRy⟩
    · rcases bit_or_pow.1 hi with hi | rfl
      · exact (h.rs i hi).trans (bs_left _ _)
      · exact bs_right _ _
  · exact h
def reachN (U : Nat → Nat) (n f : Nat) : Nat := (iterF (roundF (stepR U) (List.range n)) n (2 ^ f, U f)).1
/-! ## Attacks, on sets of variables -/
def depsB (V K : List Nat) (f : Nat) : List (Nat × Nat) := ((List.range V.length).filter fun i => decide (i ≠ f)).map fun i => (K.getD i 0, V.getD i 0)
def plusN (V K : List Nat) (f : Nat) : Nat := clF (depsB V K f) (K.getD f 0)
def UN (V K : List Nat) (f i : Nat) : Nat := nSub (V.getD i 0) (plusN V K f)
/-- f attacks g. -/
def attN (V K : List Nat) (f g : Nat) : Bool := decide (g ≠ f) && (reachN (UN V K f) V.length f).testBit g
section
variable {kl : Int → Nat} {atoms : List Atm} {D : Nat → Prop} {V K : List Nat}
end
end Go.Proofs.Ytleiddajojgmmaa

/- Blocks and repairs as sets of places, and as sets of facts. Of no program. No condition. -/
namespace Go.Proofs.Ytleiddajojgmmaa
open VC
set_option linter.unusedVariables false

section
variable (kl : Int → Nat) (L : List Atm)
variable {kl L}
variable (kl L)
variable {kl L}
open Classical in
theorem Rp.congr {db : List Atm} {r r' : Atm → Prop} (h : Rp kl db r) (e : ∀ a, r a ↔ r' a) : Rp kl db r' := by
  have : r = r' := funext fun a => propext (e a)
  exact this ▸ h
/-! ## Strictly rising lists of numbers -/
/-! ## The program's way to all repairs -/
variable (kl L)
variable {kl L}
end
end Go.Proofs.Ytleiddajojgmmaa

/- Valid books: a schema, and facts without doubles. Of no program. No condition. -/
namespace Go.Proofs.Ytleiddajojgmmaa
open VC
set_option linter.unusedSimpArgs false
set_option linter.unusedVariables false

/-! ## Valid books -/
def okS (s : List Int) : Bool := decide (s.length = 6) && s.all fun x => decide (0 ≤ x) && decide (x ≤ 3)
end Go.Proofs.Ytleiddajojgmmaa

/- Maps whose keys are ints: what they hold, as a list of pairs in the order of their making. No condition. -/
namespace Go.Proofs.Ytleiddajojgmmaa.VC
open Go Go.RowKit
set_option linter.unusedSimpArgs false
set_option linter.unusedVariables false

def idxK : List (Int × Value) → Int → Nat → Option (Nat × Value)
  | [], _, _ => none
  | (a, v) :: r, k, i => if k = a then some (i, v) else idxK r k (i + 1)
def getM (kv : List (Int × Value)) (k : Int) : Option Value := (idxK kv k 0).map (·.2)
def updM : List (Int × Value) → Int → Value → List (Int × Value)
  | [], k, v => [(k, v)]
  | (a, u) :: r, k, v => if k = a then (a, v) :: r else (a, u) :: updM r k v
theorem idxK_shift : ∀ (kv : List (Int × Value)) (k : Int) (i j : Nat), idxK kv k (i + j) = (idxK kv k i).map fun p => (p.1 + j, p.2)
  | [], _, _, _ => rfl
  | (a, v) :: r, k, i, j => by
    unfold idxK
    split
    · rfl
    · rw [show i + j + 1 = i + 1 + j by omega]; exact idxK_shift r k (i + 1) j
theorem getM_cons (a : Int) (v : Value) (r : List (Int × Value)) (k : Int) : getM ((a, v) :: r) k = if k = a then some v else getM r k := by
  unfold getM
  conv => lhs; unfold idxK
  split
  · rfl
  · rw [idxK_shift r k 0 1]; cases idxK r k 0 <;> rfl
theorem getM_upd : ∀ (kv : List (Int × Value)) (k j : Int) (v : Value), getM (updM kv k v) j = if j = k then some v else getM kv j
  | [], k, j, v => by unfold updM; rw [getM_cons]
  | (a, u) :: r, k, j, v => by
    unfold updM
    by_cases h : k = a
    · subst h
      rw [if_pos rfl, getM_cons, getM_cons]
      by_cases h2 : j = k <;> simp [h2]
    · rw [if_neg h, getM_cons, getM_cons, getM_upd r k j v]
      by_cases h2 : j = a
      · have : ¬ j = k := fun e => h (e.symm.trans h2)
        simp [h2, this]
        intro e; exact absurd e.symm h
      · simp [h2]
theorem getM_none : ∀ (kv : List (Int × Value)) (k : Int), getM kv k = none → updM kv k = fun v => kv ++ [(k, v)]
  | [], k, _ => rfl
  | (a, u) :: r, k, h => by
    rw [getM_cons] at h
    split at h
    · cases h
    · rename_i hne
      funext v
      unfold updM
      rw [if_neg hne, getM_none r k h]
      rfl
theorem idxK_none {kv : List (Int × Value)} {k : Int} (h : getM kv k = none) : idxK kv k 0 = none := by
  unfold getM at h
  simpa using h
/-- What a map holds. -/
structure MapI (w : World) (b : Nat) (kv : List (Int × Value)) : Prop where
  ex : ∃ es clock, w.heap[b]? = some (.map es clock) ∧ es.toList.map (fun e => (e.key, e.val)) = kv.map fun p => (Value.int .i64 p.1, p.2)
theorem MapI.lt {w : World} {b : Nat} {kv : List (Int × Value)} (h : MapI w b kv) : b < w.heap.size := by
  obtain ⟨es, c, h1, _⟩ := h.ex
  exact (Array.getElem?_eq_some_iff.1 h1).1
theorem MapI.fr {S : Nat → Prop} {w w' : World} {b : Nat} {kv : List (Int × Value)} (h : MapI w b kv) (hf : Fr S w w') (hs : ¬ S b) : MapI w' b kv := by
  have hlt := h.lt
  obtain ⟨es, c, h1, h2⟩ := h.ex
  exact ⟨es, c, (hf.block b hlt hs).trans h1, h2⟩
theorem MapI.grow {w w' : World} {b : Nat} {kv : List (Int × Value)} (h : MapI w b kv) (hf : Grow w w') : MapI w' b kv := h.fr (Fr.of_grow (S := fun _ => False) hf) id
theorem MapI.make {P : Program} (t : TypeId) (w : World) {K : Value → World → Prop} (hk : ∀ w', w' = w.alloc (.map #[] 0) → MapI w' w.heap.size [] → Grow w w' → w'.heap.size = w.heap.size + 1 → K (.map (some w.heap.size)) w') :
    ∃ v : Value, ∃ w' : World, (Instr.makeMap t none).run P w = .ok v w' ∧ K v w' := by
  refine ⟨_, _, run_makeMap t w, hk _ rfl ⟨#[], 0, heap_alloc_new w _, rfl⟩ ((Grow.refl w).alloc _) (by simp)⟩
theorem findNow_kv {k : Int} : ∀ (l : List MapEntry) (kv : List (Int × Value)) (i : Nat), l.map (fun e => (e.key, e.val)) = kv.map (fun p => (Value.int .i64 p.1, p.2)) → Instr.findNow (.int .i64) (.int .i64 k) l i = some (idxK kv k i)
  | [], kv, i, h => by
    have : kv = [] := by simpa using h.symm
    subst this; rfl
  | e :: l, [], i, h => by simp at h
  | e :: l, (a, v) :: r, i, h => by
    simp only [List.map_cons, List.cons.injEq, Prod.mk.injEq] at h
    obtain ⟨⟨h1, h2⟩, h3⟩ := h
    unfold Instr.findNow idxK
    rw [h1]
    simp only [Instr.sameNow, if_true]
    by_cases e1 : k = a
    · subst e1; simp [h2]
    · have : (k == a) = false := by simpa using e1
      simp only [this, if_neg e1]
      exact findNow_kv l r (i + 1) h3
theorem MapI.len {P : Program} {t kt et ty : TypeId} (ht : P.underlying t = some (.map kt et)) {w : World} {b : Nat} {kv : List (Int × Value)} (h : MapI w b kv) : (Builtin.len_ #[t] ty #[.map (some b)]).run P w = .ok (.int .i64 (kv.length : Int)) w := by
  obtain ⟨es, c, h1, h2⟩ := h.ex
  have : es.size = kv.length := by have := congrArg List.length h2; simpa using this
  simp [Builtin.len_, underlying_run ht, MapKept.run_getObj_map h1, goInt, this]
theorem MapI.get {P : Program} {t kt et : TypeId} {i : TypeInfo} {z : Value} (ht : P.underlying t = some (.map kt et)) (hk : P.underlying kt = some (.int .i64)) (hi : P.info? et = some i) (hz : i.zero = some z) {w : World} {b : Nat} {kv : List (Int × Value)} (h : MapI w b kv) (k : Int) (ok : Bool) :
    (Instr.lookup t (.map (some b)) (.int .i64 k) ok).run P w = .ok (if ok then .tuple #[(getM kv k).getD z, .bool (getM kv k).isSome] else (getM kv k).getD z) w := by
  obtain ⟨es, c, h1, h2⟩ := h.ex
  have hf : Instr.findNow (.int .i64) (.int .i64 k) es.toList 0 = some (idxK kv k 0) := findNow_kv _ _ _ h2
  have hc : ∀ e, (Instr.checkKey e 10000 kt (.int .i64 k)).run P w = .ok () w := fun e => MapKept.run_checkKey (k := .int .i64 k) hk (by simp [MapKept.IsKey]) e 9999
  have hzr : (zeroValue et).run P w = .ok z w := by simp [zeroValue, typeInfo, hi, hz]
  simp only [Instr.lookup, Sem.run_bind, underlying_run ht, Result.andThen_ok, MapKept.run_getObj_map h1, Sem.run_pure, hc, MapKept.run_findKey hk hf]
  unfold getM
  cases hx : idxK kv k 0 with
  | none => simp [hzr]
  | some p => simp
theorem updM_push {es : Array MapEntry} {kv : List (Int × Value)} {k : Int} {v : Value} {c : Nat} (h : es.toList.map (fun e => (e.key, e.val)) = kv.map fun p => (Value.int .i64 p.1, p.2)) (hn : idxK kv k 0 = none) :
    (es.push { key := .int .i64 k, val := v, born := c }).toList.map (fun e => (e.key, e.val)) = (updM kv k v).map fun p => (Value.int .i64 p.1, p.2) := by
  have : getM kv k = none := by unfold getM; rw [hn]; rfl
  rw [getM_none kv k this]
  simp [h]
theorem updM_modify {k : Int} {v u : Value} : ∀ (l : List MapEntry) (kv : List (Int × Value)) (j : Nat), l.map (fun e => (e.key, e.val)) = kv.map (fun p => (Value.int .i64 p.1, p.2)) → idxK kv k 0 = some (j, u) →
    (l.modify j fun e => { e with key := .int .i64 k, val := v }).map (fun e => (e.key, e.val)) = (updM kv k v).map fun p => (Value.int .i64 p.1, p.2)
  | [], kv, j, h, hi => by
    have : kv = [] := by simpa using h.symm
    subst this; cases hi
  | e :: l, [], j, h, hi => by cases hi
  | e :: l, (a, u') :: r, j, h, hi => by
    have h0 := h
    simp only [List.map_cons, List.cons.injEq, Prod.mk.injEq] at h
    obtain ⟨⟨h1, h2⟩, h3⟩ := h
    unfold idxK at hi
    unfold updM
    split at hi
    · rename_i e1
      simp only [Option.some.injEq, Prod.mk.injEq] at hi
      obtain ⟨rfl, rfl⟩ := hi
      subst e1
      rw [if_pos rfl]
      simp [h3]
    · rename_i e1
      rw [if_neg e1]
      rw [idxK_shift r k 0 1] at hi
      cases hx : idxK r k 0 with
      | none => rw [hx] at hi; cases hi
      | some p =>
        rw [hx] at hi
        simp only [Option.map_some, Option.some.injEq, Prod.mk.injEq] at hi
        obtain ⟨rfl, rfl⟩ := hi
        have := updM_modify (v := v) l r p.1 h3 (by rw [hx])
        simp only [List.modify_succ_cons, List.map_cons]
        rw [this, h1, h2]
theorem idxK_at : ∀ (kv : List (Int × Value)) (k : Int) (j : Nat) (u : Value), idxK kv k 0 = some (j, u) → kv[j]? = some (k, u)
  | [], _, _, _, h => by cases h
  | (a, v) :: r, k, j, u, h => by
    unfold idxK at h
    split at h
    · rename_i e
      simp only [Option.some.injEq, Prod.mk.injEq] at h
      obtain ⟨rfl, rfl⟩ := h
      subst e; rfl
    · rw [idxK_shift r k 0 1] at h
      cases hx : idxK r k 0 with
      | none => rw [hx] at h; cases h
      | some p =>
        rw [hx] at h
        simp only [Option.map_some, Option.some.injEq, Prod.mk.injEq] at h
        obtain ⟨rfl, rfl⟩ := h
        have := idxK_at r k p.1 p.2 (by rw [hx])
        simpa using this
theorem MapI.set {P : Program} {t kt et : TypeId} (ht : P.underlying t = some (.map kt et)) (hk : P.underlying kt = some (.int .i64)) {w : World} {b : Nat} {kv : List (Int × Value)} (h : MapI w b kv) (k : Int) (v : Value) :
    ∃ w', (Instr.mapUpdate t (.map (some b)) (.int .i64 k) v).run P w = .ok () w' ∧ MapI w' b (updM kv k v) ∧ Fr (fun q => q = b) w w' := by
  have hlt := h.lt
  obtain ⟨es, c, h1, h2⟩ := h.ex
  have hf : Instr.findNow (.int .i64) (.int .i64 k) es.toList 0 = some (idxK kv k 0) := findNow_kv _ _ _ h2
  have hc : ∀ e, (Instr.checkKey e 10000 kt (.int .i64 k)).run P w = .ok () w := fun e => MapKept.run_checkKey (k := .int .i64 k) hk (by simp [MapKept.IsKey]) e 9999
  have fr : ∀ o, Fr (fun q => q = b) w { w with heap := w.heap.setIfInBounds b o } := fun o => ⟨rfl, rfl, rfl, by simp, fun q _ hq => Array.getElem?_setIfInBounds_ne fun e => hq e.symm⟩
  have at_ : ∀ o, (w.heap.setIfInBounds b o)[b]? = some o := fun o => by simp [Array.getElem?_setIfInBounds, hlt]
  cases hx : idxK kv k 0 with
  | none =>
    rw [hx] at hf
    refine ⟨_, ?_, ⟨_, _, at_ (.map (es.push { key := .int .i64 k, val := v, born := c }) (c + 1)), updM_push h2 hx⟩, fr _⟩
    simp [Instr.mapUpdate, underlying_run ht, MapKept.run_getObj_map h1, hc, MapKept.run_findKey hk hf, MapKept.run_setObj_map _ h1]
  | some p =>
    obtain ⟨j, u⟩ := p
    rw [hx] at hf
    have hj : ∃ e, es[j]? = some e ∧ e.key = .int .i64 k := by
      have h4 := idxK_at kv k j u hx
      have h5 : (es.toList.map (fun e => (e.key, e.val)))[j]? = some (.int .i64 k, u) := by rw [h2, List.getElem?_map, h4]; rfl
      rw [List.getElem?_map, Option.map_eq_some_iff] at h5
      obtain ⟨e, he, h6⟩ := h5
      simp only [Prod.mk.injEq] at h6
      exact ⟨e, by simpa using he, h6.1⟩
    obtain ⟨e, he, hke⟩ := hj
    refine ⟨_, ?_, ⟨_, _, at_ (.map (es.modify j fun e => { e with key := .int .i64 k, val := v }) c), ?_⟩, fr _⟩
    · have hs : Instr.sameBits 10000 (.int .i64 k) (.int .i64 k) = true := by simp [Instr.sameBits]
      simp [Instr.mapUpdate, underlying_run ht, MapKept.run_getObj_map h1, hc, MapKept.run_findKey hk hf, MapKept.run_setObj_map _ h1, Instr.keyThatStays, he, hke, hs]
    · rw [Array.toList_modify]
      exact updM_modify es.toList kv j h2 hx
def mapSize (w : World) (b : Nat) : Nat := match w.heap[b]? with | some (.map es _) => es.size | _ => 0
theorem MapI.size {w : World} {b : Nat} {kv : List (Int × Value)} (h : MapI w b kv) : mapSize w b = kv.length := by
  obtain ⟨es, c, h1, h2⟩ := h.ex
  unfold mapSize
  rw [h1]
  have := congrArg List.length h2
  simpa using this
end Go.Proofs.Ytleiddajojgmmaa.VC

/- Maps whose keys are ints, gone through by range. No condition. -/
namespace Go.Proofs.Ytleiddajojgmmaa.VC
open Go Go.RowKit
open Go.ChangeMaps (setBlock)
set_option linter.unusedSimpArgs false
set_option linter.unusedVariables false

/-- What a map holds, each entry with a stamp of its own. -/
structure MapSt (w : World) (b : Nat) (kv : List (Int × Value)) : Prop where
  ex : ∃ es clock, w.heap[b]? = some (.map es clock) ∧ es.toList.map (fun e => (e.key, e.val)) = kv.map (fun p => (Value.int .i64 p.1, p.2)) ∧ (∀ e ∈ es.toList, e.born < clock) ∧ (es.toList.map (·.born)).Nodup
section
variable {w w' : World} {b : Nat} {kv : List (Int × Value)}
theorem MapSt.toI (h : MapSt w b kv) : MapI w b kv := by
  obtain ⟨es, c, h1, h2, _⟩ := h.ex
  exact ⟨es, c, h1, h2⟩
theorem MapSt.lt (h : MapSt w b kv) : b < w.heap.size := h.toI.lt
theorem MapSt.fr {S : Nat → Prop} (h : MapSt w b kv) (hf : Fr S w w') (hs : ¬ S b) : MapSt w' b kv := by
  have hlt := h.lt
  obtain ⟨es, c, h1, h2⟩ := h.ex
  exact ⟨es, c, (hf.block b hlt hs).trans h1, h2⟩
theorem MapSt.grow (h : MapSt w b kv) (hf : Grow w w') : MapSt w' b kv := h.fr (Fr.of_grow (S := fun _ => False) hf) id
theorem MapSt.make {P : Program} (t : TypeId) (w : World) {K : Value → World → Prop} (hk : ∀ w', w' = w.alloc (.map #[] 0) → MapSt w' w.heap.size [] → Grow w w' → w'.heap.size = w.heap.size + 1 → K (.map (some w.heap.size)) w') :
    ∃ v : Value, ∃ w' : World, (Instr.makeMap t none).run P w = .ok v w' ∧ K v w' := by
  refine ⟨_, _, run_makeMap t w, hk _ rfl ⟨#[], 0, heap_alloc_new w _, rfl, fun e he => by simp at he, by simp⟩ ((Grow.refl w).alloc _) (by simp)⟩
theorem map_modify_born {f : MapEntry → MapEntry} (hf : ∀ e, (f e).born = e.born) : ∀ (l : List MapEntry) (j : Nat), (l.modify j f).map (·.born) = l.map (·.born)
  | [], j => by simp
  | e :: r, 0 => by simp [hf]
  | e :: r, j + 1 => by simp [map_modify_born hf r j]
theorem MapSt.set {P : Program} {t kt et : TypeId} (ht : P.underlying t = some (.map kt et)) (hk : P.underlying kt = some (.int .i64)) (h : MapSt w b kv) (k : Int) (v : Value) :
    ∃ w', (Instr.mapUpdate t (.map (some b)) (.int .i64 k) v).run P w = .ok () w' ∧ MapSt w' b (updM kv k v) ∧ Fr (fun q => q = b) w w' := by
  have hlt := h.lt
  obtain ⟨es, c, h1, h2, h3, h4⟩ := h.ex
  have hf : Instr.findNow (.int .i64) (.int .i64 k) es.toList 0 = some (idxK kv k 0) := findNow_kv _ _ _ h2
  have hc : ∀ e, (Instr.checkKey e 10000 kt (.int .i64 k)).run P w = .ok () w := fun e => MapKept.run_checkKey (k := .int .i64 k) hk (by simp [MapKept.IsKey]) e 9999
  have fr : ∀ o, Fr (fun q => q = b) w { w with heap := w.heap.setIfInBounds b o } := fun o => ⟨rfl, rfl, rfl, by simp, fun q _ hq => Array.getElem?_setIfInBounds_ne fun e => hq e.symm⟩
  have at_ : ∀ o, (w.heap.setIfInBounds b o)[b]? = some o := fun o => by simp [Array.getElem?_setIfInBounds, hlt]
  cases hx : idxK kv k 0 with
  | none =>
    rw [hx] at hf
    refine ⟨_, ?_, ⟨_, _, at_ (.map (es.push { key := .int .i64 k, val := v, born := c }) (c + 1)), updM_push h2 hx, ?_, ?_⟩, fr _⟩
    · simp [Instr.mapUpdate, underlying_run ht, MapKept.run_getObj_map h1, hc, MapKept.run_findKey hk hf, MapKept.run_setObj_map _ h1]
    · intro e he
      simp only [Array.toList_push, List.mem_append, List.mem_singleton] at he
      rcases he with he | rfl
      · have := h3 e he; omega
      · show c < c + 1
        omega
    · rw [Array.toList_push, List.map_append]
      refine List.nodup_append.2 ⟨h4, by simp, fun a ha b hb e => ?_⟩
      obtain ⟨x, hx, rfl⟩ := List.mem_map.1 ha
      have := h3 x hx
      simp at hb
      omega
  | some p =>
    obtain ⟨j, u⟩ := p
    rw [hx] at hf
    have hj : ∃ e, es[j]? = some e ∧ e.key = .int .i64 k := by
      have h4 := idxK_at kv k j u hx
      have h5 : (es.toList.map (fun e => (e.key, e.val)))[j]? = some (.int .i64 k, u) := by rw [h2, List.getElem?_map, h4]; rfl
      rw [List.getElem?_map, Option.map_eq_some_iff] at h5
      obtain ⟨e, he, h6⟩ := h5
      simp only [Prod.mk.injEq] at h6
      exact ⟨e, by simpa using he, h6.1⟩
    obtain ⟨e, he, hke⟩ := hj
    have hborn : ((es.modify j fun e => { e with key := .int .i64 k, val := v }).toList.map (·.born)) = es.toList.map (·.born) := by
      rw [Array.toList_modify]
      exact map_modify_born (f := fun e => { e with key := .int .i64 k, val := v }) (fun _ => rfl) _ _
    refine ⟨_, ?_, ⟨_, _, at_ (.map (es.modify j fun e => { e with key := .int .i64 k, val := v }) c), ?_, fun x hx' => ?_, by rw [hborn]; exact h4⟩, fr _⟩
    · have hs : Instr.sameBits 10000 (.int .i64 k) (.int .i64 k) = true := by simp [Instr.sameBits]
      simp [Instr.mapUpdate, underlying_run ht, MapKept.run_getObj_map h1, hc, MapKept.run_findKey hk hf, MapKept.run_setObj_map _ h1, Instr.keyThatStays, he, hke, hs]
    · rw [Array.toList_modify]
      exact updM_modify es.toList kv j h2 hx
    · have : x.born ∈ es.toList.map (·.born) := by rw [← hborn]; exact List.mem_map.2 ⟨x, hx', rfl⟩
      obtain ⟨y, hy, e⟩ := List.mem_map.1 this
      rw [← e]
      exact h3 y hy
/-! ## range -/
def kvE (e : MapEntry) : Int × Value := (match e.key with | .int _ k => k | _ => 0, e.val)
/-- A range under way: what is still to come, in any order. -/
structure ItS (w : World) (b r : Nat) (kv left : List (Int × Value)) : Prop where
  ex : ∃ es clock since seen c0, w.heap[b]? = some (.map es clock) ∧ es.toList.map (fun e => (e.key, e.val)) = kv.map (fun p => (Value.int .i64 p.1, p.2)) ∧ (∀ e ∈ es.toList, e.born < since) ∧ (es.toList.map (·.born)).Nodup ∧ w.heap[r]? = some (.mapIter (some b) since seen c0) ∧ since ≤ c0 ∧ since ≤ clock ∧ left = ((es.toList.filter fun e => !seen.contains e.born).map kvE)
theorem kv_of {es : List MapEntry} (h : es.map (fun e => (e.key, e.val)) = kv.map (fun p => (Value.int .i64 p.1, p.2))) : es.map kvE = kv := by
  have : (es.map (fun e => (e.key, e.val))).map (fun p => ((match p.1 with | .int _ k => k | _ => 0 : Int), p.2)) = kv := by
    rw [h, List.map_map]
    conv => rhs; rw [← List.map_id kv]
    rfl
  rw [List.map_map] at this
  exact this
theorem key_of {es : List MapEntry} (h : es.map (fun e => (e.key, e.val)) = kv.map (fun p => (Value.int .i64 p.1, p.2))) : ∀ e ∈ es, e.key = .int .i64 (kvE e).1 := by
  intro e he
  have : (e.key, e.val) ∈ kv.map (fun p => (Value.int .i64 p.1, p.2)) := h ▸ List.mem_map.2 ⟨e, he, rfl⟩
  obtain ⟨p, hp, e2⟩ := List.mem_map.1 this
  have e3 : e.key = Value.int .i64 p.1 := (congrArg Prod.fst e2).symm
  unfold kvE
  rw [e3]
theorem ItS.fr {r : Nat} {left : List (Int × Value)} {S : Nat → Prop} (h : ItS w b r kv left) (hf : Fr S w w') (hb : ¬ S b) (hr : ¬ S r) : ItS w' b r kv left := by
  obtain ⟨es, clock, since, seen, c0, h1, h2, h3, h4, h5, h6⟩ := h.ex
  exact ⟨es, clock, since, seen, c0, (hf.block b (Array.getElem?_eq_some_iff.1 h1).1 hb).trans h1, h2, h3, h4, (hf.block r (Array.getElem?_eq_some_iff.1 h5).1 hr).trans h5, h6⟩
theorem ItS.grow {r : Nat} {left : List (Int × Value)} (h : ItS w b r kv left) (hf : Grow w w') : ItS w' b r kv left := h.fr (Fr.of_grow (S := fun _ => False) hf) id id
theorem MapSt.range {P : Program} {t kt et : TypeId} (ht : P.underlying t = some (.map kt et)) (h : MapSt w b kv) {K : Value → World → Prop} (hk : ∀ w', ItS w' b w.heap.size kv kv → Grow w w' → w'.heap.size = w.heap.size + 1 → K (.pointer (some ⟨w.heap.size, 0, none⟩)) w') :
    ∃ v : Value, ∃ w' : World, (Instr.range t (.map (some b))).run P w = .ok v w' ∧ K v w' := by
  obtain ⟨es, c, h1, h2, h3, h4⟩ := h.ex
  have hg : Grow w (w.alloc (.mapIter (some b) c #[] c)) := (Grow.refl w).alloc _
  refine ⟨_, _, run_range_map w t kt et b es c ht h1, hk _ ⟨es, c, c, #[], c, ?_, h2, h3, h4, heap_alloc_new w _, Nat.le_refl _, Nat.le_refl _, ?_⟩ hg (by simp)⟩
  · exact (hg.block b (Array.getElem?_eq_some_iff.1 h1).1).trans h1
  · have e : es.toList.filter (fun e => !(#[] : Array Nat).contains e.born) = es.toList := List.filter_eq_self.2 fun x _ => by simp
    rw [e, kv_of h2]
theorem perm_out {α : Type} {β : Type} [DecidableEq β] (f : α → β) : ∀ {l : List α} {e : α}, (l.map f).Nodup → e ∈ l → l.Perm (e :: l.filter fun x => decide (f x ≠ f e))
  | a :: r, e, hn, he => by
    rw [List.map_cons, List.nodup_cons] at hn
    rcases List.mem_cons.1 he with rfl | he
    · have : (e :: r).filter (fun x => decide (f x ≠ f e)) = r := by
        rw [List.filter_cons, if_neg (by simp)]
        refine List.filter_eq_self.2 fun x hx => decide_eq_true fun h => hn.1 ?_
        rw [← h]
        exact List.mem_map.2 ⟨x, hx, rfl⟩
      rw [this]
    · have hne : f a ≠ f e := fun h => hn.1 (h ▸ List.mem_map.2 ⟨e, he, rfl⟩)
      rw [List.filter_cons, if_pos (by simpa using hne)]
      exact ((perm_out f hn.2 he).cons a).trans (List.Perm.swap _ _ _)
/-- The step: nothing is left, or one of what is left comes out. -/
theorem ItS.next {P : Program} {r : Nat} {left : List (Int × Value)} (h : ItS w b r kv left) (hrb : r ≠ b) (ty : TypeId) :
    (left = [] ∧ (Instr.next (.pointer (some ⟨r, 0, none⟩)) false ty).run P w = .ok (.tuple #[.bool false]) w) ∨
    ∃ p left' w', left.Perm (p :: left') ∧ (Instr.next (.pointer (some ⟨r, 0, none⟩)) false ty).run P w = .ok (.tuple #[.bool true, .int .i64 p.1, p.2]) w' ∧ ItS w' b r kv left' ∧ Fr (fun q => q = r) w w' ∧ (Instr.entry (.pointer (some ⟨r, 0, none⟩))).run P w' = .ok (.tuple #[.int .i64 p.1, p.2]) w' := by
  obtain ⟨es, clock, since, seen, c0, h1, h2, h3, h4, h5, h6, h7, rfl⟩ := h.ex
  have hl : (leftOf es seen).toList = es.toList.filter fun e => !seen.contains e.born := by
    unfold leftOf
    simp
  rcases run_next_at (P := P) w ty r b since c0 seen es clock h5 h1 h3 h6 with ⟨h0, hrun⟩ | ⟨e, he, w1, hw1, hrun⟩
  · refine .inl ⟨?_, hrun⟩
    rw [← hl]
    have : (leftOf es seen).toList = [] := by
      apply List.eq_nil_of_length_eq_zero
      simpa using h0
    rw [this]
    rfl
  · refine .inr ⟨kvE e, (es.toList.filter fun x => !(seen.push e.born).contains x.born).map kvE, setBlock w1 r (.mapIter (some b) since (seen.push e.born) clock), ?_, ?_, ?_, ?_, ?_⟩
    · rw [hl] at he
      have hperm := perm_out (·.born) (l := es.toList.filter fun e => !seen.contains e.born) (e := e) (h4.sublist (List.Sublist.map _ (List.filter_sublist ..))) he
      have e2 : (es.toList.filter fun e => !seen.contains e.born).filter (fun x => decide (x.born ≠ e.born)) = es.toList.filter fun x => !(seen.push e.born).contains x.born := by
        rw [List.filter_filter]
        refine List.filter_congr fun x _ => ?_
        rw [Bool.eq_iff_iff]
        simp only [Bool.and_eq_true, decide_eq_true_eq, Bool.not_eq_true', ← Bool.not_eq_true, Array.contains_iff_mem, Array.mem_push, not_or]
        exact ⟨fun h => ⟨h.2, h.1⟩, fun h => ⟨h.2, h.1⟩⟩
      rw [e2] at hperm
      exact hperm.map kvE
    · have hm : e ∈ es.toList := by
        rw [hl] at he
        exact (List.mem_filter.1 he).1
      rw [hrun, key_of h2 e hm]
      rfl
    · have hb1 : (setBlock w1 r (.mapIter (some b) since (seen.push e.born) clock)).heap[b]? = some (.map es clock) := by
        have : w1.heap = w.heap := by rcases hw1 with rfl | rfl <;> rfl
        simp [setBlock, this, Array.getElem?_setIfInBounds_ne hrb, h1]
      have hr1 : (setBlock w1 r (.mapIter (some b) since (seen.push e.born) clock)).heap[r]? = some (.mapIter (some b) since (seen.push e.born) clock) := by
        have : w1.heap = w.heap := by rcases hw1 with rfl | rfl <;> rfl
        simp [setBlock, this, Array.getElem?_setIfInBounds, (Array.getElem?_eq_some_iff.1 h5).1]
      exact ⟨es, clock, since, seen.push e.born, clock, hb1, h2, h3, h4, hr1, h7, h7, rfl⟩
    · rcases hw1 with rfl | rfl
      · exact ⟨rfl, rfl, rfl, by simp [setBlock], fun q _ hq => Array.getElem?_setIfInBounds_ne (Ne.symm hq)⟩
      · exact ⟨rfl, rfl, rfl, by simp [setBlock], fun q _ hq => Array.getElem?_setIfInBounds_ne (Ne.symm hq)⟩
    · have hm : e ∈ es.toList := by
        rw [hl] at he
        exact (List.mem_filter.1 he).1
      have hb1 : (setBlock w1 r (.mapIter (some b) since (seen.push e.born) clock)).heap[b]? = some (.map es clock) := by
        have : w1.heap = w.heap := by rcases hw1 with rfl | rfl <;> rfl
        simp [setBlock, this, Array.getElem?_setIfInBounds_ne hrb, h1]
      have hr1 : (setBlock w1 r (.mapIter (some b) since (seen.push e.born) clock)).heap[r]? = some (.mapIter (some b) since (seen.push e.born) clock) := by
        have : w1.heap = w.heap := by rcases hw1 with rfl | rfl <;> rfl
        simp [setBlock, this, Array.getElem?_setIfInBounds, (Array.getElem?_eq_some_iff.1 h5).1]
      have := run_entry_at (P := P) (setBlock w1 r (.mapIter (some b) since (seen.push e.born) clock)) r b since seen es clock e hr1 hb1 hm h4
      rw [this, key_of h2 e hm]
      rfl
end
end Go.Proofs.Ytleiddajojgmmaa.VC

/- Contracts: valid books, keys, blocks, by the program. No condition. -/
namespace Go.Proofs.Ytleiddajojgmmaa
open Go Go.RowKit VC
set_option linter.unusedSimpArgs false
set_option linter.unusedVariables false

/-! ## Valid -/
/-- The lengths that the map holds. -/
structure MapOf (kv : List (Int × Value)) (pre : List Atm) : Prop where
  has : ∀ f ∈ pre, getM kv f.1 = some (.int .i64 (f.2.length : Int))
  is : ∀ r, getM kv r ≠ none → ∃ f ∈ pre, f.1 = r
theorem MapOf.nil : MapOf [] [] := ⟨fun f hf => (by cases hf), fun r h => absurd rfl h⟩
end Go.Proofs.Ytleiddajojgmmaa

/- Questions answered atom by atom, with numbers for the variables that are known (0: none): what the rule says, and that it says whether a question is certain. Of no program. No condition. -/
namespace Go.Proofs.Ytleiddajojgmmaa
open VC
set_option linter.unusedSimpArgs false
set_option linter.unusedVariables false

/-! ## Numbers for variables -/
def mg (m : List Int) (x : Nat) : Int := m.getD x 0
section
variable {kl : Int → Nat} {atoms : List Atm} {m : List Int}
/-! ## The atom that is answered first -/
end
/-! ## An atom and a fact -/
/-! ## The rule -/
section
variable (kl : Int → Nat) (L : List Atm)
variable {kl} {L}
theorem Cert.congr {db atoms : List Atm} {D D' : Nat → Prop} {m m' : Nat → Int} (h : Cert kl db atoms D m) (hD : ∀ x, D' x → D x) (hD2 : ∀ x, D x → D' x) (hm : ∀ x, D x → m' x = m x) : Cert kl db atoms D' m' := fun r hr => by
  obtain ⟨θ, h1, h2⟩ := h r hr
  exact ⟨θ, fun x hx => (h1 x (hD x hx)).trans (hm x (hD x hx)).symm, h2⟩
theorem Acy.congr {atoms : List Atm} {D D' : Nat → Prop} (h : Acy kl atoms D) (hD : ∀ x, D' x ↔ D x) : Acy kl atoms D' := by
  have : D' = D := funext fun x => propext (hD x)
  rw [this]
  exact h
end
end Go.Proofs.Ytleiddajojgmmaa

/- Ears and elimination (Graham): what can be eliminated can be eliminated in every way. Of no program. No condition. -/
namespace Go.Proofs.Ytleiddajojgmmaa
set_option linter.unusedVariables false

section
variable (vs : Nat → Nat → Prop)
/-- i is an ear of S: what it shares with any other is in k. -/
def Ear (S : Nat → Prop) (i k : Nat) : Prop := S i ∧ S k ∧ i ≠ k ∧ ∀ j, S j → j ≠ i → ∀ x, vs i x → vs j x → vs k x
/-- S without i. -/
def Wo (S : Nat → Prop) (i : Nat) : Nat → Prop := fun j => S j ∧ j ≠ i
/-- n atoms can be eliminated down to one. -/
inductive Elim : (Nat → Prop) → Nat → Prop
  | one {S : Nat → Prop} {i : Nat} : (∀ j, S j ↔ j = i) → Elim S 1
  | step {S : Nat → Prop} {i k n : Nat} : Ear vs S i k → Elim (Wo S i) n → Elim S (n + 1)
variable {vs}
theorem Elim.congr {S S' : Nat → Prop} {n : Nat} (h : Elim vs S n) (e : ∀ j, S j ↔ S' j) : Elim vs S' n := by
  have : S = S' := funext fun j => propext (e j)
  exact this ▸ h
/-- Atoms may be renamed, if what any two share stays. -/
theorem Elim.map {f : Nat → Nat} {S : Nat → Prop} {n : Nat} (h : Elim vs S n) : (∀ a b, S a → S b → f a = f b → a = b) → (∀ a b, S a → S b → a ≠ b → ∀ x, (vs a x ∧ vs b x ↔ vs (f a) x ∧ vs (f b) x)) → ∀ {S' : Nat → Prop}, (∀ j', S' j' ↔ ∃ j, S j ∧ f j = j') → Elim vs S' n := by
  induction h with
  | @one S i hi =>
    intro _ _ S' hS'
    refine .one (i := f i) fun j' => ?_
    rw [hS']
    constructor
    · rintro ⟨j, hj, rfl⟩
      rw [(hi j).1 hj]
    · rintro rfl
      exact ⟨i, (hi i).2 rfl, rfl⟩
  | @step S i k n he hr ih =>
    intro hinj hsh S' hS'
    obtain ⟨h1, h2, h3, h4⟩ := he
    refine .step (i := f i) (k := f k) ⟨(hS' _).2 ⟨i, h1, rfl⟩, (hS' _).2 ⟨k, h2, rfl⟩, fun e => h3 (hinj _ _ h1 h2 e), fun j' hj' hne x hx hy => ?_⟩ ?_
    · obtain ⟨j, hj, rfl⟩ := (hS' _).1 hj'
      have hji : j ≠ i := fun e => hne (by rw [e])
      have h5 := (hsh i j h1 hj (Ne.symm hji) x).2 ⟨hx, hy⟩
      exact ((hsh i k h1 h2 h3 x).1 ⟨h5.1, h4 j hj hji x h5.1 h5.2⟩).2
    · refine ih (fun a b ha hb => hinj a b ha.1 hb.1) (fun a b ha hb => hsh a b ha.1 hb.1) fun j' => ?_
      unfold Wo
      rw [hS']
      constructor
      · rintro ⟨⟨j, hj, rfl⟩, hne⟩
        exact ⟨j, ⟨hj, fun e => hne (by rw [e])⟩, rfl⟩
      · rintro ⟨j, ⟨hj, hne⟩, rfl⟩
        exact ⟨⟨j, hj, rfl⟩, fun e => hne (hinj _ _ hj h1 e)⟩
/-- What can be eliminated has an ear. -/
theorem Elim.ear {n : Nat} {S : Nat → Prop} (h : Elim vs S (n + 2)) : ∃ i k, Ear vs S i k := by
  cases h with
  | step h1 h2 => exact ⟨_, _, h1⟩
end
end Go.Proofs.Ytleiddajojgmmaa

/- The deletion of ears with sets of variables as numbers: what it finds are ears. Of no program. No condition. -/
namespace Go.Proofs.Ytleiddajojgmmaa
set_option linter.unusedVariables false

/-- What the others that are left have. -/
def othG (left : Nat) (V : List Nat) (i : Nat) : List Nat → Nat := List.foldl (fun acc k => if k ≠ i ∧ left.testBit k = true then acc ||| V.getD k 0 else acc) 0
def othN (n left : Nat) (V : List Nat) (i : Nat) : Nat := othG left V i (List.range n)
theorem oth_go (left : Nat) (V : List Nat) (i x : Nat) : ∀ (l : List Nat) (acc : Nat), (l.foldl (fun acc k => if k ≠ i ∧ left.testBit k = true then acc ||| V.getD k 0 else acc) acc).testBit x = true ↔ acc.testBit x = true ∨ ∃ k ∈ l, k ≠ i ∧ left.testBit k = true ∧ (V.getD k 0).testBit x = true
  | [], acc => by simp
  | a :: r, acc => by
    rw [List.foldl_cons, oth_go left V i x r]
    by_cases h : a ≠ i ∧ left.testBit a = true
    · rw [if_pos h, Nat.testBit_or, Bool.or_eq_true]
      constructor
      · rintro ((h1 | h1) | ⟨k, h1, h2⟩)
        · exact .inl h1
        · exact .inr ⟨a, List.mem_cons_self .., h.1, h.2, h1⟩
        · exact .inr ⟨k, List.mem_cons_of_mem _ h1, h2⟩
      · rintro (h1 | ⟨k, h1, h2⟩)
        · exact .inl (.inl h1)
        · rcases List.mem_cons.1 h1 with rfl | h1
          · exact .inl (.inr h2.2.2)
          · exact .inr ⟨k, h1, h2⟩
    · rw [if_neg h]
      constructor
      · rintro (h1 | ⟨k, h1, h2⟩)
        · exact .inl h1
        · exact .inr ⟨k, List.mem_cons_of_mem _ h1, h2⟩
      · rintro (h1 | ⟨k, h1, h2⟩)
        · exact .inl h1
        · rcases List.mem_cons.1 h1 with rfl | h1
          · exact absurd ⟨h2.1, h2.2.1⟩ h
          · exact .inr ⟨k, h1, h2⟩
theorem oth_bit {n left : Nat} {V : List Nat} {i x : Nat} : (othN n left V i).testBit x = true ↔ ∃ k, k < n ∧ k ≠ i ∧ left.testBit k = true ∧ (V.getD k 0).testBit x = true := by
  unfold othN othG
  rw [oth_go]
  simp only [Nat.zero_testBit, Bool.false_eq_true, false_or, List.mem_range]
def cutN (n left : Nat) (V : List Nat) (i : Nat) : List Nat := V.set i (V.getD i 0 &&& othN n left V i)
def cutK (n left : Nat) (V : List Nat) (k : Nat) : List Nat := (List.range k).foldl (cutN n left) V
theorem cutK_succ (n left : Nat) (V : List Nat) (k : Nat) : cutK n left V (k + 1) = cutN n left (cutK n left V k) k := by
  unfold cutK
  rw [List.range_succ, List.foldl_append]
  rfl
/-- What is kept between the rounds. -/
structure EarI (vs : Nat → Nat → Prop) (n left : Nat) (V : List Nat) : Prop where
  len : V.length = n
  sub : ∀ i, i < n → left.testBit i = true → ∀ x, (V.getD i 0).testBit x = true → vs i x
  has : ∀ i k, i < n → k < n → i ≠ k → left.testBit i = true → left.testBit k = true → ∀ x, vs i x → vs k x → (V.getD i 0).testBit x = true
/-- Nothing but what is shared is kept of atom i. -/
def Tight (vs : Nat → Nat → Prop) (n left : Nat) (V : List Nat) (i : Nat) : Prop := ∀ x, (V.getD i 0).testBit x = true → ∃ k, k < n ∧ k ≠ i ∧ left.testBit k = true ∧ vs k x
section
variable {vs : Nat → Nat → Prop} {n left : Nat} {V : List Nat}
theorem getD_setN {l : List Nat} {k : Nat} (hk : k < l.length) (y i : Nat) : (l.set k y).getD i 0 = if i = k then y else l.getD i 0 := by
  simp only [List.getD, List.getElem?_set]
  by_cases h : k = i
  · subst h
    rw [if_pos rfl, if_pos rfl, if_pos hk]
    rfl
  · rw [if_neg h, if_neg (Ne.symm h)]
theorem cut_get (hl : V.length = n) {i : Nat} (hi : i < n) (k : Nat) : (cutN n left V i).getD k 0 = if k = i then V.getD i 0 &&& othN n left V i else V.getD k 0 := getD_setN (by omega) _ _
theorem EarI.cut (h : EarI vs n left V) {i : Nat} (hi : i < n) : EarI vs n left (cutN n left V i) := by
  refine ⟨by unfold cutN; rw [List.length_set]; exact h.len, fun j hj hlj x hx => ?_, fun j k hj hk hjk hlj hlk x hx hy => ?_⟩
  · rw [cut_get h.len hi] at hx
    split at hx
    · rename_i e
      subst e
      rw [Nat.testBit_and, Bool.and_eq_true] at hx
      exact h.sub j hj hlj x hx.1
    · exact h.sub j hj hlj x hx
  · rw [cut_get h.len hi]
    split
    · rename_i e
      subst e
      rw [Nat.testBit_and, Bool.and_eq_true]
      exact ⟨h.has j k hj hk hjk hlj hlk x hx hy, oth_bit.2 ⟨k, hk, Ne.symm hjk, hlk, h.has k j hk hj (Ne.symm hjk) hlk hlj x hy hx⟩⟩
    · exact h.has j k hj hk hjk hlj hlk x hx hy
theorem EarI.cutK (h : EarI vs n left V) : ∀ {k : Nat}, k ≤ n → EarI vs n left (cutK n left V k) ∧ ∀ i, i < k → Tight vs n left (cutK n left V k) i
  | 0, _ => ⟨h, fun i hi => by omega⟩
  | k + 1, hk => by
    obtain ⟨h1, h2⟩ := EarI.cutK h (k := k) (by omega)
    rw [cutK_succ]
    refine ⟨h1.cut (by omega), fun i hi x hx => ?_⟩
    rw [cut_get h1.len (by omega)] at hx
    split at hx
    · rename_i e
      subst e
      rw [Nat.testBit_and, Bool.and_eq_true] at hx
      obtain ⟨k, a1, a2, a3, a4⟩ := oth_bit.1 hx.2
      exact ⟨k, a1, a2, a3, h1.sub k a1 a3 x a4⟩
    · exact h2 i (by omega) x hx
end
/-! ## The pair that is taken: the last -/
def earT (left : Nat) (V : List Nat) (i k : Nat) : Bool := decide (k ≠ i) && left.testBit i && left.testBit k && decide (V.getD i 0 &&& V.getD k 0 = V.getD i 0)
theorem sub_bits {a b : Nat} : a &&& b = a ↔ ∀ x, a.testBit x = true → b.testBit x = true := by
  constructor
  · intro h x hx
    rw [← h, Nat.testBit_and, Bool.and_eq_true] at hx
    exact hx.2
  · intro h
    refine Nat.eq_of_testBit_eq fun x => ?_
    rw [Nat.testBit_and]
    cases hx : a.testBit x with
    | false => rfl
    | true => rw [h x hx]; rfl
def pickIn (left : Nat) (V : List Nat) (i m : Nat) (acc : Option (Nat × Nat)) : Option (Nat × Nat) := (List.range m).foldl (fun acc k => if earT left V i k = true then some (i, k) else acc) acc
def pickN (n left : Nat) (V : List Nat) (m : Nat) : Option (Nat × Nat) := (List.range m).foldl (fun acc i => pickIn left V i n acc) none
end Go.Proofs.Ytleiddajojgmmaa

/- The deletion of ears as a relation between its states; what is left is one atom exactly if all can be eliminated. Of no program. No condition. -/
namespace Go.Proofs.Ytleiddajojgmmaa
set_option linter.unusedVariables false

/-- A set of bits without one. -/
def clr (left i : Nat) : Nat := VC.nSub left (2 ^ i)
/-- From what is left, with the sets and the parents so far, to what is left at the end. -/
inductive EarsR (n : Nat) : Nat → List Nat → List Int → Nat → List Int → Prop
  | stop {left : Nat} {V : List Nat} {p : List Int} : pickN n left (cutK n left V n) n = none → EarsR n left V p left p
  | go {left : Nat} {V : List Nat} {p : List Int} {i k l2 : Nat} {p2 : List Int} : pickN n left (cutK n left V n) n = some (i, k) → EarsR n (clr left i) (cutK n left V n) (p.set i (k : Int)) l2 p2 → EarsR n left V p l2 p2
/-- The parents do not matter for what is left. -/
theorem EarsR.left {n left : Nat} {V : List Nat} {p : List Int} {l2 : Nat} {p2 : List Int} (h : EarsR n left V p l2 p2) : ∀ (q : List Int), ∃ q2, EarsR n left V q l2 q2 := by
  induction h with
  | stop h1 => exact fun q => ⟨q, .stop h1⟩
  | go h1 _ ih =>
    intro q
    obtain ⟨q2, h2⟩ := ih (q.set _ _)
    exact ⟨q2, .go h1 h2⟩
theorem clr_bit {left i j : Nat} : (clr left i).testBit j = true ↔ left.testBit j = true ∧ j ≠ i := by
  unfold clr
  rw [VC.nSub_bit, Nat.testBit_two_pow]
  simp only [Bool.and_eq_true, Bool.not_eq_true', decide_eq_false_iff_not]
  exact ⟨fun h => ⟨h.1, fun e => h.2 e.symm⟩, fun h => ⟨h.1, fun e => h.2 e.symm⟩⟩
end Go.Proofs.Ytleiddajojgmmaa
