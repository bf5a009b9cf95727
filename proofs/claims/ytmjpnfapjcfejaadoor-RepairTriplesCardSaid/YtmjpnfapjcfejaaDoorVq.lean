/- Attacks between atoms, and what repairs they cannot change: an atom that nothing attacks can be answered first (Koutris, Wijsen). Of no program. No condition. -/
import Derived.Test.YtmjpnfapjcfejaaDoorMr
import Derived.Test.YtmjpnfapjcfejaaDoorVr
import Derived.MapKept
import Derived.Carry
namespace Go.Proofs.YtmjpnfapjcfejaaDoor
set_option linter.unusedVariables false

def tV (ν : Nat → Int) (x : Int) : Int := if x < 0 then -x else ν x.toNat
def im (ν : Nat → Int) (a : Atm) : Atm := (a.1, a.2.map (tV ν))
theorem tV_nat (ν : Nat → Int) (y : Nat) : tV ν (y : Int) = ν y := by
  unfold tV
  rw [if_neg (by omega), Int.toNat_natCast]
section
variable (kl : Int → Nat)
/-- The key of an atom or of a fact. -/
def kF (a : Atm) : Atm := (a.1, a.2.take (kl a.1))
variable {kl}
theorem kF_rel {a b : Atm} (h : kF kl a = kF kl b) : a.1 = b.1 := (Prod.mk.inj h).1
theorem kF_sub {a : Atm} {y : Int} (h : y ∈ (kF kl a).2) : y ∈ a.2 := List.mem_of_mem_take h
variable (kl)
/-- What the key of F determines by the other atoms; what stands in D has a number already. -/
inductive Pl (atoms : List Atm) (D : Nat → Prop) (F : Atm) : Nat → Prop
  | base {x : Nat} : (x : Int) ∈ (kF kl F).2 → ¬ D x → Pl atoms D F x
  | step {G : Atm} {x : Nat} : G ∈ atoms → G.1 ≠ F.1 → (∀ y : Nat, (y : Int) ∈ (kF kl G).2 → ¬ D y → Pl atoms D F y) → (x : Int) ∈ G.2 → ¬ D x → Pl atoms D F x
/-- The variables that F reaches by those that its key does not determine. -/
inductive RV (atoms : List Atm) (D : Nat → Prop) (F : Atm) : Nat → Prop
  | base {x : Nat} : (x : Int) ∈ F.2 → ¬ D x → ¬ Pl kl atoms D F x → RV atoms D F x
  | step {G : Atm} {x y : Nat} : G ∈ atoms → (y : Int) ∈ G.2 → RV atoms D F y → (x : Int) ∈ G.2 → ¬ D x → ¬ Pl kl atoms D F x → RV atoms D F x
def Att (atoms : List Atm) (D : Nat → Prop) (F G : Atm) : Prop := G.1 ≠ F.1 ∧ ∃ x : Nat, (x : Int) ∈ G.2 ∧ RV kl atoms D F x
/-- No two atoms have the same relation. -/
def PlainA (atoms : List Atm) : Prop := ∀ a ∈ atoms, ∀ b ∈ atoms, a.1 = b.1 → a = b
/-- A repair: of each block one fact. -/
structure Rp (db : List Atm) (r : Atm → Prop) : Prop where
  sub : ∀ a, r a → a ∈ db
  one : ∀ f ∈ db, ∃ g, r g ∧ kF kl g = kF kl f
  uniq : ∀ g g', r g → r g' → kF kl g = kF kl g' → g = g'
def Sat (r : Atm → Prop) (atoms : List Atm) (D : Nat → Prop) (m ν : Nat → Int) : Prop := (∀ x, D x → ν x = m x) ∧ ∀ a ∈ atoms, r (im ν a)
variable {kl} {atoms : List Atm} {D : Nat → Prop} {F G H : Atm} {db : List Atm} {r s : Atm → Prop} {m μ θ : Nat → Int} {A B F0 : Atm}
theorem RV.out {x : Nat} (h : RV kl atoms D F x) : ¬ D x ∧ ¬ Pl kl atoms D F x := by
  cases h with
  | base _ h1 h2 => exact ⟨h1, h2⟩
  | step _ _ _ _ h1 h2 => exact ⟨h1, h2⟩
/-! ## What all repairs share -/
theorem filter_lt {α : Type} {p q : α → Bool} : ∀ {l : List α}, (∀ x ∈ l, q x = true → p x = true) → (∃ a ∈ l, p a = true ∧ q a = false) → (l.filter q).length < (l.filter p).length
  | [], _, h => by obtain ⟨a, ha, _⟩ := h; cases ha
  | x :: l, hs, h => by
    have hle : ∀ l : List α, (∀ x ∈ l, q x = true → p x = true) → (l.filter q).length ≤ (l.filter p).length := fun l => by
      induction l with
      | nil => intro _; exact Nat.le_refl _
      | cons y l ih =>
        intro hs
        have := ih fun x hx => hs x (List.mem_cons_of_mem _ hx)
        have hy := hs y (List.mem_cons_self ..)
        rw [List.filter_cons, List.filter_cons]
        cases hq : q y with
        | true => rw [if_pos rfl, if_pos (hy hq), List.length_cons, List.length_cons]; omega
        | false =>
          rw [if_neg (by simp)]
          split
          · rw [List.length_cons]; omega
          · exact this
    obtain ⟨a, ha, hp, hq⟩ := h
    rw [List.filter_cons, List.filter_cons]
    rcases List.mem_cons.1 ha with rfl | ha
    · rw [hp, hq, if_pos rfl, if_neg (by simp), List.length_cons]
      have := hle l fun x hx => hs x (List.mem_cons_of_mem _ hx)
      omega
    · have ih := filter_lt (l := l) (fun x hx => hs x (List.mem_cons_of_mem _ hx)) ⟨a, ha, hp, hq⟩
      have hx := hs x (List.mem_cons_self ..)
      cases hqx : q x with
      | true => rw [if_pos rfl, if_pos (hx hqx), List.length_cons, List.length_cons]; omega
      | false =>
        rw [if_neg (by simp)]
        split
        · rw [List.length_cons]; omega
        · exact ih
open Classical in
open Classical in
def putB (kl : Int → Nat) (s : Atm → Prop) (g : Atm) : Atm → Prop := fun f => (s f ∧ kF kl f ≠ kF kl g) ∨ f = g
theorem Rp.put (hs : Rp kl db s) {g : Atm} (hg : g ∈ db) : Rp kl db (putB kl s g) := by
  refine ⟨fun a ha => ?_, fun f hf => ?_, fun a b ha hb e => ?_⟩
  · rcases ha with ha | rfl
    · exact hs.sub a ha.1
    · exact hg
  · by_cases e : kF kl f = kF kl g
    · exact ⟨g, .inr rfl, e.symm⟩
    · obtain ⟨b, h1, h2⟩ := hs.one f hf
      exact ⟨b, .inl ⟨h1, fun h => e (h2.symm.trans h)⟩, h2⟩
  · rcases ha with ha | rfl <;> rcases hb with hb | rfl
    · exact hs.uniq a b ha.1 hb.1 e
    · exact absurd e ha.2
    · exact absurd e.symm hb.2
    · rfl
/-- Certain: true in every repair. -/
def Cert (kl : Int → Nat) (db atoms : List Atm) (D : Nat → Prop) (m : Nat → Int) : Prop := ∀ r, Rp kl db r → ∃ θ, Sat r atoms D m θ
def varU (D : Nat → Prop) (F0 : Atm) : Nat → Prop := fun x => D x ∨ (x : Int) ∈ F0.2
/-! ## Fewer atoms, more numbers: no new attacks -/
theorem pl_sub {rest : List Atm} (hrest : ∀ a, a ∈ rest ↔ a ∈ atoms ∧ a ≠ F0) {x : Nat} (h : Pl kl atoms D F x) : varU D F0 x ∨ Pl kl rest (varU D F0) F x := by
  induction h with
  | @base x h1 h2 =>
    by_cases hx : varU D F0 x
    · exact .inl hx
    · exact .inr (.base h1 hx)
  | @step G x hG hne _ h1 h2 ih =>
    by_cases hx : varU D F0 x
    · exact .inl hx
    · by_cases e : G = F0
      · exact absurd (.inr (e ▸ h1)) hx
      · refine .inr (.step ((hrest G).2 ⟨hG, e⟩) hne (fun y hy hDy => ?_) h1 hx)
        rcases ih y hy fun h => hDy (.inl h) with h | h
        · exact absurd h hDy
        · exact h
theorem rv_sub {rest : List Atm} (hrest : ∀ a, a ∈ rest ↔ a ∈ atoms ∧ a ≠ F0) {x : Nat} (h : RV kl rest (varU D F0) F x) : RV kl atoms D F x := by
  have np : ∀ {x}, ¬ varU D F0 x → ¬ Pl kl rest (varU D F0) F x → ¬ Pl kl atoms D F x := fun h1 h2 h => (pl_sub hrest h).elim h1 h2
  induction h with
  | base h1 h2 h3 => exact .base h1 (fun h => h2 (.inl h)) (np h2 h3)
  | @step G x y hG hy _ hx h2 h3 ih => exact .step ((hrest G).1 hG).1 hy ih hx (fun h => h2 (.inl h)) (np h2 h3)
theorem att_sub {rest : List Atm} (hrest : ∀ a, a ∈ rest ↔ a ∈ atoms ∧ a ≠ F0) (h : Att kl rest (varU D F0) F G) : Att kl atoms D F G := by
  obtain ⟨h1, x, h2, h3⟩ := h
  exact ⟨h1, x, h2, rv_sub hrest h3⟩
/-- The attacks have no cycle. -/
def Acy (kl : Int → Nat) (atoms : List Atm) (D : Nat → Prop) : Prop := ∃ rk : Int → Nat, ∀ F ∈ atoms, ∀ G ∈ atoms, Att kl atoms D F G → rk F.1 < rk G.1
theorem Acy.sub {rest : List Atm} (hrest : ∀ a, a ∈ rest ↔ a ∈ atoms ∧ a ≠ F0) (h : Acy kl atoms D) : Acy kl rest (varU D F0) := by
  obtain ⟨rk, h⟩ := h
  exact ⟨rk, fun F hF G hG ha => h F ((hrest F).1 hF).1 G ((hrest G).1 hG).1 (att_sub hrest ha)⟩
theorem least_of {α : Type} (f : α → Nat) : ∀ {l : List α}, l ≠ [] → ∃ a ∈ l, ∀ b ∈ l, f a ≤ f b
  | [], h => absurd rfl h
  | [a], _ => ⟨a, List.mem_cons_self .., fun b hb => by rw [List.mem_singleton.1 hb]; exact Nat.le_refl _⟩
  | a :: b :: l, _ => by
    obtain ⟨c, hc, hm⟩ := least_of f (l := b :: l) (by simp)
    by_cases h : f a ≤ f c
    · refine ⟨a, List.mem_cons_self .., fun x hx => ?_⟩
      rcases List.mem_cons.1 hx with rfl | hx
      · exact Nat.le_refl _
      · exact Nat.le_trans h (hm x hx)
    · refine ⟨c, List.mem_cons_of_mem _ hc, fun x hx => ?_⟩
      rcases List.mem_cons.1 hx with rfl | hx
      · omega
      · exact hm x hx
theorem Acy.free (h : Acy kl atoms D) (hne : atoms ≠ []) : ∃ F0 ∈ atoms, ∀ F ∈ atoms, ¬ Att kl atoms D F F0 := by
  obtain ⟨rk, h⟩ := h
  obtain ⟨F0, hF0, hm⟩ := least_of (fun a : Atm => rk a.1) hne
  exact ⟨F0, hF0, fun F hF ha => by have := h F hF F0 hF0 ha; have := hm F hF; omega⟩
/-! ## Three atoms -/
theorem pl_three {x : Nat} (hFx : RV kl atoms D F x) (hGx : (x : Int) ∈ G.2) (hG : G ∈ atoms) (hne : G.1 ≠ F.1) (hpl : PlainA atoms) {z : Nat} (h : Pl kl atoms D F z) : RV kl atoms D G z → ∃ y : Nat, (y : Int) ∈ F.2 ∧ RV kl atoms D G y := by
  induction h with
  | @base z h1 h2 => exact fun h => ⟨z, kF_sub h1, h⟩
  | @step H z hH hne2 hp h1 h2 ih =>
    intro hR
    by_cases e : H = G
    · subst e
      exact absurd (.step hH hne hp hGx hFx.out.1) hFx.out.2
    · have hrel : H.1 ≠ G.1 := fun h => e (hpl H hH G hG h)
      have hex : ∃ y : Nat, (y : Int) ∈ (kF kl H).2 ∧ ¬ D y ∧ ¬ Pl kl atoms D G y := Classical.byContradiction fun hno => hR.out.2 (.step hH hrel (fun y hy hDy => Classical.byContradiction fun hny => hno ⟨y, hy, hDy, hny⟩) h1 h2)
      obtain ⟨y, hy, hDy, hny⟩ := hex
      exact ih y hy hDy (.step hH h1 hR (kF_sub hy) hDy hny)
theorem att_three (hpl : PlainA atoms) (hG : G ∈ atoms) (h1 : Att kl atoms D F G) (h2 : Att kl atoms D G H) (hne : H.1 ≠ F.1) : Att kl atoms D F H ∨ Att kl atoms D G F := by
  obtain ⟨hGF, x, hx, hFx⟩ := h1
  obtain ⟨hHG, z, hz, hGz⟩ := h2
  have key : ∀ z, RV kl atoms D G z → RV kl atoms D F z ∨ ∃ y : Nat, (y : Int) ∈ F.2 ∧ RV kl atoms D G y := fun z hz => by
    induction hz with
    | @base z h1 h2 h3 =>
      by_cases hp : Pl kl atoms D F z
      · exact .inr (pl_three hFx hx hG hGF hpl hp (.base h1 h2 h3))
      · exact .inl (.step hG hx hFx h1 h2 hp)
    | @step K z y hK hy hRy hzK h2 h3 ih =>
      rcases ih with ih | ih
      · by_cases hp : Pl kl atoms D F z
        · exact .inr (pl_three hFx hx hG hGF hpl hp (.step hK hy hRy hzK h2 h3))
        · exact .inl (.step hK hy ih hzK h2 hp)
      · exact .inr ih
  rcases key z hGz with h | ⟨y, hy, hR⟩
  · exact .inl ⟨hne, z, hz, h⟩
  · exact .inr ⟨fun e => hGF e.symm, y, hy, hR⟩
open Classical in
theorem acy_of_two (hpl : PlainA atoms) (h : ∀ F ∈ atoms, ∀ G ∈ atoms, Att kl atoms D F G → ¬ Att kl atoms D G F) : Acy kl atoms D := by
  refine ⟨fun i => (atoms.filter fun F => decide (∃ G ∈ atoms, G.1 = i ∧ Att kl atoms D F G)).length, fun F hF G hG ha => ?_⟩
  refine filter_lt (fun K hK hx => ?_) ⟨F, hF, decide_eq_true ⟨G, hG, rfl, ha⟩, decide_eq_false fun ⟨F', hF', e, ha'⟩ => ha'.1 e⟩
  obtain ⟨F', hF', e, ha'⟩ := of_decide_eq_true hx
  have := hpl F' hF' F hF e
  subst this
  refine decide_eq_true ⟨G, hG, rfl, ?_⟩
  by_cases hGK : G.1 = K.1
  · have := hpl G hG K hK hGK
    subst this
    exact absurd ha' (h F' hF' G hG ha)
  · rcases att_three hpl hF' ha' ha hGK with h9 | h9
    · exact h9
    · exact absurd h9 (h K hK F' hF' ha')
end
end Go.Proofs.YtmjpnfapjcfejaaDoor

/- Rounds that end at a fixed point; sets as numbers: closures, what is reached, attacks. Of no program. No condition. -/
namespace Go.Proofs.YtmjpnfapjcfejaaDoor
open VC
set_option linter.unusedVariables false

/-! ## Rounds -/
def iterF {σ : Type} (f : σ → σ) : Nat → σ → σ
  | 0, s => s
  | k + 1, s => f (iterF f k s)
def roundF {σ ι : Type} (step : ι → σ → σ) (l : List ι) (s : σ) : σ := l.foldl (fun s i => step i s) s
section
variable {σ ι : Type} {step : ι → σ → σ} {μ : σ → Nat} {P : σ → Prop}
theorem roundF_app (l : List ι) (i : ι) (s : σ) : roundF step (l ++ [i]) s = step i (roundF step l s) := by simp [roundF]
theorem roundF_fix {s : σ} : ∀ {l : List ι}, (∀ i ∈ l, step i s = s) → roundF step l s = s
  | [], _ => rfl
  | i :: r, h => by
    show roundF step r (step i s) = s
    rw [h i (List.mem_cons_self ..)]
    exact roundF_fix fun j hj => h j (List.mem_cons_of_mem _ hj)
theorem roundF_P : ∀ {l : List ι} {s : σ}, (∀ i ∈ l, ∀ s, P s → P (step i s)) → P s → P (roundF step l s)
  | [], _, _, h => h
  | i :: r, s, hP, h => roundF_P (l := r) (fun j hj => hP j (List.mem_cons_of_mem _ hj)) (hP i (List.mem_cons_self ..) s h)
theorem round_prog : ∀ {l : List ι} {s : σ}, (∀ i ∈ l, ∀ s, P s → P (step i s)) → (∀ i ∈ l, ∀ s, P s → step i s = s ∨ μ s < μ (step i s)) → P s → (∀ i ∈ l, step i s = s) ∨ μ s < μ (roundF step l s)
  | [], _, _, _, _ => .inl fun i hi => by cases hi
  | i :: r, s, hP, hg, h => by
    have ih := round_prog (l := r) (s := step i s) (fun j hj => hP j (List.mem_cons_of_mem _ hj)) (fun j hj => hg j (List.mem_cons_of_mem _ hj)) (hP i (List.mem_cons_self ..) s h)
    rcases hg i (List.mem_cons_self ..) s h with e | hlt
    · rw [e] at ih
      rcases ih with ih | ih
      · refine .inl fun j hj => ?_
        rcases List.mem_cons.1 hj with rfl | hj
        · exact e
        · exact ih j hj
      · refine .inr ?_
        show μ s < μ (roundF step r (step i s))
        rw [e]
        exact ih
    · refine .inr ?_
      show μ s < μ (roundF step r (step i s))
      rcases ih with ih | ih
      · rw [roundF_fix ih]
        exact hlt
      · omega
theorem iterF_P {l : List ι} {s : σ} (hP : ∀ i ∈ l, ∀ s, P s → P (step i s)) (h : P s) : ∀ k, P (iterF (roundF step l) k s)
  | 0 => h
  | k + 1 => roundF_P hP (iterF_P hP h k)
theorem rounds_fix {l : List ι} {s : σ} (hP : ∀ i ∈ l, ∀ s, P s → P (step i s)) (hg : ∀ i ∈ l, ∀ s, P s → step i s = s ∨ μ s < μ (step i s)) (h : P s) : ∀ k, (∀ i ∈ l, step i (iterF (roundF step l) k s) = iterF (roundF step l) k s) ∨ μ s + k ≤ μ (iterF (roundF step l) k s)
  | 0 => .inr (Nat.le_refl _)
  | k + 1 => by
    have hx := iterF_P hP h k
    rcases round_prog hP hg hx with e | hlt
    · refine .inl ?_
      show ∀ i ∈ l, step i (roundF step l (iterF (roundF step l) k s)) = roundF step l (iterF (roundF step l) k s)
      rw [roundF_fix e]
      exact e
    · rcases rounds_fix hP hg h k with e | ih
      · refine .inl ?_
        show ∀ i ∈ l, step i (roundF step l (iterF (roundF step l) k s)) = roundF step l (iterF (roundF step l) k s)
        rw [roundF_fix e]
        exact e
      · refine .inr ?_
        show μ s + (k + 1) ≤ μ (roundF step l (iterF (roundF step l) k s))
        omega
end
/-! ## Sets as numbers -/
def bs (a b : Nat) : Prop := ∀ x, a.testBit x = true → b.testBit x = true
theorem bs_refl (a : Nat) : bs a a := fun _ h => h
theorem bs.trans {a b c : Nat} (h : bs a b) (k : bs b c) : bs a c := fun x hx => k x (h x hx)
theorem bs_antisymm {a b : Nat} (h : bs a b) (k : bs b a) : a = b := Nat.eq_of_testBit_eq fun x => by
  rw [Bool.eq_iff_iff]
  exact ⟨h x, k x⟩
theorem bs_or {a b c : Nat} : bs (a ||| b) c ↔ bs a c ∧ bs b c := by
  unfold bs
  simp only [Nat.testBit_or, Bool.or_eq_true]
  exact ⟨fun h => ⟨fun x hx => h x (.inl hx), fun x hx => h x (.inr hx)⟩, fun h x hx => hx.elim (h.1 x) (h.2 x)⟩
theorem bs_left (a b : Nat) : bs a (a ||| b) := (bs_or.1 (bs_refl _)).1
theorem bs_right (a b : Nat) : bs b (a ||| b) := (bs_or.1 (bs_refl _)).2
theorem or_self_of {a b : Nat} (h : bs b a) : a ||| b = a := bs_antisymm (bs_or.2 ⟨bs_refl _, h⟩) (bs_left _ _)
theorem nSub_zero {a b : Nat} : nSub a b = 0 ↔ bs a b := by
  constructor
  · intro h x hx
    have := nSub_bit a b x
    rw [h, Nat.zero_testBit, hx] at this
    simpa using this.symm
  · intro h
    refine Nat.eq_of_testBit_eq fun x => ?_
    rw [nSub_bit, Nat.zero_testBit]
    cases hx : a.testBit x with
    | false => rfl
    | true => rw [h x hx]; rfl
theorem and_ne_zero {a b : Nat} : a &&& b ≠ 0 ↔ ∃ x, a.testBit x = true ∧ b.testBit x = true := by
  constructor
  · intro h
    refine Classical.byContradiction fun hno => h (Nat.eq_of_testBit_eq fun x => ?_)
    rw [Nat.testBit_and, Nat.zero_testBit, ← Bool.not_eq_true, Bool.and_eq_true]
    exact fun h2 => hno ⟨x, h2⟩
  · rintro ⟨x, h1, h2⟩ h
    have := Nat.testBit_and a b x
    rw [h, Nat.zero_testBit, h1, h2] at this
    cases this
theorem maskOf (p : Nat → Prop) (n : Nat) : ∃ t : Nat, ∀ x, t.testBit x = true ↔ x < n ∧ p x := by
  induction n with
  | zero => exact ⟨0, fun x => by simp⟩
  | succ n ih =>
    obtain ⟨t, ht⟩ := ih
    by_cases h : p n
    · refine ⟨t ||| 2 ^ n, fun x => ?_⟩
      rw [Nat.testBit_or, Bool.or_eq_true, ht, Nat.testBit_two_pow, decide_eq_true_eq]
      constructor
      · rintro (⟨h1, h2⟩ | rfl)
        · exact ⟨by omega, h2⟩
        · exact ⟨by omega, h⟩
      · rintro ⟨h1, h2⟩
        by_cases e : n = x
        · exact .inr e
        · exact .inl ⟨by omega, h2⟩
    · refine ⟨t, fun x => ?_⟩
      rw [ht]
      constructor
      · exact fun h1 => ⟨by omega, h1.2⟩
      · rintro ⟨h1, h2⟩
        refine ⟨?_, h2⟩
        have : x ≠ n := fun e => h (e ▸ h2)
        omega
theorem bit_or_pow {r g i : Nat} : (r ||| 2 ^ g).testBit i = true ↔ r.testBit i = true ∨ i = g := by
  rw [Nat.testBit_or, Bool.or_eq_true, Nat.testBit_two_pow, decide_eq_true_eq]
  exact or_congr_right ⟨Eq.symm, Eq.symm⟩
/-! ## Closures -/
structure IsCl (l : List (Nat × Nat)) (s r : Nat) : Prop where
  sub : bs s r
  cl : ∀ d ∈ l, bs d.1 r → bs d.2 r
  min : ∀ t, bs s t → (∀ d ∈ l, bs d.1 t → bs d.2 t) → bs r t
theorem IsCl.uniq {l : List (Nat × Nat)} {s r r' : Nat} (h : IsCl l s r) (h' : IsCl l s r') : r = r' := bs_antisymm (h.min _ h'.sub h'.cl) (h'.min _ h.sub h.cl)
def stepC (d : Nat × Nat) (s : Nat) : Nat := if nSub d.1 s = 0 then s ||| d.2 else s
theorem stepC_sub (d : Nat × Nat) (s : Nat) : bs s (stepC d s) := by
  unfold stepC
  split
  · exact bs_left _ _
  · exact bs_refl _
def clF (l : List (Nat × Nat)) (s : Nat) : Nat := iterF (roundF stepC l) l.length s
open Classical in
theorem clF_is (l : List (Nat × Nat)) (s : Nat) : IsCl l s (clF l s) := by
  have sub : bs s (clF l s) := iterF_P (P := fun r => bs s r) (fun d _ r h => h.trans (stepC_sub d r)) (bs_refl _) _
  have min : ∀ t, bs s t → (∀ d ∈ l, bs d.1 t → bs d.2 t) → bs (clF l s) t := fun t h1 h2 => iterF_P (P := fun r => bs r t) (fun d hd r h => by
    unfold stepC
    split
    · rename_i h0
      exact bs_or.2 ⟨h, h2 d hd ((nSub_zero.1 h0).trans h)⟩
    · exact h) h1 _
  refine ⟨sub, fun d hd hb => ?_, min⟩
  have fixed : (∀ d ∈ l, stepC d (clF l s) = clF l s) → bs d.2 (clF l s) := fun h => by
    have := h d hd
    unfold stepC at this
    rw [if_pos (nSub_zero.2 hb)] at this
    have h2 := bs_right (clF l s) d.2
    rwa [this] at h2
  have hprog : ∀ d ∈ l, ∀ r : Nat, True → stepC d r = r ∨ (l.filter fun d => decide (bs d.2 r)).length < (l.filter fun d' => decide (bs d'.2 (stepC d r))).length := fun d hd r _ => by
    by_cases hs : stepC d r = r
    · exact .inl hs
    · refine .inr (filter_lt (fun d' hd' h => decide_eq_true ((of_decide_eq_true h : bs d'.2 r).trans (stepC_sub d r))) ⟨d, hd, ?_, decide_eq_false fun h => hs ?_⟩)
      · refine decide_eq_true ?_
        unfold stepC
        split
        · exact bs_right _ _
        · rename_i h0
          exact absurd (if_neg h0) hs
      · unfold stepC
        split
        · exact or_self_of h
        · rfl
  rcases rounds_fix (P := fun _ => True) (μ := fun r => (l.filter fun d => decide (bs d.2 r)).length) (step := stepC) (l := l) (s := s) (fun _ _ _ _ => trivial) hprog trivial l.length with h | h
  · exact fixed h
  · have hle := List.length_filter_le (fun d : Nat × Nat => decide (bs d.2 (iterF (roundF stepC l) l.length s))) l
    have heq : (l.filter fun d => decide (bs d.2 (iterF (roundF stepC l) l.length s))).length = l.length := by omega
    have hall := List.filter_eq_self.1 (List.Sublist.eq_of_length (List.filter_sublist ..) heq) d hd
    exact of_decide_eq_true hall
/-! ## What is reached -/
inductive RB (U : Nat → Nat) (n f : Nat) : Nat → Prop
  | base {x : Nat} : (U f).testBit x = true → RB U n f x
  | step {g x y : Nat} : g < n → (U g).testBit y = true → RB U n f y → (U g).testBit x = true → RB U n f x
def Hit (U : Nat → Nat) (n f g : Nat) : Prop := g = f ∨ g < n ∧ ∃ x, (U g).testBit x = true ∧ RB U n f x
def cntB (n r : Nat) : Nat := ((List.range n).filter r.testBit).length
theorem cntB_le (n r : Nat) : cntB n r ≤ n := by
  have := List.length_filter_le r.testBit (List.range n)
  rwa [List.length_range] at this
theorem cntB_or {n r g : Nat} (hg : g < n) (h : r.testBit g = false) : cntB n r < cntB n (r ||| 2 ^ g) :=
  filter_lt (fun x _ hx => bit_or_pow.2 (.inl hx)) ⟨g, List.mem_range.2 hg, bit_or_pow.2 (.inr rfl), h⟩
theorem cntB_one {n f : Nat} (hf : f < n) : 1 ≤ cntB n (2 ^ f) := List.length_pos_of_mem (List.mem_filter.2 ⟨List.mem_range.2 hf, by rw [Nat.testBit_two_pow]; exact decide_eq_true rfl⟩)
/-- The program's way. -/
def stepR (U : Nat → Nat) (g : Nat) (p : Nat × Nat) : Nat × Nat := if U g &&& p.2 ≠ 0 then (p.1 ||| 2 ^ g, p.2 ||| U g) else p
structure RI (U : Nat → Nat) (n f : Nat) (p : Nat × Nat) : Prop where
  s1 : ∀ x, p.2.testBit x = true → RB U n f x
  r1 : ∀ g, p.1.testBit g = true → Hit U n f g
  rs : ∀ g, p.1.testBit g = true → bs (U g) p.2
  f1 : p.1.testBit f = true
theorem RI.step {U : Nat → Nat} {n f g : Nat} {p : Nat × Nat} (hg : g < n) (h : RI U n f p) : RI U n f (stepR U g p) := by
  unfold stepR
  split
  · rename_i h0
    obtain ⟨y, hy, hs⟩ := and_ne_zero.1 h0
    have hRy := h.s1 y hs
    refine ⟨fun x hx => ?_, fun i hi => ?_, fun i hi => ?_, bit_or_pow.2 (.inl h.f1)⟩
    · rw [Nat.testBit_or, Bool.or_eq_true] at hx
      rcases hx with hx | hx
      · exact h.s1 x hx
      · exact .step hg hy hRy hx
    · rcases bit_or_pow.1 hi with hi | rfl
      · exact h.r1 i hi
      · exact .inr ⟨hg, y, hy, hRy⟩
    · rcases bit_or_pow.1 hi with hi | rfl
      · exact (h.rs i hi).trans (bs_left _ _)
      · exact bs_right _ _
  · exact h
def reachN (U : Nat → Nat) (n f : Nat) : Nat := (iterF (roundF (stepR U) (List.range n)) n (2 ^ f, U f)).1
theorem ri_init (U : Nat → Nat) (n f : Nat) : RI U n f (2 ^ f, U f) := by
  have e : ∀ g, (2 ^ f).testBit g = true → g = f := fun g hg => by
    rw [Nat.testBit_two_pow, decide_eq_true_eq] at hg
    exact hg.symm
  refine ⟨fun x hx => .base hx, fun g hg => .inl (e g hg), fun g hg => by rw [e g hg]; exact bs_refl _, by rw [Nat.testBit_two_pow]; exact decide_eq_true rfl⟩
theorem reachN_bit {U : Nat → Nat} {n f : Nat} (hf : f < n) (g : Nat) : (reachN U n f).testBit g = true ↔ Hit U n f g := by
  obtain ⟨p, hp⟩ : ∃ p, p = iterF (roundF (stepR U) (List.range n)) n (2 ^ f, U f) := ⟨_, rfl⟩
  have hI : RI U n f p := by rw [hp]; exact iterF_P (P := RI U n f) (fun g hg p h => h.step (List.mem_range.1 hg)) (ri_init U n f) n
  show (iterF (roundF (stepR U) (List.range n)) n (2 ^ f, U f)).1.testBit g = true ↔ _
  rw [← hp]
  refine ⟨hI.r1 g, fun hh => ?_⟩
  have hfix : ∀ i ∈ List.range n, stepR U i p = p := by
    have hprog : ∀ g ∈ List.range n, ∀ p : Nat × Nat, RI U n f p → stepR U g p = p ∨ cntB n p.1 < cntB n (stepR U g p).1 := fun g hg p h => by
      cases hb : p.1.testBit g with
      | true =>
        left
        unfold stepR
        split
        · refine Prod.ext ?_ (or_self_of (h.rs g hb))
          refine bs_antisymm (fun i hi => ?_) (bs_left _ _)
          rcases bit_or_pow.1 hi with hi | rfl
          · exact hi
          · exact hb
        · rfl
      | false =>
        by_cases h0 : U g &&& p.2 ≠ 0
        · right
          unfold stepR
          rw [if_pos h0]
          exact cntB_or (List.mem_range.1 hg) hb
        · left
          unfold stepR
          rw [if_neg h0]
    rcases rounds_fix (P := RI U n f) (μ := fun p => cntB n p.1) (step := stepR U) (l := List.range n) (s := (2 ^ f, U f)) (fun g hg p h => h.step (List.mem_range.1 hg)) hprog (ri_init U n f) n with h | h
    · rw [← hp] at h
      exact h
    · have := cntB_le n (iterF (roundF (stepR U) (List.range n)) n (2 ^ f, U f)).1
      have := cntB_one hf
      dsimp only at h
      omega
  have closed : ∀ i, i < n → ∀ y, (U i).testBit y = true → p.2.testBit y = true → p.1.testBit i = true := fun i hi y h1 h2 => by
    have := hfix i (List.mem_range.2 hi)
    unfold stepR at this
    rw [if_pos (and_ne_zero.2 ⟨y, h1, h2⟩)] at this
    have e := congrArg Prod.fst this
    dsimp only at e
    rw [← e]
    exact bit_or_pow.2 (.inr rfl)
  have all : ∀ x, RB U n f x → p.2.testBit x = true := fun x hx => by
    induction hx with
    | base h => exact hI.rs f hI.f1 _ h
    | step hi hy _ hx ih => exact hI.rs _ (closed _ hi _ hy ih) _ hx
  rcases hh with rfl | ⟨hg, x, hx, hR⟩
  · exact hI.f1
  · exact closed g hg x hx (all x hR)
/-! ## Attacks, on sets of variables -/
def depsB (V K : List Nat) (f : Nat) : List (Nat × Nat) := ((List.range V.length).filter fun i => decide (i ≠ f)).map fun i => (K.getD i 0, V.getD i 0)
def depsA (V K : List Nat) : List (Nat × Nat) := (List.range V.length).map fun i => (K.getD i 0, V.getD i 0)
def plusN (V K : List Nat) (f : Nat) : Nat := clF (depsB V K f) (K.getD f 0)
def wideN (V K : List Nat) (f : Nat) : Nat := clF (depsA V K) (K.getD f 0)
def UN (V K : List Nat) (f i : Nat) : Nat := nSub (V.getD i 0) (plusN V K f)
/-- f attacks g. -/
def attN (V K : List Nat) (f g : Nat) : Bool := decide (g ≠ f) && (reachN (UN V K f) V.length f).testBit g
def strN (V K : List Nat) (f g : Nat) : Bool := decide (nSub (K.getD g 0) (wideN V K f) ≠ 0)
/-- What V and K have to do with atoms. -/
structure VK_ (kl : Int → Nat) (atoms : List Atm) (D : Nat → Prop) (V K : List Nat) : Prop where
  lV : V.length = atoms.length
  lK : K.length = atoms.length
  bV : ∀ i (hi : i < atoms.length) x, (V.getD i 0).testBit x = true ↔ (x : Int) ∈ atoms[i].2 ∧ ¬ D x
  bK : ∀ i (hi : i < atoms.length) x, (K.getD i 0).testBit x = true ↔ (x : Int) ∈ (kF kl atoms[i]).2 ∧ ¬ D x
  small : ∀ a ∈ atoms, ∀ x : Nat, (x : Int) ∈ a.2 → x < 8
section
variable {kl : Int → Nat} {atoms : List Atm} {D : Nat → Prop} {V K : List Nat}
theorem idx_ne (hpl : PlainA atoms) (hnd : atoms.Nodup) {i j : Nat} (hi : i < atoms.length) (hj : j < atoms.length) : atoms[i].1 ≠ atoms[j].1 ↔ i ≠ j := by
  constructor
  · intro h e
    subst e
    exact h rfl
  · intro h e
    have := hpl _ (List.getElem_mem hi) _ (List.getElem_mem hj) e
    exact h (List.getElem_inj hnd |>.1 this)
theorem plus_iff (h : VK_ kl atoms D V K) (hpl : PlainA atoms) (hnd : atoms.Nodup) {f : Nat} (hf : f < atoms.length) (x : Nat) : (plusN V K f).testBit x = true ↔ Pl kl atoms D atoms[f] x := by
  have hc := clF_is (depsB V K f) (K.getD f 0)
  constructor
  · obtain ⟨t, ht⟩ := maskOf (fun x => Pl kl atoms D atoms[f] x) 8
    have sm : ∀ x, Pl kl atoms D atoms[f] x → x < 8 := fun x hx => by
      cases hx with
      | base h1 _ => exact h.small _ (List.getElem_mem hf) x (kF_sub h1)
      | step hG _ _ h1 _ => exact h.small _ hG x h1
    intro hx
    refine ((ht x).1 (hc.min t (fun y hy => ?_) (fun d hd hb y hy => ?_) x hx)).2
    · have := (h.bK f hf y).1 hy
      exact (ht y).2 ⟨sm y (.base this.1 this.2), .base this.1 this.2⟩
    · unfold depsB at hd
      obtain ⟨i, hi, rfl⟩ := List.mem_map.1 hd
      obtain ⟨hi1, hi2⟩ := List.mem_filter.1 hi
      have hin : i < atoms.length := by rw [← h.lV]; exact List.mem_range.1 hi1
      have hif : i ≠ f := of_decide_eq_true hi2
      have hy2 := (h.bV i hin y).1 hy
      have hp : Pl kl atoms D atoms[f] y := .step (List.getElem_mem hin) ((idx_ne hpl hnd hin hf).2 hif) (fun z hz hDz => ((ht z).1 (hb z ((h.bK i hin z).2 ⟨hz, hDz⟩))).2) hy2.1 hy2.2
      exact (ht y).2 ⟨sm y hp, hp⟩
  · intro hx
    induction hx with
    | base h1 h2 => exact hc.sub _ ((h.bK f hf _).2 ⟨h1, h2⟩)
    | @step G x hG hne _ h1 h2 ih =>
      obtain ⟨i, hi, rfl⟩ := List.getElem_of_mem hG
      refine hc.cl (K.getD i 0, V.getD i 0) (List.mem_map.2 ⟨i, List.mem_filter.2 ⟨List.mem_range.2 (by rw [h.lV]; exact hi), decide_eq_true ((idx_ne hpl hnd hi hf).1 hne)⟩, rfl⟩) (fun y hy => ?_) x ((h.bV i hi x).2 ⟨h1, h2⟩)
      have := (h.bK i hi y).1 hy
      exact ih y this.1 this.2
theorem U_iff (h : VK_ kl atoms D V K) (hpl : PlainA atoms) (hnd : atoms.Nodup) {f : Nat} (hf : f < atoms.length) {i : Nat} (hi : i < atoms.length) (x : Nat) : (UN V K f i).testBit x = true ↔ (x : Int) ∈ atoms[i].2 ∧ ¬ D x ∧ ¬ Pl kl atoms D atoms[f] x := by
  unfold UN
  rw [nSub_bit, Bool.and_eq_true, Bool.not_eq_true', ← Bool.not_eq_true, plus_iff h hpl hnd hf, h.bV i hi, and_assoc]
theorem RB_iff (h : VK_ kl atoms D V K) (hpl : PlainA atoms) (hnd : atoms.Nodup) {f : Nat} (hf : f < atoms.length) (x : Nat) : RB (UN V K f) atoms.length f x ↔ RV kl atoms D atoms[f] x := by
  constructor
  · intro hx
    induction hx with
    | base h1 =>
      have := (U_iff h hpl hnd hf hf _).1 h1
      exact .base this.1 this.2.1 this.2.2
    | step hg hy _ hx ih =>
      have a1 := (U_iff h hpl hnd hf hg _).1 hy
      have a2 := (U_iff h hpl hnd hf hg _).1 hx
      exact .step (List.getElem_mem hg) a1.1 ih a2.1 a2.2.1 a2.2.2
  · intro hx
    induction hx with
    | base h1 h2 h3 => exact .base ((U_iff h hpl hnd hf hf _).2 ⟨h1, h2, h3⟩)
    | @step G x y hG hy hRy hx h2 h3 ih =>
      obtain ⟨i, hi, rfl⟩ := List.getElem_of_mem hG
      exact .step hi ((U_iff h hpl hnd hf hi _).2 ⟨hy, hRy.out⟩) ih ((U_iff h hpl hnd hf hi _).2 ⟨hx, h2, h3⟩)
theorem attN_iff (h : VK_ kl atoms D V K) (hpl : PlainA atoms) (hnd : atoms.Nodup) {f g : Nat} (hf : f < atoms.length) (hg : g < atoms.length) : attN V K f g = true ↔ Att kl atoms D atoms[f] atoms[g] := by
  unfold attN Att
  rw [Bool.and_eq_true, decide_eq_true_eq, h.lV, reachN_bit hf, idx_ne hpl hnd hg hf]
  refine and_congr_right fun hne => ?_
  constructor
  · rintro (e | ⟨_, x, hx, hR⟩)
    · exact absurd e hne
    · exact ⟨x, ((U_iff h hpl hnd hf hg x).1 hx).1, (RB_iff h hpl hnd hf x).1 hR⟩
  · rintro ⟨x, hx, hR⟩
    exact .inr ⟨hg, x, (U_iff h hpl hnd hf hg x).2 ⟨hx, hR.out⟩, (RB_iff h hpl hnd hf x).2 hR⟩
end
end Go.Proofs.YtmjpnfapjcfejaaDoor

/- Blocks and repairs as sets of places, and as sets of facts. Of no program. No condition. -/
namespace Go.Proofs.YtmjpnfapjcfejaaDoor
open VC
set_option linter.unusedVariables false

/-- How many Args of a relation are its key. -/
def klS (s : List Int) (r : Int) : Nat := (s.getD r.toNat 0).toNat
def fact0 : Atm := (0, [])
def fa (L : List Atm) (i : Nat) : Atm := L.getD i fact0
theorem fa_get {L : List Atm} {i : Nat} (h : i < L.length) : fa L i = L[i] := by simp [fa, List.getD, h]
section
variable (kl : Int → Nat) (L : List Atm)
def sameB (i j : Nat) : Bool := decide (kF kl (fa L i) = kF kl (fa L j))
/-- The first fact of the block of fact i. -/
def blkN (i : Nat) : Nat := ((List.range L.length).find? fun j => sameB kl L j i).getD 0
variable {kl L}
theorem sameB_iff {i j : Nat} : sameB kl L i j = true ↔ kF kl (fa L i) = kF kl (fa L j) := decide_eq_true_iff
theorem blk_spec {i : Nat} (hi : i < L.length) : blkN kl L i ≤ i ∧ kF kl (fa L (blkN kl L i)) = kF kl (fa L i) ∧ ∀ j, j < blkN kl L i → kF kl (fa L j) ≠ kF kl (fa L i) := by
  cases h : (List.range L.length).find? fun j => sameB kl L j i with
  | none =>
    have := List.find?_eq_none.1 h i (List.mem_range.2 hi)
    rw [sameB_iff] at this
    exact absurd rfl this
  | some b =>
    have e : blkN kl L i = b := by unfold blkN; rw [h]; rfl
    rw [e]
    obtain ⟨h1, h2⟩ := List.find?_range_eq_some.1 h
    have h2' := h2
    refine ⟨Nat.le_of_not_lt fun hlt => ?_, sameB_iff.1 h1, fun j hj he => ?_⟩
    · have := h2.2 i hlt
      rw [Bool.not_eq_true', ← Bool.not_eq_true, sameB_iff] at this
      exact this rfl
    · have := h2.2 j hj
      rw [Bool.not_eq_true', ← Bool.not_eq_true, sameB_iff] at this
      exact this he
theorem blk_lt {i : Nat} (hi : i < L.length) : blkN kl L i < L.length := Nat.lt_of_le_of_lt (blk_spec hi).1 hi
theorem blk_eq {i j : Nat} (hi : i < L.length) (hj : j < L.length) : blkN kl L i = blkN kl L j ↔ kF kl (fa L i) = kF kl (fa L j) := by
  have si := blk_spec (kl := kl) hi
  have sj := blk_spec (kl := kl) hj
  constructor
  · intro e
    rw [← si.2.1, ← sj.2.1, e]
  · intro e
    rcases Nat.lt_trichotomy (blkN kl L i) (blkN kl L j) with h | h | h
    · exact absurd (si.2.1.trans e) (sj.2.2 _ h)
    · exact h
    · exact absurd (sj.2.1.trans e.symm) (si.2.2 _ h)
theorem blk_blk {i : Nat} (hi : i < L.length) : blkN kl L (blkN kl L i) = blkN kl L i := (blk_eq (blk_lt hi) hi).2 (blk_spec hi).2.1
variable (kl L)
variable {kl L}
theorem fa_mem {i : Nat} (hi : i < L.length) : fa L i ∈ L := by rw [fa_get hi]; exact List.getElem_mem hi
open Classical in
theorem Rp.congr {db : List Atm} {r r' : Atm → Prop} (h : Rp kl db r) (e : ∀ a, r a ↔ r' a) : Rp kl db r' := by
  have : r = r' := funext fun a => propext (e a)
  exact this ▸ h
/-! ## Strictly rising lists of numbers -/
/-! ## The program's way to all repairs -/
variable (kl L)
variable {kl L}
end
end Go.Proofs.YtmjpnfapjcfejaaDoor

/- Valid books: a schema, and facts without doubles. Of no program. No condition. -/
namespace Go.Proofs.YtmjpnfapjcfejaaDoor
open VC
set_option linter.unusedSimpArgs false
set_option linter.unusedVariables false

/-! ## Valid books -/
def okS (s : List Int) : Bool := decide (s.length = 6) && s.all fun x => decide (0 ≤ x) && decide (x ≤ 3)
/-- Of one relation all facts have as many Args, and no two are the same. -/
def okP : List Atm → Bool
  | [] => true
  | f :: r => r.all (fun g => !decide (f.1 = g.1) || (decide (f.2.length = g.2.length) && !decide (f.2 = g.2))) && okP r
def okR (s : List Int) (L : List Atm) : Bool := okS s && decide (L.length ≤ 12) && L.all okF && okP L
theorem okP_iff {L : List Atm} : okP L = true ↔ L.Pairwise fun f g => f.1 = g.1 → f.2.length = g.2.length ∧ f.2 ≠ g.2 := by
  induction L with
  | nil => simp [okP]
  | cons f r ih =>
    rw [okP, Bool.and_eq_true, ih, List.pairwise_cons, List.all_eq_true]
    refine and_congr_left fun _ => ?_
    refine forall_congr' fun g => forall_congr' fun _ => ?_
    by_cases h : f.1 = g.1
    · simp [h]
    · simp [h]
theorem okR_out {s : List Int} {L : List Atm} (h : okR s L = true) : okS s = true ∧ L.length ≤ 12 ∧ okFs L = true ∧ L.Nodup ∧ ∀ f ∈ L, ∀ g ∈ L, f.1 = g.1 → f.2.length = g.2.length := by
  simp only [okR, Bool.and_eq_true, decide_eq_true_eq] at h
  obtain ⟨⟨⟨h1, h2⟩, h3⟩, h4⟩ := h
  have hp := okP_iff.1 h4
  refine ⟨h1, h2, ?_, ?_, ?_⟩
  · simp only [okFs, Bool.and_eq_true, decide_eq_true_eq]
    exact ⟨by omega, h3⟩
  · exact hp.imp fun {a b} hab e => by subst e; exact (hab rfl).2 rfl
  · intro f hf g hg e
    have sym : L.Pairwise fun f g => f.1 = g.1 → f.2.length = g.2.length := hp.imp fun h e => (h e).1
    obtain ⟨i, hi, rfl⟩ := List.getElem_of_mem hf
    obtain ⟨j, hj, rfl⟩ := List.getElem_of_mem hg
    rcases Nat.lt_trichotomy i j with h | h | h
    · exact List.pairwise_iff_getElem.1 sym i j hi hj h e
    · subst h; rfl
    · exact (List.pairwise_iff_getElem.1 sym j i hj hi h e.symm).symm
theorem okS_out {s : List Int} (h : okS s = true) : s.length = 6 ∧ ∀ x ∈ s, 0 ≤ x ∧ x ≤ 3 := by
  simpa [okS, List.all_eq_true] using h
theorem okS_tr (s : List Int) : okS (s.take 9) = okS s := by
  rcases Nat.lt_or_ge s.length 10 with h | h
  · rw [List.take_of_length_le (by omega)]
  · have h1 : (s.take 9).length = 9 := by simp; omega
    unfold okS
    rw [h1, decide_eq_false (by omega), decide_eq_false (by omega)]
    simp
theorem okS_take {s : List Int} (h : okS s = true) : s.take 9 = s := List.take_of_length_le (by have := (okS_out h).1; omega)
theorem okF_trA (a : Atm) : okF (trA a) = okF a := by
  rcases Nat.lt_or_ge a.2.length 10 with h | h
  · rw [trA_id (by omega)]
  · have h1 : (trA a).2.length = 9 := by simp [trA]; omega
    unfold okF
    rw [h1]
    have e1 : decide (9 ≤ 3) = false := rfl
    have e2 : decide (a.2.length ≤ 3) = false := decide_eq_false (by omega)
    rw [e1, e2]
    simp
theorem okR_tr (s : List Int) (L : List Atm) : okR (s.take 9) (trF L) = okR s L := by
  unfold okR
  rw [okS_tr]
  by_cases hl : L.length ≤ 12
  · by_cases hf : L.all okF = true
    · have : trF L = L := trF_of (by simp only [okFs, Bool.and_eq_true, decide_eq_true_eq]; exact ⟨by omega, hf⟩)
      rw [this]
    · have e1 : trF L = L.map trA := by unfold trF; rw [List.take_of_length_le (by omega)]
      have e2 : (trF L).all okF = false := by
        rw [e1, List.all_map, ← Bool.not_eq_true]
        intro h
        apply hf
        rw [List.all_eq_true] at h ⊢
        intro a ha
        rw [← okF_trA]
        exact h a ha
      have hf' : L.all okF = false := by simpa using hf
      rw [e2, hf']
      simp
  · have e1 : decide (L.length ≤ 12) = false := decide_eq_false hl
    have e2 : decide ((trF L).length ≤ 12) = false := decide_eq_false (by unfold trF; rw [List.length_map, List.length_take]; omega)
    rw [e1, e2]
    simp
theorem okR_trF {s : List Int} {L : List Atm} (h : okR s L = true) : trF L = L ∧ s.take 9 = s := ⟨trF_of (okR_out h).2.2.1, okS_take (okR_out h).1⟩
end Go.Proofs.YtmjpnfapjcfejaaDoor

/- Maps whose keys are ints: what they hold, as a list of pairs in the order of their making. No condition. -/
namespace Go.Proofs.YtmjpnfapjcfejaaDoor.VC
open Go Go.RowKit
set_option linter.unusedSimpArgs false
set_option linter.unusedVariables false

def idxK : List (Int × Value) → Int → Nat → Option (Nat × Value)
  | [], _, _ => none
  | (a, v) :: r, k, i => if k = a then some (i, v) else idxK r k (i + 1)
def getM (kv : List (Int × Value)) (k : Int) : Option Value := (idxK kv k 0).map (·.2)
def updM : List (Int × Value) → Int → Value → List (Int × Value)
  | [], k, v => [(k, v)]
  | (a, u) :: r, k, v => if k = a then (a, v) :: r else (a, u) :: updM r k v
theorem idxK_shift : ∀ (kv : List (Int × Value)) (k : Int) (i j : Nat), idxK kv k (i + j) = (idxK kv k i).map fun p => (p.1 + j, p.2)
  | [], _, _, _ => rfl
  | (a, v) :: r, k, i, j => by
    unfold idxK
    split
    · rfl
    · rw [show i + j + 1 = i + 1 + j by omega]; exact idxK_shift r k (i + 1) j
theorem getM_cons (a : Int) (v : Value) (r : List (Int × Value)) (k : Int) : getM ((a, v) :: r) k = if k = a then some v else getM r k := by
  unfold getM
  conv => lhs; unfold idxK
  split
  · rfl
  · rw [idxK_shift r k 0 1]; cases idxK r k 0 <;> rfl
theorem getM_upd : ∀ (kv : List (Int × Value)) (k j : Int) (v : Value), getM (updM kv k v) j = if j = k then some v else getM kv j
  | [], k, j, v => by unfold updM; rw [getM_cons]
  | (a, u) :: r, k, j, v => by
    unfold updM
    by_cases h : k = a
    · subst h
      rw [if_pos rfl, getM_cons, getM_cons]
      by_cases h2 : j = k <;> simp [h2]
    · rw [if_neg h, getM_cons, getM_cons, getM_upd r k j v]
      by_cases h2 : j = a
      · have : ¬ j = k := fun e => h (e.symm.trans h2)
        simp [h2, this]
        intro e; exact absurd e.symm h
      · simp [h2]
theorem getM_none : ∀ (kv : List (Int × Value)) (k : Int), getM kv k = none → updM kv k = fun v => kv ++ [(k, v)]
  | [], k, _ => rfl
  | (a, u) :: r, k, h => by
    rw [getM_cons] at h
    split at h
    · cases h
    · rename_i hne
      funext v
      unfold updM
      rw [if_neg hne, getM_none r k h]
      rfl
theorem idxK_none {kv : List (Int × Value)} {k : Int} (h : getM kv k = none) : idxK kv k 0 = none := by
  unfold getM at h
  simpa using h
/-- What a map holds. -/
structure MapI (w : World) (b : Nat) (kv : List (Int × Value)) : Prop where
  ex : ∃ es clock, w.heap[b]? = some (.map es clock) ∧ es.toList.map (fun e => (e.key, e.val)) = kv.map fun p => (Value.int .i64 p.1, p.2)
theorem MapI.lt {w : World} {b : Nat} {kv : List (Int × Value)} (h : MapI w b kv) : b < w.heap.size := by
  obtain ⟨es, c, h1, _⟩ := h.ex
  exact (Array.getElem?_eq_some_iff.1 h1).1
theorem MapI.fr {S : Nat → Prop} {w w' : World} {b : Nat} {kv : List (Int × Value)} (h : MapI w b kv) (hf : Fr S w w') (hs : ¬ S b) : MapI w' b kv := by
  have hlt := h.lt
  obtain ⟨es, c, h1, h2⟩ := h.ex
  exact ⟨es, c, (hf.block b hlt hs).trans h1, h2⟩
theorem MapI.grow {w w' : World} {b : Nat} {kv : List (Int × Value)} (h : MapI w b kv) (hf : Grow w w') : MapI w' b kv := h.fr (Fr.of_grow (S := fun _ => False) hf) id
theorem MapI.make {P : Program} (t : TypeId) (w : World) {K : Value → World → Prop} (hk : ∀ w', w' = w.alloc (.map #[] 0) → MapI w' w.heap.size [] → Grow w w' → w'.heap.size = w.heap.size + 1 → K (.map (some w.heap.size)) w') :
    ∃ v : Value, ∃ w' : World, (Instr.makeMap t none).run P w = .ok v w' ∧ K v w' := by
  refine ⟨_, _, run_makeMap t w, hk _ rfl ⟨#[], 0, heap_alloc_new w _, rfl⟩ ((Grow.refl w).alloc _) (by simp)⟩
theorem findNow_kv {k : Int} : ∀ (l : List MapEntry) (kv : List (Int × Value)) (i : Nat), l.map (fun e => (e.key, e.val)) = kv.map (fun p => (Value.int .i64 p.1, p.2)) → Instr.findNow (.int .i64) (.int .i64 k) l i = some (idxK kv k i)
  | [], kv, i, h => by
    have : kv = [] := by simpa using h.symm
    subst this; rfl
  | e :: l, [], i, h => by simp at h
  | e :: l, (a, v) :: r, i, h => by
    simp only [List.map_cons, List.cons.injEq, Prod.mk.injEq] at h
    obtain ⟨⟨h1, h2⟩, h3⟩ := h
    unfold Instr.findNow idxK
    rw [h1]
    simp only [Instr.sameNow, if_true]
    by_cases e1 : k = a
    · subst e1; simp [h2]
    · have : (k == a) = false := by simpa using e1
      simp only [this, if_neg e1]
      exact findNow_kv l r (i + 1) h3
theorem MapI.len {P : Program} {t kt et ty : TypeId} (ht : P.underlying t = some (.map kt et)) {w : World} {b : Nat} {kv : List (Int × Value)} (h : MapI w b kv) : (Builtin.len_ #[t] ty #[.map (some b)]).run P w = .ok (.int .i64 (kv.length : Int)) w := by
  obtain ⟨es, c, h1, h2⟩ := h.ex
  have : es.size = kv.length := by have := congrArg List.length h2; simpa using this
  simp [Builtin.len_, underlying_run ht, MapKept.run_getObj_map h1, goInt, this]
theorem MapI.get {P : Program} {t kt et : TypeId} {i : TypeInfo} {z : Value} (ht : P.underlying t = some (.map kt et)) (hk : P.underlying kt = some (.int .i64)) (hi : P.info? et = some i) (hz : i.zero = some z) {w : World} {b : Nat} {kv : List (Int × Value)} (h : MapI w b kv) (k : Int) (ok : Bool) :
    (Instr.lookup t (.map (some b)) (.int .i64 k) ok).run P w = .ok (if ok then .tuple #[(getM kv k).getD z, .bool (getM kv k).isSome] else (getM kv k).getD z) w := by
  obtain ⟨es, c, h1, h2⟩ := h.ex
  have hf : Instr.findNow (.int .i64) (.int .i64 k) es.toList 0 = some (idxK kv k 0) := findNow_kv _ _ _ h2
  have hc : ∀ e, (Instr.checkKey e 10000 kt (.int .i64 k)).run P w = .ok () w := fun e => MapKept.run_checkKey (k := .int .i64 k) hk (by simp [MapKept.IsKey]) e 9999
  have hzr : (zeroValue et).run P w = .ok z w := by simp [zeroValue, typeInfo, hi, hz]
  simp only [Instr.lookup, Sem.run_bind, underlying_run ht, Result.andThen_ok, MapKept.run_getObj_map h1, Sem.run_pure, hc, MapKept.run_findKey hk hf]
  unfold getM
  cases hx : idxK kv k 0 with
  | none => simp [hzr]
  | some p => simp
theorem updM_push {es : Array MapEntry} {kv : List (Int × Value)} {k : Int} {v : Value} {c : Nat} (h : es.toList.map (fun e => (e.key, e.val)) = kv.map fun p => (Value.int .i64 p.1, p.2)) (hn : idxK kv k 0 = none) :
    (es.push { key := .int .i64 k, val := v, born := c }).toList.map (fun e => (e.key, e.val)) = (updM kv k v).map fun p => (Value.int .i64 p.1, p.2) := by
  have : getM kv k = none := by unfold getM; rw [hn]; rfl
  rw [getM_none kv k this]
  simp [h]
theorem updM_modify {k : Int} {v u : Value} : ∀ (l : List MapEntry) (kv : List (Int × Value)) (j : Nat), l.map (fun e => (e.key, e.val)) = kv.map (fun p => (Value.int .i64 p.1, p.2)) → idxK kv k 0 = some (j, u) →
    (l.modify j fun e => { e with key := .int .i64 k, val := v }).map (fun e => (e.key, e.val)) = (updM kv k v).map fun p => (Value.int .i64 p.1, p.2)
  | [], kv, j, h, hi => by
    have : kv = [] := by simpa using h.symm
    subst this; cases hi
  | e :: l, [], j, h, hi => by cases hi
  | e :: l, (a, u') :: r, j, h, hi => by
    have h0 := h
    simp only [List.map_cons, List.cons.injEq, Prod.mk.injEq] at h
    obtain ⟨⟨h1, h2⟩, h3⟩ := h
    unfold idxK at hi
    unfold updM
    split at hi
    · rename_i e1
      simp only [Option.some.injEq, Prod.mk.injEq] at hi
      obtain ⟨rfl, rfl⟩ := hi
      subst e1
      rw [if_pos rfl]
      simp [h3]
    · rename_i e1
      rw [if_neg e1]
      rw [idxK_shift r k 0 1] at hi
      cases hx : idxK r k 0 with
      | none => rw [hx] at hi; cases hi
      | some p =>
        rw [hx] at hi
        simp only [Option.map_some, Option.some.injEq, Prod.mk.injEq] at hi
        obtain ⟨rfl, rfl⟩ := hi
        have := updM_modify (v := v) l r p.1 h3 (by rw [hx])
        simp only [List.modify_succ_cons, List.map_cons]
        rw [this, h1, h2]
theorem idxK_at : ∀ (kv : List (Int × Value)) (k : Int) (j : Nat) (u : Value), idxK kv k 0 = some (j, u) → kv[j]? = some (k, u)
  | [], _, _, _, h => by cases h
  | (a, v) :: r, k, j, u, h => by
    unfold idxK at h
    split at h
    · rename_i e
      simp only [Option.some.injEq, Prod.mk.injEq] at h
      obtain ⟨rfl, rfl⟩ := h
      subst e; rfl
    · rw [idxK_shift r k 0 1] at h
      cases hx : idxK r k 0 with
      | none => rw [hx] at h; cases h
      | some p =>
        rw [hx] at h
        simp only [Option.map_some, Option.some.injEq, Prod.mk.injEq] at h
        obtain ⟨rfl, rfl⟩ := h
        have := idxK_at r k p.1 p.2 (by rw [hx])
        simpa using this
theorem MapI.set {P : Program} {t kt et : TypeId} (ht : P.underlying t = some (.map kt et)) (hk : P.underlying kt = some (.int .i64)) {w : World} {b : Nat} {kv : List (Int × Value)} (h : MapI w b kv) (k : Int) (v : Value) :
    ∃ w', (Instr.mapUpdate t (.map (some b)) (.int .i64 k) v).run P w = .ok () w' ∧ MapI w' b (updM kv k v) ∧ Fr (fun q => q = b) w w' := by
  have hlt := h.lt
  obtain ⟨es, c, h1, h2⟩ := h.ex
  have hf : Instr.findNow (.int .i64) (.int .i64 k) es.toList 0 = some (idxK kv k 0) := findNow_kv _ _ _ h2
  have hc : ∀ e, (Instr.checkKey e 10000 kt (.int .i64 k)).run P w = .ok () w := fun e => MapKept.run_checkKey (k := .int .i64 k) hk (by simp [MapKept.IsKey]) e 9999
  have fr : ∀ o, Fr (fun q => q = b) w { w with heap := w.heap.setIfInBounds b o } := fun o => ⟨rfl, rfl, rfl, by simp, fun q _ hq => Array.getElem?_setIfInBounds_ne fun e => hq e.symm⟩
  have at_ : ∀ o, (w.heap.setIfInBounds b o)[b]? = some o := fun o => by simp [Array.getElem?_setIfInBounds, hlt]
  cases hx : idxK kv k 0 with
  | none =>
    rw [hx] at hf
    refine ⟨_, ?_, ⟨_, _, at_ (.map (es.push { key := .int .i64 k, val := v, born := c }) (c + 1)), updM_push h2 hx⟩, fr _⟩
    simp [Instr.mapUpdate, underlying_run ht, MapKept.run_getObj_map h1, hc, MapKept.run_findKey hk hf, MapKept.run_setObj_map _ h1]
  | some p =>
    obtain ⟨j, u⟩ := p
    rw [hx] at hf
    have hj : ∃ e, es[j]? = some e ∧ e.key = .int .i64 k := by
      have h4 := idxK_at kv k j u hx
      have h5 : (es.toList.map (fun e => (e.key, e.val)))[j]? = some (.int .i64 k, u) := by rw [h2, List.getElem?_map, h4]; rfl
      rw [List.getElem?_map, Option.map_eq_some_iff] at h5
      obtain ⟨e, he, h6⟩ := h5
      simp only [Prod.mk.injEq] at h6
      exact ⟨e, by simpa using he, h6.1⟩
    obtain ⟨e, he, hke⟩ := hj
    refine ⟨_, ?_, ⟨_, _, at_ (.map (es.modify j fun e => { e with key := .int .i64 k, val := v }) c), ?_⟩, fr _⟩
    · have hs : Instr.sameBits 10000 (.int .i64 k) (.int .i64 k) = true := by simp [Instr.sameBits]
      simp [Instr.mapUpdate, underlying_run ht, MapKept.run_getObj_map h1, hc, MapKept.run_findKey hk hf, MapKept.run_setObj_map _ h1, Instr.keyThatStays, he, hke, hs]
    · rw [Array.toList_modify]
      exact updM_modify es.toList kv j h2 hx
def mapSize (w : World) (b : Nat) : Nat := match w.heap[b]? with | some (.map es _) => es.size | _ => 0
theorem MapI.size {w : World} {b : Nat} {kv : List (Int × Value)} (h : MapI w b kv) : mapSize w b = kv.length := by
  obtain ⟨es, c, h1, h2⟩ := h.ex
  unfold mapSize
  rw [h1]
  have := congrArg List.length h2
  simpa using this
end Go.Proofs.YtmjpnfapjcfejaaDoor.VC
