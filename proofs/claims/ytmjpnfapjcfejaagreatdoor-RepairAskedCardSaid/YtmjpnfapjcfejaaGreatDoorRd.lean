/- Attacks between atoms, and what repairs they cannot change: an atom that nothing attacks can be answered first (Koutris, Wijsen). Of no program. No condition. -/
import Derived.Test.YtmjpnfapjcfejaaGreatDoorMk
import Derived.Test.YtmjpnfapjcfejaaGreatDoorVr
import Derived.Test.YtmjpnfapjcfejaaGreatDoorMs
namespace Go.Proofs.YtmjpnfapjcfejaaGreatDoor
set_option linter.unusedVariables false

def tV (ν : Nat → Int) (x : Int) : Int := if x < 0 then -x else ν x.toNat
def im (ν : Nat → Int) (a : Atm) : Atm := (a.1, a.2.map (tV ν))
theorem tV_nat (ν : Nat → Int) (y : Nat) : tV ν (y : Int) = ν y := by
  unfold tV
  rw [if_neg (by omega), Int.toNat_natCast]
theorem map_tV {μ θ : Nat → Int} {l : List Int} : l.map (tV θ) = l.map (tV μ) ↔ ∀ y : Nat, (y : Int) ∈ l → θ y = μ y := by
  constructor
  · intro h y hy
    have := List.map_inj_left.1 h _ hy
    rwa [tV_nat, tV_nat] at this
  · intro h
    refine List.map_congr_left fun x hx => ?_
    unfold tV
    split
    · rfl
    · exact h _ (by rwa [Int.toNat_of_nonneg (by omega)])
theorem im_eq {μ θ : Nat → Int} {a : Atm} : im θ a = im μ a ↔ ∀ y : Nat, (y : Int) ∈ a.2 → θ y = μ y := by
  unfold im
  rw [Prod.mk.injEq, map_tV]
  exact ⟨fun h => h.2, fun h => ⟨rfl, h⟩⟩
section
variable (kl : Int → Nat)
/-- The key of an atom or of a fact. -/
def kF (a : Atm) : Atm := (a.1, a.2.take (kl a.1))
variable {kl}
theorem kF_rel {a b : Atm} (h : kF kl a = kF kl b) : a.1 = b.1 := (Prod.mk.inj h).1
theorem kF_im {μ θ : Nat → Int} {a : Atm} : kF kl (im θ a) = kF kl (im μ a) ↔ ∀ y : Nat, (y : Int) ∈ (kF kl a).2 → θ y = μ y := by
  unfold kF im
  rw [Prod.mk.injEq, ← List.map_take, ← List.map_take, map_tV]
  exact ⟨fun h => h.2, fun h => ⟨rfl, h⟩⟩
variable (kl)
/-- What the key of F determines by the other atoms; what stands in D has a number already. -/
inductive Pl (atoms : List Atm) (D : Nat → Prop) (F : Atm) : Nat → Prop
  | base {x : Nat} : (x : Int) ∈ (kF kl F).2 → ¬ D x → Pl atoms D F x
  | step {G : Atm} {x : Nat} : G ∈ atoms → G.1 ≠ F.1 → (∀ y : Nat, (y : Int) ∈ (kF kl G).2 → ¬ D y → Pl atoms D F y) → (x : Int) ∈ G.2 → ¬ D x → Pl atoms D F x
/-- The variables that F reaches by those that its key does not determine. -/
inductive RV (atoms : List Atm) (D : Nat → Prop) (F : Atm) : Nat → Prop
  | base {x : Nat} : (x : Int) ∈ F.2 → ¬ D x → ¬ Pl kl atoms D F x → RV atoms D F x
  | step {G : Atm} {x y : Nat} : G ∈ atoms → (y : Int) ∈ G.2 → RV atoms D F y → (x : Int) ∈ G.2 → ¬ D x → ¬ Pl kl atoms D F x → RV atoms D F x
def Att (atoms : List Atm) (D : Nat → Prop) (F G : Atm) : Prop := G.1 ≠ F.1 ∧ ∃ x : Nat, (x : Int) ∈ G.2 ∧ RV kl atoms D F x
/-- No two atoms have the same relation. -/
def PlainA (atoms : List Atm) : Prop := ∀ a ∈ atoms, ∀ b ∈ atoms, a.1 = b.1 → a = b
/-- A repair: of each block one fact. -/
structure Rp (db : List Atm) (r : Atm → Prop) : Prop where
  sub : ∀ a, r a → a ∈ db
  one : ∀ f ∈ db, ∃ g, r g ∧ kF kl g = kF kl f
  uniq : ∀ g g', r g → r g' → kF kl g = kF kl g' → g = g'
def Sat (r : Atm → Prop) (atoms : List Atm) (D : Nat → Prop) (m ν : Nat → Int) : Prop := (∀ x, D x → ν x = m x) ∧ ∀ a ∈ atoms, r (im ν a)
def swp (r : Atm → Prop) (A B : Atm) : Atm → Prop := fun f => (r f ∧ f ≠ A) ∨ f = B
variable {kl} {atoms : List Atm} {D : Nat → Prop} {F G H : Atm} {db : List Atm} {r s : Atm → Prop} {m μ θ : Nat → Int} {A B F0 : Atm}
theorem RV.out {x : Nat} (h : RV kl atoms D F x) : ¬ D x ∧ ¬ Pl kl atoms D F x := by
  cases h with
  | base _ h1 h2 => exact ⟨h1, h2⟩
  | step _ _ _ _ h1 h2 => exact ⟨h1, h2⟩
theorem Rp.swp (hr : Rp kl db r) (hA : r A) (hB : B ∈ db) (hk : kF kl B = kF kl A) : Rp kl db (swp r A B) := by
  refine ⟨fun a ha => ?_, fun f hf => ?_, fun g g' hg hg' he => ?_⟩
  · rcases ha with ha | rfl
    · exact hr.sub a ha.1
    · exact hB
  · obtain ⟨g, h1, h2⟩ := hr.one f hf
    by_cases e : g = A
    · exact ⟨B, .inr rfl, by rw [hk, ← e, h2]⟩
    · exact ⟨g, .inl ⟨h1, e⟩, h2⟩
  · rcases hg with hg | rfl <;> rcases hg' with hg' | rfl
    · exact hr.uniq g g' hg.1 hg'.1 he
    · exact absurd (hr.uniq g A hg.1 hA (he.trans hk)) hg.2
    · exact absurd (hr.uniq g' A hg'.1 hA (he.symm.trans hk)) hg'.2
    · rfl
/-- Another fact of the same block, in the place of one that F uses, gives no variable a new number that F does not reach. -/
theorem frugal (hr : Rp kl db r) (hpl : PlainA atoms) (hF : F ∈ atoms) (hμ : Sat r atoms D m μ) (hA : im μ F = A) (hk : kF kl B = kF kl A) (hθ : Sat (swp r A B) atoms D m θ) : ∃ ν, Sat r atoms D m ν ∧ ∀ x, ¬ RV kl atoms D F x → ν x = θ x := by
  classical
  have hBF : B.1 = F.1 := by rw [kF_rel hk, ← hA]; rfl
  by_cases hB : im θ F = B
  · have hD : ∀ x, D x → θ x = μ x := fun x hx => (hθ.1 x hx).trans (hμ.1 x hx).symm
    have hkey : ∀ y : Nat, (y : Int) ∈ (kF kl F).2 → θ y = μ y := kF_im.1 (by rw [hB, hk, hA])
    have inr : ∀ G ∈ atoms, G.1 ≠ F.1 → r (im θ G) := fun G hG hne => by
      rcases hθ.2 G hG with h | h
      · exact h.1
      · exact absurd ((congrArg Prod.fst h).trans hBF) hne
    have hP : ∀ x, Pl kl atoms D F x → θ x = μ x := fun x hx => by
      induction hx with
      | base h1 _ => exact hkey _ h1
      | @step G x hG hne _ h1 h2 ih =>
        have e : im θ G = im μ G := hr.uniq _ _ (inr G hG hne) (hμ.2 G hG) (kF_im.2 fun y hy => by
          by_cases hDy : D y
          · exact hD y hDy
          · exact ih y hy hDy)
        exact im_eq.1 e x h1
    refine ⟨fun x => if RV kl atoms D F x then μ x else θ x, ⟨fun x hx => ?_, fun G hG => ?_⟩, fun x hx => if_neg hx⟩
    · dsimp only
      split
      · exact hμ.1 x hx
      · exact hθ.1 x hx
    · have toμ : (∀ y : Nat, (y : Int) ∈ G.2 → RV kl atoms D F y ∨ D y ∨ Pl kl atoms D F y) → r (im (fun x => if RV kl atoms D F x then μ x else θ x) G) := fun h => by
        have : im (fun x => if RV kl atoms D F x then μ x else θ x) G = im μ G := im_eq.2 fun y hy => by
          split
          · rfl
          · rename_i hn
            rcases h y hy with h1 | h1 | h1
            · exact absurd h1 hn
            · exact hD y h1
            · exact hP y h1
        rw [this]
        exact hμ.2 G hG
      by_cases hGF : G.1 = F.1
      · have e := hpl G hG F hF hGF
        subst e
        refine toμ fun y hy => ?_
        by_cases h1 : D y
        · exact .inr (.inl h1)
        by_cases h2 : Pl kl atoms D G y
        · exact .inr (.inr h2)
        exact .inl (.base hy h1 h2)
      · by_cases hex : ∃ z : Nat, (z : Int) ∈ G.2 ∧ RV kl atoms D F z
        · obtain ⟨z, hz, hR⟩ := hex
          refine toμ fun y hy => ?_
          by_cases h1 : D y
          · exact .inr (.inl h1)
          by_cases h2 : Pl kl atoms D F y
          · exact .inr (.inr h2)
          exact .inl (.step hG hz hR hy h1 h2)
        · have : im (fun x => if RV kl atoms D F x then μ x else θ x) G = im θ G := im_eq.2 fun y hy => if_neg fun h => hex ⟨y, hy, h⟩
          rw [this]
          exact inr G hG hGF
  · refine ⟨θ, ⟨hθ.1, fun G hG => ?_⟩, fun _ _ => rfl⟩
    rcases hθ.2 G hG with h | h
    · exact h.1
    · exact absurd (hpl G hG F hF ((congrArg Prod.fst h).trans hBF) ▸ h) hB
/-! ## What all repairs share -/
def AnsK (kl : Int → Nat) (atoms : List Atm) (D : Nat → Prop) (m : Nat → Int) (F0 : Atm) (r : Atm → Prop) (k : Atm) : Prop := ∃ θ, Sat r atoms D m θ ∧ kF kl (im θ F0) = k
theorem filter_lt {α : Type} {p q : α → Bool} : ∀ {l : List α}, (∀ x ∈ l, q x = true → p x = true) → (∃ a ∈ l, p a = true ∧ q a = false) → (l.filter q).length < (l.filter p).length
  | [], _, h => by obtain ⟨a, ha, _⟩ := h; cases ha
  | x :: l, hs, h => by
    have hle : ∀ l : List α, (∀ x ∈ l, q x = true → p x = true) → (l.filter q).length ≤ (l.filter p).length := fun l => by
      induction l with
      | nil => intro _; exact Nat.le_refl _
      | cons y l ih =>
        intro hs
        have := ih fun x hx => hs x (List.mem_cons_of_mem _ hx)
        have hy := hs y (List.mem_cons_self ..)
        rw [List.filter_cons, List.filter_cons]
        cases hq : q y with
        | true => rw [if_pos rfl, if_pos (hy hq), List.length_cons, List.length_cons]; omega
        | false =>
          rw [if_neg (by simp)]
          split
          · rw [List.length_cons]; omega
          · exact this
    obtain ⟨a, ha, hp, hq⟩ := h
    rw [List.filter_cons, List.filter_cons]
    rcases List.mem_cons.1 ha with rfl | ha
    · rw [hp, hq, if_pos rfl, if_neg (by simp), List.length_cons]
      have := hle l fun x hx => hs x (List.mem_cons_of_mem _ hx)
      omega
    · have ih := filter_lt (l := l) (fun x hx => hs x (List.mem_cons_of_mem _ hx)) ⟨a, ha, hp, hq⟩
      have hx := hs x (List.mem_cons_self ..)
      cases hqx : q x with
      | true => rw [if_pos rfl, if_pos (hx hqx), List.length_cons, List.length_cons]; omega
      | false =>
        rw [if_neg (by simp)]
        split
        · rw [List.length_cons]; omega
        · exact ih
theorem ans_swp (hr : Rp kl db r) (hpl : PlainA atoms) (hV : ∀ F ∈ atoms, ∀ x : Nat, (x : Int) ∈ (kF kl F0).2 → ¬ RV kl atoms D F x) (hF : F ∈ atoms) (hμ : Sat r atoms D m μ) (hA : im μ F = A) (hk : kF kl B = kF kl A) {k : Atm} (h : AnsK kl atoms D m F0 (swp r A B) k) : AnsK kl atoms D m F0 r k := by
  obtain ⟨θ, hθ, rfl⟩ := h
  obtain ⟨ν, hν, he⟩ := frugal hr hpl hF hμ hA hk hθ
  exact ⟨ν, hν, kF_im.2 fun y hy => he y (hV F hF y hy)⟩
open Classical in
theorem towards (hpl : PlainA atoms) (hV : ∀ F ∈ atoms, ∀ x : Nat, (x : Int) ∈ (kF kl F0).2 → ¬ RV kl atoms D F x) (hs : Rp kl db s) {k : Atm} (hn : ¬ AnsK kl atoms D m F0 s k) : ∀ (n : Nat) (r : Atm → Prop), Rp kl db r → (db.filter fun f => decide (r f ∧ ¬ s f)).length ≤ n → ∃ r', Rp kl db r' ∧ (∀ k', AnsK kl atoms D m F0 r' k' → AnsK kl atoms D m F0 r k') ∧ ¬ AnsK kl atoms D m F0 r' k := by
  intro n
  induction n with
  | zero =>
    intro r hr hc
    refine ⟨r, hr, fun _ h => h, fun ⟨θ, hθ, hk⟩ => hn ⟨θ, ⟨hθ.1, fun a ha => Classical.byContradiction fun hna => ?_⟩, hk⟩⟩
    have hra := hθ.2 a ha
    have : 0 < (db.filter fun f => decide (r f ∧ ¬ s f)).length := List.length_pos_of_mem (List.mem_filter.2 ⟨hr.sub _ hra, decide_eq_true (show r (im θ a) ∧ ¬ s (im θ a) from ⟨hra, hna⟩)⟩)
    omega
  | succ n ih =>
    intro r hr hc
    by_cases hk : AnsK kl atoms D m F0 r k
    · obtain ⟨θ, hθ, hk⟩ := hk
      have hex : ∃ F ∈ atoms, ¬ s (im θ F) := Classical.byContradiction fun h => hn ⟨θ, ⟨hθ.1, fun a ha => Classical.byContradiction fun hna => h ⟨a, ha, hna⟩⟩, hk⟩
      obtain ⟨F, hF, hsF⟩ := hex
      have hrF := hθ.2 F hF
      obtain ⟨B, hsB, hkB⟩ := hs.one _ (hr.sub _ hrF)
      have hr2 := hr.swp hrF (hs.sub _ hsB) hkB
      have hlt : (db.filter fun f => decide (swp r (im θ F) B f ∧ ¬ s f)).length < (db.filter fun f => decide (r f ∧ ¬ s f)).length := by
        refine filter_lt (fun x _ hx => ?_) ⟨im θ F, hr.sub _ hrF, decide_eq_true ⟨hrF, hsF⟩, decide_eq_false fun h => ?_⟩
        · have hx := of_decide_eq_true hx
          refine decide_eq_true ⟨?_, hx.2⟩
          rcases hx.1 with h | h
          · exact h.1
          · exact absurd (h ▸ hsB) hx.2
        · rcases h.1 with h | h
          · exact h.2 rfl
          · exact hsF (h ▸ hsB)
      obtain ⟨r', h1, h2, h3⟩ := ih _ hr2 (by omega)
      exact ⟨r', h1, fun k' hk' => ans_swp hr hpl hV hF hθ rfl hkB (h2 k' hk'), h3⟩
    · exact ⟨r, hr, fun _ h => h, hk⟩
open Classical in
theorem common (hpl : PlainA atoms) (hV : ∀ F ∈ atoms, ∀ x : Nat, (x : Int) ∈ (kF kl F0).2 → ¬ RV kl atoms D F x) (hF0 : F0 ∈ atoms) (hall : ∀ r, Rp kl db r → ∃ θ, Sat r atoms D m θ) (hex : ∃ r, Rp kl db r) : ∃ k, ∀ s, Rp kl db s → AnsK kl atoms D m F0 s k := by
  refine Classical.byContradiction fun hno => ?_
  have hno2 : ∀ k, ∃ s, Rp kl db s ∧ ¬ AnsK kl atoms D m F0 s k := fun k => Classical.byContradiction fun h => hno ⟨k, fun s hs => Classical.byContradiction fun h2 => h ⟨s, hs, h2⟩⟩
  have key : ∀ (n : Nat) (r : Atm → Prop), Rp kl db r → (db.filter fun f => decide (AnsK kl atoms D m F0 r (kF kl f))).length ≤ n → False := by
    intro n
    induction n with
    | zero =>
      intro r hr hc
      obtain ⟨θ, hθ⟩ := hall r hr
      have : 0 < (db.filter fun f => decide (AnsK kl atoms D m F0 r (kF kl f))).length := List.length_pos_of_mem (List.mem_filter.2 ⟨hr.sub _ (hθ.2 F0 hF0), decide_eq_true (show AnsK kl atoms D m F0 r (kF kl (im θ F0)) from ⟨θ, hθ, rfl⟩)⟩)
      omega
    | succ n ih =>
      intro r hr hc
      obtain ⟨θ, hθ⟩ := hall r hr
      obtain ⟨s, hs, hns⟩ := hno2 (kF kl (im θ F0))
      obtain ⟨r', h1, h2, h3⟩ := towards hpl hV hs hns _ r hr (Nat.le_refl _)
      have hlt : (db.filter fun f => decide (AnsK kl atoms D m F0 r' (kF kl f))).length < (db.filter fun f => decide (AnsK kl atoms D m F0 r (kF kl f))).length :=
        filter_lt (fun x _ hx => decide_eq_true (h2 _ (of_decide_eq_true hx))) ⟨im θ F0, hr.sub _ (hθ.2 F0 hF0), decide_eq_true ⟨θ, hθ, rfl⟩, decide_eq_false h3⟩
      exact ih r' h1 (by omega)
  obtain ⟨r, hr⟩ := hex
  exact key _ r hr (Nat.le_refl _)
theorem rep_ex (kl : Int → Nat) (db : List Atm) : ∃ r, Rp kl db r := by
  refine ⟨fun f => f ∈ db ∧ db.find? (fun g => decide (kF kl g = kF kl f)) = some f, fun a h => h.1, fun f hf => ?_, fun g g' h h' e => ?_⟩
  · cases hg : db.find? (fun g => decide (kF kl g = kF kl f)) with
    | none =>
      have := List.find?_eq_none.1 hg f hf
      simp at this
    | some g =>
      have h1 : kF kl g = kF kl f := by simpa using List.find?_some hg
      exact ⟨g, ⟨List.mem_of_find?_eq_some hg, by rw [h1]; exact hg⟩, h1⟩
  · have h1 := h.2
    rw [e, h'.2] at h1
    exact (Option.some.inj h1).symm
def putB (kl : Int → Nat) (s : Atm → Prop) (g : Atm) : Atm → Prop := fun f => (s f ∧ kF kl f ≠ kF kl g) ∨ f = g
theorem Rp.put (hs : Rp kl db s) {g : Atm} (hg : g ∈ db) : Rp kl db (putB kl s g) := by
  refine ⟨fun a ha => ?_, fun f hf => ?_, fun a b ha hb e => ?_⟩
  · rcases ha with ha | rfl
    · exact hs.sub a ha.1
    · exact hg
  · by_cases e : kF kl f = kF kl g
    · exact ⟨g, .inr rfl, e.symm⟩
    · obtain ⟨b, h1, h2⟩ := hs.one f hf
      exact ⟨b, .inl ⟨h1, fun h => e (h2.symm.trans h)⟩, h2⟩
  · rcases ha with ha | rfl <;> rcases hb with hb | rfl
    · exact hs.uniq a b ha.1 hb.1 e
    · exact absurd e ha.2
    · exact absurd e.symm hb.2
    · rfl
/-- Certain: true in every repair. -/
def Cert (kl : Int → Nat) (db atoms : List Atm) (D : Nat → Prop) (m : Nat → Int) : Prop := ∀ r, Rp kl db r → ∃ θ, Sat r atoms D m θ
def varU (D : Nat → Prop) (F0 : Atm) : Nat → Prop := fun x => D x ∨ (x : Int) ∈ F0.2
/-! ## Fewer atoms, more numbers: no new attacks -/
theorem pl_sub {rest : List Atm} (hrest : ∀ a, a ∈ rest ↔ a ∈ atoms ∧ a ≠ F0) {x : Nat} (h : Pl kl atoms D F x) : varU D F0 x ∨ Pl kl rest (varU D F0) F x := by
  induction h with
  | @base x h1 h2 =>
    by_cases hx : varU D F0 x
    · exact .inl hx
    · exact .inr (.base h1 hx)
  | @step G x hG hne _ h1 h2 ih =>
    by_cases hx : varU D F0 x
    · exact .inl hx
    · by_cases e : G = F0
      · exact absurd (.inr (e ▸ h1)) hx
      · refine .inr (.step ((hrest G).2 ⟨hG, e⟩) hne (fun y hy hDy => ?_) h1 hx)
        rcases ih y hy fun h => hDy (.inl h) with h | h
        · exact absurd h hDy
        · exact h
theorem rv_sub {rest : List Atm} (hrest : ∀ a, a ∈ rest ↔ a ∈ atoms ∧ a ≠ F0) {x : Nat} (h : RV kl rest (varU D F0) F x) : RV kl atoms D F x := by
  have np : ∀ {x}, ¬ varU D F0 x → ¬ Pl kl rest (varU D F0) F x → ¬ Pl kl atoms D F x := fun h1 h2 h => (pl_sub hrest h).elim h1 h2
  induction h with
  | base h1 h2 h3 => exact .base h1 (fun h => h2 (.inl h)) (np h2 h3)
  | @step G x y hG hy _ hx h2 h3 ih => exact .step ((hrest G).1 hG).1 hy ih hx (fun h => h2 (.inl h)) (np h2 h3)
theorem att_sub {rest : List Atm} (hrest : ∀ a, a ∈ rest ↔ a ∈ atoms ∧ a ≠ F0) (h : Att kl rest (varU D F0) F G) : Att kl atoms D F G := by
  obtain ⟨h1, x, h2, h3⟩ := h
  exact ⟨h1, x, h2, rv_sub hrest h3⟩
/-- The attacks have no cycle. -/
def Acy (kl : Int → Nat) (atoms : List Atm) (D : Nat → Prop) : Prop := ∃ rk : Int → Nat, ∀ F ∈ atoms, ∀ G ∈ atoms, Att kl atoms D F G → rk F.1 < rk G.1
theorem Acy.sub {rest : List Atm} (hrest : ∀ a, a ∈ rest ↔ a ∈ atoms ∧ a ≠ F0) (h : Acy kl atoms D) : Acy kl rest (varU D F0) := by
  obtain ⟨rk, h⟩ := h
  exact ⟨rk, fun F hF G hG ha => h F ((hrest F).1 hF).1 G ((hrest G).1 hG).1 (att_sub hrest ha)⟩
theorem least_of {α : Type} (f : α → Nat) : ∀ {l : List α}, l ≠ [] → ∃ a ∈ l, ∀ b ∈ l, f a ≤ f b
  | [], h => absurd rfl h
  | [a], _ => ⟨a, List.mem_cons_self .., fun b hb => by rw [List.mem_singleton.1 hb]; exact Nat.le_refl _⟩
  | a :: b :: l, _ => by
    obtain ⟨c, hc, hm⟩ := least_of f (l := b :: l) (by simp)
    by_cases h : f a ≤ f c
    · refine ⟨a, List.mem_cons_self .., fun x hx => ?_⟩
      rcases List.mem_cons.1 hx with rfl | hx
      · exact Nat.le_refl _
      · exact Nat.le_trans h (hm x hx)
    · refine ⟨c, List.mem_cons_of_mem _ hc, fun x hx => ?_⟩
      rcases List.mem_cons.1 hx with rfl | hx
      · omega
      · exact hm x hx
theorem Acy.free (h : Acy kl atoms D) (hne : atoms ≠ []) : ∃ F0 ∈ atoms, ∀ F ∈ atoms, ¬ Att kl atoms D F F0 := by
  obtain ⟨rk, h⟩ := h
  obtain ⟨F0, hF0, hm⟩ := least_of (fun a : Atm => rk a.1) hne
  exact ⟨F0, hF0, fun F hF ha => by have := h F hF F0 hF0 ha; have := hm F hF; omega⟩
/-! ## Three atoms -/
open Classical in
end
end Go.Proofs.YtmjpnfapjcfejaaGreatDoor

/- Rounds that end at a fixed point; sets as numbers: closures, what is reached, attacks. Of no program. No condition. -/
namespace Go.Proofs.YtmjpnfapjcfejaaGreatDoor
open VC
set_option linter.unusedVariables false

/-! ## Rounds -/
def iterF {σ : Type} (f : σ → σ) : Nat → σ → σ
  | 0, s => s
  | k + 1, s => f (iterF f k s)
def roundF {σ ι : Type} (step : ι → σ → σ) (l : List ι) (s : σ) : σ := l.foldl (fun s i => step i s) s
section
variable {σ ι : Type} {step : ι → σ → σ} {μ : σ → Nat} {P : σ → Prop}
end
/-! ## Sets as numbers -/
def bs (a b : Nat) : Prop := ∀ x, a.testBit x = true → b.testBit x = true
theorem bs_refl (a : Nat) : bs a a := fun _ h => h
theorem bs.trans {a b c : Nat} (h : bs a b) (k : bs b c) : bs a c := fun x hx => k x (h x hx)
theorem bs_antisymm {a b : Nat} (h : bs a b) (k : bs b a) : a = b := Nat.eq_of_testBit_eq fun x => by
  rw [Bool.eq_iff_iff]
  exact ⟨h x, k x⟩
theorem bs_or {a b c : Nat} : bs (a ||| b) c ↔ bs a c ∧ bs b c := by
  unfold bs
  simp only [Nat.testBit_or, Bool.or_eq_true]
  exact ⟨fun h => ⟨fun x hx => h x (.inl hx), fun x hx => h x (.inr hx)⟩, fun h x hx => hx.elim (h.1 x) (h.2 x)⟩
theorem bs_left (a b : Nat) : bs a (a ||| b) := (bs_or.1 (bs_refl _)).1
theorem bs_right (a b : Nat) : bs b (a ||| b) := (bs_or.1 (bs_refl _)).2
theorem and_ne_zero {a b : Nat} : a &&& b ≠ 0 ↔ ∃ x, a.testBit x = true ∧ b.testBit x = true := by
  constructor
  · intro h
    refine Classical.byContradiction fun hno => h (Nat.eq_of_testBit_eq fun x => ?_)
    rw [Nat.testBit_and, Nat.zero_testBit, ← Bool.not_eq_true, Bool.and_eq_true]
    exact fun h2 => hno ⟨x, h2⟩
  · rintro ⟨x, h1, h2⟩ h
    have := Nat.testBit_and a b x
    rw [h, Nat.zero_testBit, h1, h2] at this
    cases this
theorem maskOf (p : Nat → Prop) (n : Nat) : ∃ t : Nat, ∀ x, t.testBit x = true ↔ x < n ∧ p x := by
  induction n with
  | zero => exact ⟨0, fun x => by simp⟩
  | succ n ih =>
    obtain ⟨t, ht⟩ := ih
    by_cases h : p n
    · refine ⟨t ||| 2 ^ n, fun x => ?_⟩
      rw [Nat.testBit_or, Bool.or_eq_true, ht, Nat.testBit_two_pow, decide_eq_true_eq]
      constructor
      · rintro (⟨h1, h2⟩ | rfl)
        · exact ⟨by omega, h2⟩
        · exact ⟨by omega, h⟩
      · rintro ⟨h1, h2⟩
        by_cases e : n = x
        · exact .inr e
        · exact .inl ⟨by omega, h2⟩
    · refine ⟨t, fun x => ?_⟩
      rw [ht]
      constructor
      · exact fun h1 => ⟨by omega, h1.2⟩
      · rintro ⟨h1, h2⟩
        refine ⟨?_, h2⟩
        have : x ≠ n := fun e => h (e ▸ h2)
        omega
theorem bit_or_pow {r g i : Nat} : (r ||| 2 ^ g).testBit i = true ↔ r.testBit i = true ∨ i = g := by
  rw [Nat.testBit_or, Bool.or_eq_true, Nat.testBit_two_pow, decide_eq_true_eq]
  exact or_congr_right ⟨Eq.symm, Eq.symm⟩
/-! ## Closures -/
structure IsCl (l : List (Nat × Nat)) (s r : Nat) : Prop where
  sub : bs s r
  cl : ∀ d ∈ l, bs d.1 r → bs d.2 r
  min : ∀ t, bs s t → (∀ d ∈ l, bs d.1 t → bs d.2 t) → bs r t
theorem IsCl.uniq {l : List (Nat × Nat)} {s r r' : Nat} (h : IsCl l s r) (h' : IsCl l s r') : r = r' := bs_antisymm (h.min _ h'.sub h'.cl) (h'.min _ h.sub h.cl)
def stepC (d : Nat × Nat) (s : Nat) : Nat := if nSub d.1 s = 0 then s ||| d.2 else s
def clF (l : List (Nat × Nat)) (s : Nat) : Nat := iterF (roundF stepC l) l.length s
open Classical in
/-! ## What is reached -/
inductive RB (U : Nat → Nat) (n f : Nat) : Nat → Prop
  | base {x : Nat} : (U f).testBit x = true → RB U n f x
  | step {g x y : Nat} : g < n → (U g).testBit y = true → RB U n f y → (U g).testBit x = true → RB U n f x
def Hit (U : Nat → Nat) (n f g : Nat) : Prop := g = f ∨ g < n ∧ ∃ x, (U g).testBit x = true ∧ RB U n f x
/-- The program's way. -/
def stepR (U : Nat → Nat) (g : Nat) (p : Nat × Nat) : Nat × Nat := if U g &&& p.2 ≠ 0 then (p.1 ||| 2 ^ g, p.2 ||| U g) else p
structure RI (U : Nat → Nat) (n f : Nat) (p : Nat × Nat) : Prop where
  s1 : ∀ x, p.2.testBit x = true → RB U n f x
  r1 : ∀ g, p.1.testBit g = true → Hit U n f g
  rs : ∀ g, p.1.testBit g = true → bs (U g) p.2
  f1 : p.1.testBit f = true
theorem RI.step {U : Nat → Nat} {n f g : Nat} {p : Nat × Nat} (hg : g < n) (h : RI U n f p) : RI U n f (stepR U g p) := by
  unfold stepR
  split
  · rename_i h0
    obtain ⟨y, hy, hs⟩ := and_ne_zero.1 h0
    have hRy := h.s1 y hs
    refine ⟨fun x hx => ?_, fun i hi => ?_, fun i hi => ?_, bit_or_pow.2 (.inl h.f1)⟩
    · rw [Nat.testBit_or, Bool.or_eq_true] at hx
      rcases hx with hx | hx
      · exact h.s1 x hx
      · exact .step hg hy hRy hx
    · rcases bit_or_pow.1 hi with hi | rfl
      · exact h.r1 i hi
      · exact .inr ⟨hg, y, hy, hRy⟩
    · rcases bit_or_pow.1 hi with hi | rfl
      · exact (h.rs i hi).trans (bs_left _ _)
      · exact bs_right _ _
  · exact h
def reachN (U : Nat → Nat) (n f : Nat) : Nat := (iterF (roundF (stepR U) (List.range n)) n (2 ^ f, U f)).1
/-! ## Attacks, on sets of variables -/
def depsB (V K : List Nat) (f : Nat) : List (Nat × Nat) := ((List.range V.length).filter fun i => decide (i ≠ f)).map fun i => (K.getD i 0, V.getD i 0)
def plusN (V K : List Nat) (f : Nat) : Nat := clF (depsB V K f) (K.getD f 0)
def UN (V K : List Nat) (f i : Nat) : Nat := nSub (V.getD i 0) (plusN V K f)
/-- f attacks g. -/
def attN (V K : List Nat) (f g : Nat) : Bool := decide (g ≠ f) && (reachN (UN V K f) V.length f).testBit g
section
variable {kl : Int → Nat} {atoms : List Atm} {D : Nat → Prop} {V K : List Nat}
end
end Go.Proofs.YtmjpnfapjcfejaaGreatDoor

/- Blocks and repairs as sets of places, and as sets of facts. Of no program. No condition. -/
namespace Go.Proofs.YtmjpnfapjcfejaaGreatDoor
open VC
set_option linter.unusedVariables false

/-- How many Args of a relation are its key. -/
def klS (s : List Int) (r : Int) : Nat := (s.getD r.toNat 0).toNat
def fact0 : Atm := (0, [])
def fa (L : List Atm) (i : Nat) : Atm := L.getD i fact0
theorem fa_get {L : List Atm} {i : Nat} (h : i < L.length) : fa L i = L[i] := by simp [fa, List.getD, h]
section
variable (kl : Int → Nat) (L : List Atm)
def sameB (i j : Nat) : Bool := decide (kF kl (fa L i) = kF kl (fa L j))
/-- The first fact of the block of fact i. -/
def blkN (i : Nat) : Nat := ((List.range L.length).find? fun j => sameB kl L j i).getD 0
variable {kl L}
theorem sameB_iff {i j : Nat} : sameB kl L i j = true ↔ kF kl (fa L i) = kF kl (fa L j) := decide_eq_true_iff
theorem blk_spec {i : Nat} (hi : i < L.length) : blkN kl L i ≤ i ∧ kF kl (fa L (blkN kl L i)) = kF kl (fa L i) ∧ ∀ j, j < blkN kl L i → kF kl (fa L j) ≠ kF kl (fa L i) := by
  cases h : (List.range L.length).find? fun j => sameB kl L j i with
  | none =>
    have := List.find?_eq_none.1 h i (List.mem_range.2 hi)
    rw [sameB_iff] at this
    exact absurd rfl this
  | some b =>
    have e : blkN kl L i = b := by unfold blkN; rw [h]; rfl
    rw [e]
    obtain ⟨h1, h2⟩ := List.find?_range_eq_some.1 h
    have h2' := h2
    refine ⟨Nat.le_of_not_lt fun hlt => ?_, sameB_iff.1 h1, fun j hj he => ?_⟩
    · have := h2.2 i hlt
      rw [Bool.not_eq_true', ← Bool.not_eq_true, sameB_iff] at this
      exact this rfl
    · have := h2.2 j hj
      rw [Bool.not_eq_true', ← Bool.not_eq_true, sameB_iff] at this
      exact this he
theorem blk_lt {i : Nat} (hi : i < L.length) : blkN kl L i < L.length := Nat.lt_of_le_of_lt (blk_spec hi).1 hi
theorem blk_eq {i j : Nat} (hi : i < L.length) (hj : j < L.length) : blkN kl L i = blkN kl L j ↔ kF kl (fa L i) = kF kl (fa L j) := by
  have si := blk_spec (kl := kl) hi
  have sj := blk_spec (kl := kl) hj
  constructor
  · intro e
    rw [← si.2.1, ← sj.2.1, e]
  · intro e
    rcases Nat.lt_trichotomy (blkN kl L i) (blkN kl L j) with h | h | h
    · exact absurd (si.2.1.trans e) (sj.2.2 _ h)
    · exact h
    · exact absurd (sj.2.1.trans e.symm) (si.2.2 _ h)
theorem blk_blk {i : Nat} (hi : i < L.length) : blkN kl L (blkN kl L i) = blkN kl L i := (blk_eq (blk_lt hi) hi).2 (blk_spec hi).2.1
variable (kl L)
/-- In a set of places: how many stand in the block of i. -/
def inBlk (m i : Nat) : Nat := ((List.range L.length).filter fun j => m.testBit j && sameB kl L i j).length
def repB (m : Nat) : Bool := (List.range L.length).all fun i => decide (inBlk kl L m i = 1)
/-- All repairs, rising. -/
def allR : List Nat := (List.range (2 ^ L.length)).filter (repB kl L)
/-- The facts of a set of places. -/
def ofM (m : Nat) : List Atm := ((List.range L.length).filter m.testBit).map (fa L)
variable {kl L}
theorem mem_ofM {m : Nat} {a : Atm} : a ∈ ofM L m ↔ ∃ i, i < L.length ∧ m.testBit i = true ∧ fa L i = a := by
  unfold ofM
  rw [List.mem_map]
  constructor
  · rintro ⟨i, hi, e⟩
    obtain ⟨h1, h2⟩ := List.mem_filter.1 hi
    exact ⟨i, List.mem_range.1 h1, h2, e⟩
  · rintro ⟨i, h1, h2, e⟩
    exact ⟨i, List.mem_filter.2 ⟨List.mem_range.2 h1, h2⟩, e⟩
theorem fa_mem {i : Nat} (hi : i < L.length) : fa L i ∈ L := by rw [fa_get hi]; exact List.getElem_mem hi
theorem len_one {α : Type} {l : List α} : l.length = 1 ↔ ∃ a, l = [a] := List.length_eq_one_iff
theorem filter_one {n : Nat} {p : Nat → Bool} : ((List.range n).filter p).length = 1 ↔ ∃ i, i < n ∧ p i = true ∧ ∀ j, j < n → p j = true → j = i := by
  constructor
  · intro h
    obtain ⟨a, ha⟩ := len_one.1 h
    have hm : a ∈ (List.range n).filter p := by rw [ha]; exact List.mem_singleton.2 rfl
    obtain ⟨h1, h2⟩ := List.mem_filter.1 hm
    refine ⟨a, List.mem_range.1 h1, h2, fun j hj hp => ?_⟩
    have : j ∈ (List.range n).filter p := List.mem_filter.2 ⟨List.mem_range.2 hj, hp⟩
    rw [ha] at this
    exact List.mem_singleton.1 this
  · rintro ⟨i, hi, hp, hu⟩
    have h3 : ((List.range n).filter p).length ≤ [i].length := sub_len (List.nodup_range.filter _) fun x hx => by
      have := List.mem_filter.1 hx
      rw [hu x (List.mem_range.1 this.1) this.2]
      exact List.mem_singleton.2 rfl
    have h4 := List.length_pos_of_mem (List.mem_filter.2 ⟨List.mem_range.2 hi, hp⟩)
    simp only [List.length_singleton] at h3
    omega
theorem repB_iff {m : Nat} : repB kl L m = true ↔ ∀ i, i < L.length → ∃ j, j < L.length ∧ m.testBit j = true ∧ kF kl (fa L i) = kF kl (fa L j) ∧ ∀ j', j' < L.length → m.testBit j' = true → kF kl (fa L i) = kF kl (fa L j') → j' = j := by
  unfold repB
  rw [List.all_eq_true]
  refine ⟨fun h i hi => ?_, fun h i hi => ?_⟩
  · have := of_decide_eq_true (h i (List.mem_range.2 hi))
    unfold inBlk at this
    obtain ⟨j, h1, h2, h3⟩ := filter_one.1 this
    rw [Bool.and_eq_true, sameB_iff] at h2
    exact ⟨j, h1, h2.1, h2.2, fun j' a b c => h3 j' a (by rw [Bool.and_eq_true, sameB_iff]; exact ⟨b, c⟩)⟩
  · obtain ⟨j, h1, h2, h3, h4⟩ := h i (List.mem_range.1 hi)
    refine decide_eq_true (filter_one.2 ⟨j, h1, by rw [Bool.and_eq_true, sameB_iff]; exact ⟨h2, h3⟩, fun j' a b => ?_⟩)
    rw [Bool.and_eq_true, sameB_iff] at b
    exact h4 j' a b.1 b.2
theorem mem_allR {m : Nat} : m ∈ allR kl L ↔ m < 2 ^ L.length ∧ repB kl L m = true := by
  unfold allR
  rw [List.mem_filter, List.mem_range]
theorem fa_inj (hn : L.Nodup) {i j : Nat} (hi : i < L.length) (hj : j < L.length) (h : fa L i = fa L j) : i = j := by
  rw [fa_get hi, fa_get hj] at h
  exact List.getElem_inj hn |>.1 h
open Classical in
theorem mask_of (hn : L.Nodup) {r : Atm → Prop} (hr : Rp kl L r) : ∃ m ∈ allR kl L, ∀ a, a ∈ ofM L m ↔ r a := by
  obtain ⟨m, hm⟩ := maskOf (fun i => r (fa L i)) L.length
  refine ⟨m, mem_allR.2 ⟨?_, repB_iff.2 fun i hi => ?_⟩, fun a => ?_⟩
  · refine Nat.lt_pow_two_of_testBit _ fun i hi => ?_
    rw [← Bool.not_eq_true, hm]
    omega
  · obtain ⟨g, hg, e⟩ := hr.one _ (fa_mem hi)
    obtain ⟨j, hj, rfl⟩ := List.getElem_of_mem (hr.sub g hg)
    rw [← fa_get hj] at hg e
    refine ⟨j, hj, (hm j).2 ⟨hj, hg⟩, e.symm, fun j' hj' hb he => ?_⟩
    have := ((hm j').1 hb).2
    exact fa_inj hn hj' hj (hr.uniq _ _ this hg (he.symm.trans e.symm))
  · rw [mem_ofM]
    constructor
    · rintro ⟨i, hi, hb, rfl⟩
      exact ((hm i).1 hb).2
    · intro ha
      obtain ⟨i, hi, rfl⟩ := List.getElem_of_mem (hr.sub a ha)
      exact ⟨i, hi, (hm i).2 ⟨hi, by rwa [fa_get hi]⟩, fa_get hi⟩
theorem allR_ne (hn : L.Nodup) : allR kl L ≠ [] := by
  obtain ⟨r, hr⟩ := rep_ex kl L
  obtain ⟨m, hm, _⟩ := mask_of hn hr
  intro e
  rw [e] at hm
  cases hm
theorem Rp.congr {db : List Atm} {r r' : Atm → Prop} (h : Rp kl db r) (e : ∀ a, r a ↔ r' a) : Rp kl db r' := by
  have : r = r' := funext fun a => propext (e a)
  exact this ▸ h
/-- A question without numbers is true in a set of facts. -/
def SatL (b F : List Atm) : Prop := ∃ θ : Nat → Int, ∀ a ∈ b, im θ a ∈ F
/-! ## Strictly rising lists of numbers -/
def Inc (l : List Nat) : Prop := l.Pairwise (· < ·)
theorem inc_uniq : ∀ {l l' : List Nat}, Inc l → Inc l' → (∀ a, a ∈ l ↔ a ∈ l') → l = l'
  | [], [], _, _, _ => rfl
  | [], b :: s, _, _, h => absurd ((h b).2 (List.mem_cons_self ..)) (by simp)
  | a :: r, [], _, _, h => absurd ((h a).1 (List.mem_cons_self ..)) (by simp)
  | a :: r, b :: s, h1, h2, h => by
    obtain ⟨p1, p2⟩ := List.pairwise_cons.1 h1
    obtain ⟨q1, q2⟩ := List.pairwise_cons.1 h2
    have hab : a = b := by
      rcases List.mem_cons.1 ((h a).1 (List.mem_cons_self ..)) with e | hm
      · exact e
      · rcases List.mem_cons.1 ((h b).2 (List.mem_cons_self ..)) with e | hm2
        · exact e.symm
        · have := q1 a hm
          have := p1 b hm2
          omega
    subst hab
    congr 1
    refine inc_uniq p2 q2 fun x => ⟨fun hx => ?_, fun hx => ?_⟩
    · rcases List.mem_cons.1 ((h x).1 (List.mem_cons_of_mem _ hx)) with rfl | h3
      · have := p1 x hx; omega
      · exact h3
    · rcases List.mem_cons.1 ((h x).2 (List.mem_cons_of_mem _ hx)) with rfl | h3
      · have := q1 x hx; omega
      · exact h3
theorem inc_range (n : Nat) : Inc (List.range n) := List.pairwise_lt_range
theorem inc_allR : Inc (allR kl L) := List.Pairwise.sublist (List.filter_sublist ..) (inc_range _)
/-! ## The program's way to all repairs -/
variable (kl L)
/-- The places below k of the block that begins at j. -/
def bmask : Nat → Nat → Nat
  | 0, _ => 0
  | k + 1, j => if blkN kl L k = j then bmask k j ||| 2 ^ k else bmask k j
def kvP (k : Nat) : List (Nat × Nat) := ((List.range k).filter fun i => decide (blkN kl L i = i)).map fun i => (i, bmask kl L k i)
variable {kl L}
theorem bmask_bit : ∀ (k j i : Nat), (bmask kl L k j).testBit i = true ↔ i < k ∧ blkN kl L i = j
  | 0, j, i => by simp [bmask]
  | k + 1, j, i => by
    unfold bmask
    split
    · rename_i h
      rw [bit_or_pow, bmask_bit k j i]
      constructor
      · rintro (⟨h1, h2⟩ | rfl)
        · exact ⟨by omega, h2⟩
        · exact ⟨by omega, h⟩
      · rintro ⟨h1, h2⟩
        by_cases e : i = k
        · exact .inr e
        · exact .inl ⟨by omega, h2⟩
    · rename_i h
      rw [bmask_bit k j i]
      constructor
      · exact fun h1 => ⟨by omega, h1.2⟩
      · rintro ⟨h1, h2⟩
        have : i ≠ k := fun e => h (e ▸ h2)
        exact ⟨by omega, h2⟩
def bitsOf (n s : Nat) : List Nat := (List.range n).filter s.testBit
theorem mem_bitsOf {n s i : Nat} : i ∈ bitsOf n s ↔ i < n ∧ s.testBit i = true := by
  unfold bitsOf
  rw [List.mem_filter, List.mem_range]
/-- One more block. -/
def mulR (n : Nat) (out : List Nat) (s : Nat) : List Nat := out.flatMap fun r => (bitsOf n s).map fun i => r ||| 2 ^ i
def prodR (n : Nat) (sets : List Nat) : List Nat := sets.foldl (mulR n) [0]
theorem prodR_app (n : Nat) (sets : List Nat) (s : Nat) : prodR n (sets ++ [s]) = mulR n (prodR n sets) s := by simp [prodR]
def OneOf (n r s : Nat) : Prop := ∃ i, i < n ∧ r.testBit i = true ∧ s.testBit i = true ∧ ∀ j, j < n → r.testBit j = true → s.testBit j = true → j = i
theorem mem_prodR {n : Nat} : ∀ {sets : List Nat}, sets.Pairwise (fun s t => s &&& t = 0) → (∀ s ∈ sets, s < 2 ^ n) → ∀ r, r ∈ prodR n sets ↔ (∀ i, r.testBit i = true → ∃ s ∈ sets, s.testBit i = true) ∧ ∀ s ∈ sets, OneOf n r s := by
  intro sets
  induction h : sets.length generalizing sets with
  | zero =>
    intro _ _ r
    obtain rfl := List.length_eq_zero_iff.1 h
    simp only [prodR, List.foldl_nil, List.mem_singleton, List.not_mem_nil, false_and, exists_false, imp_false]
    constructor
    · rintro rfl
      exact ⟨fun i => by simp, fun s hs => by cases hs⟩
    · rintro ⟨h1, _⟩
      exact Nat.eq_of_testBit_eq fun i => by
        rw [Nat.zero_testBit, ← Bool.not_eq_true]
        exact h1 i
  | succ k ih =>
    intro hd hb r
    have hne : sets ≠ [] := fun e => by rw [e] at h; cases h
    obtain ⟨l, s, rfl⟩ : ∃ l s, sets = l ++ [s] := ⟨sets.dropLast, sets.getLast hne, (List.dropLast_concat_getLast hne).symm⟩
    obtain ⟨d1, _, d3⟩ := List.pairwise_append.1 hd
    have hb1 : ∀ t ∈ l, t < 2 ^ n := fun t ht => hb t (List.mem_append_left _ ht)
    have hbs := hb s (List.mem_append_right _ (List.mem_singleton.2 rfl))
    have hll : l.length = k := by simpa using h
    have ih := ih hll d1 hb1
    have disj : ∀ t ∈ l, ∀ i, t.testBit i = true → s.testBit i = true → False := fun t ht i h1 h2 => (and_ne_zero.2 ⟨i, h1, h2⟩) (d3 t ht s (List.mem_singleton.2 rfl))
    rw [prodR_app]
    unfold mulR
    rw [List.mem_flatMap]
    constructor
    · rintro ⟨r0, hr0, hm⟩
      obtain ⟨i, hi, rfl⟩ := List.mem_map.1 hm
      obtain ⟨h1, h2⟩ := (ih r0).1 hr0
      obtain ⟨hi1, hi2⟩ := mem_bitsOf.1 hi
      refine ⟨fun j hj => ?_, fun t ht => ?_⟩
      · rcases bit_or_pow.1 hj with hj | rfl
        · obtain ⟨t, ht, hb⟩ := h1 j hj
          exact ⟨t, List.mem_append_left _ ht, hb⟩
        · exact ⟨s, List.mem_append_right _ (List.mem_singleton.2 rfl), hi2⟩
      · rcases List.mem_append.1 ht with ht | ht
        · obtain ⟨j, a1, a2, a3, a4⟩ := h2 t ht
          refine ⟨j, a1, bit_or_pow.2 (.inl a2), a3, fun j' b1 b2 b3 => ?_⟩
          rcases bit_or_pow.1 b2 with b2 | rfl
          · exact a4 j' b1 b2 b3
          · exact (disj t ht _ b3 hi2).elim
        · rw [List.mem_singleton.1 ht]
          refine ⟨i, hi1, bit_or_pow.2 (.inr rfl), hi2, fun j' b1 b2 b3 => ?_⟩
          rcases bit_or_pow.1 b2 with b2 | rfl
          · obtain ⟨t, ht, hb⟩ := h1 j' b2
            exact (disj t ht j' hb b3).elim
          · rfl
    · rintro ⟨h1, h2⟩
      obtain ⟨i, a1, a2, a3, a4⟩ := h2 s (List.mem_append_right _ (List.mem_singleton.2 rfl))
      refine ⟨nSub r (2 ^ i), (ih _).2 ⟨fun j hj => ?_, fun t ht => ?_⟩, List.mem_map.2 ⟨i, mem_bitsOf.2 ⟨a1, a3⟩, ?_⟩⟩
      · rw [nSub_bit, Bool.and_eq_true, Bool.not_eq_true', Nat.testBit_two_pow, decide_eq_false_iff_not] at hj
        obtain ⟨t, ht, hb⟩ := h1 j hj.1
        rcases List.mem_append.1 ht with ht | ht
        · exact ⟨t, ht, hb⟩
        · rw [List.mem_singleton.1 ht] at hb
          have hjn : j < n := bit_lt hbs hb
          exact absurd (a4 j hjn hj.1 hb).symm hj.2
      · obtain ⟨j, b1, b2, b3, b4⟩ := h2 t (List.mem_append_left _ ht)
        refine ⟨j, b1, ?_, b3, fun j' c1 c2 c3 => ?_⟩
        · rw [nSub_bit, b2, Nat.testBit_two_pow, decide_eq_false]
          · rfl
          · rintro rfl
            exact disj t ht _ b3 a3
        · rw [nSub_bit, Bool.and_eq_true] at c2
          exact b4 j' c1 c2.1 c3
      · refine Nat.eq_of_testBit_eq fun j => ?_
        rw [Bool.eq_iff_iff, bit_or_pow, nSub_bit, Bool.and_eq_true, Bool.not_eq_true', Nat.testBit_two_pow, decide_eq_false_iff_not]
        constructor
        · rintro (h | rfl)
          · exact h.1
          · exact a2
        · intro hj
          by_cases e : i = j
          · exact .inr e.symm
          · exact .inl ⟨hj, e⟩
theorem nodup_prodR {n : Nat} : ∀ {sets : List Nat}, sets.Pairwise (fun s t => s &&& t = 0) → (∀ s ∈ sets, s < 2 ^ n) → (prodR n sets).Nodup := by
  intro sets
  induction h : sets.length generalizing sets with
  | zero =>
    intro _ _
    obtain rfl := List.length_eq_zero_iff.1 h
    simp [prodR]
  | succ k ih =>
    intro hd hb
    have hne : sets ≠ [] := fun e => by rw [e] at h; cases h
    obtain ⟨l, s, rfl⟩ : ∃ l s, sets = l ++ [s] := ⟨sets.dropLast, sets.getLast hne, (List.dropLast_concat_getLast hne).symm⟩
    obtain ⟨d1, _, d3⟩ := List.pairwise_append.1 hd
    have hb1 : ∀ t ∈ l, t < 2 ^ n := fun t ht => hb t (List.mem_append_left _ ht)
    have hll : l.length = k := by simpa using h
    have ih := ih hll d1 hb1
    have disj : ∀ t ∈ l, ∀ i, t.testBit i = true → s.testBit i = true → False := fun t ht i h1 h2 => (and_ne_zero.2 ⟨i, h1, h2⟩) (d3 t ht s (List.mem_singleton.2 rfl))
    have no : ∀ r ∈ prodR n l, ∀ i, r.testBit i = true → s.testBit i = true → False := fun r hr i h1 h2 => by
      obtain ⟨t, ht, hb⟩ := ((mem_prodR d1 hb1 r).1 hr).1 i h1
      exact disj t ht i hb h2
    rw [prodR_app]
    unfold mulR
    refine List.pairwise_flatMap.2 ⟨fun r hr => ?_, ih.imp_of_mem fun {r r'} hr hr' hne => ?_⟩
    · refine List.pairwise_map.2 ((List.nodup_range.filter _ : (bitsOf n s).Nodup).imp_of_mem fun {i j} hi hj hij e => hij ?_)
      have hi2 := (mem_bitsOf.1 hi).2
      have : (r ||| 2 ^ j).testBit i = true := by rw [← e]; exact bit_or_pow.2 (.inr rfl)
      rcases bit_or_pow.1 this with h | h
      · exact (no r hr i h hi2).elim
      · exact h
    · intro x hx y hx' exy
      subst exy
      obtain ⟨i, hi, rfl⟩ := List.mem_map.1 hx
      obtain ⟨j, hj, e⟩ := List.mem_map.1 hx'
      refine hne (Nat.eq_of_testBit_eq fun b => ?_)
      rw [Bool.eq_iff_iff]
      have key : ∀ b, s.testBit b = true → (r.testBit b = false ∧ r'.testBit b = false) := fun b hb => ⟨by rw [← Bool.not_eq_true]; exact fun h => no r hr b h hb, by rw [← Bool.not_eq_true]; exact fun h => no r' hr' b h hb⟩
      have hi2 := (mem_bitsOf.1 hi).2
      have hj2 := (mem_bitsOf.1 hj).2
      constructor
      · intro hb
        have : (r' ||| 2 ^ j).testBit b = true := by rw [e]; exact bit_or_pow.2 (.inl hb)
        rcases bit_or_pow.1 this with h | rfl
        · exact h
        · rw [(key _ hj2).1] at hb; cases hb
      · intro hb
        have : (r ||| 2 ^ i).testBit b = true := by rw [← e]; exact bit_or_pow.2 (.inl hb)
        rcases bit_or_pow.1 this with h | rfl
        · exact h
        · rw [(key _ hi2).2] at hb; cases hb
/-- The sets of all blocks, in any order: all repairs. -/
theorem prod_all {sets : List Nat} (hp : sets.Perm ((kvP kl L L.length).map Prod.snd)) : (prodR L.length sets).Nodup ∧ ∀ r, r ∈ prodR L.length sets ↔ r ∈ allR kl L := by
  have hset : ∀ s, s ∈ sets ↔ ∃ j, j < L.length ∧ blkN kl L j = j ∧ s = bmask kl L L.length j := fun s => by
    rw [hp.mem_iff, List.mem_map]
    unfold kvP
    constructor
    · rintro ⟨p, hp, rfl⟩
      obtain ⟨j, hj, rfl⟩ := List.mem_map.1 hp
      obtain ⟨h1, h2⟩ := List.mem_filter.1 hj
      exact ⟨j, List.mem_range.1 h1, of_decide_eq_true h2, rfl⟩
    · rintro ⟨j, h1, h2, rfl⟩
      exact ⟨_, List.mem_map.2 ⟨j, List.mem_filter.2 ⟨List.mem_range.2 h1, decide_eq_true h2⟩, rfl⟩, rfl⟩
  have hd : sets.Pairwise fun s t => s &&& t = 0 := by
    refine (hp.pairwise_iff (fun {a b} h => by rw [Nat.and_comm]; exact h)).2 ?_
    unfold kvP
    rw [List.map_map, List.pairwise_map]
    refine List.Pairwise.imp_of_mem (R := fun a b => a ≠ b) (fun {a b} _ _ hab => ?_) (List.nodup_range.filter _)
    refine Classical.byContradiction fun h0 => ?_
    obtain ⟨x, h1, h2⟩ := and_ne_zero.1 h0
    have h1 := (bmask_bit _ _ _).1 h1
    have h2 := (bmask_bit _ _ _).1 h2
    exact hab (h1.2.symm.trans h2.2)
  have hb : ∀ s ∈ sets, s < 2 ^ L.length := fun s hs => by
    obtain ⟨j, _, _, rfl⟩ := (hset s).1 hs
    refine Nat.lt_pow_two_of_testBit _ fun i hi => ?_
    rw [← Bool.not_eq_true, bmask_bit]
    omega
  refine ⟨nodup_prodR hd hb, fun r => ?_⟩
  rw [mem_prodR hd hb, mem_allR, repB_iff]
  constructor
  · rintro ⟨h1, h2⟩
    refine ⟨Nat.lt_pow_two_of_testBit _ fun i hi => ?_, fun i hi => ?_⟩
    · rw [← Bool.not_eq_true]
      intro hbit
      obtain ⟨s, hs, h3⟩ := h1 i hbit
      have := bit_lt (hb s hs) h3
      omega
    · obtain ⟨j, a1, a2, a3, a4⟩ := h2 _ ((hset _).2 ⟨blkN kl L i, blk_lt hi, blk_blk hi, rfl⟩)
      have e := ((bmask_bit _ _ _).1 a3).2
      refine ⟨j, a1, a2, (blk_eq hi a1).1 e.symm, fun j' b1 b2 b3 => a4 j' b1 b2 ((bmask_bit _ _ _).2 ⟨b1, ((blk_eq hi b1).2 b3).symm⟩)⟩
  · rintro ⟨h1, h2⟩
    refine ⟨fun i hi => ?_, fun s hs => ?_⟩
    · have hil : i < L.length := bit_lt h1 hi
      exact ⟨_, (hset _).2 ⟨blkN kl L i, blk_lt hil, blk_blk hil, rfl⟩, (bmask_bit _ _ _).2 ⟨hil, rfl⟩⟩
    · obtain ⟨b, hbl, hbb, rfl⟩ := (hset s).1 hs
      obtain ⟨j, a1, a2, a3, a4⟩ := h2 b hbl
      refine ⟨j, a1, a2, (bmask_bit _ _ _).2 ⟨a1, by rw [← (blk_eq hbl a1).2 a3, hbb]⟩, fun j' b1 b2 b3 => a4 j' b1 b2 ?_⟩
      have := ((bmask_bit _ _ _).1 b3).2
      exact (blk_eq hbl b1).1 (hbb.trans this.symm)
end
end Go.Proofs.YtmjpnfapjcfejaaGreatDoor

/- Valid books: a schema, and facts without doubles. Of no program. No condition. -/
namespace Go.Proofs.YtmjpnfapjcfejaaGreatDoor
open VC
set_option linter.unusedSimpArgs false
set_option linter.unusedVariables false

/-! ## Valid books -/
def okS (s : List Int) : Bool := decide (s.length = 6) && s.all fun x => decide (0 ≤ x) && decide (x ≤ 3)
/-- Of one relation all facts have as many Args, and no two are the same. -/
def okP : List Atm → Bool
  | [] => true
  | f :: r => r.all (fun g => !decide (f.1 = g.1) || (decide (f.2.length = g.2.length) && !decide (f.2 = g.2))) && okP r
def okR (s : List Int) (L : List Atm) : Bool := okS s && decide (L.length ≤ 12) && L.all okF && okP L
theorem okP_iff {L : List Atm} : okP L = true ↔ L.Pairwise fun f g => f.1 = g.1 → f.2.length = g.2.length ∧ f.2 ≠ g.2 := by
  induction L with
  | nil => simp [okP]
  | cons f r ih =>
    rw [okP, Bool.and_eq_true, ih, List.pairwise_cons, List.all_eq_true]
    refine and_congr_left fun _ => ?_
    refine forall_congr' fun g => forall_congr' fun _ => ?_
    by_cases h : f.1 = g.1
    · simp [h]
    · simp [h]
theorem okR_out {s : List Int} {L : List Atm} (h : okR s L = true) : okS s = true ∧ L.length ≤ 12 ∧ okFs L = true ∧ L.Nodup ∧ ∀ f ∈ L, ∀ g ∈ L, f.1 = g.1 → f.2.length = g.2.length := by
  simp only [okR, Bool.and_eq_true, decide_eq_true_eq] at h
  obtain ⟨⟨⟨h1, h2⟩, h3⟩, h4⟩ := h
  have hp := okP_iff.1 h4
  refine ⟨h1, h2, ?_, ?_, ?_⟩
  · simp only [okFs, Bool.and_eq_true, decide_eq_true_eq]
    exact ⟨by omega, h3⟩
  · exact hp.imp fun {a b} hab e => by subst e; exact (hab rfl).2 rfl
  · intro f hf g hg e
    have sym : L.Pairwise fun f g => f.1 = g.1 → f.2.length = g.2.length := hp.imp fun h e => (h e).1
    obtain ⟨i, hi, rfl⟩ := List.getElem_of_mem hf
    obtain ⟨j, hj, rfl⟩ := List.getElem_of_mem hg
    rcases Nat.lt_trichotomy i j with h | h | h
    · exact List.pairwise_iff_getElem.1 sym i j hi hj h e
    · subst h; rfl
    · exact (List.pairwise_iff_getElem.1 sym j i hj hi h e.symm).symm
theorem okS_out {s : List Int} (h : okS s = true) : s.length = 6 ∧ ∀ x ∈ s, 0 ≤ x ∧ x ≤ 3 := by
  simpa [okS, List.all_eq_true] using h
theorem okS_tr (s : List Int) : okS (s.take 9) = okS s := by
  rcases Nat.lt_or_ge s.length 10 with h | h
  · rw [List.take_of_length_le (by omega)]
  · have h1 : (s.take 9).length = 9 := by simp; omega
    unfold okS
    rw [h1, decide_eq_false (by omega), decide_eq_false (by omega)]
    simp
theorem okS_take {s : List Int} (h : okS s = true) : s.take 9 = s := List.take_of_length_le (by have := (okS_out h).1; omega)
theorem okF_trA (a : Atm) : okF (trA a) = okF a := by
  rcases Nat.lt_or_ge a.2.length 10 with h | h
  · rw [trA_id (by omega)]
  · have h1 : (trA a).2.length = 9 := by simp [trA]; omega
    unfold okF
    rw [h1]
    have e1 : decide (9 ≤ 3) = false := rfl
    have e2 : decide (a.2.length ≤ 3) = false := decide_eq_false (by omega)
    rw [e1, e2]
    simp
theorem okR_tr (s : List Int) (L : List Atm) : okR (s.take 9) (trF L) = okR s L := by
  unfold okR
  rw [okS_tr]
  by_cases hl : L.length ≤ 12
  · by_cases hf : L.all okF = true
    · have : trF L = L := trF_of (by simp only [okFs, Bool.and_eq_true, decide_eq_true_eq]; exact ⟨by omega, hf⟩)
      rw [this]
    · have e1 : trF L = L.map trA := by unfold trF; rw [List.take_of_length_le (by omega)]
      have e2 : (trF L).all okF = false := by
        rw [e1, List.all_map, ← Bool.not_eq_true]
        intro h
        apply hf
        rw [List.all_eq_true] at h ⊢
        intro a ha
        rw [← okF_trA]
        exact h a ha
      have hf' : L.all okF = false := by simpa using hf
      rw [e2, hf']
      simp
  · have e1 : decide (L.length ≤ 12) = false := decide_eq_false hl
    have e2 : decide ((trF L).length ≤ 12) = false := decide_eq_false (by unfold trF; rw [List.length_map, List.length_take]; omega)
    rw [e1, e2]
    simp
theorem okR_trF {s : List Int} {L : List Atm} (h : okR s L = true) : trF L = L ∧ s.take 9 = s := ⟨trF_of (okR_out h).2.2.1, okS_take (okR_out h).1⟩
end Go.Proofs.YtmjpnfapjcfejaaGreatDoor

/- Queries in the facts of repairs. Of no program. No condition. -/
namespace Go.Proofs.YtmjpnfapjcfejaaGreatDoor
open VC
set_option linter.unusedSimpArgs false
set_option linter.unusedVariables false

theorem imgA_im (m : Vals) (a : Atm) : imgA m a = im (fun i => m.getD i 0) a := rfl
/-- A match, as a choice of a number for each variable. -/
theorem isM_sat {F b : List Atm} (hF : PosF F) (hb : ∀ a ∈ b, TermA a) : (∃ m, IsM F b m) ↔ SatL b F := by
  constructor
  · rintro ⟨m, hm⟩
    exact ⟨fun i => m.getD i 0, fun a ha => hm.hit a ha⟩
  · rintro ⟨θ, hθ⟩
    have hg : ∀ i, i < 8 → ((List.range 8).map fun i : Nat => if (i : Int) ∈ b.flatMap Prod.snd then θ i else 0).getD i 0 = if (i : Int) ∈ b.flatMap Prod.snd then θ i else 0 := fun i hi => by
      rw [List.getD, List.getElem?_map, List.getElem?_range hi]
      rfl
    have hi8 : ∀ a ∈ b, ∀ i : Nat, (i : Int) ∈ a.2 → i < 8 := fun a ha i hi => by have := (hb a ha _ hi).2; omega
    have hpos : ∀ a ∈ b, ∀ i : Nat, (i : Int) ∈ a.2 → 1 ≤ θ i := fun a ha i hi => by
      have h1 := hF _ (hθ a ha) (tV θ (i : Int)) (List.mem_map.2 ⟨_, hi, rfl⟩)
      rwa [tV_nat] at h1
    refine ⟨(List.range 8).map fun i : Nat => if (i : Int) ∈ b.flatMap Prod.snd then θ i else 0, by simp, fun i hi => ?_, fun a ha => ?_⟩
    · rw [hg i hi]
      split
      · rename_i h
        obtain ⟨a, ha, hx⟩ := List.mem_flatMap.1 h
        have := hpos a ha i hx
        exact ⟨fun _ => h, fun _ => by omega⟩
      · rename_i h
        exact ⟨fun h2 => absurd rfl h2, fun h2 => absurd h2 h⟩
    · have : imgA ((List.range 8).map fun i : Nat => if (i : Int) ∈ b.flatMap Prod.snd then θ i else 0) a = im θ a := by
        rw [imgA_im]
        refine im_eq.2 fun i hi => ?_
        rw [hg i (hi8 a ha i hi), if_pos (List.mem_flatMap.2 ⟨a, ha, hi⟩)]
      rw [this]
      exact hθ a ha
theorem allM_sat {F b : List Atm} (hF : PosF F) (hb : ∀ a ∈ b, TermA a) : (allM (srtF F) b).length ≠ 0 ↔ SatL b F := by
  rw [← isM_sat hF hb]
  constructor
  · intro h
    obtain ⟨m, hm⟩ := List.exists_mem_of_length_pos (Nat.pos_of_ne_zero h)
    exact ⟨m, ((mem_allM (srtF_pos hF) hb).1 hm).sub fun a _ h => (mem_srt key_A).1 h⟩
  · rintro ⟨m, hm⟩
    have := List.length_pos_of_mem ((mem_allM (srtF_pos hF) hb).2 (hm.sub fun a _ h => (mem_srt key_A).2 h))
    omega
/-- Fewer facts never are too many. -/
theorem runF_sub {F G b : List Atm} (hF : PosF F) (hb : ∀ a ∈ b, TermA a) (hs : ∀ a ∈ G, a ∈ F) {l : List Vals} (h : runF F b = some l) : runF G b = some (allM (srtF G) b) := by
  have hG : PosF G := fun a ha => hF a (hs a ha)
  obtain ⟨_, hk⟩ := runF_some.1 h
  refine runF_some.2 ⟨rfl, fun k h1 h2 => ?_⟩
  have hb' : ∀ a ∈ b.take k, TermA a := fun a ha => hb a (List.mem_of_mem_take ha)
  refine Nat.le_trans (sub_len (allM_st (srtF_pos hG) (srtF_nodup G) hb').nodup fun m hm => ?_) (hk k h1 h2)
  rw [mem_allM (srtF_pos hG) hb'] at hm
  rw [mem_allM (srtF_pos hF) hb']
  exact hm.sub fun a _ h => (mem_srt key_A).2 (hs _ ((mem_srt key_A).1 h))
theorem ofM_sub {L : List Atm} {m : Nat} {a : Atm} (h : a ∈ ofM L m) : a ∈ L := by
  obtain ⟨i, hi, _, rfl⟩ := mem_ofM.1 h
  exact fa_mem hi
theorem ofM_len (L : List Atm) (m : Nat) : (ofM L m).length ≤ L.length := by
  unfold ofM
  rw [List.length_map]
  have := List.length_filter_le m.testBit (List.range L.length)
  rwa [List.length_range] at this
theorem okFs_ofM {L : List Atm} (h : okFs L = true) (m : Nat) : okFs (ofM L m) = true := by
  simp only [okFs, Bool.and_eq_true, List.all_eq_true, decide_eq_true_eq] at h ⊢
  exact ⟨Nat.le_trans (ofM_len L m) h.1, fun a ha => h.2 a (ofM_sub ha)⟩
/-- In a repair a query that can be counted in all facts can be counted. -/
theorem askO_ofM {h : List Int} {b L : List Atm} (h0 : (askO h b L).1 = 0) (m : Nat) : askO h b (ofM L m) = (0, allM (srtF (ofM L m)) b) := by
  obtain ⟨h1, h2, h3⟩ := askO_ok h0
  unfold askO
  rw [if_pos (by rw [h1, okFs_ofM h2]; rfl), runF_sub (okF_pos h2) (okB_term h1) (fun a ha => ofM_sub ha) h3]
theorem resO_ofM {h : List Int} {b L : List Atm} (h0 : (askO h b L).1 = 0) (m : Nat) : resO h b (ofM L m) = (0, rowsOf h (allM (srtF (ofM L m)) b)) := by
  obtain ⟨h1, h2, h3⟩ := askO_ok h0
  unfold resO
  rw [if_pos (by rw [h1, okFs_ofM h2]; rfl), runF_sub (okF_pos h2) (okB_term h1) (fun a ha => ofM_sub ha) h3]
/-- How many matches a query has in a repair. -/
def cntM (b L : List Atm) (m : Nat) : Nat := (allM (srtF (ofM L m)) b).length
theorem cntM_sat {h : List Int} {b L : List Atm} (hq : okQ h b = true) (hl : okFs L = true) (m : Nat) : cntM b L m ≠ 0 ↔ SatL b (ofM L m) := allM_sat (okF_pos (okFs_ofM hl m)) (okB_term hq)
def rowM (h : List Int) (b L : List Atm) (m : Nat) : List (List Int) := rowsOf h (allM (srtF (ofM L m)) b)
end Go.Proofs.YtmjpnfapjcfejaaGreatDoor
