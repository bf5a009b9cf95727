/- Attacks between atoms, and what repairs they cannot change: an atom that nothing attacks can be answered first (Koutris, Wijsen). Of no program. No condition. -/
import Derived.Test.YtmjpnfapjcfejaaGreatDoorMk
import Derived.Test.YtmjpnfapjcfejaaGreatDoorVr
namespace Go.Proofs.YtmjpnfapjcfejaaGreatDoor
set_option linter.unusedVariables false

def tV (ν : Nat → Int) (x : Int) : Int := if x < 0 then -x else ν x.toNat
def im (ν : Nat → Int) (a : Atm) : Atm := (a.1, a.2.map (tV ν))
theorem tV_nat (ν : Nat → Int) (y : Nat) : tV ν (y : Int) = ν y := by
  unfold tV
  rw [if_neg (by omega), Int.toNat_natCast]
theorem map_tV {μ θ : Nat → Int} {l : List Int} : l.map (tV θ) = l.map (tV μ) ↔ ∀ y : Nat, (y : Int) ∈ l → θ y = μ y := by
  constructor
  · intro h y hy
    have := List.map_inj_left.1 h _ hy
    rwa [tV_nat, tV_nat] at this
  · intro h
    refine List.map_congr_left fun x hx => ?_
    unfold tV
    split
    · rfl
    · exact h _ (by rwa [Int.toNat_of_nonneg (by omega)])
theorem im_eq {μ θ : Nat → Int} {a : Atm} : im θ a = im μ a ↔ ∀ y : Nat, (y : Int) ∈ a.2 → θ y = μ y := by
  unfold im
  rw [Prod.mk.injEq, map_tV]
  exact ⟨fun h => h.2, fun h => ⟨rfl, h⟩⟩
section
variable (kl : Int → Nat)
/-- The key of an atom or of a fact. -/
def kF (a : Atm) : Atm := (a.1, a.2.take (kl a.1))
variable {kl}
theorem kF_rel {a b : Atm} (h : kF kl a = kF kl b) : a.1 = b.1 := (Prod.mk.inj h).1
theorem kF_sub {a : Atm} {y : Int} (h : y ∈ (kF kl a).2) : y ∈ a.2 := List.mem_of_mem_take h
theorem kF_im {μ θ : Nat → Int} {a : Atm} : kF kl (im θ a) = kF kl (im μ a) ↔ ∀ y : Nat, (y : Int) ∈ (kF kl a).2 → θ y = μ y := by
  unfold kF im
  rw [Prod.mk.injEq, ← List.map_take, ← List.map_take, map_tV]
  exact ⟨fun h => h.2, fun h => ⟨rfl, h⟩⟩
variable (kl)
/-- What the key of F determines by the other atoms; what stands in D has a number already. -/
inductive Pl (atoms : List Atm) (D : Nat → Prop) (F : Atm) : Nat → Prop
  | base {x : Nat} : (x : Int) ∈ (kF kl F).2 → ¬ D x → Pl atoms D F x
  | step {G : Atm} {x : Nat} : G ∈ atoms → G.1 ≠ F.1 → (∀ y : Nat, (y : Int) ∈ (kF kl G).2 → ¬ D y → Pl atoms D F y) → (x : Int) ∈ G.2 → ¬ D x → Pl atoms D F x
/-- The variables that F reaches by those that its key does not determine. -/
inductive RV (atoms : List Atm) (D : Nat → Prop) (F : Atm) : Nat → Prop
  | base {x : Nat} : (x : Int) ∈ F.2 → ¬ D x → ¬ Pl kl atoms D F x → RV atoms D F x
  | step {G : Atm} {x y : Nat} : G ∈ atoms → (y : Int) ∈ G.2 → RV atoms D F y → (x : Int) ∈ G.2 → ¬ D x → ¬ Pl kl atoms D F x → RV atoms D F x
def Att (atoms : List Atm) (D : Nat → Prop) (F G : Atm) : Prop := G.1 ≠ F.1 ∧ ∃ x : Nat, (x : Int) ∈ G.2 ∧ RV kl atoms D F x
/-- No two atoms have the same relation. -/
def PlainA (atoms : List Atm) : Prop := ∀ a ∈ atoms, ∀ b ∈ atoms, a.1 = b.1 → a = b
/-- A repair: of each block one fact. -/
structure Rp (db : List Atm) (r : Atm → Prop) : Prop where
  sub : ∀ a, r a → a ∈ db
  one : ∀ f ∈ db, ∃ g, r g ∧ kF kl g = kF kl f
  uniq : ∀ g g', r g → r g' → kF kl g = kF kl g' → g = g'
def Sat (r : Atm → Prop) (atoms : List Atm) (D : Nat → Prop) (m ν : Nat → Int) : Prop := (∀ x, D x → ν x = m x) ∧ ∀ a ∈ atoms, r (im ν a)
def swp (r : Atm → Prop) (A B : Atm) : Atm → Prop := fun f => (r f ∧ f ≠ A) ∨ f = B
variable {kl} {atoms : List Atm} {D : Nat → Prop} {F G H : Atm} {db : List Atm} {r s : Atm → Prop} {m μ θ : Nat → Int} {A B F0 : Atm}
theorem RV.out {x : Nat} (h : RV kl atoms D F x) : ¬ D x ∧ ¬ Pl kl atoms D F x := by
  cases h with
  | base _ h1 h2 => exact ⟨h1, h2⟩
  | step _ _ _ _ h1 h2 => exact ⟨h1, h2⟩
theorem Rp.swp (hr : Rp kl db r) (hA : r A) (hB : B ∈ db) (hk : kF kl B = kF kl A) : Rp kl db (swp r A B) := by
  refine ⟨fun a ha => ?_, fun f hf => ?_, fun g g' hg hg' he => ?_⟩
  · rcases ha with ha | rfl
    · exact hr.sub a ha.1
    · exact hB
  · obtain ⟨g, h1, h2⟩ := hr.one f hf
    by_cases e : g = A
    · exact ⟨B, .inr rfl, by rw [hk, ← e, h2]⟩
    · exact ⟨g, .inl ⟨h1, e⟩, h2⟩
  · rcases hg with hg | rfl <;> rcases hg' with hg' | rfl
    · exact hr.uniq g g' hg.1 hg'.1 he
    · exact absurd (hr.uniq g A hg.1 hA (he.trans hk)) hg.2
    · exact absurd (hr.uniq g' A hg'.1 hA (he.symm.trans hk)) hg'.2
    · rfl
/-- Another fact of the same block, in the place of one that F uses, gives no variable a new number that F does not reach. -/
theorem frugal (hr : Rp kl db r) (hpl : PlainA atoms) (hF : F ∈ atoms) (hμ : Sat r atoms D m μ) (hA : im μ F = A) (hk : kF kl B = kF kl A) (hθ : Sat (swp r A B) atoms D m θ) : ∃ ν, Sat r atoms D m ν ∧ ∀ x, ¬ RV kl atoms D F x → ν x = θ x := by
  classical
  have hBF : B.1 = F.1 := by rw [kF_rel hk, ← hA]; rfl
  by_cases hB : im θ F = B
  · have hD : ∀ x, D x → θ x = μ x := fun x hx => (hθ.1 x hx).trans (hμ.1 x hx).symm
    have hkey : ∀ y : Nat, (y : Int) ∈ (kF kl F).2 → θ y = μ y := kF_im.1 (by rw [hB, hk, hA])
    have inr : ∀ G ∈ atoms, G.1 ≠ F.1 → r (im θ G) := fun G hG hne => by
      rcases hθ.2 G hG with h | h
      · exact h.1
      · exact absurd ((congrArg Prod.fst h).trans hBF) hne
    have hP : ∀ x, Pl kl atoms D F x → θ x = μ x := fun x hx => by
      induction hx with
      | base h1 _ => exact hkey _ h1
      | @step G x hG hne _ h1 h2 ih =>
        have e : im θ G = im μ G := hr.uniq _ _ (inr G hG hne) (hμ.2 G hG) (kF_im.2 fun y hy => by
          by_cases hDy : D y
          · exact hD y hDy
          · exact ih y hy hDy)
        exact im_eq.1 e x h1
    refine ⟨fun x => if RV kl atoms D F x then μ x else θ x, ⟨fun x hx => ?_, fun G hG => ?_⟩, fun x hx => if_neg hx⟩
    · dsimp only
      split
      · exact hμ.1 x hx
      · exact hθ.1 x hx
    · have toμ : (∀ y : Nat, (y : Int) ∈ G.2 → RV kl atoms D F y ∨ D y ∨ Pl kl atoms D F y) → r (im (fun x => if RV kl atoms D F x then μ x else θ x) G) := fun h => by
        have : im (fun x => if RV kl atoms D F x then μ x else θ x) G = im μ G := im_eq.2 fun y hy => by
          split
          · rfl
          · rename_i hn
            rcases h y hy with h1 | h1 | h1
            · exact absurd h1 hn
            · exact hD y h1
            · exact hP y h1
        rw [this]
        exact hμ.2 G hG
      by_cases hGF : G.1 = F.1
      · have e := hpl G hG F hF hGF
        subst e
        refine toμ fun y hy => ?_
        by_cases h1 : D y
        · exact .inr (.inl h1)
        by_cases h2 : Pl kl atoms D G y
        · exact .inr (.inr h2)
        exact .inl (.base hy h1 h2)
      · by_cases hex : ∃ z : Nat, (z : Int) ∈ G.2 ∧ RV kl atoms D F z
        · obtain ⟨z, hz, hR⟩ := hex
          refine toμ fun y hy => ?_
          by_cases h1 : D y
          · exact .inr (.inl h1)
          by_cases h2 : Pl kl atoms D F y
          · exact .inr (.inr h2)
          exact .inl (.step hG hz hR hy h1 h2)
        · have : im (fun x => if RV kl atoms D F x then μ x else θ x) G = im θ G := im_eq.2 fun y hy => if_neg fun h => hex ⟨y, hy, h⟩
          rw [this]
          exact inr G hG hGF
  · refine ⟨θ, ⟨hθ.1, fun G hG => ?_⟩, fun _ _ => rfl⟩
    rcases hθ.2 G hG with h | h
    · exact h.1
    · exact absurd (hpl G hG F hF ((congrArg Prod.fst h).trans hBF) ▸ h) hB
/-! ## What all repairs share -/
def AnsK (kl : Int → Nat) (atoms : List Atm) (D : Nat → Prop) (m : Nat → Int) (F0 : Atm) (r : Atm → Prop) (k : Atm) : Prop := ∃ θ, Sat r atoms D m θ ∧ kF kl (im θ F0) = k
theorem filter_lt {α : Type} {p q : α → Bool} : ∀ {l : List α}, (∀ x ∈ l, q x = true → p x = true) → (∃ a ∈ l, p a = true ∧ q a = false) → (l.filter q).length < (l.filter p).length
  | [], _, h => by obtain ⟨a, ha, _⟩ := h; cases ha
  | x :: l, hs, h => by
    have hle : ∀ l : List α, (∀ x ∈ l, q x = true → p x = true) → (l.filter q).length ≤ (l.filter p).length := fun l => by
      induction l with
      | nil => intro _; exact Nat.le_refl _
      | cons y l ih =>
        intro hs
        have := ih fun x hx => hs x (List.mem_cons_of_mem _ hx)
        have hy := hs y (List.mem_cons_self ..)
        rw [List.filter_cons, List.filter_cons]
        cases hq : q y with
        | true => rw [if_pos rfl, if_pos (hy hq), List.length_cons, List.length_cons]; omega
        | false =>
          rw [if_neg (by simp)]
          split
          · rw [List.length_cons]; omega
          · exact this
    obtain ⟨a, ha, hp, hq⟩ := h
    rw [List.filter_cons, List.filter_cons]
    rcases List.mem_cons.1 ha with rfl | ha
    · rw [hp, hq, if_pos rfl, if_neg (by simp), List.length_cons]
      have := hle l fun x hx => hs x (List.mem_cons_of_mem _ hx)
      omega
    · have ih := filter_lt (l := l) (fun x hx => hs x (List.mem_cons_of_mem _ hx)) ⟨a, ha, hp, hq⟩
      have hx := hs x (List.mem_cons_self ..)
      cases hqx : q x with
      | true => rw [if_pos rfl, if_pos (hx hqx), List.length_cons, List.length_cons]; omega
      | false =>
        rw [if_neg (by simp)]
        split
        · rw [List.length_cons]; omega
        · exact ih
theorem ans_swp (hr : Rp kl db r) (hpl : PlainA atoms) (hV : ∀ F ∈ atoms, ∀ x : Nat, (x : Int) ∈ (kF kl F0).2 → ¬ RV kl atoms D F x) (hF : F ∈ atoms) (hμ : Sat r atoms D m μ) (hA : im μ F = A) (hk : kF kl B = kF kl A) {k : Atm} (h : AnsK kl atoms D m F0 (swp r A B) k) : AnsK kl atoms D m F0 r k := by
  obtain ⟨θ, hθ, rfl⟩ := h
  obtain ⟨ν, hν, he⟩ := frugal hr hpl hF hμ hA hk hθ
  exact ⟨ν, hν, kF_im.2 fun y hy => he y (hV F hF y hy)⟩
open Classical in
theorem towards (hpl : PlainA atoms) (hV : ∀ F ∈ atoms, ∀ x : Nat, (x : Int) ∈ (kF kl F0).2 → ¬ RV kl atoms D F x) (hs : Rp kl db s) {k : Atm} (hn : ¬ AnsK kl atoms D m F0 s k) : ∀ (n : Nat) (r : Atm → Prop), Rp kl db r → (db.filter fun f => decide (r f ∧ ¬ s f)).length ≤ n → ∃ r', Rp kl db r' ∧ (∀ k', AnsK kl atoms D m F0 r' k' → AnsK kl atoms D m F0 r k') ∧ ¬ AnsK kl atoms D m F0 r' k := by
  intro n
  induction n with
  | zero =>
    intro r hr hc
    refine ⟨r, hr, fun _ h => h, fun ⟨θ, hθ, hk⟩ => hn ⟨θ, ⟨hθ.1, fun a ha => Classical.byContradiction fun hna => ?_⟩, hk⟩⟩
    have hra := hθ.2 a ha
    have : 0 < (db.filter fun f => decide (r f ∧ ¬ s f)).length := List.length_pos_of_mem (List.mem_filter.2 ⟨hr.sub _ hra, decide_eq_true (show r (im θ a) ∧ ¬ s (im θ a) from ⟨hra, hna⟩)⟩)
    omega
  | succ n ih =>
    intro r hr hc
    by_cases hk : AnsK kl atoms D m F0 r k
    · obtain ⟨θ, hθ, hk⟩ := hk
      have hex : ∃ F ∈ atoms, ¬ s (im θ F) := Classical.byContradiction fun h => hn ⟨θ, ⟨hθ.1, fun a ha => Classical.byContradiction fun hna => h ⟨a, ha, hna⟩⟩, hk⟩
      obtain ⟨F, hF, hsF⟩ := hex
      have hrF := hθ.2 F hF
      obtain ⟨B, hsB, hkB⟩ := hs.one _ (hr.sub _ hrF)
      have hr2 := hr.swp hrF (hs.sub _ hsB) hkB
      have hlt : (db.filter fun f => decide (swp r (im θ F) B f ∧ ¬ s f)).length < (db.filter fun f => decide (r f ∧ ¬ s f)).length := by
        refine filter_lt (fun x _ hx => ?_) ⟨im θ F, hr.sub _ hrF, decide_eq_true ⟨hrF, hsF⟩, decide_eq_false fun h => ?_⟩
        · have hx := of_decide_eq_true hx
          refine decide_eq_true ⟨?_, hx.2⟩
          rcases hx.1 with h | h
          · exact h.1
          · exact absurd (h ▸ hsB) hx.2
        · rcases h.1 with h | h
          · exact h.2 rfl
          · exact hsF (h ▸ hsB)
      obtain ⟨r', h1, h2, h3⟩ := ih _ hr2 (by omega)
      exact ⟨r', h1, fun k' hk' => ans_swp hr hpl hV hF hθ rfl hkB (h2 k' hk'), h3⟩
    · exact ⟨r, hr, fun _ h => h, hk⟩
open Classical in
theorem common (hpl : PlainA atoms) (hV : ∀ F ∈ atoms, ∀ x : Nat, (x : Int) ∈ (kF kl F0).2 → ¬ RV kl atoms D F x) (hF0 : F0 ∈ atoms) (hall : ∀ r, Rp kl db r → ∃ θ, Sat r atoms D m θ) (hex : ∃ r, Rp kl db r) : ∃ k, ∀ s, Rp kl db s → AnsK kl atoms D m F0 s k := by
  refine Classical.byContradiction fun hno => ?_
  have hno2 : ∀ k, ∃ s, Rp kl db s ∧ ¬ AnsK kl atoms D m F0 s k := fun k => Classical.byContradiction fun h => hno ⟨k, fun s hs => Classical.byContradiction fun h2 => h ⟨s, hs, h2⟩⟩
  have key : ∀ (n : Nat) (r : Atm → Prop), Rp kl db r → (db.filter fun f => decide (AnsK kl atoms D m F0 r (kF kl f))).length ≤ n → False := by
    intro n
    induction n with
    | zero =>
      intro r hr hc
      obtain ⟨θ, hθ⟩ := hall r hr
      have : 0 < (db.filter fun f => decide (AnsK kl atoms D m F0 r (kF kl f))).length := List.length_pos_of_mem (List.mem_filter.2 ⟨hr.sub _ (hθ.2 F0 hF0), decide_eq_true (show AnsK kl atoms D m F0 r (kF kl (im θ F0)) from ⟨θ, hθ, rfl⟩)⟩)
      omega
    | succ n ih =>
      intro r hr hc
      obtain ⟨θ, hθ⟩ := hall r hr
      obtain ⟨s, hs, hns⟩ := hno2 (kF kl (im θ F0))
      obtain ⟨r', h1, h2, h3⟩ := towards hpl hV hs hns _ r hr (Nat.le_refl _)
      have hlt : (db.filter fun f => decide (AnsK kl atoms D m F0 r' (kF kl f))).length < (db.filter fun f => decide (AnsK kl atoms D m F0 r (kF kl f))).length :=
        filter_lt (fun x _ hx => decide_eq_true (h2 _ (of_decide_eq_true hx))) ⟨im θ F0, hr.sub _ (hθ.2 F0 hF0), decide_eq_true ⟨θ, hθ, rfl⟩, decide_eq_false h3⟩
      exact ih r' h1 (by omega)
  obtain ⟨r, hr⟩ := hex
  exact key _ r hr (Nat.le_refl _)
theorem rep_ex (kl : Int → Nat) (db : List Atm) : ∃ r, Rp kl db r := by
  refine ⟨fun f => f ∈ db ∧ db.find? (fun g => decide (kF kl g = kF kl f)) = some f, fun a h => h.1, fun f hf => ?_, fun g g' h h' e => ?_⟩
  · cases hg : db.find? (fun g => decide (kF kl g = kF kl f)) with
    | none =>
      have := List.find?_eq_none.1 hg f hf
      simp at this
    | some g =>
      have h1 : kF kl g = kF kl f := by simpa using List.find?_some hg
      exact ⟨g, ⟨List.mem_of_find?_eq_some hg, by rw [h1]; exact hg⟩, h1⟩
  · have h1 := h.2
    rw [e, h'.2] at h1
    exact (Option.some.inj h1).symm
def putB (kl : Int → Nat) (s : Atm → Prop) (g : Atm) : Atm → Prop := fun f => (s f ∧ kF kl f ≠ kF kl g) ∨ f = g
theorem Rp.put (hs : Rp kl db s) {g : Atm} (hg : g ∈ db) : Rp kl db (putB kl s g) := by
  refine ⟨fun a ha => ?_, fun f hf => ?_, fun a b ha hb e => ?_⟩
  · rcases ha with ha | rfl
    · exact hs.sub a ha.1
    · exact hg
  · by_cases e : kF kl f = kF kl g
    · exact ⟨g, .inr rfl, e.symm⟩
    · obtain ⟨b, h1, h2⟩ := hs.one f hf
      exact ⟨b, .inl ⟨h1, fun h => e (h2.symm.trans h)⟩, h2⟩
  · rcases ha with ha | rfl <;> rcases hb with hb | rfl
    · exact hs.uniq a b ha.1 hb.1 e
    · exact absurd e ha.2
    · exact absurd e.symm hb.2
    · rfl
/-- Certain: true in every repair. -/
def Cert (kl : Int → Nat) (db atoms : List Atm) (D : Nat → Prop) (m : Nat → Int) : Prop := ∀ r, Rp kl db r → ∃ θ, Sat r atoms D m θ
def varU (D : Nat → Prop) (F0 : Atm) : Nat → Prop := fun x => D x ∨ (x : Int) ∈ F0.2
/-- An atom that nothing attacks can be answered first. -/
theorem first_atom {rest : List Atm} (hpl : PlainA atoms) (hF0 : F0 ∈ atoms) (hrest : ∀ a, a ∈ rest ↔ a ∈ atoms ∧ a ≠ F0) (hun : ∀ F ∈ atoms, ¬ Att kl atoms D F F0) (hc : Cert kl db atoms D m) :
    ∃ f ∈ db, (∃ ν, (∀ x, D x → ν x = m x) ∧ im ν F0 = f) ∧ ∀ g ∈ db, kF kl g = kF kl f → ∃ ν, (∀ x, D x → ν x = m x) ∧ im ν F0 = g ∧ Cert kl db rest (varU D F0) ν := by
  have hV : ∀ F ∈ atoms, ∀ x : Nat, (x : Int) ∈ (kF kl F0).2 → ¬ RV kl atoms D F x := fun F hF x hx hR => by
    by_cases e : F0.1 = F.1
    · have := hpl F0 hF0 F hF e
      subst this
      exact hR.out.2 (.base hx hR.out.1)
    · exact hun F hF ⟨e, x, kF_sub hx, hR⟩
  have hex := rep_ex kl db
  obtain ⟨k, hk⟩ := common hpl hV hF0 hc hex
  obtain ⟨r, hr⟩ := hex
  obtain ⟨θ, hθ, hkf⟩ := hk r hr
  refine ⟨im θ F0, hr.sub _ (hθ.2 F0 hF0), ⟨θ, hθ.1, rfl⟩, fun g hg hgk => ?_⟩
  have got : ∀ s, Rp kl db s → ∃ ν, Sat (putB kl s g) atoms D m ν ∧ im ν F0 = g := fun s hs => by
    obtain ⟨ν, hν, hkν⟩ := hk _ (hs.put hg)
    refine ⟨ν, hν, ?_⟩
    rcases hν.2 F0 hF0 with h | h
    · exact absurd (hkν.trans (hkf.symm.trans hgk.symm)) h.2
    · exact h
  obtain ⟨ν, hν, he⟩ := got r hr
  refine ⟨ν, hν.1, he, fun s hs => ?_⟩
  obtain ⟨ν2, hν2, he2⟩ := got s hs
  refine ⟨ν2, fun x hx => ?_, fun a ha => ?_⟩
  · rcases hx with hx | hx
    · exact (hν2.1 x hx).trans (hν.1 x hx).symm
    · exact im_eq.1 (he2.trans he.symm) x hx
  · have ha2 := (hrest a).1 ha
    rcases hν2.2 a ha2.1 with h | h
    · exact h.1
    · refine absurd (hpl a ha2.1 F0 hF0 ?_) ha2.2
      have : (im ν2 a).1 = (im ν2 F0).1 := by rw [h, he2]
      exact this
theorem first_back {rest : List Atm} (hF0 : F0 ∈ atoms) (hrest : ∀ a, a ∈ rest ↔ a ∈ atoms ∧ a ≠ F0) {f : Atm} (hf : f ∈ db) (h : ∀ g ∈ db, kF kl g = kF kl f → ∃ ν, (∀ x, D x → ν x = m x) ∧ im ν F0 = g ∧ Cert kl db rest (varU D F0) ν) : Cert kl db atoms D m := by
  intro r hr
  obtain ⟨g, hg, hk⟩ := hr.one f hf
  obtain ⟨ν, h1, h2, h3⟩ := h g (hr.sub g hg) hk
  obtain ⟨θ, hθ⟩ := h3 r hr
  refine ⟨θ, fun x hx => (hθ.1 x (.inl hx)).trans (h1 x hx), fun a ha => ?_⟩
  by_cases e : a = F0
  · subst e
    have : im θ a = im ν a := im_eq.2 fun y hy => hθ.1 y (.inr hy)
    rw [this, h2]
    exact hg
  · exact hθ.2 a ((hrest a).2 ⟨ha, e⟩)
/-! ## Fewer atoms, more numbers: no new attacks -/
theorem pl_sub {rest : List Atm} (hrest : ∀ a, a ∈ rest ↔ a ∈ atoms ∧ a ≠ F0) {x : Nat} (h : Pl kl atoms D F x) : varU D F0 x ∨ Pl kl rest (varU D F0) F x := by
  induction h with
  | @base x h1 h2 =>
    by_cases hx : varU D F0 x
    · exact .inl hx
    · exact .inr (.base h1 hx)
  | @step G x hG hne _ h1 h2 ih =>
    by_cases hx : varU D F0 x
    · exact .inl hx
    · by_cases e : G = F0
      · exact absurd (.inr (e ▸ h1)) hx
      · refine .inr (.step ((hrest G).2 ⟨hG, e⟩) hne (fun y hy hDy => ?_) h1 hx)
        rcases ih y hy fun h => hDy (.inl h) with h | h
        · exact absurd h hDy
        · exact h
theorem rv_sub {rest : List Atm} (hrest : ∀ a, a ∈ rest ↔ a ∈ atoms ∧ a ≠ F0) {x : Nat} (h : RV kl rest (varU D F0) F x) : RV kl atoms D F x := by
  have np : ∀ {x}, ¬ varU D F0 x → ¬ Pl kl rest (varU D F0) F x → ¬ Pl kl atoms D F x := fun h1 h2 h => (pl_sub hrest h).elim h1 h2
  induction h with
  | base h1 h2 h3 => exact .base h1 (fun h => h2 (.inl h)) (np h2 h3)
  | @step G x y hG hy _ hx h2 h3 ih => exact .step ((hrest G).1 hG).1 hy ih hx (fun h => h2 (.inl h)) (np h2 h3)
theorem att_sub {rest : List Atm} (hrest : ∀ a, a ∈ rest ↔ a ∈ atoms ∧ a ≠ F0) (h : Att kl rest (varU D F0) F G) : Att kl atoms D F G := by
  obtain ⟨h1, x, h2, h3⟩ := h
  exact ⟨h1, x, h2, rv_sub hrest h3⟩
/-- The attacks have no cycle. -/
def Acy (kl : Int → Nat) (atoms : List Atm) (D : Nat → Prop) : Prop := ∃ rk : Int → Nat, ∀ F ∈ atoms, ∀ G ∈ atoms, Att kl atoms D F G → rk F.1 < rk G.1
theorem Acy.sub {rest : List Atm} (hrest : ∀ a, a ∈ rest ↔ a ∈ atoms ∧ a ≠ F0) (h : Acy kl atoms D) : Acy kl rest (varU D F0) := by
  obtain ⟨rk, h⟩ := h
  exact ⟨rk, fun F hF G hG ha => h F ((hrest F).1 hF).1 G ((hrest G).1 hG).1 (att_sub hrest ha)⟩
theorem least_of {α : Type} (f : α → Nat) : ∀ {l : List α}, l ≠ [] → ∃ a ∈ l, ∀ b ∈ l, f a ≤ f b
  | [], h => absurd rfl h
  | [a], _ => ⟨a, List.mem_cons_self .., fun b hb => by rw [List.mem_singleton.1 hb]; exact Nat.le_refl _⟩
  | a :: b :: l, _ => by
    obtain ⟨c, hc, hm⟩ := least_of f (l := b :: l) (by simp)
    by_cases h : f a ≤ f c
    · refine ⟨a, List.mem_cons_self .., fun x hx => ?_⟩
      rcases List.mem_cons.1 hx with rfl | hx
      · exact Nat.le_refl _
      · exact Nat.le_trans h (hm x hx)
    · refine ⟨c, List.mem_cons_of_mem _ hc, fun x hx => ?_⟩
      rcases List.mem_cons.1 hx with rfl | hx
      · omega
      · exact hm x hx
theorem Acy.free (h : Acy kl atoms D) (hne : atoms ≠ []) : ∃ F0 ∈ atoms, ∀ F ∈ atoms, ¬ Att kl atoms D F F0 := by
  obtain ⟨rk, h⟩ := h
  obtain ⟨F0, hF0, hm⟩ := least_of (fun a : Atm => rk a.1) hne
  exact ⟨F0, hF0, fun F hF ha => by have := h F hF F0 hF0 ha; have := hm F hF; omega⟩
/-! ## Three atoms -/
theorem pl_three {x : Nat} (hFx : RV kl atoms D F x) (hGx : (x : Int) ∈ G.2) (hG : G ∈ atoms) (hne : G.1 ≠ F.1) (hpl : PlainA atoms) {z : Nat} (h : Pl kl atoms D F z) : RV kl atoms D G z → ∃ y : Nat, (y : Int) ∈ F.2 ∧ RV kl atoms D G y := by
  induction h with
  | @base z h1 h2 => exact fun h => ⟨z, kF_sub h1, h⟩
  | @step H z hH hne2 hp h1 h2 ih =>
    intro hR
    by_cases e : H = G
    · subst e
      exact absurd (.step hH hne hp hGx hFx.out.1) hFx.out.2
    · have hrel : H.1 ≠ G.1 := fun h => e (hpl H hH G hG h)
      have hex : ∃ y : Nat, (y : Int) ∈ (kF kl H).2 ∧ ¬ D y ∧ ¬ Pl kl atoms D G y := Classical.byContradiction fun hno => hR.out.2 (.step hH hrel (fun y hy hDy => Classical.byContradiction fun hny => hno ⟨y, hy, hDy, hny⟩) h1 h2)
      obtain ⟨y, hy, hDy, hny⟩ := hex
      exact ih y hy hDy (.step hH h1 hR (kF_sub hy) hDy hny)
theorem att_three (hpl : PlainA atoms) (hG : G ∈ atoms) (h1 : Att kl atoms D F G) (h2 : Att kl atoms D G H) (hne : H.1 ≠ F.1) : Att kl atoms D F H ∨ Att kl atoms D G F := by
  obtain ⟨hGF, x, hx, hFx⟩ := h1
  obtain ⟨hHG, z, hz, hGz⟩ := h2
  have key : ∀ z, RV kl atoms D G z → RV kl atoms D F z ∨ ∃ y : Nat, (y : Int) ∈ F.2 ∧ RV kl atoms D G y := fun z hz => by
    induction hz with
    | @base z h1 h2 h3 =>
      by_cases hp : Pl kl atoms D F z
      · exact .inr (pl_three hFx hx hG hGF hpl hp (.base h1 h2 h3))
      · exact .inl (.step hG hx hFx h1 h2 hp)
    | @step K z y hK hy hRy hzK h2 h3 ih =>
      rcases ih with ih | ih
      · by_cases hp : Pl kl atoms D F z
        · exact .inr (pl_three hFx hx hG hGF hpl hp (.step hK hy hRy hzK h2 h3))
        · exact .inl (.step hK hy ih hzK h2 hp)
      · exact .inr ih
  rcases key z hGz with h | ⟨y, hy, hR⟩
  · exact .inl ⟨hne, z, hz, h⟩
  · exact .inr ⟨fun e => hGF e.symm, y, hy, hR⟩
open Classical in
theorem acy_of_two (hpl : PlainA atoms) (h : ∀ F ∈ atoms, ∀ G ∈ atoms, Att kl atoms D F G → ¬ Att kl atoms D G F) : Acy kl atoms D := by
  refine ⟨fun i => (atoms.filter fun F => decide (∃ G ∈ atoms, G.1 = i ∧ Att kl atoms D F G)).length, fun F hF G hG ha => ?_⟩
  refine filter_lt (fun K hK hx => ?_) ⟨F, hF, decide_eq_true ⟨G, hG, rfl, ha⟩, decide_eq_false fun ⟨F', hF', e, ha'⟩ => ha'.1 e⟩
  obtain ⟨F', hF', e, ha'⟩ := of_decide_eq_true hx
  have := hpl F' hF' F hF e
  subst this
  refine decide_eq_true ⟨G, hG, rfl, ?_⟩
  by_cases hGK : G.1 = K.1
  · have := hpl G hG K hK hGK
    subst this
    exact absurd ha' (h F' hF' G hG ha)
  · rcases att_three hpl hF' ha' ha hGK with h9 | h9
    · exact h9
    · exact absurd h9 (h K hK F' hF' ha')
end
end Go.Proofs.YtmjpnfapjcfejaaGreatDoor

/- Rounds that end at a fixed point; sets as numbers: closures, what is reached, attacks. Of no program. No condition. -/
namespace Go.Proofs.YtmjpnfapjcfejaaGreatDoor
open VC
set_option linter.unusedVariables false

/-! ## Rounds -/
def iterF {σ : Type} (f : σ → σ) : Nat → σ → σ
  | 0, s => s
  | k + 1, s => f (iterF f k s)
def roundF {σ ι : Type} (step : ι → σ → σ) (l : List ι) (s : σ) : σ := l.foldl (fun s i => step i s) s
section
variable {σ ι : Type} {step : ι → σ → σ} {μ : σ → Nat} {P : σ → Prop}
theorem roundF_app (l : List ι) (i : ι) (s : σ) : roundF step (l ++ [i]) s = step i (roundF step l s) := by simp [roundF]
theorem roundF_fix {s : σ} : ∀ {l : List ι}, (∀ i ∈ l, step i s = s) → roundF step l s = s
  | [], _ => rfl
  | i :: r, h => by
    show roundF step r (step i s) = s
    rw [h i (List.mem_cons_self ..)]
    exact roundF_fix fun j hj => h j (List.mem_cons_of_mem _ hj)
theorem roundF_P : ∀ {l : List ι} {s : σ}, (∀ i ∈ l, ∀ s, P s → P (step i s)) → P s → P (roundF step l s)
  | [], _, _, h => h
  | i :: r, s, hP, h => roundF_P (l := r) (fun j hj => hP j (List.mem_cons_of_mem _ hj)) (hP i (List.mem_cons_self ..) s h)
theorem round_prog : ∀ {l : List ι} {s : σ}, (∀ i ∈ l, ∀ s, P s → P (step i s)) → (∀ i ∈ l, ∀ s, P s → step i s = s ∨ μ s < μ (step i s)) → P s → (∀ i ∈ l, step i s = s) ∨ μ s < μ (roundF step l s)
  | [], _, _, _, _ => .inl fun i hi => by cases hi
  | i :: r, s, hP, hg, h => by
    have ih := round_prog (l := r) (s := step i s) (fun j hj => hP j (List.mem_cons_of_mem _ hj)) (fun j hj => hg j (List.mem_cons_of_mem _ hj)) (hP i (List.mem_cons_self ..) s h)
    rcases hg i (List.mem_cons_self ..) s h with e | hlt
    · rw [e] at ih
      rcases ih with ih | ih
      · refine .inl fun j hj => ?_
        rcases List.mem_cons.1 hj with rfl | hj
        · exact e
        · exact ih j hj
      · refine .inr ?_
        show μ s < μ (roundF step r (step i s))
        rw [e]
        exact ih
    · refine .inr ?_
      show μ s < μ (roundF step r (step i s))
      rcases ih with ih | ih
      · rw [roundF_fix ih]
        exact hlt
      · omega
theorem iterF_P {l : List ι} {s : σ} (hP : ∀ i ∈ l, ∀ s, P s → P (step i s)) (h : P s) : ∀ k, P (iterF (roundF step l) k s)
  | 0 => h
  | k + 1 => roundF_P hP (iterF_P hP h k)
theorem rounds_fix {l : List ι} {s : σ} (hP : ∀ i ∈ l, ∀ s, P s → P (step i s)) (hg : ∀ i ∈ l, ∀ s, P s → step i s = s ∨ μ s < μ (step i s)) (h : P s) : ∀ k, (∀ i ∈ l, step i (iterF (roundF step l) k s) = iterF (roundF step l) k s) ∨ μ s + k ≤ μ (iterF (roundF step l) k s)
  | 0 => .inr (Nat.le_refl _)
  | k + 1 => by
    have hx := iterF_P hP h k
    rcases round_prog hP hg hx with e | hlt
    · refine .inl ?_
      show ∀ i ∈ l, step i (roundF step l (iterF (roundF step l) k s)) = roundF step l (iterF (roundF step l) k s)
      rw [roundF_fix e]
      exact e
    · rcases rounds_fix hP hg h k with e | ih
      · refine .inl ?_
        show ∀ i ∈ l, step i (roundF step l (iterF (roundF step l) k s)) = roundF step l (iterF (roundF step l) k s)
        rw [roundF_fix e]
        exact e
      · refine .inr ?_
        show μ s + (k + 1) ≤ μ (roundF step l (iterF (roundF step l) k s))
        omega
end
/-! ## Sets as numbers -/
def bs (a b : Nat) : Prop := ∀ x, a.testBit x = true → b.testBit x = true
theorem bs_refl (a : Nat) : bs a a := fun _ h => h
theorem bs.trans {a b c : Nat} (h : bs a b) (k : bs b c) : bs a c := fun x hx => k x (h x hx)
theorem bs_antisymm {a b : Nat} (h : bs a b) (k : bs b a) : a = b := Nat.eq_of_testBit_eq fun x => by
  rw [Bool.eq_iff_iff]
  exact ⟨h x, k x⟩
theorem bs_or {a b c : Nat} : bs (a ||| b) c ↔ bs a c ∧ bs b c := by
  unfold bs
  simp only [Nat.testBit_or, Bool.or_eq_true]
  exact ⟨fun h => ⟨fun x hx => h x (.inl hx), fun x hx => h x (.inr hx)⟩, fun h x hx => hx.elim (h.1 x) (h.2 x)⟩
theorem bs_left (a b : Nat) : bs a (a ||| b) := (bs_or.1 (bs_refl _)).1
theorem bs_right (a b : Nat) : bs b (a ||| b) := (bs_or.1 (bs_refl _)).2
theorem or_self_of {a b : Nat} (h : bs b a) : a ||| b = a := bs_antisymm (bs_or.2 ⟨bs_refl _, h⟩) (bs_left _ _)
theorem nSub_zero {a b : Nat} : nSub a b = 0 ↔ bs a b := by
  constructor
  · intro h x hx
    have := nSub_bit a b x
    rw [h, Nat.zero_testBit, hx] at this
    simpa using this.symm
  · intro h
    refine Nat.eq_of_testBit_eq fun x => ?_
    rw [nSub_bit, Nat.zero_testBit]
    cases hx : a.testBit x with
    | false => rfl
    | true => rw [h x hx]; rfl
theorem and_ne_zero {a b : Nat} : a &&& b ≠ 0 ↔ ∃ x, a.testBit x = true ∧ b.testBit x = true := by
  constructor
  · intro h
    refine Classical.byContradiction fun hno => h (Nat.eq_of_testBit_eq fun x => ?_)
    rw [Nat.testBit_and, Nat.zero_testBit, ← Bool.not_eq_true, Bool.and_eq_true]
    exact fun h2 => hno ⟨x, h2⟩
  · rintro ⟨x, h1, h2⟩ h
    have := Nat.testBit_and a b x
    rw [h, Nat.zero_testBit, h1, h2] at this
    cases this
theorem maskOf (p : Nat → Prop) (n : Nat) : ∃ t : Nat, ∀ x, t.testBit x = true ↔ x < n ∧ p x := by
  induction n with
  | zero => exact ⟨0, fun x => by simp⟩
  | succ n ih =>
    obtain ⟨t, ht⟩ := ih
    by_cases h : p n
    · refine ⟨t ||| 2 ^ n, fun x => ?_⟩
      rw [Nat.testBit_or, Bool.or_eq_true, ht, Nat.testBit_two_pow, decide_eq_true_eq]
      constructor
      · rintro (⟨h1, h2⟩ | rfl)
        · exact ⟨by omega, h2⟩
        · exact ⟨by omega, h⟩
      · rintro ⟨h1, h2⟩
        by_cases e : n = x
        · exact .inr e
        · exact .inl ⟨by omega, h2⟩
    · refine ⟨t, fun x => ?_⟩
      rw [ht]
      constructor
      · exact fun h1 => ⟨by omega, h1.2⟩
      · rintro ⟨h1, h2⟩
        refine ⟨?_, h2⟩
        have : x ≠ n := fun e => h (e ▸ h2)
        omega
theorem bit_or_pow {r g i : Nat} : (r ||| 2 ^ g).testBit i = true ↔ r.testBit i = true ∨ i = g := by
  rw [Nat.testBit_or, Bool.or_eq_true, Nat.testBit_two_pow, decide_eq_true_eq]
  exact or_congr_right ⟨Eq.symm, Eq.symm⟩
/-! ## Closures -/
structure IsCl (l : List (Nat × Nat)) (s r : Nat) : Prop where
  sub : bs s r
  cl : ∀ d ∈ l, bs d.1 r → bs d.2 r
  min : ∀ t, bs s t → (∀ d ∈ l, bs d.1 t → bs d.2 t) → bs r t
theorem IsCl.uniq {l : List (Nat × Nat)} {s r r' : Nat} (h : IsCl l s r) (h' : IsCl l s r') : r = r' := bs_antisymm (h.min _ h'.sub h'.cl) (h'.min _ h.sub h.cl)
def stepC (d : Nat × Nat) (s : Nat) : Nat := if nSub d.1 s = 0 then s ||| d.2 else s
theorem stepC_sub (d : Nat × Nat) (s : Nat) : bs s (stepC d s) := by
  unfold stepC
  split
  · exact bs_left _ _
  · exact bs_refl _
def clF (l : List (Nat × Nat)) (s : Nat) : Nat := iterF (roundF stepC l) l.length s
open Classical in
theorem clF_is (l : List (Nat × Nat)) (s : Nat) : IsCl l s (clF l s) := by
  have sub : bs s (clF l s) := iterF_P (P := fun r => bs s r) (fun d _ r h => h.trans (stepC_sub d r)) (bs_refl _) _
  have min : ∀ t, bs s t → (∀ d ∈ l, bs d.1 t → bs d.2 t) → bs (clF l s) t := fun t h1 h2 => iterF_P (P := fun r => bs r t) (fun d hd r h => by
    unfold stepC
    split
    · rename_i h0
      exact bs_or.2 ⟨h, h2 d hd ((nSub_zero.1 h0).trans h)⟩
    · exact h) h1 _
  refine ⟨sub, fun d hd hb => ?_, min⟩
  have fixed : (∀ d ∈ l, stepC d (clF l s) = clF l s) → bs d.2 (clF l s) := fun h => by
    have := h d hd
    unfold stepC at this
    rw [if_pos (nSub_zero.2 hb)] at this
    have h2 := bs_right (clF l s) d.2
    rwa [this] at h2
  have hprog : ∀ d ∈ l, ∀ r : Nat, True → stepC d r = r ∨ (l.filter fun d => decide (bs d.2 r)).length < (l.filter fun d' => decide (bs d'.2 (stepC d r))).length := fun d hd r _ => by
    by_cases hs : stepC d r = r
    · exact .inl hs
    · refine .inr (filter_lt (fun d' hd' h => decide_eq_true ((of_decide_eq_true h : bs d'.2 r).trans (stepC_sub d r))) ⟨d, hd, ?_, decide_eq_false fun h => hs ?_⟩)
      · refine decide_eq_true ?_
        unfold stepC
        split
        · exact bs_right _ _
        · rename_i h0
          exact absurd (if_neg h0) hs
      · unfold stepC
        split
        · exact or_self_of h
        · rfl
  rcases rounds_fix (P := fun _ => True) (μ := fun r => (l.filter fun d => decide (bs d.2 r)).length) (step := stepC) (l := l) (s := s) (fun _ _ _ _ => trivial) hprog trivial l.length with h | h
  · exact fixed h
  · have hle := List.length_filter_le (fun d : Nat × Nat => decide (bs d.2 (iterF (roundF stepC l) l.length s))) l
    have heq : (l.filter fun d => decide (bs d.2 (iterF (roundF stepC l) l.length s))).length = l.length := by omega
    have hall := List.filter_eq_self.1 (List.Sublist.eq_of_length (List.filter_sublist ..) heq) d hd
    exact of_decide_eq_true hall
/-! ## What is reached -/
inductive RB (U : Nat → Nat) (n f : Nat) : Nat → Prop
  | base {x : Nat} : (U f).testBit x = true → RB U n f x
  | step {g x y : Nat} : g < n → (U g).testBit y = true → RB U n f y → (U g).testBit x = true → RB U n f x
def Hit (U : Nat → Nat) (n f g : Nat) : Prop := g = f ∨ g < n ∧ ∃ x, (U g).testBit x = true ∧ RB U n f x
def cntB (n r : Nat) : Nat := ((List.range n).filter r.testBit).length
theorem cntB_le (n r : Nat) : cntB n r ≤ n := by
  have := List.length_filter_le r.testBit (List.range n)
  rwa [List.length_range] at this
theorem cntB_or {n r g : Nat} (hg : g < n) (h : r.testBit g = false) : cntB n r < cntB n (r ||| 2 ^ g) :=
  filter_lt (fun x _ hx => bit_or_pow.2 (.inl hx)) ⟨g, List.mem_range.2 hg, bit_or_pow.2 (.inr rfl), h⟩
theorem cntB_one {n f : Nat} (hf : f < n) : 1 ≤ cntB n (2 ^ f) := List.length_pos_of_mem (List.mem_filter.2 ⟨List.mem_range.2 hf, by rw [Nat.testBit_two_pow]; exact decide_eq_true rfl⟩)
/-- The program's way. -/
def stepR (U : Nat → Nat) (g : Nat) (p : Nat × Nat) : Nat × Nat := if U g &&& p.2 ≠ 0 then (p.1 ||| 2 ^ g, p.2 ||| U g) else p
structure RI (U : Nat → Nat) (n f : Nat) (p : Nat × Nat) : Prop where
  s1 : ∀ x, p.2.testBit x = true → RB U n f x
  r1 : ∀ g, p.1.testBit g = true → Hit U n f g
  rs : ∀ g, p.1.testBit g = true → bs (U g) p.2
  f1 : p.1.testBit f = true
theorem RI.step {U : Nat → Nat} {n f g : Nat} {p : Nat × Nat} (hg : g < n) (h : RI U n f p) : RI U n f (stepR U g p) := by
  unfold stepR
  split
  · rename_i h0
    obtain ⟨y, hy, hs⟩ := and_ne_zero.1 h0
    have hRy := h.s1 y hs
    refine ⟨fun x hx => ?_, fun i hi => ?_, fun i hi => ?_, bit_or_pow.2 (.inl h.f1)⟩
    · rw [Nat.testBit_or, Bool.or_eq_true] at hx
      rcases hx with hx | hx
      · exact h.s1 x hx
      · exact .step hg hy hRy hx
    · rcases bit_or_pow.1 hi with hi | rfl
      · exact h.r1 i hi
      · exact .inr ⟨hg, y, hy, hRy⟩
    · rcases bit_or_pow.1 hi with hi | rfl
      · exact (h.rs i hi).trans (bs_left _ _)
      · exact bs_right _ _
  · exact h
def reachN (U : Nat → Nat) (n f : Nat) : Nat := (iterF (roundF (stepR U) (List.range n)) n (2 ^ f, U f)).1
theorem ri_init (U : Nat → Nat) (n f : Nat) : RI U n f (2 ^ f, U f) := by
  have e : ∀ g, (2 ^ f).testBit g = true → g = f := fun g hg => by
    rw [Nat.testBit_two_pow, decide_eq_true_eq] at hg
    exact hg.symm
  refine ⟨fun x hx => .base hx, fun g hg => .inl (e g hg), fun g hg => by rw [e g hg]; exact bs_refl _, by rw [Nat.testBit_two_pow]; exact decide_eq_true rfl⟩
theorem reachN_bit {U : Nat → Nat} {n f : Nat} (hf : f < n) (g : Nat) : (reachN U n f).testBit g = true ↔ Hit U n f g := by
  obtain ⟨p, hp⟩ : ∃ p, p = iterF (roundF (stepR U) (List.range n)) n (2 ^ f, U f) := ⟨_, rfl⟩
  have hI : RI U n f p := by rw [hp]; exact iterF_P (P := RI U n f) (fun g hg p h => h.step (List.mem_range.1 hg)) (ri_init U n f) n
  show (iterF (roundF (stepR U) (List.range n)) n (2 ^ f, U f)).1.testBit g = true ↔ _
  rw [← hp]
  refine ⟨hI.r1 g, fun hh => ?_⟩
  have hfix : ∀ i ∈ List.range n, stepR U i p = p := by
    have hprog : ∀ g ∈ List.range n, ∀ p : Nat × Nat, RI U n f p → stepR U g p = p ∨ cntB n p.1 < cntB n (stepR U g p).1 := fun g hg p h => by
      cases hb : p.1.testBit g with
      | true =>
        left
        unfold stepR
        split
        · refine Prod.ext ?_ (or_self_of (h.rs g hb))
          refine bs_antisymm (fun i hi => ?_) (bs_left _ _)
          rcases bit_or_pow.1 hi with hi | rfl
          · exact hi
          · exact hb
        · rfl
      | false =>
        by_cases h0 : U g &&& p.2 ≠ 0
        · right
          unfold stepR
          rw [if_pos h0]
          exact cntB_or (List.mem_range.1 hg) hb
        · left
          unfold stepR
          rw [if_neg h0]
    rcases rounds_fix (P := RI U n f) (μ := fun p => cntB n p.1) (step := stepR U) (l := List.range n) (s := (2 ^ f, U f)) (fun g hg p h => h.step (List.mem_range.1 hg)) hprog (ri_init U n f) n with h | h
    · rw [← hp] at h
      exact h
    · have := cntB_le n (iterF (roundF (stepR U) (List.range n)) n (2 ^ f, U f)).1
      have := cntB_one hf
      dsimp only at h
      omega
  have closed : ∀ i, i < n → ∀ y, (U i).testBit y = true → p.2.testBit y = true → p.1.testBit i = true := fun i hi y h1 h2 => by
    have := hfix i (List.mem_range.2 hi)
    unfold stepR at this
    rw [if_pos (and_ne_zero.2 ⟨y, h1, h2⟩)] at this
    have e := congrArg Prod.fst this
    dsimp only at e
    rw [← e]
    exact bit_or_pow.2 (.inr rfl)
  have all : ∀ x, RB U n f x → p.2.testBit x = true := fun x hx => by
    induction hx with
    | base h => exact hI.rs f hI.f1 _ h
    | step hi hy _ hx ih => exact hI.rs _ (closed _ hi _ hy ih) _ hx
  rcases hh with rfl | ⟨hg, x, hx, hR⟩
  · exact hI.f1
  · exact closed g hg x hx (all x hR)
/-! ## Attacks, on sets of variables -/
def depsB (V K : List Nat) (f : Nat) : List (Nat × Nat) := ((List.range V.length).filter fun i => decide (i ≠ f)).map fun i => (K.getD i 0, V.getD i 0)
def depsA (V K : List Nat) : List (Nat × Nat) := (List.range V.length).map fun i => (K.getD i 0, V.getD i 0)
def plusN (V K : List Nat) (f : Nat) : Nat := clF (depsB V K f) (K.getD f 0)
def wideN (V K : List Nat) (f : Nat) : Nat := clF (depsA V K) (K.getD f 0)
def UN (V K : List Nat) (f i : Nat) : Nat := nSub (V.getD i 0) (plusN V K f)
/-- f attacks g. -/
def attN (V K : List Nat) (f g : Nat) : Bool := decide (g ≠ f) && (reachN (UN V K f) V.length f).testBit g
def strN (V K : List Nat) (f g : Nat) : Bool := decide (nSub (K.getD g 0) (wideN V K f) ≠ 0)
/-- What V and K have to do with atoms. -/
structure VK_ (kl : Int → Nat) (atoms : List Atm) (D : Nat → Prop) (V K : List Nat) : Prop where
  lV : V.length = atoms.length
  lK : K.length = atoms.length
  bV : ∀ i (hi : i < atoms.length) x, (V.getD i 0).testBit x = true ↔ (x : Int) ∈ atoms[i].2 ∧ ¬ D x
  bK : ∀ i (hi : i < atoms.length) x, (K.getD i 0).testBit x = true ↔ (x : Int) ∈ (kF kl atoms[i]).2 ∧ ¬ D x
  small : ∀ a ∈ atoms, ∀ x : Nat, (x : Int) ∈ a.2 → x < 8
section
variable {kl : Int → Nat} {atoms : List Atm} {D : Nat → Prop} {V K : List Nat}
theorem idx_ne (hpl : PlainA atoms) (hnd : atoms.Nodup) {i j : Nat} (hi : i < atoms.length) (hj : j < atoms.length) : atoms[i].1 ≠ atoms[j].1 ↔ i ≠ j := by
  constructor
  · intro h e
    subst e
    exact h rfl
  · intro h e
    have := hpl _ (List.getElem_mem hi) _ (List.getElem_mem hj) e
    exact h (List.getElem_inj hnd |>.1 this)
theorem plus_iff (h : VK_ kl atoms D V K) (hpl : PlainA atoms) (hnd : atoms.Nodup) {f : Nat} (hf : f < atoms.length) (x : Nat) : (plusN V K f).testBit x = true ↔ Pl kl atoms D atoms[f] x := by
  have hc := clF_is (depsB V K f) (K.getD f 0)
  constructor
  · obtain ⟨t, ht⟩ := maskOf (fun x => Pl kl atoms D atoms[f] x) 8
    have sm : ∀ x, Pl kl atoms D atoms[f] x → x < 8 := fun x hx => by
      cases hx with
      | base h1 _ => exact h.small _ (List.getElem_mem hf) x (kF_sub h1)
      | step hG _ _ h1 _ => exact h.small _ hG x h1
    intro hx
    refine ((ht x).1 (hc.min t (fun y hy => ?_) (fun d hd hb y hy => ?_) x hx)).2
    · have := (h.bK f hf y).1 hy
      exact (ht y).2 ⟨sm y (.base this.1 this.2), .base this.1 this.2⟩
    · unfold depsB at hd
      obtain ⟨i, hi, rfl⟩ := List.mem_map.1 hd
      obtain ⟨hi1, hi2⟩ := List.mem_filter.1 hi
      have hin : i < atoms.length := by rw [← h.lV]; exact List.mem_range.1 hi1
      have hif : i ≠ f := of_decide_eq_true hi2
      have hy2 := (h.bV i hin y).1 hy
      have hp : Pl kl atoms D atoms[f] y := .step (List.getElem_mem hin) ((idx_ne hpl hnd hin hf).2 hif) (fun z hz hDz => ((ht z).1 (hb z ((h.bK i hin z).2 ⟨hz, hDz⟩))).2) hy2.1 hy2.2
      exact (ht y).2 ⟨sm y hp, hp⟩
  · intro hx
    induction hx with
    | base h1 h2 => exact hc.sub _ ((h.bK f hf _).2 ⟨h1, h2⟩)
    | @step G x hG hne _ h1 h2 ih =>
      obtain ⟨i, hi, rfl⟩ := List.getElem_of_mem hG
      refine hc.cl (K.getD i 0, V.getD i 0) (List.mem_map.2 ⟨i, List.mem_filter.2 ⟨List.mem_range.2 (by rw [h.lV]; exact hi), decide_eq_true ((idx_ne hpl hnd hi hf).1 hne)⟩, rfl⟩) (fun y hy => ?_) x ((h.bV i hi x).2 ⟨h1, h2⟩)
      have := (h.bK i hi y).1 hy
      exact ih y this.1 this.2
theorem U_iff (h : VK_ kl atoms D V K) (hpl : PlainA atoms) (hnd : atoms.Nodup) {f : Nat} (hf : f < atoms.length) {i : Nat} (hi : i < atoms.length) (x : Nat) : (UN V K f i).testBit x = true ↔ (x : Int) ∈ atoms[i].2 ∧ ¬ D x ∧ ¬ Pl kl atoms D atoms[f] x := by
  unfold UN
  rw [nSub_bit, Bool.and_eq_true, Bool.not_eq_true', ← Bool.not_eq_true, plus_iff h hpl hnd hf, h.bV i hi, and_assoc]
theorem RB_iff (h : VK_ kl atoms D V K) (hpl : PlainA atoms) (hnd : atoms.Nodup) {f : Nat} (hf : f < atoms.length) (x : Nat) : RB (UN V K f) atoms.length f x ↔ RV kl atoms D atoms[f] x := by
  constructor
  · intro hx
    induction hx with
    | base h1 =>
      have := (U_iff h hpl hnd hf hf _).1 h1
      exact .base this.1 this.2.1 this.2.2
    | step hg hy _ hx ih =>
      have a1 := (U_iff h hpl hnd hf hg _).1 hy
      have a2 := (U_iff h hpl hnd hf hg _).1 hx
      exact .step (List.getElem_mem hg) a1.1 ih a2.1 a2.2.1 a2.2.2
  · intro hx
    induction hx with
    | base h1 h2 h3 => exact .base ((U_iff h hpl hnd hf hf _).2 ⟨h1, h2, h3⟩)
    | @step G x y hG hy hRy hx h2 h3 ih =>
      obtain ⟨i, hi, rfl⟩ := List.getElem_of_mem hG
      exact .step hi ((U_iff h hpl hnd hf hi _).2 ⟨hy, hRy.out⟩) ih ((U_iff h hpl hnd hf hi _).2 ⟨hx, h2, h3⟩)
theorem attN_iff (h : VK_ kl atoms D V K) (hpl : PlainA atoms) (hnd : atoms.Nodup) {f g : Nat} (hf : f < atoms.length) (hg : g < atoms.length) : attN V K f g = true ↔ Att kl atoms D atoms[f] atoms[g] := by
  unfold attN Att
  rw [Bool.and_eq_true, decide_eq_true_eq, h.lV, reachN_bit hf, idx_ne hpl hnd hg hf]
  refine and_congr_right fun hne => ?_
  constructor
  · rintro (e | ⟨_, x, hx, hR⟩)
    · exact absurd e hne
    · exact ⟨x, ((U_iff h hpl hnd hf hg x).1 hx).1, (RB_iff h hpl hnd hf x).1 hR⟩
  · rintro ⟨x, hx, hR⟩
    exact .inr ⟨hg, x, (U_iff h hpl hnd hf hg x).2 ⟨hx, hR.out⟩, (RB_iff h hpl hnd hf x).2 hR⟩
end
end Go.Proofs.YtmjpnfapjcfejaaGreatDoor

/- Blocks and repairs as sets of places, and as sets of facts. Of no program. No condition. -/
namespace Go.Proofs.YtmjpnfapjcfejaaGreatDoor
open VC
set_option linter.unusedVariables false

/-- How many Args of a relation are its key. -/
def klS (s : List Int) (r : Int) : Nat := (s.getD r.toNat 0).toNat
def fact0 : Atm := (0, [])
def fa (L : List Atm) (i : Nat) : Atm := L.getD i fact0
theorem fa_get {L : List Atm} {i : Nat} (h : i < L.length) : fa L i = L[i] := by simp [fa, List.getD, h]
section
variable (kl : Int → Nat) (L : List Atm)
def sameB (i j : Nat) : Bool := decide (kF kl (fa L i) = kF kl (fa L j))
/-- The first fact of the block of fact i. -/
def blkN (i : Nat) : Nat := ((List.range L.length).find? fun j => sameB kl L j i).getD 0
variable {kl L}
theorem sameB_iff {i j : Nat} : sameB kl L i j = true ↔ kF kl (fa L i) = kF kl (fa L j) := decide_eq_true_iff
theorem blk_spec {i : Nat} (hi : i < L.length) : blkN kl L i ≤ i ∧ kF kl (fa L (blkN kl L i)) = kF kl (fa L i) ∧ ∀ j, j < blkN kl L i → kF kl (fa L j) ≠ kF kl (fa L i) := by
  cases h : (List.range L.length).find? fun j => sameB kl L j i with
  | none =>
    have := List.find?_eq_none.1 h i (List.mem_range.2 hi)
    rw [sameB_iff] at this
    exact absurd rfl this
  | some b =>
    have e : blkN kl L i = b := by unfold blkN; rw [h]; rfl
    rw [e]
    obtain ⟨h1, h2⟩ := List.find?_range_eq_some.1 h
    have h2' := h2
    refine ⟨Nat.le_of_not_lt fun hlt => ?_, sameB_iff.1 h1, fun j hj he => ?_⟩
    · have := h2.2 i hlt
      rw [Bool.not_eq_true', ← Bool.not_eq_true, sameB_iff] at this
      exact this rfl
    · have := h2.2 j hj
      rw [Bool.not_eq_true', ← Bool.not_eq_true, sameB_iff] at this
      exact this he
theorem blk_lt {i : Nat} (hi : i < L.length) : blkN kl L i < L.length := Nat.lt_of_le_of_lt (blk_spec hi).1 hi
theorem blk_eq {i j : Nat} (hi : i < L.length) (hj : j < L.length) : blkN kl L i = blkN kl L j ↔ kF kl (fa L i) = kF kl (fa L j) := by
  have si := blk_spec (kl := kl) hi
  have sj := blk_spec (kl := kl) hj
  constructor
  · intro e
    rw [← si.2.1, ← sj.2.1, e]
  · intro e
    rcases Nat.lt_trichotomy (blkN kl L i) (blkN kl L j) with h | h | h
    · exact absurd (si.2.1.trans e) (sj.2.2 _ h)
    · exact h
    · exact absurd (sj.2.1.trans e.symm) (si.2.2 _ h)
theorem blk_blk {i : Nat} (hi : i < L.length) : blkN kl L (blkN kl L i) = blkN kl L i := (blk_eq (blk_lt hi) hi).2 (blk_spec hi).2.1
variable (kl L)
/-- In a set of places: how many stand in the block of i. -/
def inBlk (m i : Nat) : Nat := ((List.range L.length).filter fun j => m.testBit j && sameB kl L i j).length
def repB (m : Nat) : Bool := (List.range L.length).all fun i => decide (inBlk kl L m i = 1)
/-- All repairs, rising. -/
def allR : List Nat := (List.range (2 ^ L.length)).filter (repB kl L)
/-- The facts of a set of places. -/
def ofM (m : Nat) : List Atm := ((List.range L.length).filter m.testBit).map (fa L)
variable {kl L}
theorem mem_ofM {m : Nat} {a : Atm} : a ∈ ofM L m ↔ ∃ i, i < L.length ∧ m.testBit i = true ∧ fa L i = a := by
  unfold ofM
  rw [List.mem_map]
  constructor
  · rintro ⟨i, hi, e⟩
    obtain ⟨h1, h2⟩ := List.mem_filter.1 hi
    exact ⟨i, List.mem_range.1 h1, h2, e⟩
  · rintro ⟨i, h1, h2, e⟩
    exact ⟨i, List.mem_filter.2 ⟨List.mem_range.2 h1, h2⟩, e⟩
theorem fa_mem {i : Nat} (hi : i < L.length) : fa L i ∈ L := by rw [fa_get hi]; exact List.getElem_mem hi
theorem len_one {α : Type} {l : List α} : l.length = 1 ↔ ∃ a, l = [a] := List.length_eq_one_iff
theorem filter_one {n : Nat} {p : Nat → Bool} : ((List.range n).filter p).length = 1 ↔ ∃ i, i < n ∧ p i = true ∧ ∀ j, j < n → p j = true → j = i := by
  constructor
  · intro h
    obtain ⟨a, ha⟩ := len_one.1 h
    have hm : a ∈ (List.range n).filter p := by rw [ha]; exact List.mem_singleton.2 rfl
    obtain ⟨h1, h2⟩ := List.mem_filter.1 hm
    refine ⟨a, List.mem_range.1 h1, h2, fun j hj hp => ?_⟩
    have : j ∈ (List.range n).filter p := List.mem_filter.2 ⟨List.mem_range.2 hj, hp⟩
    rw [ha] at this
    exact List.mem_singleton.1 this
  · rintro ⟨i, hi, hp, hu⟩
    have h3 : ((List.range n).filter p).length ≤ [i].length := sub_len (List.nodup_range.filter _) fun x hx => by
      have := List.mem_filter.1 hx
      rw [hu x (List.mem_range.1 this.1) this.2]
      exact List.mem_singleton.2 rfl
    have h4 := List.length_pos_of_mem (List.mem_filter.2 ⟨List.mem_range.2 hi, hp⟩)
    simp only [List.length_singleton] at h3
    omega
theorem repB_iff {m : Nat} : repB kl L m = true ↔ ∀ i, i < L.length → ∃ j, j < L.length ∧ m.testBit j = true ∧ kF kl (fa L i) = kF kl (fa L j) ∧ ∀ j', j' < L.length → m.testBit j' = true → kF kl (fa L i) = kF kl (fa L j') → j' = j := by
  unfold repB
  rw [List.all_eq_true]
  refine ⟨fun h i hi => ?_, fun h i hi => ?_⟩
  · have := of_decide_eq_true (h i (List.mem_range.2 hi))
    unfold inBlk at this
    obtain ⟨j, h1, h2, h3⟩ := filter_one.1 this
    rw [Bool.and_eq_true, sameB_iff] at h2
    exact ⟨j, h1, h2.1, h2.2, fun j' a b c => h3 j' a (by rw [Bool.and_eq_true, sameB_iff]; exact ⟨b, c⟩)⟩
  · obtain ⟨j, h1, h2, h3, h4⟩ := h i (List.mem_range.1 hi)
    refine decide_eq_true (filter_one.2 ⟨j, h1, by rw [Bool.and_eq_true, sameB_iff]; exact ⟨h2, h3⟩, fun j' a b => ?_⟩)
    rw [Bool.and_eq_true, sameB_iff] at b
    exact h4 j' a b.1 b.2
theorem mem_allR {m : Nat} : m ∈ allR kl L ↔ m < 2 ^ L.length ∧ repB kl L m = true := by
  unfold allR
  rw [List.mem_filter, List.mem_range]
theorem fa_inj (hn : L.Nodup) {i j : Nat} (hi : i < L.length) (hj : j < L.length) (h : fa L i = fa L j) : i = j := by
  rw [fa_get hi, fa_get hj] at h
  exact List.getElem_inj hn |>.1 h
/-- A repair's facts. -/
theorem rp_of (hn : L.Nodup) {m : Nat} (h : repB kl L m = true) : Rp kl L fun a => a ∈ ofM L m := by
  rw [repB_iff] at h
  refine ⟨fun a ha => ?_, fun f hf => ?_, fun g g' hg hg' e => ?_⟩
  · obtain ⟨i, hi, _, rfl⟩ := mem_ofM.1 ha
    exact fa_mem hi
  · obtain ⟨i, hi, rfl⟩ := List.getElem_of_mem hf
    obtain ⟨j, h1, h2, h3, _⟩ := h i hi
    refine ⟨fa L j, mem_ofM.2 ⟨j, h1, h2, rfl⟩, ?_⟩
    rw [← h3, fa_get hi]
  · obtain ⟨i, hi, hb, rfl⟩ := mem_ofM.1 hg
    obtain ⟨i', hi', hb', rfl⟩ := mem_ofM.1 hg'
    obtain ⟨j, _, _, _, hu⟩ := h i hi
    rw [hu i hi hb rfl, hu i' hi' hb' e]
open Classical in
theorem mask_of (hn : L.Nodup) {r : Atm → Prop} (hr : Rp kl L r) : ∃ m ∈ allR kl L, ∀ a, a ∈ ofM L m ↔ r a := by
  obtain ⟨m, hm⟩ := maskOf (fun i => r (fa L i)) L.length
  refine ⟨m, mem_allR.2 ⟨?_, repB_iff.2 fun i hi => ?_⟩, fun a => ?_⟩
  · refine Nat.lt_pow_two_of_testBit _ fun i hi => ?_
    rw [← Bool.not_eq_true, hm]
    omega
  · obtain ⟨g, hg, e⟩ := hr.one _ (fa_mem hi)
    obtain ⟨j, hj, rfl⟩ := List.getElem_of_mem (hr.sub g hg)
    rw [← fa_get hj] at hg e
    refine ⟨j, hj, (hm j).2 ⟨hj, hg⟩, e.symm, fun j' hj' hb he => ?_⟩
    have := ((hm j').1 hb).2
    exact fa_inj hn hj' hj (hr.uniq _ _ this hg (he.symm.trans e.symm))
  · rw [mem_ofM]
    constructor
    · rintro ⟨i, hi, hb, rfl⟩
      exact ((hm i).1 hb).2
    · intro ha
      obtain ⟨i, hi, rfl⟩ := List.getElem_of_mem (hr.sub a ha)
      exact ⟨i, hi, (hm i).2 ⟨hi, by rwa [fa_get hi]⟩, fa_get hi⟩
theorem allR_ne (hn : L.Nodup) : allR kl L ≠ [] := by
  obtain ⟨r, hr⟩ := rep_ex kl L
  obtain ⟨m, hm, _⟩ := mask_of hn hr
  intro e
  rw [e] at hm
  cases hm
theorem Rp.congr {db : List Atm} {r r' : Atm → Prop} (h : Rp kl db r) (e : ∀ a, r a ↔ r' a) : Rp kl db r' := by
  have : r = r' := funext fun a => propext (e a)
  exact this ▸ h
/-- A question without numbers is true in a set of facts. -/
def SatL (b F : List Atm) : Prop := ∃ θ : Nat → Int, ∀ a ∈ b, im θ a ∈ F
theorem cert_all (hn : L.Nodup) {b : List Atm} {D : Nat → Prop} {m0 : Nat → Int} (hD : ∀ x, ¬ D x) : Cert kl L b D m0 ↔ ∀ m ∈ allR kl L, SatL b (ofM L m) := by
  constructor
  · intro h m hm
    obtain ⟨θ, hθ⟩ := h _ (rp_of hn (mem_allR.1 hm).2)
    exact ⟨θ, hθ.2⟩
  · intro h r hr
    obtain ⟨m, hm, he⟩ := mask_of hn hr
    obtain ⟨θ, hθ⟩ := h m hm
    exact ⟨θ, fun x hx => absurd hx (hD x), fun a ha => (he _).1 (hθ a ha)⟩
/-! ## Strictly rising lists of numbers -/
def Inc (l : List Nat) : Prop := l.Pairwise (· < ·)
theorem inc_uniq : ∀ {l l' : List Nat}, Inc l → Inc l' → (∀ a, a ∈ l ↔ a ∈ l') → l = l'
  | [], [], _, _, _ => rfl
  | [], b :: s, _, _, h => absurd ((h b).2 (List.mem_cons_self ..)) (by simp)
  | a :: r, [], _, _, h => absurd ((h a).1 (List.mem_cons_self ..)) (by simp)
  | a :: r, b :: s, h1, h2, h => by
    obtain ⟨p1, p2⟩ := List.pairwise_cons.1 h1
    obtain ⟨q1, q2⟩ := List.pairwise_cons.1 h2
    have hab : a = b := by
      rcases List.mem_cons.1 ((h a).1 (List.mem_cons_self ..)) with e | hm
      · exact e
      · rcases List.mem_cons.1 ((h b).2 (List.mem_cons_self ..)) with e | hm2
        · exact e.symm
        · have := q1 a hm
          have := p1 b hm2
          omega
    subst hab
    congr 1
    refine inc_uniq p2 q2 fun x => ⟨fun hx => ?_, fun hx => ?_⟩
    · rcases List.mem_cons.1 ((h x).1 (List.mem_cons_of_mem _ hx)) with rfl | h3
      · have := p1 x hx; omega
      · exact h3
    · rcases List.mem_cons.1 ((h x).2 (List.mem_cons_of_mem _ hx)) with rfl | h3
      · have := q1 x hx; omega
      · exact h3
theorem inc_range (n : Nat) : Inc (List.range n) := List.pairwise_lt_range
theorem inc_allR : Inc (allR kl L) := List.Pairwise.sublist (List.filter_sublist ..) (inc_range _)
/-! ## The program's way to all repairs -/
variable (kl L)
/-- The places below k of the block that begins at j. -/
def bmask : Nat → Nat → Nat
  | 0, _ => 0
  | k + 1, j => if blkN kl L k = j then bmask k j ||| 2 ^ k else bmask k j
def kvP (k : Nat) : List (Nat × Nat) := ((List.range k).filter fun i => decide (blkN kl L i = i)).map fun i => (i, bmask kl L k i)
variable {kl L}
theorem bmask_bit : ∀ (k j i : Nat), (bmask kl L k j).testBit i = true ↔ i < k ∧ blkN kl L i = j
  | 0, j, i => by simp [bmask]
  | k + 1, j, i => by
    unfold bmask
    split
    · rename_i h
      rw [bit_or_pow, bmask_bit k j i]
      constructor
      · rintro (⟨h1, h2⟩ | rfl)
        · exact ⟨by omega, h2⟩
        · exact ⟨by omega, h⟩
      · rintro ⟨h1, h2⟩
        by_cases e : i = k
        · exact .inr e
        · exact .inl ⟨by omega, h2⟩
    · rename_i h
      rw [bmask_bit k j i]
      constructor
      · exact fun h1 => ⟨by omega, h1.2⟩
      · rintro ⟨h1, h2⟩
        have : i ≠ k := fun e => h (e ▸ h2)
        exact ⟨by omega, h2⟩
def bitsOf (n s : Nat) : List Nat := (List.range n).filter s.testBit
theorem mem_bitsOf {n s i : Nat} : i ∈ bitsOf n s ↔ i < n ∧ s.testBit i = true := by
  unfold bitsOf
  rw [List.mem_filter, List.mem_range]
/-- One more block. -/
def mulR (n : Nat) (out : List Nat) (s : Nat) : List Nat := out.flatMap fun r => (bitsOf n s).map fun i => r ||| 2 ^ i
def prodR (n : Nat) (sets : List Nat) : List Nat := sets.foldl (mulR n) [0]
theorem prodR_app (n : Nat) (sets : List Nat) (s : Nat) : prodR n (sets ++ [s]) = mulR n (prodR n sets) s := by simp [prodR]
def OneOf (n r s : Nat) : Prop := ∃ i, i < n ∧ r.testBit i = true ∧ s.testBit i = true ∧ ∀ j, j < n → r.testBit j = true → s.testBit j = true → j = i
theorem mem_prodR {n : Nat} : ∀ {sets : List Nat}, sets.Pairwise (fun s t => s &&& t = 0) → (∀ s ∈ sets, s < 2 ^ n) → ∀ r, r ∈ prodR n sets ↔ (∀ i, r.testBit i = true → ∃ s ∈ sets, s.testBit i = true) ∧ ∀ s ∈ sets, OneOf n r s := by
  intro sets
  induction h : sets.length generalizing sets with
  | zero =>
    intro _ _ r
    obtain rfl := List.length_eq_zero_iff.1 h
    simp only [prodR, List.foldl_nil, List.mem_singleton, List.not_mem_nil, false_and, exists_false, imp_false]
    constructor
    · rintro rfl
      exact ⟨fun i => by simp, fun s hs => by cases hs⟩
    · rintro ⟨h1, _⟩
      exact Nat.eq_of_testBit_eq fun i => by
        rw [Nat.zero_testBit, ← Bool.not_eq_true]
        exact h1 i
  | succ k ih =>
    intro hd hb r
    have hne : sets ≠ [] := fun e => by rw [e] at h; cases h
    obtain ⟨l, s, rfl⟩ : ∃ l s, sets = l ++ [s] := ⟨sets.dropLast, sets.getLast hne, (List.dropLast_concat_getLast hne).symm⟩
    obtain ⟨d1, _, d3⟩ := List.pairwise_append.1 hd
    have hb1 : ∀ t ∈ l, t < 2 ^ n := fun t ht => hb t (List.mem_append_left _ ht)
    have hbs := hb s (List.mem_append_right _ (List.mem_singleton.2 rfl))
    have hll : l.length = k := by simpa using h
    have ih := ih hll d1 hb1
    have disj : ∀ t ∈ l, ∀ i, t.testBit i = true → s.testBit i = true → False := fun t ht i h1 h2 => (and_ne_zero.2 ⟨i, h1, h2⟩) (d3 t ht s (List.mem_singleton.2 rfl))
    rw [prodR_app]
    unfold mulR
    rw [List.mem_flatMap]
    constructor
    · rintro ⟨r0, hr0, hm⟩
      obtain ⟨i, hi, rfl⟩ := List.mem_map.1 hm
      obtain ⟨h1, h2⟩ := (ih r0).1 hr0
      obtain ⟨hi1, hi2⟩ := mem_bitsOf.1 hi
      refine ⟨fun j hj => ?_, fun t ht => ?_⟩
      · rcases bit_or_pow.1 hj with hj | rfl
        · obtain ⟨t, ht, hb⟩ := h1 j hj
          exact ⟨t, List.mem_append_left _ ht, hb⟩
        · exact ⟨s, List.mem_append_right _ (List.mem_singleton.2 rfl), hi2⟩
      · rcases List.mem_append.1 ht with ht | ht
        · obtain ⟨j, a1, a2, a3, a4⟩ := h2 t ht
          refine ⟨j, a1, bit_or_pow.2 (.inl a2), a3, fun j' b1 b2 b3 => ?_⟩
          rcases bit_or_pow.1 b2 with b2 | rfl
          · exact a4 j' b1 b2 b3
          · exact (disj t ht _ b3 hi2).elim
        · rw [List.mem_singleton.1 ht]
          refine ⟨i, hi1, bit_or_pow.2 (.inr rfl), hi2, fun j' b1 b2 b3 => ?_⟩
          rcases bit_or_pow.1 b2 with b2 | rfl
          · obtain ⟨t, ht, hb⟩ := h1 j' b2
            exact (disj t ht j' hb b3).elim
          · rfl
    · rintro ⟨h1, h2⟩
      obtain ⟨i, a1, a2, a3, a4⟩ := h2 s (List.mem_append_right _ (List.mem_singleton.2 rfl))
      refine ⟨nSub r (2 ^ i), (ih _).2 ⟨fun j hj => ?_, fun t ht => ?_⟩, List.mem_map.2 ⟨i, mem_bitsOf.2 ⟨a1, a3⟩, ?_⟩⟩
      · rw [nSub_bit, Bool.and_eq_true, Bool.not_eq_true', Nat.testBit_two_pow, decide_eq_false_iff_not] at hj
        obtain ⟨t, ht, hb⟩ := h1 j hj.1
        rcases List.mem_append.1 ht with ht | ht
        · exact ⟨t, ht, hb⟩
        · rw [List.mem_singleton.1 ht] at hb
          have hjn : j < n := bit_lt hbs hb
          exact absurd (a4 j hjn hj.1 hb).symm hj.2
      · obtain ⟨j, b1, b2, b3, b4⟩ := h2 t (List.mem_append_left _ ht)
        refine ⟨j, b1, ?_, b3, fun j' c1 c2 c3 => ?_⟩
        · rw [nSub_bit, b2, Nat.testBit_two_pow, decide_eq_false]
          · rfl
          · rintro rfl
            exact disj t ht _ b3 a3
        · rw [nSub_bit, Bool.and_eq_true] at c2
          exact b4 j' c1 c2.1 c3
      · refine Nat.eq_of_testBit_eq fun j => ?_
        rw [Bool.eq_iff_iff, bit_or_pow, nSub_bit, Bool.and_eq_true, Bool.not_eq_true', Nat.testBit_two_pow, decide_eq_false_iff_not]
        constructor
        · rintro (h | rfl)
          · exact h.1
          · exact a2
        · intro hj
          by_cases e : i = j
          · exact .inr e.symm
          · exact .inl ⟨hj, e⟩
theorem nodup_prodR {n : Nat} : ∀ {sets : List Nat}, sets.Pairwise (fun s t => s &&& t = 0) → (∀ s ∈ sets, s < 2 ^ n) → (prodR n sets).Nodup := by
  intro sets
  induction h : sets.length generalizing sets with
  | zero =>
    intro _ _
    obtain rfl := List.length_eq_zero_iff.1 h
    simp [prodR]
  | succ k ih =>
    intro hd hb
    have hne : sets ≠ [] := fun e => by rw [e] at h; cases h
    obtain ⟨l, s, rfl⟩ : ∃ l s, sets = l ++ [s] := ⟨sets.dropLast, sets.getLast hne, (List.dropLast_concat_getLast hne).symm⟩
    obtain ⟨d1, _, d3⟩ := List.pairwise_append.1 hd
    have hb1 : ∀ t ∈ l, t < 2 ^ n := fun t ht => hb t (List.mem_append_left _ ht)
    have hll : l.length = k := by simpa using h
    have ih := ih hll d1 hb1
    have disj : ∀ t ∈ l, ∀ i, t.testBit i = true → s.testBit i = true → False := fun t ht i h1 h2 => (and_ne_zero.2 ⟨i, h1, h2⟩) (d3 t ht s (List.mem_singleton.2 rfl))
    have no : ∀ r ∈ prodR n l, ∀ i, r.testBit i = true → s.testBit i = true → False := fun r hr i h1 h2 => by
      obtain ⟨t, ht, hb⟩ := ((mem_prodR d1 hb1 r).1 hr).1 i h1
      exact disj t ht i hb h2
    rw [prodR_app]
    unfold mulR
    refine List.pairwise_flatMap.2 ⟨fun r hr => ?_, ih.imp_of_mem fun {r r'} hr hr' hne => ?_⟩
    · refine List.pairwise_map.2 ((List.nodup_range.filter _ : (bitsOf n s).Nodup).imp_of_mem fun {i j} hi hj hij e => hij ?_)
      have hi2 := (mem_bitsOf.1 hi).2
      have : (r ||| 2 ^ j).testBit i = true := by rw [← e]; exact bit_or_pow.2 (.inr rfl)
      rcases bit_or_pow.1 this with h | h
      · exact (no r hr i h hi2).elim
      · exact h
    · intro x hx y hx' exy
      subst exy
      obtain ⟨i, hi, rfl⟩ := List.mem_map.1 hx
      obtain ⟨j, hj, e⟩ := List.mem_map.1 hx'
      refine hne (Nat.eq_of_testBit_eq fun b => ?_)
      rw [Bool.eq_iff_iff]
      have key : ∀ b, s.testBit b = true → (r.testBit b = false ∧ r'.testBit b = false) := fun b hb => ⟨by rw [← Bool.not_eq_true]; exact fun h => no r hr b h hb, by rw [← Bool.not_eq_true]; exact fun h => no r' hr' b h hb⟩
      have hi2 := (mem_bitsOf.1 hi).2
      have hj2 := (mem_bitsOf.1 hj).2
      constructor
      · intro hb
        have : (r' ||| 2 ^ j).testBit b = true := by rw [e]; exact bit_or_pow.2 (.inl hb)
        rcases bit_or_pow.1 this with h | rfl
        · exact h
        · rw [(key _ hj2).1] at hb; cases hb
      · intro hb
        have : (r ||| 2 ^ i).testBit b = true := by rw [← e]; exact bit_or_pow.2 (.inl hb)
        rcases bit_or_pow.1 this with h | rfl
        · exact h
        · rw [(key _ hi2).2] at hb; cases hb
/-- The sets of all blocks, in any order: all repairs. -/
theorem prod_all {sets : List Nat} (hp : sets.Perm ((kvP kl L L.length).map Prod.snd)) : (prodR L.length sets).Nodup ∧ ∀ r, r ∈ prodR L.length sets ↔ r ∈ allR kl L := by
  have hset : ∀ s, s ∈ sets ↔ ∃ j, j < L.length ∧ blkN kl L j = j ∧ s = bmask kl L L.length j := fun s => by
    rw [hp.mem_iff, List.mem_map]
    unfold kvP
    constructor
    · rintro ⟨p, hp, rfl⟩
      obtain ⟨j, hj, rfl⟩ := List.mem_map.1 hp
      obtain ⟨h1, h2⟩ := List.mem_filter.1 hj
      exact ⟨j, List.mem_range.1 h1, of_decide_eq_true h2, rfl⟩
    · rintro ⟨j, h1, h2, rfl⟩
      exact ⟨_, List.mem_map.2 ⟨j, List.mem_filter.2 ⟨List.mem_range.2 h1, decide_eq_true h2⟩, rfl⟩, rfl⟩
  have hd : sets.Pairwise fun s t => s &&& t = 0 := by
    refine (hp.pairwise_iff (fun {a b} h => by rw [Nat.and_comm]; exact h)).2 ?_
    unfold kvP
    rw [List.map_map, List.pairwise_map]
    refine List.Pairwise.imp_of_mem (R := fun a b => a ≠ b) (fun {a b} _ _ hab => ?_) (List.nodup_range.filter _)
    refine Classical.byContradiction fun h0 => ?_
    obtain ⟨x, h1, h2⟩ := and_ne_zero.1 h0
    have h1 := (bmask_bit _ _ _).1 h1
    have h2 := (bmask_bit _ _ _).1 h2
    exact hab (h1.2.symm.trans h2.2)
  have hb : ∀ s ∈ sets, s < 2 ^ L.length := fun s hs => by
    obtain ⟨j, _, _, rfl⟩ := (hset s).1 hs
    refine Nat.lt_pow_two_of_testBit _ fun i hi => ?_
    rw [← Bool.not_eq_true, bmask_bit]
    omega
  refine ⟨nodup_prodR hd hb, fun r => ?_⟩
  rw [mem_prodR hd hb, mem_allR, repB_iff]
  constructor
  · rintro ⟨h1, h2⟩
    refine ⟨Nat.lt_pow_two_of_testBit _ fun i hi => ?_, fun i hi => ?_⟩
    · rw [← Bool.not_eq_true]
      intro hbit
      obtain ⟨s, hs, h3⟩ := h1 i hbit
      have := bit_lt (hb s hs) h3
      omega
    · obtain ⟨j, a1, a2, a3, a4⟩ := h2 _ ((hset _).2 ⟨blkN kl L i, blk_lt hi, blk_blk hi, rfl⟩)
      have e := ((bmask_bit _ _ _).1 a3).2
      refine ⟨j, a1, a2, (blk_eq hi a1).1 e.symm, fun j' b1 b2 b3 => a4 j' b1 b2 ((bmask_bit _ _ _).2 ⟨b1, ((blk_eq hi b1).2 b3).symm⟩)⟩
  · rintro ⟨h1, h2⟩
    refine ⟨fun i hi => ?_, fun s hs => ?_⟩
    · have hil : i < L.length := bit_lt h1 hi
      exact ⟨_, (hset _).2 ⟨blkN kl L i, blk_lt hil, blk_blk hil, rfl⟩, (bmask_bit _ _ _).2 ⟨hil, rfl⟩⟩
    · obtain ⟨b, hbl, hbb, rfl⟩ := (hset s).1 hs
      obtain ⟨j, a1, a2, a3, a4⟩ := h2 b hbl
      refine ⟨j, a1, a2, (bmask_bit _ _ _).2 ⟨a1, by rw [← (blk_eq hbl a1).2 a3, hbb]⟩, fun j' b1 b2 b3 => a4 j' b1 b2 ?_⟩
      have := ((bmask_bit _ _ _).1 b3).2
      exact (blk_eq hbl b1).1 (hbb.trans this.symm)
end
end Go.Proofs.YtmjpnfapjcfejaaGreatDoor
