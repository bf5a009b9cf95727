/- Ears and elimination (Graham): what can be eliminated can be eliminated in every way. Of no program. No condition. -/
import Derived.Test.YtmjpnfapjcfejaaVb
namespace Go.Proofs.Ytmjpnfapjcfejaa
set_option linter.unusedVariables false

section
variable (vs : Nat → Nat → Prop)
/-- i is an ear of S: what it shares with any other is in k. -/
def Ear (S : Nat → Prop) (i k : Nat) : Prop := S i ∧ S k ∧ i ≠ k ∧ ∀ j, S j → j ≠ i → ∀ x, vs i x → vs j x → vs k x
/-- S without i. -/
def Wo (S : Nat → Prop) (i : Nat) : Nat → Prop := fun j => S j ∧ j ≠ i
/-- n atoms can be eliminated down to one. -/
inductive Elim : (Nat → Prop) → Nat → Prop
  | one {S : Nat → Prop} {i : Nat} : (∀ j, S j ↔ j = i) → Elim S 1
  | step {S : Nat → Prop} {i k n : Nat} : Ear vs S i k → Elim (Wo S i) n → Elim S (n + 1)
variable {vs}
theorem Elim.congr {S S' : Nat → Prop} {n : Nat} (h : Elim vs S n) (e : ∀ j, S j ↔ S' j) : Elim vs S' n := by
  have : S = S' := funext fun j => propext (e j)
  exact this ▸ h
/-- Atoms may be renamed, if what any two share stays. -/
theorem Elim.map {f : Nat → Nat} {S : Nat → Prop} {n : Nat} (h : Elim vs S n) : (∀ a b, S a → S b → f a = f b → a = b) → (∀ a b, S a → S b → a ≠ b → ∀ x, (vs a x ∧ vs b x ↔ vs (f a) x ∧ vs (f b) x)) → ∀ {S' : Nat → Prop}, (∀ j', S' j' ↔ ∃ j, S j ∧ f j = j') → Elim vs S' n := by
  induction h with
  | @one S i hi =>
    intro _ _ S' hS'
    refine .one (i := f i) fun j' => ?_
    rw [hS']
    constructor
    · rintro ⟨j, hj, rfl⟩
      rw [(hi j).1 hj]
    · rintro rfl
      exact ⟨i, (hi i).2 rfl, rfl⟩
  | @step S i k n he hr ih =>
    intro hinj hsh S' hS'
    obtain ⟨h1, h2, h3, h4⟩ := he
    refine .step (i := f i) (k := f k) ⟨(hS' _).2 ⟨i, h1, rfl⟩, (hS' _).2 ⟨k, h2, rfl⟩, fun e => h3 (hinj _ _ h1 h2 e), fun j' hj' hne x hx hy => ?_⟩ ?_
    · obtain ⟨j, hj, rfl⟩ := (hS' _).1 hj'
      have hji : j ≠ i := fun e => hne (by rw [e])
      have h5 := (hsh i j h1 hj (Ne.symm hji) x).2 ⟨hx, hy⟩
      exact ((hsh i k h1 h2 h3 x).1 ⟨h5.1, h4 j hj hji x h5.1 h5.2⟩).2
    · refine ih (fun a b ha hb => hinj a b ha.1 hb.1) (fun a b ha hb => hsh a b ha.1 hb.1) fun j' => ?_
      unfold Wo
      rw [hS']
      constructor
      · rintro ⟨⟨j, hj, rfl⟩, hne⟩
        exact ⟨j, ⟨hj, fun e => hne (by rw [e])⟩, rfl⟩
      · rintro ⟨j, ⟨hj, hne⟩, rfl⟩
        exact ⟨⟨j, hj, rfl⟩, fun e => hne (hinj _ _ hj h1 e)⟩
/-- What can be eliminated has an ear. -/
theorem Elim.ear {n : Nat} {S : Nat → Prop} (h : Elim vs S (n + 2)) : ∃ i k, Ear vs S i k := by
  cases h with
  | step h1 h2 => exact ⟨_, _, h1⟩
end
end Go.Proofs.Ytmjpnfapjcfejaa
