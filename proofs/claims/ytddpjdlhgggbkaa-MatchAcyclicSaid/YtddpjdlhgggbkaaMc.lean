/- Contracts: valid facts by the program; valid atoms, queries and facts by the reference. No condition. -/
import Derived.Test.YtddpjdlhgggbkaaMb
namespace Go.Proofs.Ytddpjdlhgggbkaa
open Go Go.RowKit VC
set_option linter.unusedSimpArgs false
set_option linter.unusedVariables false

theorem badFact_c {w : World} {r : Int} {v : Value} {xs : List Int} (hs : SlI w v xs) : Calls Try.prog 54 #[.agg #[.int .i64 r, v]] w (Ret w (.bool (!okF (r, xs)))) := by
  refine f54_calls _ ?_
  refine ⟨_, rfl, fun w1 hw1 => ?_⟩
  have g1 := alloc_grow hw1
  have hle := hs.len_le
  have no : ∀ {w'}, Grow w w' → ¬ okF (r, xs) = true → Ret w (.bool (!okF (r, xs))) (.returned (.bool true)) w' := fun g h => ⟨by rw [Bool.not_eq_true] at h; rw [h]; rfl, g⟩
  refine ⟨_, boxc hw1 0 _ rfl, condD (fun h0 => no g1 (by rw [okF_iff]; dsimp only; omega)) fun h0 => ?_⟩
  refine ⟨_, boxc hw1 0 _ rfl, condD (fun h1 => no g1 (by rw [okF_iff]; dsimp only; omega)) fun h1 => ?_⟩
  refine ⟨_, boxc hw1 1 _ rfl, (hs.grow g1).ln (condD (fun h2 => no g1 (by rw [okF_iff]; dsimp only; omega)) fun h2 => ?_)⟩
  refine ⟨_, boxc hw1 1 _ rfl, (hs.grow g1).ln (condD (fun h3 => no g1 (by rw [okF_iff]; dsimp only; omega)) fun h3 => ?_)⟩
  refine ⟨_, boxc hw1 1 _ rfl, (minI_c (hs.grow g1) (by omega)).mono ?_⟩
  rintro e w2 ⟨m, rfl, hm, hall, g2⟩
  have g02 := g1.trans g2
  refine ⟨_, rfl, condD (fun h4 => no g02 ?_) fun h4 => ?_⟩
  · rw [okF_iff]
    rintro ⟨-, -, -, -, h⟩
    have := h m hm
    omega
  refine ⟨_, g2.cell (boxc hw1 1 _ rfl), (maxI_c (hs.grow g02) (by omega)).mono ?_⟩
  rintro e w3 ⟨M, rfl, hM, hall2, g3⟩
  refine ⟨_, rfl, ?_, g02.trans g3⟩
  congr 2
  rw [Bool.eq_iff_iff, decide_eq_true_iff, Bool.not_eq_true', ← Bool.not_eq_true, okF_iff]
  constructor
  · rintro h ⟨-, -, -, -, h'⟩
    have := h' M hM
    omega
  · intro h
    refine Classical.byContradiction fun hn => h ⟨by dsimp only; omega, by dsimp only; omega, by dsimp only; omega, by dsimp only; omega, fun x hx => ?_⟩
    have h5 := hall x hx
    have h6 := hall2 x hx
    omega
/-- The program's test of facts. -/
theorem isFacts_c {w : World} {v : Value} {l : List Atm} (hs : SlA w v l) : Calls Try.prog 39 #[v] w (Ret w (.bool (okFs l))) := by
  refine f39_calls _ ?_
  refine SlX.ln hs (condD (fun h => ?_) fun h => ⟨?_, Grow.refl w⟩)
  · refine (containsFact_c (p := fun a => !okF a) hs ⟨_, _, _, rfl, by kernel_rfl, fun a _ w' u _ hu => by rw [app0]; exact badFact_c hu⟩).mono ?_
    rintro e w2 ⟨rfl, g2⟩
    refine ⟨_, rfl, ?_, g2⟩
    congr 2
    have : decide (l.length ≤ 24) = true := decide_eq_true (by omega)
    simp only [okFs, this, Bool.true_and]
    rw [← Bool.not_not (l.all _), List.not_all_eq_any_not]
  · have : decide (l.length ≤ 24) = false := decide_eq_false (by omega)
    simp only [okFs, this, Bool.false_and]
/-! ## The reference -/
end Go.Proofs.Ytddpjdlhgggbkaa
