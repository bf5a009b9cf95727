/- Contracts: results and their number. No condition. -/
import Derived.Test.YtmjpnfapjcfejaaDoorMk
import Derived.Test.YtmjpnfapjcfejaaDoorMl
namespace Go.Proofs.YtmjpnfapjcfejaaDoor
open Go Go.RowKit VC
set_option linter.unusedSimpArgs false
set_option linter.unusedVariables false

theorem runF_len {l b : List Atm} {ms : List Vals} (h : runF l b = some ms) (hb : 1 ≤ b.length) : ms.length ≤ 20000 := by
  obtain ⟨rfl, h2⟩ := runF_some.1 h
  have := h2 b.length hb (Nat.le_refl _)
  rwa [List.take_length] at this
theorem okQ_len {h : List Int} {b : List Atm} (hq : okQ h b = true) : 1 ≤ b.length ∧ b.length ≤ 5 ∧ h.length ≤ 4 := by
  simp only [okQ, Bool.and_eq_true, decide_eq_true_eq] at hq
  exact ⟨hq.1.1.1.1, hq.1.1.1.2, hq.1.1.2⟩
theorem okQ_head {h : List Int} {b : List Atm} (hq : okQ h b = true) : ∀ x ∈ h, 0 ≤ x ∧ x ≤ 7 := by
  simp only [okQ, Bool.and_eq_true, List.all_eq_true] at hq
  intro x hx
  have := hq.2 x hx
  simp only [okH, Bool.and_eq_true, decide_eq_true_eq] at this
  exact this.1
/-- Matches, and why there are none to be had. -/
def askO (h : List Int) (b l : List Atm) : Int × List Vals := if okQ h b && okFs l then (match runF l b with | some ms => (0, ms) | none => (3, [])) else (2, [])
def resO (h : List Int) (b l : List Atm) : Int × List (List Int) := if okQ h b && okFs l then (match runF l b with | some ms => (0, rowsOf h ms) | none => (3, [])) else (2, [])
theorem SlR.nil {α : Type} {f : α → List Value} (w : World) : SlR f w (.slice none 0 0) [] := SlC.nil w
theorem asked_c {w : World} {hv bv fv : Value} {h : List Int} {b l : List Atm} (hh : SlI w hv h) (hb : SlA w bv b) (hl : SlA w fv l) : Calls Tryd.prog 49 #[.agg #[hv, bv], fv] w fun e w' => ∃ v, e = .returned (.tuple #[v, .int .i64 (askO h b l).1]) ∧ SlV w' v (askO h b l).2 ∧ Grow w w' := by
  refine f49_calls _ _ ?_
  refine ⟨_, rfl, fun w1 hw1 => ?_⟩
  have g1 := alloc_grow hw1
  refine ⟨[_, _], rfl, two (boxc hw1 0 _ rfl) (boxc hw1 1 _ rfl), (valid_c (hh.grow g1) (hb.gr g1)).mono ?_⟩
  rintro e w4 ⟨rfl, g4⟩
  have g04 := g1.trans g4
  refine ⟨_, rfl, condP_i (fun h1 => ?_) fun h1 => ?_⟩
  · have h1 : okQ h b = false := by simpa using h1
    have e1 : askO h b l = (2, []) := by simp [askO, h1]
    rw [e1]
    exact ⟨_, rfl, SlR.nil _, g04⟩
  have h1 : okQ h b = true := by simpa using h1
  refine (isFacts_c (hl.gr g04)).mono ?_
  rintro e w7 ⟨rfl, g7⟩
  have g07 := g04.trans g7
  refine ⟨_, rfl, condP_i (fun h2 => ?_) fun h2 => ?_⟩
  · have h2 : okFs l = false := by simpa using h2
    have e1 : askO h b l = (2, []) := by simp [askO, h1, h2]
    rw [e1]
    exact ⟨_, rfl, SlR.nil _, g07⟩
  have h2 : okFs l = true := by simpa using h2
  refine ⟨[_, _], rfl, two ((g4.trans g7).cell (boxc hw1 0 _ rfl)) ((g4.trans g7).cell (boxc hw1 1 _ rfl)), (matches_c (hb.gr g07) (hl.gr g07) (okB_term h1) (by have := okQ_len h1; omega) h2).mono ?_⟩
  rintro e w11 ⟨g11, ⟨v, ms, rfl, hr, hs⟩ | ⟨v, rfl, hr⟩⟩
  · have e1 : askO h b l = (0, ms) := by simp [askO, h1, h2, hr]
    rw [e1]
    exact ⟨_, _, rfl, cF rfl ⟨v, rfl, hs, g07.trans g11⟩⟩
  · have e1 : askO h b l = (3, []) := by simp [askO, h1, h2, hr]
    rw [e1]
    exact ⟨_, _, rfl, cT rfl ⟨_, rfl, SlR.nil _, g07.trans g11⟩⟩
theorem count_c {w : World} {hv bv fv : Value} {h : List Int} {b l : List Atm} (hh : SlI w hv h) (hb : SlA w bv b) (hl : SlA w fv l) : Calls Tryd.prog 25 #[.agg #[hv, bv], fv] w (Ret w (.tuple #[.int .i64 ((askO h b l).2.length : Int), .int .i64 (askO h b l).1])) := by
  refine f25_calls _ _ ?_
  refine ⟨_, rfl, fun w1 hw1 => ?_⟩
  have g1 := alloc_grow hw1
  refine ⟨[_, _], rfl, two (boxc hw1 0 _ rfl) (boxc hw1 1 _ rfl), (asked_c (hh.grow g1) (hb.gr g1) (hl.gr g1)).mono ?_⟩
  rintro e w4 ⟨v, rfl, hs, g4⟩
  exact ⟨_, _, rfl, SlR.ln hs ⟨rfl, g1.trans g4⟩⟩
/-- A row, a slice of the call's own that is newer than out's array. -/
theorem elx_row {T : Nat → Prop} {w : World} {B : Nat} {v out : Value} {xs : List Int} (ho : OwnI w B v xs) (hT : ∀ b, T b → b < B) (hout : ∀ b, out.ownBlock = some b → b < B) : ElX T 1 repI out w ([v], xs) := by
  refine ⟨rfl, ?_, fun w' hf => ⟨v, rfl, (Own.fr ho hf fun k hk e => ?_).slI⟩⟩
  · intro u hu
    simp at hu
    subst hu
    exact (Own.one ho).2
  · have h2 := (Own.lt ho hk).1
    rcases e with e | e
    · have := hT k e; omega
    · have h1 := hout k e.symm
      omega
/-- Rows of the call's own: they read as long as nothing turns but what was there before. -/
abbrev OwnRs (B : Nat) (w : World) (v : Value) (L : List (List Int)) : Prop := OwnX (fun b => b < B) 1 repI w B 22 v L
end Go.Proofs.YtmjpnfapjcfejaaDoor
