/- Contracts: results and their number. No condition. -/
import Derived.Test.YtmjpnfapjcfejaaGreatDoorMk
import Derived.Test.YtmjpnfapjcfejaaGreatDoorMl
namespace Go.Proofs.YtmjpnfapjcfejaaGreatDoor
open Go Go.RowKit VC
set_option linter.unusedSimpArgs false
set_option linter.unusedVariables false

theorem runF_len {l b : List Atm} {ms : List Vals} (h : runF l b = some ms) (hb : 1 ≤ b.length) : ms.length ≤ 20000 := by
  obtain ⟨rfl, h2⟩ := runF_some.1 h
  have := h2 b.length hb (Nat.le_refl _)
  rwa [List.take_length] at this
theorem okQ_len {h : List Int} {b : List Atm} (hq : okQ h b = true) : 1 ≤ b.length ∧ b.length ≤ 5 ∧ h.length ≤ 4 := by
  simp only [okQ, Bool.and_eq_true, decide_eq_true_eq] at hq
  exact ⟨hq.1.1.1.1, hq.1.1.1.2, hq.1.1.2⟩
theorem okQ_head {h : List Int} {b : List Atm} (hq : okQ h b = true) : ∀ x ∈ h, 0 ≤ x ∧ x ≤ 7 := by
  simp only [okQ, Bool.and_eq_true, List.all_eq_true] at hq
  intro x hx
  have := hq.2 x hx
  simp only [okH, Bool.and_eq_true, decide_eq_true_eq] at this
  exact this.1
/-- Matches, and why there are none to be had. -/
def askO (h : List Int) (b l : List Atm) : Int × List Vals := if okQ h b && okFs l then (match runF l b with | some ms => (0, ms) | none => (3, [])) else (2, [])
def resO (h : List Int) (b l : List Atm) : Int × List (List Int) := if okQ h b && okFs l then (match runF l b with | some ms => (0, rowsOf h ms) | none => (3, [])) else (2, [])
theorem SlR.nil {α : Type} {f : α → List Value} (w : World) : SlR f w (.slice none 0 0) [] := SlC.nil w
theorem asked_c {w : World} {hv bv fv : Value} {h : List Int} {b l : List Atm} (hh : SlI w hv h) (hb : SlA w bv b) (hl : SlA w fv l) : Calls Tryz.prog 55 #[.agg #[hv, bv], fv] w fun e w' => ∃ v, e = .returned (.tuple #[v, .int .i64 (askO h b l).1]) ∧ SlV w' v (askO h b l).2 ∧ Grow w w' := by
  refine f55_calls _ _ ?_
  refine ⟨_, rfl, fun w1 hw1 => ?_⟩
  have g1 := alloc_grow hw1
  refine ⟨[_, _], rfl, two (boxc hw1 0 _ rfl) (boxc hw1 1 _ rfl), (valid_c (hh.grow g1) (hb.gr g1)).mono ?_⟩
  rintro e w4 ⟨rfl, g4⟩
  have g04 := g1.trans g4
  refine ⟨_, rfl, condP_i (fun h1 => ?_) fun h1 => ?_⟩
  · have h1 : okQ h b = false := by simpa using h1
    have e1 : askO h b l = (2, []) := by simp [askO, h1]
    rw [e1]
    exact ⟨_, rfl, SlR.nil _, g04⟩
  have h1 : okQ h b = true := by simpa using h1
  refine (isFacts_c (hl.gr g04)).mono ?_
  rintro e w7 ⟨rfl, g7⟩
  have g07 := g04.trans g7
  refine ⟨_, rfl, condP_i (fun h2 => ?_) fun h2 => ?_⟩
  · have h2 : okFs l = false := by simpa using h2
    have e1 : askO h b l = (2, []) := by simp [askO, h1, h2]
    rw [e1]
    exact ⟨_, rfl, SlR.nil _, g07⟩
  have h2 : okFs l = true := by simpa using h2
  refine ⟨[_, _], rfl, two ((g4.trans g7).cell (boxc hw1 0 _ rfl)) ((g4.trans g7).cell (boxc hw1 1 _ rfl)), (matches_c (hb.gr g07) (hl.gr g07) (okB_term h1) (by have := okQ_len h1; omega) h2).mono ?_⟩
  rintro e w11 ⟨g11, ⟨v, ms, rfl, hr, hs⟩ | ⟨v, rfl, hr⟩⟩
  · have e1 : askO h b l = (0, ms) := by simp [askO, h1, h2, hr]
    rw [e1]
    exact ⟨_, _, rfl, cF rfl ⟨v, rfl, hs, g07.trans g11⟩⟩
  · have e1 : askO h b l = (3, []) := by simp [askO, h1, h2, hr]
    rw [e1]
    exact ⟨_, _, rfl, cT rfl ⟨_, rfl, SlR.nil _, g07.trans g11⟩⟩
theorem count_c {w : World} {hv bv fv : Value} {h : List Int} {b l : List Atm} (hh : SlI w hv h) (hb : SlA w bv b) (hl : SlA w fv l) : Calls Tryz.prog 73 #[.agg #[hv, bv], fv] w (Ret w (.tuple #[.int .i64 ((askO h b l).2.length : Int), .int .i64 (askO h b l).1])) := by
  refine f73_calls _ _ ?_
  refine ⟨_, rfl, fun w1 hw1 => ?_⟩
  have g1 := alloc_grow hw1
  refine ⟨[_, _], rfl, two (boxc hw1 0 _ rfl) (boxc hw1 1 _ rfl), (asked_c (hh.grow g1) (hb.gr g1) (hl.gr g1)).mono ?_⟩
  rintro e w4 ⟨v, rfl, hs, g4⟩
  exact ⟨_, _, rfl, SlR.ln hs ⟨rfl, g1.trans g4⟩⟩
/-- A row, a slice of the call's own that is newer than out's array. -/
theorem elx_row {T : Nat → Prop} {w : World} {B : Nat} {v out : Value} {xs : List Int} (ho : OwnI w B v xs) (hT : ∀ b, T b → b < B) (hout : ∀ b, out.ownBlock = some b → b < B) : ElX T 1 repI out w ([v], xs) := by
  refine ⟨rfl, ?_, fun w' hf => ⟨v, rfl, (Own.fr ho hf fun k hk e => ?_).slI⟩⟩
  · intro u hu
    simp at hu
    subst hu
    exact (Own.one ho).2
  · have h2 := (Own.lt ho hk).1
    rcases e with e | e
    · have := hT k e; omega
    · have h1 := hout k e.symm
      omega
/-- Rows of the call's own: they read as long as nothing turns but what was there before. -/
abbrev OwnRs (B : Nat) (w : World) (v : Value) (L : List (List Int)) : Prop := OwnX (fun b => b < B) 1 repI w B 22 v L
theorem results_o {w : World} {hv bv fv : Value} {h : List Int} {b l : List Atm} (hh : SlI w hv h) (hb : SlA w bv b) (hl : SlA w fv l) : Calls Tryz.prog 27 #[.agg #[hv, bv], fv] w fun e w' => ∃ v, e = .returned (.tuple #[v, .int .i64 (resO h b l).1]) ∧ OwnRs w.heap.size w' v (resO h b l).2 ∧ Grow w w' := by
  refine f27_calls _ _ ?_
  refine ⟨_, rfl, fun w1 hw1 => ?_⟩
  have g1 := alloc_grow hw1
  refine ⟨[_, _], rfl, two (boxc hw1 0 _ rfl) (boxc hw1 1 _ rfl), (asked_c (hh.grow g1) (hb.gr g1) (hl.gr g1)).mono ?_⟩
  rintro e w4 ⟨v, rfl, hs, g4⟩
  have g04 := g1.trans g4
  refine ⟨_, _, rfl, ?_⟩
  by_cases hq : (okQ h b && okFs l) = true
  rotate_left
  · have e1 : askO h b l = (2, []) := by rw [askO, if_neg hq]
    have e2 : resO h b l = (2, []) := by rw [resO, if_neg hq]
    rw [e1] at hs ⊢
    rw [e2]
    exact cT rfl ⟨_, rfl, OwnX.nil _ _ _, g04⟩
  have hq' := hq
  rw [Bool.and_eq_true] at hq'
  cases hr : runF l b with
  | none =>
    have e1 : askO h b l = (3, []) := by rw [askO, if_pos hq, hr]
    have e2 : resO h b l = (3, []) := by rw [resO, if_pos hq, hr]
    rw [e1] at hs ⊢
    rw [e2]
    exact cT rfl ⟨_, rfl, OwnX.nil _ _ _, g04⟩
  | some ms =>
    have e1 : askO h b l = (0, ms) := by rw [askO, if_pos hq, hr]
    have e2 : resO h b l = (0, rowsOf h ms) := by rw [resO, if_pos hq, hr]
    rw [e1] at hs ⊢
    rw [e2]
    have hms := runF_len hr (okQ_len hq'.1).1
    have hhd := okQ_head hq'.1
    have hhl := (okQ_len hq'.1).2.2
    have hs : SlV w4 v ms := hs
    refine cF rfl (SlR.ln hs ⟨fun out t w' => ∃ i : Nat, t = i ∧ i ≤ ms.length ∧ OwnX (fun b => b < w4.heap.size) 1 repI w' w4.heap.size 22 out ((ms.take i).map fun m => h.map (ofV m)) ∧ Grow w4 w', fun _ t _ => ms.length - t.toNat, ⟨0, rfl, by omega, OwnX.nil _ _ _, Grow.refl _⟩, ?_⟩)
    rintro - out t w16 ⟨i, rfl, hi, hout, g16⟩
    refine condD (fun hlt => ?_) (fun hge => ?_)
    · have hil : i < ms.length := by omega
      refine SlV.loc (SlR.grow hs g16) rfl hil rfl fun w22 g22 s22 hV w24 hw24 => ?_
      have g24 := alloc_grow hw24
      have g224 := (g16.trans g22).trans g24
      have hrow0 : OwnI w24 w22.heap.size (.slice (some ⟨w22.heap.size, 0, none⟩) 0 0) [] := by
        have := Own.lit (B := w22.heap.size) (n := 0) (sz := 1) hw24 (Nat.le_refl _) (by omega) (by simp)
        simpa [OwnI] using this
      refine ⟨hv, (g4.trans g224).cell (boxc hw1 0 _ rfl), (hh.grow (g04.trans g224)).ln ?_⟩
      refine ⟨fun row t w' => ∃ j : Nat, t = j ∧ j ≤ h.length ∧ OwnI w' w22.heap.size row ((h.take j).map (ofV ms[i])) ∧ Fr (fun i => w22.heap.size ≤ i) w24 w', fun _ t _ => h.length - t.toNat, ⟨0, rfl, by omega, by simpa using hrow0, Fr.refl _ _⟩, ?_⟩
      rintro - row t w34 ⟨j, rfl, hj, hrow, hf⟩
      have g34 : Grow w22 w34 := g24.fr hf fun i hi e => by omega
      refine condD (fun hlt2 => ?_) (fun hge2 => ?_)
      · have hjl : j < h.length := by omega
        have hx := hhd _ (List.getElem_mem hjl)
        refine (hh.grow (g04.trans ((g16.trans g22).trans g34))).rd rfl hjl ⟨by omega, ms[i].getD (h[j]).toNat 0, cells8 (hV.grow g34) (by omega), fun w40 hw40 => ?_⟩
        refine papp1 el_int hw40 hrow rfl (by have := g34.size; omega) (by simp; omega) (by omega) ?_
        intro v' w' ho2 hf2 _
        refine ⟨by unfold inR; omega, ⟨j + 1, by omega, by omega, ?_, ?_⟩, by dsimp only; omega⟩
        · rw [List.take_succ_eq_append_getElem hjl, List.map_append]
          have e3 : ofV ms[i] h[j] = ms[i].getD (h[j]).toNat 0 := by rw [ofV, if_neg (by omega)]
          simp only [List.map_cons, List.map_nil, e3]
          unfold OwnI
          rw [List.length_append, List.map_append]
          exact ho2
        · exact hf.trans ((Fr.of_grow (alloc_grow hw40)).trans (hf2.mono fun k _ e => (Own.lt hrow e.symm).1))
      · have hjl : j = h.length := by omega
        subst hjl
        rw [List.take_length] at hrow
        refine ⟨Own.one hrow, fun w43 hw43 => ?_⟩
        have hs4 := g16.size
        have hb4 := g34.size
        refine pappX1 el_row (by omega) (cs := [row]) (y := h.map (ofV ms[i])) (hout.grow (g22.trans g34)) hw43 (elx_row hrow (fun b hb => by have hb : b < w4.heap.size := hb; omega) fun b hb => by have := (hout.lt hb).2; omega) (by omega) (by simp; omega) (by omega) ?_
        intro v2 w2 ho2 hf2 _ _
        refine ⟨by unfold inR; omega, ⟨i + 1, by omega, by omega, ?_, ?_⟩, by dsimp only; omega⟩
        · rw [List.take_succ_eq_append_getElem hil, List.map_append]
          exact ho2
        · exact ((g16.trans g22).trans (g34.trans (alloc_grow hw43))).fr hf2 fun k hk e => by have := (hout.lt e.symm).1; omega
    · have hil : i = ms.length := by omega
      subst hil
      rw [List.take_length] at hout
      refine (sortL_c hout (by simp; omega)).mono ?_
      rintro e w46 ⟨l', rfl, hp, hpw, ho46, hf46⟩
      refine ⟨rfl, (compactL_c ho46).mono ?_⟩
      rintro e w48 ⟨v', rfl, ho48, hf48, hbl⟩
      refine ⟨_, rfl, v', rfl, ?_, ?_⟩
      · have e3 := ddL_srt hp hpw
        rw [e3] at ho48
        exact (OwnX.base ho48 g04.size).weaken fun b hb => Nat.lt_of_lt_of_le hb g04.size
      · refine g04.trans (g16.fr (hf46.trans hf48) fun k hk e => ?_)
        have := (hout.lt e.symm).1
        omega
theorem results_c {w : World} {hv bv fv : Value} {h : List Int} {b l : List Atm} (hh : SlI w hv h) (hb : SlA w bv b) (hl : SlA w fv l) : Calls Tryz.prog 27 #[.agg #[hv, bv], fv] w fun e w' => ∃ v, e = .returned (.tuple #[v, .int .i64 (resO h b l).1]) ∧ SlL w' v (resO h b l).2 ∧ Grow w w' := by
  refine (results_o hh hb hl).mono ?_
  rintro e w' ⟨v, rfl, ho, g⟩
  exact ⟨v, rfl, ho.slX, g⟩
end Go.Proofs.YtmjpnfapjcfejaaGreatDoor
