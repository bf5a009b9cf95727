/- Contracts: why a question has no answer, in the statements. No condition. -/
import Derived.Test.YtmjpnfapjcfejaaGreatDoorRn
import Derived.Test.YtmjpnfapjcfejaaGreatDoorRl
namespace Go.Proofs.YtmjpnfapjcfejaaGreatDoor
open Go Go.RowKit VC
set_option linter.unusedSimpArgs false
set_option linter.unusedVariables false

theorem askE_tr (q : Bool) (s h : List Int) (b L : List Atm) : askE q (s.take 9) (h.take 9) (trB b) (trF L) = askE q s h b L := by
  unfold askE
  rw [okR_tr, askO_tr]
  have : decide (0 < (h.take 9).length) = decide (0 < h.length) := decide_eq_decide.2 (by rw [List.length_take]; omega)
  rw [this]
theorem askE_ok {q : Bool} {s h : List Int} {b L : List Atm} (h0 : askE q s h b L = 0) : okR s L = true ∧ (askO h b L).1 = 0 ∧ okQ h b = true ∧ s.take 9 = s ∧ h.take 9 = h ∧ trB b = b ∧ trF L = L ∧ (q = true → h = []) := by
  unfold askE at h0
  split at h0
  · rename_i hc
    rw [Bool.and_eq_true, Bool.not_eq_true', Bool.and_eq_false_iff, decide_eq_false_iff_not] at hc
    have hq := (askO_ok h0).1
    refine ⟨hc.1, h0, hq, (okR_trF hc.1).2, (trB_of hq).2, (trB_of hq).1, (okR_trF hc.1).1, fun e => ?_⟩
    rcases hc.2 with h1 | h1
    · rw [e] at h1; cases h1
    · exact List.length_eq_zero_iff.1 (by omega)
  · cases h0
theorem askE_cases (q : Bool) (s h : List Int) (b L : List Atm) : askE q s h b L = 0 ∨ askE q s h b L = 2 ∨ askE q s h b L = 3 := by
  unfold askE
  split
  · exact askO_cases h b L
  · exact .inr (.inl rfl)
section
variable {w : World} {sv fv hv bv : Value} {s h : List Int} {b L : List Atm}
theorem asked7_c {head : Bool} (hs : SlI w sv s) (hl : SlA w fv L) (hh : SlI w hv h) (hb : SlA w bv b) : Calls Tryz.prog 15 #[sv, fv, .agg #[hv, bv], .bool head] w (Ret w (.int .i64 (askE (!head) s h b L))) := by
  refine f15_calls _ _ _ _ ⟨_, rfl, fun w1 hw1 => ?_⟩
  have g1 := alloc_grow hw1
  have hQ := RecV.new hw1
  refine (refValidR_c (hs.grow g1) (hl.gr g1)).mono ?_
  rintro e w3 ⟨rfl, g3⟩
  have g03 := g1.trans g3
  refine ⟨_, rfl, condP_i (fun hn => ⟨?_, g03⟩) fun hk => ?_⟩
  · have hn : okR s L = false := by simpa using hn
    simp [askE, hn]
  have hk : okR s L = true := by simpa using hk
  have hFs : okFs L = true := (okR_out hk).2.2.1
  refine ⟨[_, _], rfl, (hQ.grow g3).all, (refValid_c (hh.grow g03) (hb.gr g03)).mono ?_⟩
  rintro e w7 ⟨rfl, g7⟩
  have g07 := g03.trans g7
  refine ⟨_, rfl, condP_i (fun hn => ⟨?_, g07⟩) fun hq => ?_⟩
  · have hn : okQ h b = false := by simpa using hn
    simp [askE, askO, hn]
  have hq : okQ h b = true := by simpa using hq
  have last : ∀ {w'}, Grow w w' → RecV w' w.heap.size [hv, bv] → askE (!head) s h b L = (askO h b L).1 → ∃ cs_v14 : List Value, cs_v14.length = 2 ∧ (∀ (j : Nat) (v : Value), cs_v14[j]? = some v → w'.cell? (Addr.add ⟨w.heap.size, 0, none⟩ j) = some v) ∧ Calls Tryz.prog 41 #[fv, (Value.agg cs_v14.toArray)] w' fun e_v16 w_v15 => ∃ t_v17 : Bool, e_v16 = .returned (Value.bool t_v17) ∧ condP t_v17 (Ret w (.int .i64 (askE (!head) s h b L)) (.returned (Value.int .i64 3)) w_v15) (Ret w (.int .i64 (askE (!head) s h b L)) (.returned (Value.int .i64 0)) w_v15) := fun {w'} g hr he => by
    refine ⟨[_, _], rfl, hr.all, (large_c (hl.gr g) (hh.grow g) (hb.gr g)).mono ?_⟩
    rintro e w15 ⟨rfl, g15⟩
    rw [he]
    refine ⟨_, rfl, condD (fun h3 => ⟨by rw [h3], g.trans g15⟩) fun h3 => ⟨?_, g.trans g15⟩⟩
    have : (askO h b L).1 = 0 := by
      unfold askO at h3 ⊢
      rw [if_pos (by rw [hq, hFs]; rfl)] at h3 ⊢
      split at h3
      · rfl
      · exact absurd rfl h3
    rw [this]
  refine condP_i (fun h1 => ?_) fun h1 => ?_
  · have h1 : head = false := by simpa using h1
    refine ⟨_, ((hQ.grow g3).grow g7).cell (j := 0) rfl, (hh.grow g07).ln (condD (fun h0 => ⟨?_, g07⟩) fun h0 => last g07 ((hQ.grow g3).grow g7) ?_)⟩
    · have : 0 < h.length := by omega
      simp [askE, h1, this]
    · have : ¬ 0 < h.length := by omega
      simp [askE, h1, this, hk]
  · have h1 : head = true := by simpa using h1
    exact last g07 ((hQ.grow g3).grow g7) (by simp [askE, h1, hk])
end
end Go.Proofs.YtmjpnfapjcfejaaGreatDoor
