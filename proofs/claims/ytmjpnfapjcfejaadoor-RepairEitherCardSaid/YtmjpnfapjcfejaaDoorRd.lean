/- Queries in the facts of repairs. Of no program. No condition. -/
import Derived.Test.YtmjpnfapjcfejaaDoorRv
import Derived.Test.YtmjpnfapjcfejaaDoorMr
namespace Go.Proofs.YtmjpnfapjcfejaaDoor
open VC
set_option linter.unusedSimpArgs false
set_option linter.unusedVariables false

theorem imgA_im (m : Vals) (a : Atm) : imgA m a = im (fun i => m.getD i 0) a := rfl
/-- A match, as a choice of a number for each variable. -/
theorem isM_sat {F b : List Atm} (hF : PosF F) (hb : ∀ a ∈ b, TermA a) : (∃ m, IsM F b m) ↔ SatL b F := by
  constructor
  · rintro ⟨m, hm⟩
    exact ⟨fun i => m.getD i 0, fun a ha => hm.hit a ha⟩
  · rintro ⟨θ, hθ⟩
    have hg : ∀ i, i < 8 → ((List.range 8).map fun i : Nat => if (i : Int) ∈ b.flatMap Prod.snd then θ i else 0).getD i 0 = if (i : Int) ∈ b.flatMap Prod.snd then θ i else 0 := fun i hi => by
      rw [List.getD, List.getElem?_map, List.getElem?_range hi]
      rfl
    have hi8 : ∀ a ∈ b, ∀ i : Nat, (i : Int) ∈ a.2 → i < 8 := fun a ha i hi => by have := (hb a ha _ hi).2; omega
    have hpos : ∀ a ∈ b, ∀ i : Nat, (i : Int) ∈ a.2 → 1 ≤ θ i := fun a ha i hi => by
      have h1 := hF _ (hθ a ha) (tV θ (i : Int)) (List.mem_map.2 ⟨_, hi, rfl⟩)
      rwa [tV_nat] at h1
    refine ⟨(List.range 8).map fun i : Nat => if (i : Int) ∈ b.flatMap Prod.snd then θ i else 0, by simp, fun i hi => ?_, fun a ha => ?_⟩
    · rw [hg i hi]
      split
      · rename_i h
        obtain ⟨a, ha, hx⟩ := List.mem_flatMap.1 h
        have := hpos a ha i hx
        exact ⟨fun _ => h, fun _ => by omega⟩
      · rename_i h
        exact ⟨fun h2 => absurd rfl h2, fun h2 => absurd h2 h⟩
    · have : imgA ((List.range 8).map fun i : Nat => if (i : Int) ∈ b.flatMap Prod.snd then θ i else 0) a = im θ a := by
        rw [imgA_im]
        refine im_eq.2 fun i hi => ?_
        rw [hg i (hi8 a ha i hi), if_pos (List.mem_flatMap.2 ⟨a, ha, hi⟩)]
      rw [this]
      exact hθ a ha
theorem allM_sat {F b : List Atm} (hF : PosF F) (hb : ∀ a ∈ b, TermA a) : (allM (srtF F) b).length ≠ 0 ↔ SatL b F := by
  rw [← isM_sat hF hb]
  constructor
  · intro h
    obtain ⟨m, hm⟩ := List.exists_mem_of_length_pos (Nat.pos_of_ne_zero h)
    exact ⟨m, ((mem_allM (srtF_pos hF) hb).1 hm).sub fun a _ h => (mem_srt key_A).1 h⟩
  · rintro ⟨m, hm⟩
    have := List.length_pos_of_mem ((mem_allM (srtF_pos hF) hb).2 (hm.sub fun a _ h => (mem_srt key_A).2 h))
    omega
/-- Fewer facts never are too many. -/
theorem runF_sub {F G b : List Atm} (hF : PosF F) (hb : ∀ a ∈ b, TermA a) (hs : ∀ a ∈ G, a ∈ F) {l : List Vals} (h : runF F b = some l) : runF G b = some (allM (srtF G) b) := by
  have hG : PosF G := fun a ha => hF a (hs a ha)
  obtain ⟨_, hk⟩ := runF_some.1 h
  refine runF_some.2 ⟨rfl, fun k h1 h2 => ?_⟩
  have hb' : ∀ a ∈ b.take k, TermA a := fun a ha => hb a (List.mem_of_mem_take ha)
  refine Nat.le_trans (sub_len (allM_st (srtF_pos hG) (srtF_nodup G) hb').nodup fun m hm => ?_) (hk k h1 h2)
  rw [mem_allM (srtF_pos hG) hb'] at hm
  rw [mem_allM (srtF_pos hF) hb']
  exact hm.sub fun a _ h => (mem_srt key_A).2 (hs _ ((mem_srt key_A).1 h))
theorem ofM_sub {L : List Atm} {m : Nat} {a : Atm} (h : a ∈ ofM L m) : a ∈ L := by
  obtain ⟨i, hi, _, rfl⟩ := mem_ofM.1 h
  exact fa_mem hi
theorem ofM_len (L : List Atm) (m : Nat) : (ofM L m).length ≤ L.length := by
  unfold ofM
  rw [List.length_map]
  have := List.length_filter_le m.testBit (List.range L.length)
  rwa [List.length_range] at this
theorem okFs_ofM {L : List Atm} (h : okFs L = true) (m : Nat) : okFs (ofM L m) = true := by
  simp only [okFs, Bool.and_eq_true, List.all_eq_true, decide_eq_true_eq] at h ⊢
  exact ⟨Nat.le_trans (ofM_len L m) h.1, fun a ha => h.2 a (ofM_sub ha)⟩
/-- In a repair a query that can be counted in all facts can be counted. -/
theorem askO_ofM {h : List Int} {b L : List Atm} (h0 : (askO h b L).1 = 0) (m : Nat) : askO h b (ofM L m) = (0, allM (srtF (ofM L m)) b) := by
  obtain ⟨h1, h2, h3⟩ := askO_ok h0
  unfold askO
  rw [if_pos (by rw [h1, okFs_ofM h2]; rfl), runF_sub (okF_pos h2) (okB_term h1) (fun a ha => ofM_sub ha) h3]
theorem resO_ofM {h : List Int} {b L : List Atm} (h0 : (askO h b L).1 = 0) (m : Nat) : resO h b (ofM L m) = (0, rowsOf h (allM (srtF (ofM L m)) b)) := by
  obtain ⟨h1, h2, h3⟩ := askO_ok h0
  unfold resO
  rw [if_pos (by rw [h1, okFs_ofM h2]; rfl), runF_sub (okF_pos h2) (okB_term h1) (fun a ha => ofM_sub ha) h3]
theorem askO_resO (h : List Int) (b L : List Atm) : (askO h b L).1 = (resO h b L).1 := by
  unfold askO resO
  split
  · split <;> rfl
  · rfl
/-- How many matches a query has in a repair. -/
def cntM (b L : List Atm) (m : Nat) : Nat := (allM (srtF (ofM L m)) b).length
theorem cntM_sat {h : List Int} {b L : List Atm} (hq : okQ h b = true) (hl : okFs L = true) (m : Nat) : cntM b L m ≠ 0 ↔ SatL b (ofM L m) := allM_sat (okF_pos (okFs_ofM hl m)) (okB_term hq)
def rowM (h : List Int) (b L : List Atm) (m : Nat) : List (List Int) := rowsOf h (allM (srtF (ofM L m)) b)
theorem cntM_le {h : List Int} {b L : List Atm} (h0 : (askO h b L).1 = 0) (m : Nat) : cntM b L m ≤ 20000 := by
  obtain ⟨h1, h2, h3⟩ := askO_ok h0
  have := (runF_some.1 (runF_sub (okF_pos h2) (okB_term h1) (fun a ha => ofM_sub ha) h3 (G := ofM L m))).2 b.length (okQ_len h1).1 (Nat.le_refl _)
  rwa [List.take_length] at this
end Go.Proofs.YtmjpnfapjcfejaaDoor
