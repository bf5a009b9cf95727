/- Plain: all matches of a query, their number, its results; other facts. No program. No condition. -/
import Derived.Test.YtddpjdlhgggbkaaMh
import Derived.Test.YtddpjdlhgggbkaaMb
namespace Go.Proofs.Ytddpjdlhgggbkaa
set_option linter.unusedSimpArgs false
set_option linter.unusedVariables false

theorem runM_iff (fs : List Atm) : ∀ (b : List Atm) (ms l : List Vals), runM fs ms b = some l ↔ l = b.foldl (stepM fs) ms ∧ ∀ k, 1 ≤ k → k ≤ b.length → ((b.take k).foldl (stepM fs) ms).length ≤ 20000
  | [], ms, l => by
    simp only [runM, List.foldl_nil, Option.some.injEq, List.length_nil]
    constructor
    · rintro rfl
      exact ⟨rfl, fun k h1 h2 => by omega⟩
    · rintro ⟨rfl, _⟩
      rfl
  | a :: r, ms, l => by
    rw [runM]
    split
    · rename_i h
      rw [runM_iff fs r, List.foldl_cons]
      refine and_congr_right fun e => ⟨fun h2 k hk1 hk => ?_, fun h2 k hk1 hk => ?_⟩
      · cases k with
        | zero => omega
        | succ k =>
          rw [List.take_succ_cons, List.foldl_cons]
          rcases Nat.eq_zero_or_pos k with rfl | h3
          · simpa using h
          · exact h2 k h3 (by simpa using hk)
      · have := h2 (k + 1) (by omega) (by simpa using hk)
        rwa [List.take_succ_cons, List.foldl_cons] at this
    · rename_i h
      constructor
      · intro h; cases h
      · rintro ⟨_, h2⟩
        have := h2 1 (by omega) (by simp)
        simp at this
        exact absurd this h
/-- All matches, of facts in any order, unless there are too many of some beginning. -/
def runF (fs b : List Atm) : Option (List Vals) := runM (srtF fs) [zeroV] b
def rowsOf (h : List Int) (ms : List Vals) : List (List Int) := srtL (ms.map fun m => h.map (ofV m))
theorem runF_some {fs b : List Atm} {l : List Vals} : runF fs b = some l ↔ l = allM (srtF fs) b ∧ ∀ k, 1 ≤ k → k ≤ b.length → (allM (srtF fs) (b.take k)).length ≤ 20000 := runM_iff _ _ _ _
theorem okF_pos {l : List Atm} (h : okFs l = true) : PosF l := by
  intro f hf y hy
  simp only [okFs, Bool.and_eq_true, List.all_eq_true] at h
  have := okF_iff.1 (h.2 f hf)
  exact (this.2.2.2.2 y hy).1
theorem okB_term {h : List Int} {b : List Atm} (hq : okQ h b = true) : ∀ a ∈ b, TermA a := by
  intro a ha
  simp only [okQ, Bool.and_eq_true, List.all_eq_true] at hq
  exact (okA_iff.1 (hq.1.2 a ha)).2.2.2.2
theorem srtF_pos {l : List Atm} (h : PosF l) : PosF (srtF l) := fun f hf => h f ((mem_srt key_A).1 hf)
theorem srtF_nodup (l : List Atm) : (srtF l).Nodup := str_nodup (str_srt key_A l)
theorem IsM.sub {fs fs' b : List Atm} {m : Vals} (h : IsM fs b m) (hs : ∀ a ∈ b, imgA m a ∈ fs → imgA m a ∈ fs') : IsM fs' b m := ⟨h.len, h.dom, fun a ha => hs a ha (h.hit a ha)⟩
theorem allM_st {fs b : List Atm} (hf : PosF fs) (hn : fs.Nodup) (hb : ∀ a ∈ b, TermA a) : StM fs b (allM fs b) := by
  have : ∀ (r c : List Atm) (ms : List Vals), StM fs c ms → (∀ a ∈ r, TermA a) → StM fs (c ++ r) (r.foldl (stepM fs) ms) := by
    intro r
    induction r with
    | nil => intro c ms h _; simpa using h
    | cons a r ih =>
      intro c ms h hr
      have := ih (c ++ [a]) (stepM fs ms a) (h.step (hr a (List.mem_cons_self ..)) hf hn) fun x hx => hr x (List.mem_cons_of_mem _ hx)
      simpa using this
  exact this b [] [zeroV] (StM.zero fs) hb
theorem sub_len {α : Type} [DecidableEq α] : ∀ {l l' : List α}, l.Nodup → (∀ x ∈ l, x ∈ l') → l.length ≤ l'.length
  | [], _, _, _ => Nat.zero_le _
  | x :: r, l', hn, hs => by
    obtain ⟨h1, h2⟩ := List.pairwise_cons.1 hn
    have hx := hs x (List.mem_cons_self ..)
    have ih := sub_len (l' := l'.erase x) h2 fun y hy => (List.mem_erase_of_ne (fun e => h1 y hy e.symm)).2 (hs y (List.mem_cons_of_mem _ hy))
    rw [List.length_erase_of_mem hx] at ih
    have := List.length_pos_of_mem hx
    simp only [List.length_cons]
    omega
/-- Members of the results. -/
theorem mem_rows {fs b : List Atm} {h : List Int} (hf : PosF fs) (hb : ∀ a ∈ b, TermA a) {y : List Int} : y ∈ rowsOf h (allM (srtF fs) b) ↔ ∃ m, IsM fs b m ∧ y = h.map (ofV m) := by
  unfold rowsOf
  rw [mem_srt key_id, List.mem_map]
  constructor
  · rintro ⟨m, hm, rfl⟩
    exact ⟨m, ((mem_allM (srtF_pos hf) hb).1 hm).sub fun a _ h => (mem_srt key_A).1 h, rfl⟩
  · rintro ⟨m, hm, rfl⟩
    exact ⟨m, (mem_allM (srtF_pos hf) hb).2 (hm.sub fun a _ h => (mem_srt key_A).2 h), rfl⟩
/-! ## Two bodies without common variables -/
end Go.Proofs.Ytddpjdlhgggbkaa
