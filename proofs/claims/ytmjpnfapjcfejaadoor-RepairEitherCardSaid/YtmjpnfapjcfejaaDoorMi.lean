/- Plain: all matches of a query, their number, its results; other facts. No program. No condition. -/
import Derived.Test.YtmjpnfapjcfejaaDoorMh
import Derived.Test.YtmjpnfapjcfejaaDoorMc
namespace Go.Proofs.YtmjpnfapjcfejaaDoor
set_option linter.unusedSimpArgs false
set_option linter.unusedVariables false

theorem runM_iff (fs : List Atm) : ∀ (b : List Atm) (ms l : List Vals), runM fs ms b = some l ↔ l = b.foldl (stepM fs) ms ∧ ∀ k, 1 ≤ k → k ≤ b.length → ((b.take k).foldl (stepM fs) ms).length ≤ 20000
  | [], ms, l => by
    simp only [runM, List.foldl_nil, Option.some.injEq, List.length_nil]
    constructor
    · rintro rfl
      exact ⟨rfl, fun k h1 h2 => by omega⟩
    · rintro ⟨rfl, _⟩
      rfl
  | a :: r, ms, l => by
    rw [runM]
    split
    · rename_i h
      rw [runM_iff fs r, List.foldl_cons]
      refine and_congr_right fun e => ⟨fun h2 k hk1 hk => ?_, fun h2 k hk1 hk => ?_⟩
      · cases k with
        | zero => omega
        | succ k =>
          rw [List.take_succ_cons, List.foldl_cons]
          rcases Nat.eq_zero_or_pos k with rfl | h3
          · simpa using h
          · exact h2 k h3 (by simpa using hk)
      · have := h2 (k + 1) (by omega) (by simpa using hk)
        rwa [List.take_succ_cons, List.foldl_cons] at this
    · rename_i h
      constructor
      · intro h; cases h
      · rintro ⟨_, h2⟩
        have := h2 1 (by omega) (by simp)
        simp at this
        exact absurd this h
/-- All matches, of facts in any order, unless there are too many of some beginning. -/
def runF (fs b : List Atm) : Option (List Vals) := runM (srtF fs) [zeroV] b
def rowsOf (h : List Int) (ms : List Vals) : List (List Int) := srtL (ms.map fun m => h.map (ofV m))
theorem runF_some {fs b : List Atm} {l : List Vals} : runF fs b = some l ↔ l = allM (srtF fs) b ∧ ∀ k, 1 ≤ k → k ≤ b.length → (allM (srtF fs) (b.take k)).length ≤ 20000 := runM_iff _ _ _ _
theorem okF_pos {l : List Atm} (h : okFs l = true) : PosF l := by
  intro f hf y hy
  simp only [okFs, Bool.and_eq_true, List.all_eq_true] at h
  have := okF_iff.1 (h.2 f hf)
  exact (this.2.2.2.2 y hy).1
theorem okB_term {h : List Int} {b : List Atm} (hq : okQ h b = true) : ∀ a ∈ b, TermA a := by
  intro a ha
  simp only [okQ, Bool.and_eq_true, List.all_eq_true] at hq
  exact (okA_iff.1 (hq.1.2 a ha)).2.2.2.2
theorem srtF_pos {l : List Atm} (h : PosF l) : PosF (srtF l) := fun f hf => h f ((mem_srt key_A).1 hf)
theorem srtF_nodup (l : List Atm) : (srtF l).Nodup := str_nodup (str_srt key_A l)
theorem IsM.sub {fs fs' b : List Atm} {m : Vals} (h : IsM fs b m) (hs : ∀ a ∈ b, imgA m a ∈ fs → imgA m a ∈ fs') : IsM fs' b m := ⟨h.len, h.dom, fun a ha => hs a ha (h.hit a ha)⟩
theorem allM_st {fs b : List Atm} (hf : PosF fs) (hn : fs.Nodup) (hb : ∀ a ∈ b, TermA a) : StM fs b (allM fs b) := by
  have : ∀ (r c : List Atm) (ms : List Vals), StM fs c ms → (∀ a ∈ r, TermA a) → StM fs (c ++ r) (r.foldl (stepM fs) ms) := by
    intro r
    induction r with
    | nil => intro c ms h _; simpa using h
    | cons a r ih =>
      intro c ms h hr
      have := ih (c ++ [a]) (stepM fs ms a) (h.step (hr a (List.mem_cons_self ..)) hf hn) fun x hx => hr x (List.mem_cons_of_mem _ hx)
      simpa using this
  exact this b [] [zeroV] (StM.zero fs) hb
theorem sub_len {α : Type} [DecidableEq α] : ∀ {l l' : List α}, l.Nodup → (∀ x ∈ l, x ∈ l') → l.length ≤ l'.length
  | [], _, _, _ => Nat.zero_le _
  | x :: r, l', hn, hs => by
    obtain ⟨h1, h2⟩ := List.pairwise_cons.1 hn
    have hx := hs x (List.mem_cons_self ..)
    have ih := sub_len (l' := l'.erase x) h2 fun y hy => (List.mem_erase_of_ne (fun e => h1 y hy e.symm)).2 (hs y (List.mem_cons_of_mem _ hy))
    rw [List.length_erase_of_mem hx] at ih
    have := List.length_pos_of_mem hx
    simp only [List.length_cons]
    omega
/-- Members of the results. -/
theorem mem_rows {fs b : List Atm} {h : List Int} (hf : PosF fs) (hb : ∀ a ∈ b, TermA a) {y : List Int} : y ∈ rowsOf h (allM (srtF fs) b) ↔ ∃ m, IsM fs b m ∧ y = h.map (ofV m) := by
  unfold rowsOf
  rw [mem_srt key_id, List.mem_map]
  constructor
  · rintro ⟨m, hm, rfl⟩
    exact ⟨m, ((mem_allM (srtF_pos hf) hb).1 hm).sub fun a _ h => (mem_srt key_A).1 h, rfl⟩
  · rintro ⟨m, hm, rfl⟩
    exact ⟨m, (mem_allM (srtF_pos hf) hb).2 (hm.sub fun a _ h => (mem_srt key_A).2 h), rfl⟩
/-- The same facts in another order, or more than once. -/
theorem srtF_congr {l l' : List Atm} (h : ∀ a, a ∈ l ↔ a ∈ l') : srtF l = srtF l' := str_uniq (str_srt key_A l) (str_srt key_A l') fun a => (mem_srt key_A).trans ((h a).trans (mem_srt key_A).symm)
/-- Fewer facts that still have all that matches use: the same matches, in number and results. -/
theorem fewer {fs gs b : List Atm} {h : List Int} (hf : PosF fs) (hb : ∀ a ∈ b, TermA a) (hs : ∀ a ∈ gs, a ∈ fs) (hall : ∀ m, IsM fs b m → ∀ a ∈ b, imgA m a ∈ gs) {l : List Vals} (hl : runF fs b = some l) :
    ∃ l', runF gs b = some l' ∧ l'.length = l.length ∧ rowsOf h l' = rowsOf h l := by
  have hg : PosF gs := fun a ha => hf a (hs a ha)
  obtain ⟨rfl, hk⟩ := runF_some.1 hl
  have iff1 : ∀ m, IsM gs b m ↔ IsM fs b m := fun m => ⟨fun hm => hm.sub fun a _ h => hs _ h, fun hm => ⟨hm.len, hm.dom, fun a ha => hall m hm a ha⟩⟩
  have mg : ∀ m, m ∈ allM (srtF gs) b ↔ m ∈ allM (srtF fs) b := fun m => by
    rw [mem_allM (srtF_pos hg) hb, mem_allM (srtF_pos hf) hb]
    have a1 : IsM (srtF gs) b m ↔ IsM gs b m := ⟨fun hm => hm.sub fun a _ h => (mem_srt key_A).1 h, fun hm => hm.sub fun a _ h => (mem_srt key_A).2 h⟩
    have a2 : IsM (srtF fs) b m ↔ IsM fs b m := ⟨fun hm => hm.sub fun a _ h => (mem_srt key_A).1 h, fun hm => hm.sub fun a _ h => (mem_srt key_A).2 h⟩
    rw [a1, a2, iff1]
  have ng := (allM_st (srtF_pos hg) (srtF_nodup gs) hb).nodup
  have nf := (allM_st (srtF_pos hf) (srtF_nodup fs) hb).nodup
  refine ⟨_, runF_some.2 ⟨rfl, fun k h1 h2 => ?_⟩, ?_, ?_⟩
  · have hb' : ∀ a ∈ b.take k, TermA a := fun a ha => hb a (List.mem_of_mem_take ha)
    refine Nat.le_trans (sub_len (allM_st (srtF_pos hg) (srtF_nodup gs) hb').nodup fun m hm => ?_) (hk k h1 h2)
    rw [mem_allM (srtF_pos hg) hb'] at hm
    rw [mem_allM (srtF_pos hf) hb']
    exact hm.sub fun a _ h => (mem_srt key_A).2 (hs _ ((mem_srt key_A).1 h))
  · exact Nat.le_antisymm (sub_len ng fun m hm => (mg m).1 hm) (sub_len nf fun m hm => (mg m).2 hm)
  · refine str_uniq (str_srt key_id _) (str_srt key_id _) fun y => ?_
    rw [mem_rows hg hb, mem_rows hf hb]
    exact ⟨fun ⟨m, hm, e⟩ => ⟨m, (iff1 m).1 hm, e⟩, fun ⟨m, hm, e⟩ => ⟨m, (iff1 m).2 hm, e⟩⟩
/-- More facts: more results. -/
theorem more {fs gs b : List Atm} {h : List Int} (hg : PosF gs) (hb : ∀ a ∈ b, TermA a) (hs : ∀ a ∈ fs, a ∈ gs) {y : List Int} (hy : y ∈ rowsOf h (allM (srtF fs) b)) : y ∈ rowsOf h (allM (srtF gs) b) := by
  have hf : PosF fs := fun a ha => hg a (hs a ha)
  obtain ⟨m, hm, e⟩ := (mem_rows hf hb).1 hy
  exact (mem_rows hg hb).2 ⟨m, hm.sub fun a _ h => hs _ h, e⟩
/-! ## Two bodies without common variables -/
def mrg (m n : Vals) : Vals := (List.range 8).map fun i => if m.getD i 0 ≠ 0 then m.getD i 0 else n.getD i 0
theorem mrg_get (m n : Vals) {i : Nat} (hi : i < 8) : (mrg m n).getD i 0 = if m.getD i 0 ≠ 0 then m.getD i 0 else n.getD i 0 := by
  simp only [mrg, List.getD, List.getElem?_map, List.getElem?_range hi, Option.map_some, Option.getD_some]
theorem mrg_len (m n : Vals) : (mrg m n).length = 8 := by simp [mrg]
/-- The count of two bodies without common variables is a product. -/
theorem product {fs b c : List Atm} (hf : PosF fs) (hn : fs.Nodup) (hb : ∀ a ∈ b, TermA a) (hc : ∀ a ∈ c, TermA a) (hd : ∀ i : Nat, i < 8 → (i : Int) ∈ b.flatMap Prod.snd → (i : Int) ∉ c.flatMap Prod.snd) :
    (allM fs (b ++ c)).length = (allM fs b).length * (allM fs c).length := by
  have hbc : ∀ a ∈ b ++ c, TermA a := fun a ha => (List.mem_append.1 ha).elim (hb a) (hc a)
  have nbc := (allM_st hf hn hbc).nodup
  have nb := (allM_st hf hn hb).nodup
  have nc := (allM_st hf hn hc).nodup
  obtain ⟨P, hP⟩ : ∃ P, P = (allM fs b).flatMap fun m => (allM fs c).map fun n => mrg m n := ⟨_, rfl⟩
  have hlen : P.length = (allM fs b).length * (allM fs c).length := by
    rw [hP]
    generalize allM fs b = l
    induction l with
    | nil => simp
    | cons m r ih => rw [List.flatMap_cons, List.length_append, ih, List.length_map, List.length_cons, Nat.add_mul]; omega
  have agree1 : ∀ {m n x}, IsM fs b m → (x ∈ b.flatMap Prod.snd) → x ≤ 7 → ofV (mrg m n) x = ofV m x := fun {m n x} hm hx h7 => by
    unfold ofV
    split
    · rfl
    · rw [mrg_get m n (by omega), if_pos]
      refine (hm.dom x.toNat (by omega)).2 ?_
      rwa [Int.toNat_of_nonneg (by omega)]
  have agree2 : ∀ {m n x}, IsM fs b m → (x ∈ c.flatMap Prod.snd) → x ≤ 7 → ofV (mrg m n) x = ofV n x := fun {m n x} hm hx h7 => by
    unfold ofV
    split
    · rfl
    · rw [mrg_get m n (by omega), if_neg]
      intro h
      have := (hm.dom x.toNat (by omega)).1 h
      rw [Int.toNat_of_nonneg (by omega)] at this
      exact hd x.toNat (by omega) (by rwa [Int.toNat_of_nonneg (by omega)]) (by rwa [Int.toNat_of_nonneg (by omega)])
  have mem : ∀ x, x ∈ P ↔ x ∈ allM fs (b ++ c) := fun x => by
    rw [hP, List.mem_flatMap, mem_allM hf hbc]
    simp only [List.mem_map, mem_allM hf hb, mem_allM hf hc]
    constructor
    · rintro ⟨m, hm, n, hn, rfl⟩
      refine ⟨mrg_len m n, fun i hi => ?_, fun a ha => ?_⟩
      · rw [mrg_get m n hi, List.flatMap_append, List.mem_append, ← hm.dom i hi, ← hn.dom i hi]
        generalize m.getD i 0 = p
        generalize n.getD i 0 = q
        by_cases h : p = 0 <;> simp [h]
      · rcases List.mem_append.1 ha with ha | ha
        · have : imgA (mrg m n) a = imgA m a := by
            unfold imgA; congr 1
            exact List.map_congr_left fun x hx => agree1 hm (List.mem_flatMap.2 ⟨a, ha, hx⟩) (hb a ha x hx).2
          rw [this]; exact hm.hit a ha
        · have : imgA (mrg m n) a = imgA n a := by
            unfold imgA; congr 1
            exact List.map_congr_left fun x hx => agree2 hm (List.mem_flatMap.2 ⟨a, ha, hx⟩) (hc a ha x hx).2
          rw [this]; exact hn.hit a ha
    · intro hx
      have restr : ∀ (d : List Atm), (∀ a ∈ d, TermA a) → (∀ a ∈ d, a ∈ b ++ c) → ∃ m : Vals, IsM fs d m ∧ ∀ i, i < 8 → m.getD i 0 = if (i : Int) ∈ d.flatMap Prod.snd then x.getD i 0 else 0 := fun d hd2 hsub => by
        obtain ⟨m, hm⟩ : ∃ m : Vals, m = (List.range 8).map fun (i : Nat) => if (i : Int) ∈ d.flatMap Prod.snd then x.getD i 0 else 0 := ⟨_, rfl⟩
        have hg : ∀ i, i < 8 → m.getD i 0 = if (i : Int) ∈ d.flatMap Prod.snd then x.getD i 0 else 0 := fun i hi => by
          rw [hm]; simp only [List.getD, List.getElem?_map, List.getElem?_range hi, Option.map_some, Option.getD_some]
        refine ⟨m, ⟨by rw [hm]; simp, fun i hi => ?_, fun a ha => ?_⟩, hg⟩
        · rw [hg i hi]
          split
          · rename_i h
            refine ⟨fun _ => h, fun _ => (hx.dom i hi).2 ?_⟩
            obtain ⟨a, ha, hai⟩ := List.mem_flatMap.1 h
            exact List.mem_flatMap.2 ⟨a, hsub a ha, hai⟩
          · rename_i h; exact ⟨fun h0 => absurd rfl h0, fun h0 => absurd h0 h⟩
        · have : imgA m a = imgA x a := by
            unfold imgA; congr 1
            refine List.map_congr_left fun z hz => ?_
            unfold ofV
            split
            · rfl
            · have := hd2 a ha z hz
              rw [hg _ (by omega), if_pos]
              rw [Int.toNat_of_nonneg (by omega)]
              exact List.mem_flatMap.2 ⟨a, ha, hz⟩
          rw [this]; exact hx.hit a (hsub a ha)
      obtain ⟨m, hm, gm⟩ := restr b hb fun a ha => List.mem_append.2 (.inl ha)
      obtain ⟨n, hn, gn⟩ := restr c hc fun a ha => List.mem_append.2 (.inr ha)
      refine ⟨m, hm, n, hn, vals_ext (mrg_len m n) hx.len fun i hi => ?_⟩
      rw [mrg_get m n hi, gm i hi, gn i hi]
      have hxd := hx.dom i hi
      rw [List.flatMap_append, List.mem_append] at hxd
      by_cases h1 : (i : Int) ∈ b.flatMap Prod.snd
      · rw [if_pos h1, if_pos (hxd.2 (.inl h1))]
      · rw [if_neg h1, if_neg (by simp)]
        split
        · rfl
        · rename_i h2
          refine Classical.byContradiction fun h3 => ?_
          rcases hxd.1 (fun e => h3 e.symm) with h | h
          · exact h1 h
          · exact h2 h
  have nP : P.Nodup := by
    rw [hP]
    have : ∀ l : List Vals, (∀ m ∈ l, IsM fs b m) → l.Nodup → (l.flatMap fun m => (allM fs c).map fun n => mrg m n).Nodup := by
      intro l
      induction l with
      | nil => intro _ _; exact List.Pairwise.nil
      | cons m r ih =>
        intro hl hn2
        obtain ⟨h1, h2⟩ := List.pairwise_cons.1 hn2
        have hm := hl m (List.mem_cons_self ..)
        rw [List.flatMap_cons]
        have back : ∀ {m n n' : Vals}, IsM fs b m → IsM fs c n → IsM fs c n' → mrg m n = mrg m n' → n = n' := fun {m n n'} hm hn hn' e => by
          refine vals_ext hn.len hn'.len fun i hi => ?_
          have e1 := congrArg (fun z : Vals => z.getD i 0) e
          simp only [mrg_get _ _ hi] at e1
          by_cases h : m.getD i 0 = 0
          · rwa [if_neg (by rw [h]; simp), if_neg (by rw [h]; simp)] at e1
          · have hb' := (hm.dom i hi).1 h
            have hc' := hd i hi hb'
            have a1 : n.getD i 0 = 0 := Classical.byContradiction fun h => hc' ((hn.dom i hi).1 h)
            have a2 : n'.getD i 0 = 0 := Classical.byContradiction fun h => hc' ((hn'.dom i hi).1 h)
            rw [a1, a2]
        refine List.pairwise_append.2 ⟨?_, ih (fun x hx => hl x (List.mem_cons_of_mem _ hx)) h2, fun x hx y hy e => ?_⟩
        · rw [List.pairwise_map]
          refine List.Pairwise.imp_of_mem (fun {n n'} hn hn' hne e => hne (back hm ((mem_allM hf hc).1 hn) ((mem_allM hf hc).1 hn') e)) nc
        · obtain ⟨n, hn, rfl⟩ := List.mem_map.1 hx
          obtain ⟨m', hm', hy⟩ := List.mem_flatMap.1 hy
          obtain ⟨n', hn', rfl⟩ := List.mem_map.1 hy
          have hM' := hl m' (List.mem_cons_of_mem _ hm')
          refine h1 m' hm' (vals_ext hm.len hM'.len fun i hi => ?_)
          have e1 := congrArg (fun z : Vals => z.getD i 0) e
          simp only [mrg_get _ _ hi] at e1
          by_cases h : m.getD i 0 = 0
          · have h' : m'.getD i 0 = 0 := by
              refine Classical.byContradiction fun hn2 => ?_
              exact absurd ((hm.dom i hi).2 ((hM'.dom i hi).1 hn2)) (fun h9 => h9 h)
            rw [h, h']
          · have h' : m'.getD i 0 ≠ 0 := (hM'.dom i hi).2 ((hm.dom i hi).1 h)
            rwa [if_pos h, if_pos h'] at e1
    exact this _ (fun m hm => (mem_allM hf hb).1 hm) nb
  rw [← hlen]
  exact Nat.le_antisymm (sub_len nbc fun x hx => (mem x).2 hx) (sub_len nP fun x hx => (mem x).1 hx)
end Go.Proofs.YtmjpnfapjcfejaaDoor
