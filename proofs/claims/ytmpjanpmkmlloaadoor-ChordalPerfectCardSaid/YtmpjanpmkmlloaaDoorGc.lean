/- Colourings: what a list must be to be one, the search in depth, that a graph with an order has one with as many colours as a clique has nodes. No program, no condition. -/
import Derived.Test.YtmpjanpmkmlloaaDoorGe
import Derived.Test.YtmpjanpmkmlloaaDoorGi
namespace Go.Proofs.YtmpjanpmkmlloaaDoor
open Go Go.RowKit VC
set_option linter.unusedSimpArgs false
set_option linter.unusedVariables false

/-- A colouring with colours from 0 to 11. -/
structure ColP (N : List Nat) (l : List Int) : Prop where
  len : l.length = N.length
  rng : ∀ i, i < l.length → 0 ≤ gi l i ∧ gi l i ≤ 11
  prop : ∀ i j, i < l.length → E N i j → gi l j ≠ gi l i
open Classical in
noncomputable def colB (N : List Nat) (l : List Int) : Bool := decide (ColP N l)
theorem colB_iff {N : List Nat} {l : List Int} : colB N l = true ↔ ColP N l := by simp [colB]
theorem ColP.take {N : List Nat} (hN : VN N) {l : List Int} : ColP N (l.take 14) ↔ ColP N l := by
  have h12 := hN.le
  by_cases hl : l.length ≤ 14
  · rw [List.take_of_length_le hl]
  · constructor
    · intro h
      have := h.len
      simp at this; omega
    · intro h
      have := h.len; omega
noncomputable def colN (N : List Nat) (l : List Int) : Nat := if colB N l then pc (orAll l) else 0
theorem colN_take {N : List Nat} (hN : VN N) {l : List Int} : colN N (l.take 14) = colN N l ∧ colB N (l.take 14) = colB N l := by
  have hB : colB N (l.take 14) = colB N l := by rw [Bool.eq_iff_iff, colB_iff, colB_iff, ColP.take hN]
  refine ⟨?_, hB⟩
  unfold colN
  rw [hB]
  split
  · rename_i h
    have := (colB_iff.1 h).len
    have h12 := hN.le
    rw [List.take_of_length_le (by omega)]
  · rfl
/-! ## The search -/
def okC (N : List Nat) (l : List Nat) (c : Nat) : Bool := (List.range l.length).all fun j => !(nb N l.length).testBit j || decide (gn l j ≠ c)
def cdfs (N : List Nat) (k : Nat) : Nat → List Nat → Option (List Nat)
  | 0, l => some l
  | f + 1, l => (List.range k).findSome? fun c => if okC N l c then cdfs N k f (l ++ [c]) else none
def cdfsF (N : List Nat) (k f : Nat) (l : List Nat) (c : Nat) : Option (List Nat) := if okC N l c then cdfs N k f (l ++ [c]) else none
theorem cdfs_succ (N : List Nat) (k f : Nat) (l : List Nat) : cdfs N k (f + 1) l = (List.range k).findSome? (cdfsF N k f l) := rfl
theorem cdfs_len {N : List Nat} {k : Nat} : ∀ {f : Nat} {l r : List Nat}, cdfs N k f l = some r → r.length = l.length + f ∧ r.take l.length = l
  | 0, l, r, h => by
    simp [cdfs] at h
    subst h
    simp
  | f + 1, l, r, h => by
    rw [cdfs_succ] at h
    obtain ⟨c, -, h⟩ := List.exists_of_findSome?_eq_some h
    unfold cdfsF at h
    split at h
    · obtain ⟨h1, h2⟩ := cdfs_len h
      refine ⟨by rw [h1]; simp; omega, ?_⟩
      have := congrArg (List.take l.length) h2
      rw [List.take_take] at this
      simpa using this
    · cases h
/-- A colouring of the first nodes with colours below k. -/
def Pre (N : List Nat) (k : Nat) (l : List Nat) : Prop := (∀ i, i < l.length → gn l i < k) ∧ ∀ i j, i < l.length → j < i → E N i j → gn l j ≠ gn l i
theorem gn_app {l : List Nat} {c i : Nat} : gn (l ++ [c]) i = if i < l.length then gn l i else if i = l.length then c else 0 := by
  unfold gn
  simp only [List.getD_eq_getElem?_getD, List.getElem?_append]
  split
  · rfl
  · rename_i h
    split
    · rename_i e; subst e; simp
    · rename_i e
      rw [List.getElem?_eq_none (by simp; omega)]; rfl
theorem Pre.app {N : List Nat} {k : Nat} {l : List Nat} {c : Nat} (h : Pre N k l) (hc : c < k) (ho : okC N l c = true) : Pre N k (l ++ [c]) := by
  simp only [okC, List.all_eq_true, List.mem_range, Bool.or_eq_true, Bool.not_eq_true', decide_eq_true_eq] at ho
  refine ⟨fun i hi => ?_, fun i j hi hj he => ?_⟩
  · rw [List.length_append, List.length_singleton] at hi
    rw [gn_app]
    split
    · exact h.1 i ‹_›
    · rw [if_pos (by omega)]; exact hc
  · rw [List.length_append, List.length_singleton] at hi
    rw [gn_app, gn_app, if_pos (show j < l.length by omega)]
    split
    · exact h.2 i j ‹_› hj he
    · have e : i = l.length := by omega
      subst e
      rw [if_pos rfl]
      rcases ho j hj with h1 | h1
      · unfold E at he; rw [h1] at he; cases he
      · exact h1
theorem cdfs_sound {N : List Nat} {k : Nat} : ∀ {f : Nat} {l r : List Nat}, Pre N k l → cdfs N k f l = some r → Pre N k r
  | 0, l, r, hp, h => by
    simp [cdfs] at h
    subst h; exact hp
  | f + 1, l, r, hp, h => by
    rw [cdfs_succ] at h
    obtain ⟨c, hc, h⟩ := List.exists_of_findSome?_eq_some h
    unfold cdfsF at h
    split at h
    · rename_i ho
      exact cdfs_sound (hp.app (by simpa using hc) ho) h
    · cases h
theorem cdfs_complete {N : List Nat} {k : Nat} {col : Nat → Nat} (h1 : ∀ i, i < N.length → col i < k) (h2 : ∀ i j, i < N.length → j < N.length → E N i j → col i ≠ col j) : ∀ f, f ≤ N.length → (cdfs N k f ((List.range (N.length - f)).map col)).isSome = true
  | 0, _ => rfl
  | f + 1, hf => by
    have ih := cdfs_complete h1 h2 f (by omega)
    have hk : N.length - (f + 1) < N.length := by omega
    have e : (List.range (N.length - (f + 1))).map col ++ [col (N.length - (f + 1))] = (List.range (N.length - f)).map col := by
      have : N.length - f = N.length - (f + 1) + 1 := by omega
      rw [this, List.range_succ, List.map_append]; rfl
    have ho : okC N ((List.range (N.length - (f + 1))).map col) (col (N.length - (f + 1))) = true := by
      simp only [okC, List.all_eq_true, List.mem_range, Bool.or_eq_true, Bool.not_eq_true', decide_eq_true_eq, List.length_map, List.length_range]
      intro j hj
      have hg : gn ((List.range (N.length - (f + 1))).map col) j = col j := by simp [gn, hj]
      rw [hg]
      cases hb : (nb N (N.length - (f + 1))).testBit j with
      | false => exact .inl rfl
      | true => exact .inr fun e => h2 _ _ hk (by omega) hb e.symm
    rw [cdfs_succ]
    cases hs : (List.range k).findSome? (cdfsF N k f ((List.range (N.length - (f + 1))).map col)) with
    | some r => rfl
    | none =>
      rw [List.findSome?_eq_none_iff] at hs
      have := hs (col (N.length - (f + 1))) (List.mem_range.2 (h1 _ hk))
      unfold cdfsF at this
      rw [if_pos ho, e] at this
      rw [this] at ih; cases ih
/-! ## A colouring along the order -/
def omg (N : List Nat) : Nat := bestN (cliq N) (2 ^ N.length)
def alp (N : List Nat) : Nat := bestN (free N) (2 ^ N.length)
theorem cliq_le {N : List Nat} {s : Nat} (hs : s < 2 ^ N.length) (h : cliq N s = true) : pc s ≤ pc (omg N) := bestN_max hs h
theorem free_color (k : Nat) (l : List Nat) (h : l.length < k) : ∃ c, c < k ∧ c ∉ l := by
  refine Classical.byContradiction fun hn => ?_
  have hsub : ∀ c, c ∈ List.range k → c ∈ l := fun c hc => Classical.byContradiction fun h => hn ⟨c, by simpa using hc, h⟩
  have := List.nodup_range (n := k).length_le_of_subset hsub
  simp at this; omega
theorem color_order {N : List Nat} (hN : VN N) : ∀ (f left : Nat) (r : List Nat), left < 2 ^ N.length → ordN N f left = some r → ∃ col : Nat → Nat, (∀ i, left.testBit i = true → col i < pc (omg N)) ∧ ∀ i j, left.testBit i = true → left.testBit j = true → E N i j → col i ≠ col j
  | 0, left, r, hl, ho => by
    unfold ordN at ho
    split at ho
    · rename_i h0
      subst h0
      exact ⟨fun _ => 0, fun i hi => by simp at hi, fun i j hi => by simp at hi⟩
    · cases ho
  | f + 1, left, r, hl, ho => by
    have h12 := hN.le
    unfold ordN at ho
    split at ho
    · rename_i h0
      subst h0
      exact ⟨fun _ => 0, fun i hi => by simp at hi, fun i j hi => by simp at hi⟩
    · split at ho
      · cases ho
      · rename_i z hz
        simp only [Option.map_eq_some_iff] at ho
        obtain ⟨r', hr', -⟩ := ho
        obtain ⟨⟨i1, i2, i3⟩, -⟩ := find_first hz
        obtain ⟨col, c1, c2⟩ := color_order hN f _ r' (nSub_lt hl) hr'
        have hK : nb N z &&& left < 4096 := Nat.lt_of_le_of_lt Nat.and_le_left (hN.nb_lt' z)
        have hq := (cliq_iff hK).1 i3
        -- the clique with z
        have hbig : pc (nb N z &&& left) + 1 ≤ pc (omg N) := by
          have hbz : ((nb N z &&& left) ||| 2 ^ z).testBit z = true := by rw [Nat.testBit_or, two_bit]; simp
          have hlt : (nb N z &&& left) ||| 2 ^ z < 2 ^ N.length := by
            have hzl := bit_lt hl i1
            exact Nat.or_lt_two_pow (Nat.lt_of_le_of_lt Nat.and_le_left (hN.nb_lt z)) (Nat.pow_lt_pow_right (by omega) hzl)
          have hlt4 := Nat.lt_of_lt_of_le hlt hN.pow
          have hc : cliq N ((nb N z &&& left) ||| 2 ^ z) = true := by
            rw [cliq_iff hlt4]
            intro i hi j hj hne
            rw [Nat.testBit_or, two_bit, Bool.or_eq_true, decide_eq_true_eq] at hi hj
            rcases hi with hi | rfl
            · rcases hj with hj | rfl
              · exact hq i hi j hj hne
              · rw [Nat.testBit_and, Bool.and_eq_true] at hi
                rw [hN.sym']; exact hi.1
            · rcases hj with hj | rfl
              · rw [Nat.testBit_and, Bool.and_eq_true] at hj
                exact hj.1
              · exact absurd rfl hne
          have := cliq_le hlt hc
          rw [pc_sub hbz i2] at this
          have e : nSub ((nb N z &&& left) ||| 2 ^ z) (2 ^ z) = nb N z &&& left := by
            apply Nat.eq_of_testBit_eq
            intro i
            rw [nSub_bit, Nat.testBit_or, two_bit, Nat.testBit_and]
            by_cases e : z = i
            · subst e; rw [hN.irr']; simp
            · simp [e]
          rw [e] at this
          exact this
        obtain ⟨c, hc, hcn⟩ := free_color (pc (omg N)) ((els (nb N z &&& left)).map col) (by rw [List.length_map]; exact hbig)
        refine ⟨fun i => if i = z then c else col i, fun i hi => ?_, fun i j hi hj he => ?_⟩
        · simp only
          split
          · exact hc
          · rename_i hne
            refine c1 i ?_
            rw [nSub_bit, hi, two_bit]
            have : ¬ z = i := fun e => hne e.symm
            simp [this]
        · have hK' : ∀ j, left.testBit j = true → E N z j → col j ≠ c := fun j hj he e => by
            refine hcn (List.mem_map.2 ⟨j, mem_els.2 ⟨?_, ?_⟩, e⟩)
            · have := bit_lt hl hj; omega
            · rw [Nat.testBit_and, hj]; simpa [E] using he
          simp only
          by_cases e1 : i = z
          · by_cases e2 : j = z
            · subst e1; subst e2; exact absurd rfl (he.ne hN)
            · subst e1
              rw [if_pos rfl, if_neg e2]
              exact (hK' j hj he).symm
          · by_cases e2 : j = z
            · subst e2
              rw [if_neg e1, if_pos rfl]
              exact hK' i hi (he.symm hN)
            · rw [if_neg e1, if_neg e2]
              have a1 : ¬ z = i := fun e => e1 e.symm
              have a2 : ¬ z = j := fun e => e2 e.symm
              refine c2 i j ?_ ?_ he
              · rw [nSub_bit, hi, two_bit]; simp [a1]
              · rw [nSub_bit, hj, two_bit]; simp [a2]
theorem perfect {N : List Nat} (hN : VN N) (h : (ordG N).isSome = true) : ∃ l, cdfs N (pc (omg N)) N.length [] = some l := by
  obtain ⟨r, hr⟩ := Option.isSome_iff_exists.1 h
  obtain ⟨col, c1, c2⟩ := color_order hN 12 _ r (al_lt N) hr
  have hal : ∀ i, i < N.length → (al N).testBit i = true := fun i hi => by rw [al_bit]; simpa using hi
  have := cdfs_complete (N := N) (k := pc (omg N)) (fun i hi => c1 i (hal i hi)) (fun i j hi hj he => c2 i j (hal i hi) (hal j hj) he) N.length (Nat.le_refl _)
  rw [Nat.sub_self] at this
  exact Option.isSome_iff_exists.1 this
end Go.Proofs.YtmpjanpmkmlloaaDoor
