/- The deletion of ears with sets of variables as numbers: what it finds are ears. Of no program. No condition. -/
import Derived.Test.YtmjpnfapjcfejaaGreatDoorTa
import Derived.Test.YtmjpnfapjcfejaaGreatDoorMk
import Derived.Test.YtmjpnfapjcfejaaGreatDoorRf
namespace Go.Proofs.YtmjpnfapjcfejaaGreatDoor
set_option linter.unusedVariables false

/-- What the others that are left have. -/
def othG (left : Nat) (V : List Nat) (i : Nat) : List Nat → Nat := List.foldl (fun acc k => if k ≠ i ∧ left.testBit k = true then acc ||| V.getD k 0 else acc) 0
def othN (n left : Nat) (V : List Nat) (i : Nat) : Nat := othG left V i (List.range n)
theorem oth_go (left : Nat) (V : List Nat) (i x : Nat) : ∀ (l : List Nat) (acc : Nat), (l.foldl (fun acc k => if k ≠ i ∧ left.testBit k = true then acc ||| V.getD k 0 else acc) acc).testBit x = true ↔ acc.testBit x = true ∨ ∃ k ∈ l, k ≠ i ∧ left.testBit k = true ∧ (V.getD k 0).testBit x = true
  | [], acc => by simp
  | a :: r, acc => by
    rw [List.foldl_cons, oth_go left V i x r]
    by_cases h : a ≠ i ∧ left.testBit a = true
    · rw [if_pos h, Nat.testBit_or, Bool.or_eq_true]
      constructor
      · rintro ((h1 | h1) | ⟨k, h1, h2⟩)
        · exact .inl h1
        · exact .inr ⟨a, List.mem_cons_self .., h.1, h.2, h1⟩
        · exact .inr ⟨k, List.mem_cons_of_mem _ h1, h2⟩
      · rintro (h1 | ⟨k, h1, h2⟩)
        · exact .inl (.inl h1)
        · rcases List.mem_cons.1 h1 with rfl | h1
          · exact .inl (.inr h2.2.2)
          · exact .inr ⟨k, h1, h2⟩
    · rw [if_neg h]
      constructor
      · rintro (h1 | ⟨k, h1, h2⟩)
        · exact .inl h1
        · exact .inr ⟨k, List.mem_cons_of_mem _ h1, h2⟩
      · rintro (h1 | ⟨k, h1, h2⟩)
        · exact .inl h1
        · rcases List.mem_cons.1 h1 with rfl | h1
          · exact absurd ⟨h2.1, h2.2.1⟩ h
          · exact .inr ⟨k, h1, h2⟩
theorem oth_bit {n left : Nat} {V : List Nat} {i x : Nat} : (othN n left V i).testBit x = true ↔ ∃ k, k < n ∧ k ≠ i ∧ left.testBit k = true ∧ (V.getD k 0).testBit x = true := by
  unfold othN othG
  rw [oth_go]
  simp only [Nat.zero_testBit, Bool.false_eq_true, false_or, List.mem_range]
def cutN (n left : Nat) (V : List Nat) (i : Nat) : List Nat := V.set i (V.getD i 0 &&& othN n left V i)
def cutK (n left : Nat) (V : List Nat) (k : Nat) : List Nat := (List.range k).foldl (cutN n left) V
theorem cutK_succ (n left : Nat) (V : List Nat) (k : Nat) : cutK n left V (k + 1) = cutN n left (cutK n left V k) k := by
  unfold cutK
  rw [List.range_succ, List.foldl_append]
  rfl
/-- What is kept between the rounds. -/
structure EarI (vs : Nat → Nat → Prop) (n left : Nat) (V : List Nat) : Prop where
  len : V.length = n
  sub : ∀ i, i < n → left.testBit i = true → ∀ x, (V.getD i 0).testBit x = true → vs i x
  has : ∀ i k, i < n → k < n → i ≠ k → left.testBit i = true → left.testBit k = true → ∀ x, vs i x → vs k x → (V.getD i 0).testBit x = true
/-- Nothing but what is shared is kept of atom i. -/
def Tight (vs : Nat → Nat → Prop) (n left : Nat) (V : List Nat) (i : Nat) : Prop := ∀ x, (V.getD i 0).testBit x = true → ∃ k, k < n ∧ k ≠ i ∧ left.testBit k = true ∧ vs k x
section
variable {vs : Nat → Nat → Prop} {n left : Nat} {V : List Nat}
theorem getD_setN {l : List Nat} {k : Nat} (hk : k < l.length) (y i : Nat) : (l.set k y).getD i 0 = if i = k then y else l.getD i 0 := by
  simp only [List.getD, List.getElem?_set]
  by_cases h : k = i
  · subst h
    rw [if_pos rfl, if_pos rfl, if_pos hk]
    rfl
  · rw [if_neg h, if_neg (Ne.symm h)]
theorem cut_get (hl : V.length = n) {i : Nat} (hi : i < n) (k : Nat) : (cutN n left V i).getD k 0 = if k = i then V.getD i 0 &&& othN n left V i else V.getD k 0 := getD_setN (by omega) _ _
theorem EarI.cut (h : EarI vs n left V) {i : Nat} (hi : i < n) : EarI vs n left (cutN n left V i) := by
  refine ⟨by unfold cutN; rw [List.length_set]; exact h.len, fun j hj hlj x hx => ?_, fun j k hj hk hjk hlj hlk x hx hy => ?_⟩
  · rw [cut_get h.len hi] at hx
    split at hx
    · rename_i e
      subst e
      rw [Nat.testBit_and, Bool.and_eq_true] at hx
      exact h.sub j hj hlj x hx.1
    · exact h.sub j hj hlj x hx
  · rw [cut_get h.len hi]
    split
    · rename_i e
      subst e
      rw [Nat.testBit_and, Bool.and_eq_true]
      exact ⟨h.has j k hj hk hjk hlj hlk x hx hy, oth_bit.2 ⟨k, hk, Ne.symm hjk, hlk, h.has k j hk hj (Ne.symm hjk) hlk hlj x hy hx⟩⟩
    · exact h.has j k hj hk hjk hlj hlk x hx hy
theorem EarI.cutK (h : EarI vs n left V) : ∀ {k : Nat}, k ≤ n → EarI vs n left (cutK n left V k) ∧ ∀ i, i < k → Tight vs n left (cutK n left V k) i
  | 0, _ => ⟨h, fun i hi => by omega⟩
  | k + 1, hk => by
    obtain ⟨h1, h2⟩ := EarI.cutK h (k := k) (by omega)
    rw [cutK_succ]
    refine ⟨h1.cut (by omega), fun i hi x hx => ?_⟩
    rw [cut_get h1.len (by omega)] at hx
    split at hx
    · rename_i e
      subst e
      rw [Nat.testBit_and, Bool.and_eq_true] at hx
      obtain ⟨k, a1, a2, a3, a4⟩ := oth_bit.1 hx.2
      exact ⟨k, a1, a2, a3, h1.sub k a1 a3 x a4⟩
    · exact h2 i (by omega) x hx
end
/-! ## The pair that is taken: the last -/
def earT (left : Nat) (V : List Nat) (i k : Nat) : Bool := decide (k ≠ i) && left.testBit i && left.testBit k && decide (V.getD i 0 &&& V.getD k 0 = V.getD i 0)
theorem sub_bits {a b : Nat} : a &&& b = a ↔ ∀ x, a.testBit x = true → b.testBit x = true := by
  constructor
  · intro h x hx
    rw [← h, Nat.testBit_and, Bool.and_eq_true] at hx
    exact hx.2
  · intro h
    refine Nat.eq_of_testBit_eq fun x => ?_
    rw [Nat.testBit_and]
    cases hx : a.testBit x with
    | false => rfl
    | true => rw [h x hx]; rfl
def pickIn (left : Nat) (V : List Nat) (i m : Nat) (acc : Option (Nat × Nat)) : Option (Nat × Nat) := (List.range m).foldl (fun acc k => if earT left V i k = true then some (i, k) else acc) acc
def pickN (n left : Nat) (V : List Nat) (m : Nat) : Option (Nat × Nat) := (List.range m).foldl (fun acc i => pickIn left V i n acc) none
theorem pickIn_succ (left : Nat) (V : List Nat) (i m : Nat) (acc : Option (Nat × Nat)) : pickIn left V i (m + 1) acc = if earT left V i m = true then some (i, m) else pickIn left V i m acc := by
  unfold pickIn
  rw [List.range_succ, List.foldl_append]
  rfl
theorem pickN_succ (n left : Nat) (V : List Nat) (m : Nat) : pickN n left V (m + 1) = pickIn left V m n (pickN n left V m) := by
  unfold pickN
  rw [List.range_succ, List.foldl_append]
  rfl
theorem pick_some {n left : Nat} {V : List Nat} : ∀ {m : Nat} {i k : Nat}, m ≤ n → pickN n left V m = some (i, k) → i < n ∧ k < n ∧ earT left V i k = true := by
  have inn : ∀ {j : Nat}, j < n → ∀ m, m ≤ n → ∀ acc : Option (Nat × Nat), (∀ i k, acc = some (i, k) → i < n ∧ k < n ∧ earT left V i k = true) → ∀ i k, pickIn left V j m acc = some (i, k) → i < n ∧ k < n ∧ earT left V i k = true := fun {j} hj m => by
    induction m with
    | zero => intro _ acc h; exact h
    | succ m ih =>
      intro hm acc h i k he
      rw [pickIn_succ] at he
      split at he
      · rename_i ht
        obtain ⟨rfl, rfl⟩ : j = i ∧ m = k := by simpa using he
        exact ⟨hj, by omega, ht⟩
      · exact ih (by omega) acc h i k he
  intro m
  induction m with
  | zero => intro i k _ h; simp [pickN] at h
  | succ m ih =>
    intro i k hm h
    rw [pickN_succ] at h
    exact inn (by omega) n (Nat.le_refl _) _ (fun i k he => ih (by omega) he) i k h
end Go.Proofs.YtmjpnfapjcfejaaGreatDoor

/- The deletion of ears as a relation between its states; what is left is one atom exactly if all can be eliminated. Of no program. No condition. -/
namespace Go.Proofs.YtmjpnfapjcfejaaGreatDoor
set_option linter.unusedVariables false

/-- A set of bits without one. -/
def clr (left i : Nat) : Nat := VC.nSub left (2 ^ i)
/-- From what is left, with the sets and the parents so far, to what is left at the end. -/
inductive EarsR (n : Nat) : Nat → List Nat → List Int → Nat → List Int → Prop
  | stop {left : Nat} {V : List Nat} {p : List Int} : pickN n left (cutK n left V n) n = none → EarsR n left V p left p
  | go {left : Nat} {V : List Nat} {p : List Int} {i k l2 : Nat} {p2 : List Int} : pickN n left (cutK n left V n) n = some (i, k) → EarsR n (clr left i) (cutK n left V n) (p.set i (k : Int)) l2 p2 → EarsR n left V p l2 p2
/-- The parents do not matter for what is left. -/
theorem EarsR.left {n left : Nat} {V : List Nat} {p : List Int} {l2 : Nat} {p2 : List Int} (h : EarsR n left V p l2 p2) : ∀ (q : List Int), ∃ q2, EarsR n left V q l2 q2 := by
  induction h with
  | stop h1 => exact fun q => ⟨q, .stop h1⟩
  | go h1 _ ih =>
    intro q
    obtain ⟨q2, h2⟩ := ih (q.set _ _)
    exact ⟨q2, .go h1 h2⟩
def InS (n left : Nat) : Nat → Prop := fun j => j < n ∧ left.testBit j = true
theorem earT_iff {left : Nat} {V : List Nat} {i k : Nat} : earT left V i k = true ↔ k ≠ i ∧ left.testBit i = true ∧ left.testBit k = true ∧ ∀ x, (V.getD i 0).testBit x = true → (V.getD k 0).testBit x = true := by
  unfold earT
  simp only [Bool.and_eq_true, decide_eq_true_eq, sub_bits, and_assoc]
theorem clr_bit {left i j : Nat} : (clr left i).testBit j = true ↔ left.testBit j = true ∧ j ≠ i := by
  unfold clr
  rw [VC.nSub_bit, Nat.testBit_two_pow]
  simp only [Bool.and_eq_true, Bool.not_eq_true', decide_eq_false_iff_not]
  exact ⟨fun h => ⟨h.1, fun e => h.2 e.symm⟩, fun h => ⟨h.1, fun e => h.2 e.symm⟩⟩
end Go.Proofs.YtmjpnfapjcfejaaGreatDoor

/- The parents that the deletion of ears leaves: a join tree. Of no program. No condition. -/
namespace Go.Proofs.YtmjpnfapjcfejaaGreatDoor
set_option linter.unusedVariables false

def cnt (n left : Nat) : Nat := ((List.range n).filter fun i => left.testBit i).length
theorem cnt_clr {n left i : Nat} (h : InS n left i) : cnt n (clr left i) + 1 = cnt n left := by
  have e : ((List.range n).filter fun j => (clr left i).testBit j) = ((List.range n).filter fun j => left.testBit j).filter fun j => decide (j ≠ i) := by
    rw [List.filter_filter]
    refine List.filter_congr fun j _ => ?_
    rw [Bool.eq_iff_iff, clr_bit]
    simp [and_comm]
  have hm : i ∈ (List.range n).filter fun j => left.testBit j := List.mem_filter.2 ⟨List.mem_range.2 h.1, h.2⟩
  have hn : ((List.range n).filter fun j => left.testBit j).Nodup := List.nodup_range.filter _
  have e2 : (((List.range n).filter fun j => left.testBit j).filter fun j => decide (j ≠ i)) = ((List.range n).filter fun j => left.testBit j).erase i := by
    rw [hn.erase_eq_filter]
    refine List.filter_congr fun j _ => ?_
    simp [bne, Bool.beq_eq_decide_eq]
  unfold cnt
  rw [e, e2, List.length_erase_of_mem hm]
  have := List.length_pos_of_mem hm
  omega
theorem getD_setI {l : List Int} {k : Nat} (hk : k < l.length) (y : Int) (i : Nat) : (l.set k y).getD i 0 = if i = k then y else l.getD i 0 := by
  simp only [List.getD, List.getElem?_set]
  by_cases h : k = i
  · subst h
    rw [if_pos rfl, if_pos rfl, if_pos hk]
    rfl
  · rw [if_neg h, if_neg (Ne.symm h)]
end Go.Proofs.YtmjpnfapjcfejaaGreatDoor

/- The list of the attacks; a cycle of attacks is two atoms that attack each other. Of no program. No condition. -/
namespace Go.Proofs.YtmjpnfapjcfejaaGreatDoor
open VC
set_option linter.unusedSimpArgs false
set_option linter.unusedVariables false

abbrev At3 := Int × Int × Int
/-- The attacks of atom f, on atoms below g; and those of the atoms below f. -/
def atS (V K : List Nat) (f g : Nat) : At3 := ((f : Int), (g : Int), if strN V K f g = true then 1 else 0)
def atG (V K : List Nat) (f k : Nat) : List At3 := ((List.range k).filter (attN V K f)).map (atS V K f)
def atF (V K : List Nat) (k : Nat) : List At3 := (List.range k).flatMap fun f => atG V K f V.length
def attR (V K : List Nat) : List At3 := atF V K V.length
theorem atG_succ (V K : List Nat) (f k : Nat) : atG V K f (k + 1) = if attN V K f k = true then atG V K f k ++ [atS V K f k] else atG V K f k := by
  unfold atG
  rw [List.range_succ, List.filter_append, List.map_append]
  by_cases h : attN V K f k = true
  · rw [if_pos h]
    simp [h]
  · rw [if_neg h]
    simp [h]
theorem atF_succ (V K : List Nat) (k : Nat) : atF V K (k + 1) = atF V K k ++ atG V K k V.length := by
  unfold atF
  rw [List.range_succ, List.flatMap_append]
  simp
theorem atG_le (V K : List Nat) (f k : Nat) : (atG V K f k).length ≤ k := by
  unfold atG
  rw [List.length_map]
  have := List.length_filter_le (attN V K f) (List.range k)
  rwa [List.length_range] at this
theorem atF_le (V K : List Nat) : ∀ k, (atF V K k).length ≤ k * V.length
  | 0 => by simp [atF]
  | k + 1 => by
    rw [atF_succ, List.length_append, Nat.add_mul]
    have := atF_le V K k
    have := atG_le V K k V.length
    omega
theorem mem_attR {V K : List Nat} {e : At3} : e ∈ attR V K ↔ ∃ f g : Nat, f < V.length ∧ g < V.length ∧ attN V K f g = true ∧ e = atS V K f g := by
  unfold attR atF atG
  rw [List.mem_flatMap]
  constructor
  · rintro ⟨f, hf, h⟩
    obtain ⟨g, hg, rfl⟩ := List.mem_map.1 h
    obtain ⟨h1, h2⟩ := List.mem_filter.1 hg
    exact ⟨f, g, List.mem_range.1 hf, List.mem_range.1 h1, h2, rfl⟩
  · rintro ⟨f, g, hf, hg, h, rfl⟩
    exact ⟨f, List.mem_range.2 hf, List.mem_map.2 ⟨g, List.mem_filter.2 ⟨List.mem_range.2 hg, h⟩, rfl⟩⟩
def mutN (V K : List Nat) : Prop := ∃ f g, f < V.length ∧ g < V.length ∧ attN V K f g = true ∧ attN V K g f = true
section
variable {kl : Int → Nat} {atoms : List Atm} {D : Nat → Prop} {V K : List Nat}
theorem acy_mut (h : VK_ kl atoms D V K) (hpl : PlainA atoms) (hnd : atoms.Nodup) : Acy kl atoms D ↔ ¬ mutN V K := by
  constructor
  · rintro ⟨rk, hrk⟩ ⟨f, g, hf, hg, h1, h2⟩
    rw [h.lV] at hf hg
    have a := hrk _ (List.getElem_mem hf) _ (List.getElem_mem hg) ((attN_iff h hpl hnd hf hg).1 h1)
    have b := hrk _ (List.getElem_mem hg) _ (List.getElem_mem hf) ((attN_iff h hpl hnd hg hf).1 h2)
    omega
  · intro hn
    refine acy_of_two hpl fun F hF G hG h1 h2 => hn ?_
    obtain ⟨f, hf, rfl⟩ := List.getElem_of_mem hF
    obtain ⟨g, hg, rfl⟩ := List.getElem_of_mem hG
    exact ⟨f, g, by rw [h.lV]; exact hf, by rw [h.lV]; exact hg, (attN_iff h hpl hnd hf hg).2 h1, (attN_iff h hpl hnd hg hf).2 h2⟩
/-- Numbers that rise along the attacks, or two atoms that attack each other. -/
theorem rank_or (h : VK_ kl atoms D V K) (hpl : PlainA atoms) (hnd : atoms.Nodup) (hn : ¬ mutN V K) : ∃ rk : Nat → Nat, ∀ f g, f < V.length → g < V.length → attN V K f g = true → rk f < rk g := by
  obtain ⟨rk, hrk⟩ := (acy_mut h hpl hnd).2 hn
  refine ⟨fun i => rk (fa atoms i).1, fun f g hf hg ha => ?_⟩
  rw [h.lV] at hf hg
  dsimp only
  rw [fa_get hf, fa_get hg]
  exact hrk _ (List.getElem_mem hf) _ (List.getElem_mem hg) ((attN_iff h hpl hnd hf hg).1 ha)
end
/-! ## Deletion of the atoms that nothing attacks (the program's way) -/
/-- Atom i is left, and no atom that is left attacks it. -/
def freeT (V K : List Nat) (left i : Nat) : Prop := left.testBit i = true ∧ ∀ f, f < V.length → attN V K f i = true → left.testBit f = false
theorem least_bit {n left : Nat} (rk : Nat → Nat) (hne : left ≠ 0) (hl : left < 2 ^ n) : ∃ i, i < n ∧ left.testBit i = true ∧ ∀ j, j < n → left.testBit j = true → rk i ≤ rk j := by
  have hex : (List.range n).filter left.testBit ≠ [] := fun e => hne (Nat.eq_of_testBit_eq fun x => by
    rw [Nat.zero_testBit]
    rcases Nat.lt_or_ge x n with hx | hx
    · have := List.filter_eq_nil_iff.1 e x (List.mem_range.2 hx)
      simpa using this
    · exact Nat.testBit_lt_two_pow (Nat.lt_of_lt_of_le hl (Nat.pow_le_pow_right (by omega) hx)))
  obtain ⟨i, hi, hm⟩ := least_of rk hex
  obtain ⟨h1, h2⟩ := List.mem_filter.1 hi
  exact ⟨i, List.mem_range.1 h1, h2, fun j hj hb => hm j (List.mem_filter.2 ⟨List.mem_range.2 hj, hb⟩)⟩
theorem stuck_mut {V K : List Nat} {left : Nat} (hr : ¬ mutN V K → ∃ rk : Nat → Nat, ∀ f g, f < V.length → g < V.length → attN V K f g = true → rk f < rk g) (hne : left ≠ 0) (hl : left < 2 ^ V.length) (hno : ∀ i, i < V.length → ¬ freeT V K left i) : mutN V K := by
  refine Classical.byContradiction fun hn => ?_
  obtain ⟨rk, hrk⟩ := hr hn
  obtain ⟨i, hi, hb, hm⟩ := least_bit rk hne hl
  refine hno i hi ⟨hb, fun f hf ha => ?_⟩
  rw [← Bool.not_eq_true]
  intro hfb
  have := hrk f i hf hi ha
  have := hm f hf hfb
  omega
/-- Atoms that attack each other are left. -/
def MutIn (V K : List Nat) (left : Nat) : Prop := ∀ f g, f < V.length → g < V.length → attN V K f g = true → attN V K g f = true → left.testBit f = true
theorem MutIn.clr {V K : List Nat} {left i : Nat} (h : MutIn V K left) (hi : freeT V K left i) : MutIn V K (clr left i) := fun f g hf hg h1 h2 => by
  have e := h f g hf hg h1 h2
  refine clr_bit.2 ⟨e, ?_⟩
  rintro rfl
  have := hi.2 g hg h2
  rw [h g f hg hf h2 h1] at this
  cases this
theorem MutIn.zero {V K : List Nat} (h : MutIn V K 0) : ¬ mutN V K := fun ⟨f, g, hf, hg, h1, h2⟩ => by
  have := h f g hf hg h1 h2
  rw [Nat.zero_testBit] at this
  cases this
theorem MutIn.init {V K : List Nat} : MutIn V K (2 ^ V.length - 1) := fun f g hf hg _ _ => by
  rw [Nat.testBit_two_pow_sub_one]
  exact decide_eq_true hf
/-! ## What can be reached (the reference's way) -/
structure RchI (V K : List Nat) (c : List Nat) : Prop where
  len : c.length = 5
  lt : ∀ f, c.getD f 0 < 2 ^ V.length
  has : ∀ f g, f < V.length → g < V.length → attN V K f g = true → (c.getD f 0).testBit g = true
  rise : ∀ rk : Nat → Nat, (∀ f g, f < V.length → g < V.length → attN V K f g = true → rk f < rk g) → ∀ f g, f < V.length → (c.getD f 0).testBit g = true → rk f < rk g
theorem RchI.step {V K : List Nat} {c : List Nat} {f g : Nat} (h : RchI V K c) (hf : f < V.length) (hV : V.length ≤ 5) (hg : g < V.length) (hb : (c.getD f 0).testBit g = true) : RchI V K (c.set f (c.getD f 0 ||| c.getD g 0)) := by
  have get : ∀ i, (c.set f (c.getD f 0 ||| c.getD g 0)).getD i 0 = if i = f then c.getD f 0 ||| c.getD g 0 else c.getD i 0 := fun i => by
    simp only [List.getD_eq_getElem?_getD, List.getElem?_set]
    by_cases e : f = i
    · subst e
      have := h.len
      rw [if_pos rfl, if_pos (by omega), if_pos rfl]
      simp
    · rw [if_neg e, if_neg fun e2 => e e2.symm]
  refine ⟨by rw [List.length_set]; exact h.len, fun i => ?_, fun i j hi hj ha => ?_, fun rk hrk i j hi hb2 => ?_⟩
  · rw [get]
    split
    · exact Nat.or_lt_two_pow (h.lt f) (h.lt g)
    · exact h.lt i
  · rw [get]
    split
    · rename_i e
      subst e
      rw [Nat.testBit_or, h.has i j hi hj ha, Bool.true_or]
    · exact h.has i j hi hj ha
  · rw [get] at hb2
    split at hb2
    · rename_i e
      subst e
      rw [Nat.testBit_or, Bool.or_eq_true] at hb2
      rcases hb2 with h1 | h1
      · exact h.rise rk hrk i j hi h1
      · have a := h.rise rk hrk i g hi hb
        have b := h.rise rk hrk g j hg h1
        omega
    · exact h.rise rk hrk i j hi hb2
/-- Of atoms that attack each other: those whose turn has come reach themselves. -/
def SelfB (V K : List Nat) (c : List Nat) (p : Nat → Nat → Prop) : Prop := ∀ f g, f < V.length → g < V.length → attN V K f g = true → attN V K g f = true → p f g → (c.getD f 0).testBit f = true
theorem SelfB.mono {V K c : List Nat} {p q : Nat → Nat → Prop} (h : SelfB V K c p) (hpq : ∀ f g, f < V.length → g < V.length → q f g → p f g) : SelfB V K c q := fun f g hf hg h1 h2 hq => h f g hf hg h1 h2 (hpq f g hf hg hq)
theorem SelfB.step {V K : List Nat} {c : List Nat} {f g : Nat} {p : Nat → Nat → Prop} (h : RchI V K c) (hs : SelfB V K c p) (hf : f < V.length) (hV : V.length ≤ 5) (hg : g < V.length) : SelfB V K (c.set f (c.getD f 0 ||| c.getD g 0)) fun i j => p i j ∨ (i = f ∧ j = g) := fun i j hi hj h1 h2 hp => by
  have get : ∀ i, (c.set f (c.getD f 0 ||| c.getD g 0)).getD i 0 = if i = f then c.getD f 0 ||| c.getD g 0 else c.getD i 0 := fun i => by
    simp only [List.getD_eq_getElem?_getD, List.getElem?_set]
    by_cases e : f = i
    · subst e
      have := h.len
      rw [if_pos rfl, if_pos (by omega), if_pos rfl]
      simp
    · rw [if_neg e, if_neg fun e2 => e e2.symm]
  rw [get]
  rcases hp with hp | ⟨rfl, rfl⟩
  · have := hs i j hi hj h1 h2 hp
    split
    · rename_i e
      subst e
      rw [Nat.testBit_or, this, Bool.true_or]
    · exact this
  · rw [if_pos rfl, Nat.testBit_or, h.has j i hj hi h2, Bool.or_true]
end Go.Proofs.YtmjpnfapjcfejaaGreatDoor

/- The same facts in another order: the same repairs, as sets of facts. Of no program. No condition. -/
namespace Go.Proofs.YtmjpnfapjcfejaaGreatDoor
open VC
set_option linter.unusedSimpArgs false
set_option linter.unusedVariables false

theorem perm_mem {α : Type} [DecidableEq α] {l l' : List α} (h : l.Nodup) (h' : l'.Nodup) (hm : ∀ a, a ∈ l ↔ a ∈ l') : l.Perm l' := by
  induction l generalizing l' with
  | nil =>
    have : l' = [] := List.eq_nil_iff_forall_not_mem.2 fun a ha => by have := (hm a).2 ha; simp at this
    rw [this]
  | cons a l ih =>
    rw [List.nodup_cons] at h
    have ha := (hm a).1 (List.mem_cons_self ..)
    obtain ⟨s, t, rfl⟩ := List.append_of_mem ha
    have hn2 : (s ++ t).Nodup ∧ a ∉ s ++ t := by
      rw [List.nodup_append] at h'
      obtain ⟨h1, h2, h3⟩ := h'
      rw [List.nodup_cons] at h2
      refine ⟨List.nodup_append.2 ⟨h1, h2.2, fun x hx y hy => h3 x hx y (List.mem_cons_of_mem _ hy)⟩, fun hx => ?_⟩
      rcases List.mem_append.1 hx with hx | hx
      · exact h3 a hx a (List.mem_cons_self ..) rfl
      · exact h2.1 hx
    refine (List.Perm.cons a (ih h.2 hn2.1 fun x => ?_)).trans List.perm_middle.symm
    have := hm x
    simp only [List.mem_cons, List.mem_append] at this ⊢
    constructor
    · intro hx
      have hne : x ≠ a := fun e => h.1 (e ▸ hx)
      rcases this.1 (.inr hx) with h1 | h1 | h1
      · exact .inl h1
      · exact absurd h1 hne
      · exact .inr h1
    · intro hx
      have hne : x ≠ a := fun e => hn2.2 (e ▸ List.mem_append.2 hx)
      rcases this.2 (hx.imp id .inr) with h1 | h1
      · exact absurd h1 hne
      · exact h1
section
variable {kl : Int → Nat} {L L' : List Atm}
theorem Rp.mem (hm : ∀ a, a ∈ L ↔ a ∈ L') {r : Atm → Prop} (h : Rp kl L r) : Rp kl L' r := ⟨fun a ha => (hm a).1 (h.sub a ha), fun f hf => h.one f ((hm f).2 hf), h.uniq⟩
theorem mask_inj (hn : L.Nodup) {m m' : Nat} (h : m < 2 ^ L.length) (h' : m' < 2 ^ L.length) (he : ∀ a, a ∈ ofM L m ↔ a ∈ ofM L m') : m = m' := by
  have one : ∀ {m m' : Nat}, (∀ a, a ∈ ofM L m → a ∈ ofM L m') → ∀ i, i < L.length → m.testBit i = true → m'.testBit i = true := fun he i hi hb => by
    obtain ⟨j, hj, hbj, e⟩ := mem_ofM.1 (he (fa L i) (mem_ofM.2 ⟨i, hi, hb, rfl⟩))
    rwa [fa_inj hn hj hi e] at hbj
  refine Nat.eq_of_testBit_eq fun i => ?_
  rcases Nat.lt_or_ge i L.length with hi | hi
  · rw [Bool.eq_iff_iff]
    exact ⟨one (fun a => (he a).1) i hi, one (fun a => (he a).2) i hi⟩
  · rw [Nat.testBit_lt_two_pow (Nat.lt_of_lt_of_le h (Nat.pow_le_pow_right (by omega) hi)), Nat.testBit_lt_two_pow (Nat.lt_of_lt_of_le h' (Nat.pow_le_pow_right (by omega) hi))]
/-- The repairs, as sorted lists of facts. -/
def repS (kl : Int → Nat) (L : List Atm) : List (List Atm) := (allR kl L).map fun m => srtF (ofM L m)
theorem repS_nodup (hn : L.Nodup) : (repS kl L).Nodup := by
  unfold repS
  rw [List.nodup_iff_pairwise_ne, List.pairwise_map]
  have h1 := inc_allR (kl := kl) (L := L)
  refine List.Pairwise.imp_of_mem ?_ h1
  intro m m' hm hm' hlt e
  have : m = m' := mask_inj hn (mem_allR.1 hm).1 (mem_allR.1 hm').1 fun a => by
    have h2 : a ∈ srtF (ofM L m) ↔ a ∈ srtF (ofM L m') := by rw [e]
    rw [mem_srt key_A, mem_srt key_A] at h2
    exact h2
  omega
theorem repS_sub (hn : L.Nodup) (hn' : L'.Nodup) (hm : ∀ a, a ∈ L ↔ a ∈ L') {l : List Atm} (h : l ∈ repS kl L) : l ∈ repS kl L' := by
  obtain ⟨m, h1, rfl⟩ := List.mem_map.1 h
  obtain ⟨m', h2, h3⟩ := mask_of hn' ((rp_of (kl := kl) hn (mem_allR.1 h1).2).mem hm)
  exact List.mem_map.2 ⟨m', h2, srtF_congr h3⟩
theorem repS_perm (hn : L.Nodup) (hn' : L'.Nodup) (hm : ∀ a, a ∈ L ↔ a ∈ L') : (repS kl L).Perm (repS kl L') :=
  perm_mem (repS_nodup hn) (repS_nodup hn') fun l => ⟨repS_sub hn hn' hm, repS_sub hn' hn fun a => (hm a).symm⟩
theorem allR_perm (hn : L.Nodup) (hn' : L'.Nodup) (hm : ∀ a, a ∈ L ↔ a ∈ L') {β : Type} (c : List Atm → β) : ((allR kl L).map fun m => c (srtF (ofM L m))).Perm ((allR kl L').map fun m => c (srtF (ofM L' m))) := by
  have := (repS_perm (kl := kl) hn hn' hm).map c
  unfold repS at this
  rw [List.map_map, List.map_map] at this
  exact this
theorem cnts_perm (hn : L.Nodup) (hn' : L'.Nodup) (hm : ∀ a, a ∈ L ↔ a ∈ L') (b : List Atm) : ((allR kl L).map (cntM b L)).Perm ((allR kl L').map (cntM b L')) := allR_perm hn hn' hm fun l => (allM l b).length
theorem rew_mem (hm : ∀ a, a ∈ L ↔ a ∈ L') : ∀ (n : Nat) (atoms : List Atm) (m : List Int), rewR kl L n atoms m = rewR kl L' n atoms m := by
  intro n
  induction n with
  | zero => intro _ _; rfl
  | succ n ih =>
    intro atoms m
    rw [Bool.eq_iff_iff, rewR, rewR, List.any_eq_true, List.any_eq_true]
    refine exists_congr fun f => ?_
    rw [hm f]
    refine and_congr_right fun _ => ?_
    refine Iff.trans Bool.and_eq_true_iff (Iff.trans (and_congr_right fun _ => ?_) Bool.and_eq_true_iff.symm)
    rw [List.all_eq_true, List.all_eq_true]
    refine forall_congr' fun g => ?_
    rw [hm g]
    refine forall_congr' fun _ => ?_
    cases fitR (fa atoms (freeA kl atoms m)).2 g.2 m with
    | none => rfl
    | some m' =>
      dsimp only
      rw [ih]
end
/-! ## The facts in reverse -/
theorem okP_rev {L : List Atm} (h : okP L = true) : okP L.reverse = true := by
  rw [okP_iff] at h ⊢
  rw [List.pairwise_reverse]
  exact h.imp fun h e => ⟨(h e.symm).1.symm, fun e2 => (h e.symm).2 e2.symm⟩
theorem okFs_rev (L : List Atm) : okFs L.reverse = okFs L := by unfold okFs; rw [List.length_reverse, List.all_reverse]
theorem okR_rev (s : List Int) (L : List Atm) : okR s L.reverse = okR s L := by
  have e : okP L.reverse = okP L := by
    rw [Bool.eq_iff_iff]
    exact ⟨fun h => by have := okP_rev h; rwa [List.reverse_reverse] at this, okP_rev⟩
  unfold okR
  rw [List.length_reverse, List.all_reverse, e]
theorem runF_rev (L b : List Atm) : runF L.reverse b = runF L b := by
  unfold runF
  rw [srtF_congr (l := L.reverse) (l' := L) fun a => List.mem_reverse]
end Go.Proofs.YtmjpnfapjcfejaaGreatDoor
