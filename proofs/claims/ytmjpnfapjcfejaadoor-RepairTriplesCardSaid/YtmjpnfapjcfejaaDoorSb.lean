/- Ears and elimination (Graham): what can be eliminated can be eliminated in every way. Of no program. No condition. -/
import Derived.Test.YtmjpnfapjcfejaaDoorVr
import Derived.Test.YtmjpnfapjcfejaaDoorSa
import Derived.Test.YtmjpnfapjcfejaaDoorMr
namespace Go.Proofs.YtmjpnfapjcfejaaDoor
set_option linter.unusedVariables false

section
variable (vs : Nat → Nat → Prop)
/-- i is an ear of S: what it shares with any other is in k. -/
def Ear (S : Nat → Prop) (i k : Nat) : Prop := S i ∧ S k ∧ i ≠ k ∧ ∀ j, S j → j ≠ i → ∀ x, vs i x → vs j x → vs k x
/-- S without i. -/
def Wo (S : Nat → Prop) (i : Nat) : Nat → Prop := fun j => S j ∧ j ≠ i
/-- n atoms can be eliminated down to one. -/
inductive Elim : (Nat → Prop) → Nat → Prop
  | one {S : Nat → Prop} {i : Nat} : (∀ j, S j ↔ j = i) → Elim S 1
  | step {S : Nat → Prop} {i k n : Nat} : Ear vs S i k → Elim (Wo S i) n → Elim S (n + 1)
variable {vs}
theorem Elim.congr {S S' : Nat → Prop} {n : Nat} (h : Elim vs S n) (e : ∀ j, S j ↔ S' j) : Elim vs S' n := by
  have : S = S' := funext fun j => propext (e j)
  exact this ▸ h
/-- Atoms may be renamed, if what any two share stays. -/
theorem Elim.map {f : Nat → Nat} {S : Nat → Prop} {n : Nat} (h : Elim vs S n) : (∀ a b, S a → S b → f a = f b → a = b) → (∀ a b, S a → S b → a ≠ b → ∀ x, (vs a x ∧ vs b x ↔ vs (f a) x ∧ vs (f b) x)) → ∀ {S' : Nat → Prop}, (∀ j', S' j' ↔ ∃ j, S j ∧ f j = j') → Elim vs S' n := by
  induction h with
  | @one S i hi =>
    intro _ _ S' hS'
    refine .one (i := f i) fun j' => ?_
    rw [hS']
    constructor
    · rintro ⟨j, hj, rfl⟩
      rw [(hi j).1 hj]
    · rintro rfl
      exact ⟨i, (hi i).2 rfl, rfl⟩
  | @step S i k n he hr ih =>
    intro hinj hsh S' hS'
    obtain ⟨h1, h2, h3, h4⟩ := he
    refine .step (i := f i) (k := f k) ⟨(hS' _).2 ⟨i, h1, rfl⟩, (hS' _).2 ⟨k, h2, rfl⟩, fun e => h3 (hinj _ _ h1 h2 e), fun j' hj' hne x hx hy => ?_⟩ ?_
    · obtain ⟨j, hj, rfl⟩ := (hS' _).1 hj'
      have hji : j ≠ i := fun e => hne (by rw [e])
      have h5 := (hsh i j h1 hj (Ne.symm hji) x).2 ⟨hx, hy⟩
      exact ((hsh i k h1 h2 h3 x).1 ⟨h5.1, h4 j hj hji x h5.1 h5.2⟩).2
    · refine ih (fun a b ha hb => hinj a b ha.1 hb.1) (fun a b ha hb => hsh a b ha.1 hb.1) fun j' => ?_
      unfold Wo
      rw [hS']
      constructor
      · rintro ⟨⟨j, hj, rfl⟩, hne⟩
        exact ⟨j, ⟨hj, fun e => hne (by rw [e])⟩, rfl⟩
      · rintro ⟨j, ⟨hj, hne⟩, rfl⟩
        exact ⟨⟨j, hj, rfl⟩, fun e => hne (hinj _ _ hj h1 e)⟩
/-- What can be eliminated has an ear. -/
theorem Elim.ear {n : Nat} {S : Nat → Prop} (h : Elim vs S (n + 2)) : ∃ i k, Ear vs S i k := by
  cases h with
  | step h1 h2 => exact ⟨_, _, h1⟩
end
end Go.Proofs.YtmjpnfapjcfejaaDoor

/- The deletion of ears with sets of variables as numbers: what it finds are ears. Of no program. No condition. -/
namespace Go.Proofs.YtmjpnfapjcfejaaDoor
set_option linter.unusedVariables false

/-- What the others that are left have. -/
def othG (left : Nat) (V : List Nat) (i : Nat) : List Nat → Nat := List.foldl (fun acc k => if k ≠ i ∧ left.testBit k = true then acc ||| V.getD k 0 else acc) 0
def othN (n left : Nat) (V : List Nat) (i : Nat) : Nat := othG left V i (List.range n)
theorem oth_go (left : Nat) (V : List Nat) (i x : Nat) : ∀ (l : List Nat) (acc : Nat), (l.foldl (fun acc k => if k ≠ i ∧ left.testBit k = true then acc ||| V.getD k 0 else acc) acc).testBit x = true ↔ acc.testBit x = true ∨ ∃ k ∈ l, k ≠ i ∧ left.testBit k = true ∧ (V.getD k 0).testBit x = true
  | [], acc => by simp
  | a :: r, acc => by
    rw [List.foldl_cons, oth_go left V i x r]
    by_cases h : a ≠ i ∧ left.testBit a = true
    · rw [if_pos h, Nat.testBit_or, Bool.or_eq_true]
      constructor
      · rintro ((h1 | h1) | ⟨k, h1, h2⟩)
        · exact .inl h1
        · exact .inr ⟨a, List.mem_cons_self .., h.1, h.2, h1⟩
        · exact .inr ⟨k, List.mem_cons_of_mem _ h1, h2⟩
      · rintro (h1 | ⟨k, h1, h2⟩)
        · exact .inl (.inl h1)
        · rcases List.mem_cons.1 h1 with rfl | h1
          · exact .inl (.inr h2.2.2)
          · exact .inr ⟨k, h1, h2⟩
    · rw [if_neg h]
      constructor
      · rintro (h1 | ⟨k, h1, h2⟩)
        · exact .inl h1
        · exact .inr ⟨k, List.mem_cons_of_mem _ h1, h2⟩
      · rintro (h1 | ⟨k, h1, h2⟩)
        · exact .inl h1
        · rcases List.mem_cons.1 h1 with rfl | h1
          · exact absurd ⟨h2.1, h2.2.1⟩ h
          · exact .inr ⟨k, h1, h2⟩
theorem oth_bit {n left : Nat} {V : List Nat} {i x : Nat} : (othN n left V i).testBit x = true ↔ ∃ k, k < n ∧ k ≠ i ∧ left.testBit k = true ∧ (V.getD k 0).testBit x = true := by
  unfold othN othG
  rw [oth_go]
  simp only [Nat.zero_testBit, Bool.false_eq_true, false_or, List.mem_range]
def cutN (n left : Nat) (V : List Nat) (i : Nat) : List Nat := V.set i (V.getD i 0 &&& othN n left V i)
def cutK (n left : Nat) (V : List Nat) (k : Nat) : List Nat := (List.range k).foldl (cutN n left) V
theorem cutK_succ (n left : Nat) (V : List Nat) (k : Nat) : cutK n left V (k + 1) = cutN n left (cutK n left V k) k := by
  unfold cutK
  rw [List.range_succ, List.foldl_append]
  rfl
/-- What is kept between the rounds. -/
structure EarI (vs : Nat → Nat → Prop) (n left : Nat) (V : List Nat) : Prop where
  len : V.length = n
  sub : ∀ i, i < n → left.testBit i = true → ∀ x, (V.getD i 0).testBit x = true → vs i x
  has : ∀ i k, i < n → k < n → i ≠ k → left.testBit i = true → left.testBit k = true → ∀ x, vs i x → vs k x → (V.getD i 0).testBit x = true
/-- Nothing but what is shared is kept of atom i. -/
def Tight (vs : Nat → Nat → Prop) (n left : Nat) (V : List Nat) (i : Nat) : Prop := ∀ x, (V.getD i 0).testBit x = true → ∃ k, k < n ∧ k ≠ i ∧ left.testBit k = true ∧ vs k x
section
variable {vs : Nat → Nat → Prop} {n left : Nat} {V : List Nat}
theorem getD_setN {l : List Nat} {k : Nat} (hk : k < l.length) (y i : Nat) : (l.set k y).getD i 0 = if i = k then y else l.getD i 0 := by
  simp only [List.getD, List.getElem?_set]
  by_cases h : k = i
  · subst h
    rw [if_pos rfl, if_pos rfl, if_pos hk]
    rfl
  · rw [if_neg h, if_neg (Ne.symm h)]
theorem cut_get (hl : V.length = n) {i : Nat} (hi : i < n) (k : Nat) : (cutN n left V i).getD k 0 = if k = i then V.getD i 0 &&& othN n left V i else V.getD k 0 := getD_setN (by omega) _ _
theorem EarI.cut (h : EarI vs n left V) {i : Nat} (hi : i < n) : EarI vs n left (cutN n left V i) := by
  refine ⟨by unfold cutN; rw [List.length_set]; exact h.len, fun j hj hlj x hx => ?_, fun j k hj hk hjk hlj hlk x hx hy => ?_⟩
  · rw [cut_get h.len hi] at hx
    split at hx
    · rename_i e
      subst e
      rw [Nat.testBit_and, Bool.and_eq_true] at hx
      exact h.sub j hj hlj x hx.1
    · exact h.sub j hj hlj x hx
  · rw [cut_get h.len hi]
    split
    · rename_i e
      subst e
      rw [Nat.testBit_and, Bool.and_eq_true]
      exact ⟨h.has j k hj hk hjk hlj hlk x hx hy, oth_bit.2 ⟨k, hk, Ne.symm hjk, hlk, h.has k j hk hj (Ne.symm hjk) hlk hlj x hy hx⟩⟩
    · exact h.has j k hj hk hjk hlj hlk x hx hy
theorem EarI.cutK (h : EarI vs n left V) : ∀ {k : Nat}, k ≤ n → EarI vs n left (cutK n left V k) ∧ ∀ i, i < k → Tight vs n left (cutK n left V k) i
  | 0, _ => ⟨h, fun i hi => by omega⟩
  | k + 1, hk => by
    obtain ⟨h1, h2⟩ := EarI.cutK h (k := k) (by omega)
    rw [cutK_succ]
    refine ⟨h1.cut (by omega), fun i hi x hx => ?_⟩
    rw [cut_get h1.len (by omega)] at hx
    split at hx
    · rename_i e
      subst e
      rw [Nat.testBit_and, Bool.and_eq_true] at hx
      obtain ⟨k, a1, a2, a3, a4⟩ := oth_bit.1 hx.2
      exact ⟨k, a1, a2, a3, h1.sub k a1 a3 x a4⟩
    · exact h2 i (by omega) x hx
end
/-! ## The pair that is taken: the last -/
def earT (left : Nat) (V : List Nat) (i k : Nat) : Bool := decide (k ≠ i) && left.testBit i && left.testBit k && decide (V.getD i 0 &&& V.getD k 0 = V.getD i 0)
theorem sub_bits {a b : Nat} : a &&& b = a ↔ ∀ x, a.testBit x = true → b.testBit x = true := by
  constructor
  · intro h x hx
    rw [← h, Nat.testBit_and, Bool.and_eq_true] at hx
    exact hx.2
  · intro h
    refine Nat.eq_of_testBit_eq fun x => ?_
    rw [Nat.testBit_and]
    cases hx : a.testBit x with
    | false => rfl
    | true => rw [h x hx]; rfl
def pickIn (left : Nat) (V : List Nat) (i m : Nat) (acc : Option (Nat × Nat)) : Option (Nat × Nat) := (List.range m).foldl (fun acc k => if earT left V i k = true then some (i, k) else acc) acc
def pickN (n left : Nat) (V : List Nat) (m : Nat) : Option (Nat × Nat) := (List.range m).foldl (fun acc i => pickIn left V i n acc) none
theorem pickIn_succ (left : Nat) (V : List Nat) (i m : Nat) (acc : Option (Nat × Nat)) : pickIn left V i (m + 1) acc = if earT left V i m = true then some (i, m) else pickIn left V i m acc := by
  unfold pickIn
  rw [List.range_succ, List.foldl_append]
  rfl
theorem pickN_succ (n left : Nat) (V : List Nat) (m : Nat) : pickN n left V (m + 1) = pickIn left V m n (pickN n left V m) := by
  unfold pickN
  rw [List.range_succ, List.foldl_append]
  rfl
theorem pick_some {n left : Nat} {V : List Nat} : ∀ {m : Nat} {i k : Nat}, m ≤ n → pickN n left V m = some (i, k) → i < n ∧ k < n ∧ earT left V i k = true := by
  have inn : ∀ {j : Nat}, j < n → ∀ m, m ≤ n → ∀ acc : Option (Nat × Nat), (∀ i k, acc = some (i, k) → i < n ∧ k < n ∧ earT left V i k = true) → ∀ i k, pickIn left V j m acc = some (i, k) → i < n ∧ k < n ∧ earT left V i k = true := fun {j} hj m => by
    induction m with
    | zero => intro _ acc h; exact h
    | succ m ih =>
      intro hm acc h i k he
      rw [pickIn_succ] at he
      split at he
      · rename_i ht
        obtain ⟨rfl, rfl⟩ : j = i ∧ m = k := by simpa using he
        exact ⟨hj, by omega, ht⟩
      · exact ih (by omega) acc h i k he
  intro m
  induction m with
  | zero => intro i k _ h; simp [pickN] at h
  | succ m ih =>
    intro i k hm h
    rw [pickN_succ] at h
    exact inn (by omega) n (Nat.le_refl _) _ (fun i k he => ih (by omega) he) i k h
end Go.Proofs.YtmjpnfapjcfejaaDoor

/- The deletion of ears as a relation between its states; what is left is one atom exactly if all can be eliminated. Of no program. No condition. -/
namespace Go.Proofs.YtmjpnfapjcfejaaDoor
set_option linter.unusedVariables false

/-- A set of bits without one. -/
def clr (left i : Nat) : Nat := VC.nSub left (2 ^ i)
/-- From what is left, with the sets and the parents so far, to what is left at the end. -/
inductive EarsR (n : Nat) : Nat → List Nat → List Int → Nat → List Int → Prop
  | stop {left : Nat} {V : List Nat} {p : List Int} : pickN n left (cutK n left V n) n = none → EarsR n left V p left p
  | go {left : Nat} {V : List Nat} {p : List Int} {i k l2 : Nat} {p2 : List Int} : pickN n left (cutK n left V n) n = some (i, k) → EarsR n (clr left i) (cutK n left V n) (p.set i (k : Int)) l2 p2 → EarsR n left V p l2 p2
/-- The parents do not matter for what is left. -/
theorem EarsR.left {n left : Nat} {V : List Nat} {p : List Int} {l2 : Nat} {p2 : List Int} (h : EarsR n left V p l2 p2) : ∀ (q : List Int), ∃ q2, EarsR n left V q l2 q2 := by
  induction h with
  | stop h1 => exact fun q => ⟨q, .stop h1⟩
  | go h1 _ ih =>
    intro q
    obtain ⟨q2, h2⟩ := ih (q.set _ _)
    exact ⟨q2, .go h1 h2⟩
def InS (n left : Nat) : Nat → Prop := fun j => j < n ∧ left.testBit j = true
theorem earT_iff {left : Nat} {V : List Nat} {i k : Nat} : earT left V i k = true ↔ k ≠ i ∧ left.testBit i = true ∧ left.testBit k = true ∧ ∀ x, (V.getD i 0).testBit x = true → (V.getD k 0).testBit x = true := by
  unfold earT
  simp only [Bool.and_eq_true, decide_eq_true_eq, sub_bits, and_assoc]
theorem clr_bit {left i j : Nat} : (clr left i).testBit j = true ↔ left.testBit j = true ∧ j ≠ i := by
  unfold clr
  rw [VC.nSub_bit, Nat.testBit_two_pow]
  simp only [Bool.and_eq_true, Bool.not_eq_true', decide_eq_false_iff_not]
  exact ⟨fun h => ⟨h.1, fun e => h.2 e.symm⟩, fun h => ⟨h.1, fun e => h.2 e.symm⟩⟩
end Go.Proofs.YtmjpnfapjcfejaaDoor

/- The parents that the deletion of ears leaves: a join tree. Of no program. No condition. -/
namespace Go.Proofs.YtmjpnfapjcfejaaDoor
set_option linter.unusedVariables false

def cnt (n left : Nat) : Nat := ((List.range n).filter fun i => left.testBit i).length
theorem cnt_clr {n left i : Nat} (h : InS n left i) : cnt n (clr left i) + 1 = cnt n left := by
  have e : ((List.range n).filter fun j => (clr left i).testBit j) = ((List.range n).filter fun j => left.testBit j).filter fun j => decide (j ≠ i) := by
    rw [List.filter_filter]
    refine List.filter_congr fun j _ => ?_
    rw [Bool.eq_iff_iff, clr_bit]
    simp [and_comm]
  have hm : i ∈ (List.range n).filter fun j => left.testBit j := List.mem_filter.2 ⟨List.mem_range.2 h.1, h.2⟩
  have hn : ((List.range n).filter fun j => left.testBit j).Nodup := List.nodup_range.filter _
  have e2 : (((List.range n).filter fun j => left.testBit j).filter fun j => decide (j ≠ i)) = ((List.range n).filter fun j => left.testBit j).erase i := by
    rw [hn.erase_eq_filter]
    refine List.filter_congr fun j _ => ?_
    simp [bne, Bool.beq_eq_decide_eq]
  unfold cnt
  rw [e, e2, List.length_erase_of_mem hm]
  have := List.length_pos_of_mem hm
  omega
theorem getD_setI {l : List Int} {k : Nat} (hk : k < l.length) (y : Int) (i : Nat) : (l.set k y).getD i 0 = if i = k then y else l.getD i 0 := by
  simp only [List.getD, List.getElem?_set]
  by_cases h : k = i
  · subst h
    rw [if_pos rfl, if_pos rfl, if_pos hk]
    rfl
  · rw [if_neg h, if_neg (Ne.symm h)]
end Go.Proofs.YtmjpnfapjcfejaaDoor

/- The list of the attacks; a cycle of attacks is two atoms that attack each other. Of no program. No condition. -/
namespace Go.Proofs.YtmjpnfapjcfejaaDoor
open VC
set_option linter.unusedSimpArgs false
set_option linter.unusedVariables false

abbrev At3 := Int × Int × Int
/-- The attacks of atom f, on atoms below g; and those of the atoms below f. -/
def atS (V K : List Nat) (f g : Nat) : At3 := ((f : Int), (g : Int), if strN V K f g = true then 1 else 0)
def atG (V K : List Nat) (f k : Nat) : List At3 := ((List.range k).filter (attN V K f)).map (atS V K f)
def atF (V K : List Nat) (k : Nat) : List At3 := (List.range k).flatMap fun f => atG V K f V.length
def attR (V K : List Nat) : List At3 := atF V K V.length
theorem atG_succ (V K : List Nat) (f k : Nat) : atG V K f (k + 1) = if attN V K f k = true then atG V K f k ++ [atS V K f k] else atG V K f k := by
  unfold atG
  rw [List.range_succ, List.filter_append, List.map_append]
  by_cases h : attN V K f k = true
  · rw [if_pos h]
    simp [h]
  · rw [if_neg h]
    simp [h]
theorem atF_succ (V K : List Nat) (k : Nat) : atF V K (k + 1) = atF V K k ++ atG V K k V.length := by
  unfold atF
  rw [List.range_succ, List.flatMap_append]
  simp
theorem atG_le (V K : List Nat) (f k : Nat) : (atG V K f k).length ≤ k := by
  unfold atG
  rw [List.length_map]
  have := List.length_filter_le (attN V K f) (List.range k)
  rwa [List.length_range] at this
theorem atF_le (V K : List Nat) : ∀ k, (atF V K k).length ≤ k * V.length
  | 0 => by simp [atF]
  | k + 1 => by
    rw [atF_succ, List.length_append, Nat.add_mul]
    have := atF_le V K k
    have := atG_le V K k V.length
    omega
theorem mem_attR {V K : List Nat} {e : At3} : e ∈ attR V K ↔ ∃ f g : Nat, f < V.length ∧ g < V.length ∧ attN V K f g = true ∧ e = atS V K f g := by
  unfold attR atF atG
  rw [List.mem_flatMap]
  constructor
  · rintro ⟨f, hf, h⟩
    obtain ⟨g, hg, rfl⟩ := List.mem_map.1 h
    obtain ⟨h1, h2⟩ := List.mem_filter.1 hg
    exact ⟨f, g, List.mem_range.1 hf, List.mem_range.1 h1, h2, rfl⟩
  · rintro ⟨f, g, hf, hg, h, rfl⟩
    exact ⟨f, List.mem_range.2 hf, List.mem_map.2 ⟨g, List.mem_filter.2 ⟨List.mem_range.2 hg, h⟩, rfl⟩⟩
def mutN (V K : List Nat) : Prop := ∃ f g, f < V.length ∧ g < V.length ∧ attN V K f g = true ∧ attN V K g f = true
theorem attN_ne {V K : List Nat} {f g : Nat} (h : attN V K f g = true) : g ≠ f := by
  unfold attN at h
  rw [Bool.and_eq_true, decide_eq_true_eq] at h
  exact h.1
section
variable {kl : Int → Nat} {atoms : List Atm} {D : Nat → Prop} {V K : List Nat}
theorem acy_mut (h : VK_ kl atoms D V K) (hpl : PlainA atoms) (hnd : atoms.Nodup) : Acy kl atoms D ↔ ¬ mutN V K := by
  constructor
  · rintro ⟨rk, hrk⟩ ⟨f, g, hf, hg, h1, h2⟩
    rw [h.lV] at hf hg
    have a := hrk _ (List.getElem_mem hf) _ (List.getElem_mem hg) ((attN_iff h hpl hnd hf hg).1 h1)
    have b := hrk _ (List.getElem_mem hg) _ (List.getElem_mem hf) ((attN_iff h hpl hnd hg hf).1 h2)
    omega
  · intro hn
    refine acy_of_two hpl fun F hF G hG h1 h2 => hn ?_
    obtain ⟨f, hf, rfl⟩ := List.getElem_of_mem hF
    obtain ⟨g, hg, rfl⟩ := List.getElem_of_mem hG
    exact ⟨f, g, by rw [h.lV]; exact hf, by rw [h.lV]; exact hg, (attN_iff h hpl hnd hf hg).2 h1, (attN_iff h hpl hnd hg hf).2 h2⟩
/-- Numbers that rise along the attacks, or two atoms that attack each other. -/
theorem rank_or (h : VK_ kl atoms D V K) (hpl : PlainA atoms) (hnd : atoms.Nodup) (hn : ¬ mutN V K) : ∃ rk : Nat → Nat, ∀ f g, f < V.length → g < V.length → attN V K f g = true → rk f < rk g := by
  obtain ⟨rk, hrk⟩ := (acy_mut h hpl hnd).2 hn
  refine ⟨fun i => rk (fa atoms i).1, fun f g hf hg ha => ?_⟩
  rw [h.lV] at hf hg
  dsimp only
  rw [fa_get hf, fa_get hg]
  exact hrk _ (List.getElem_mem hf) _ (List.getElem_mem hg) ((attN_iff h hpl hnd hf hg).1 ha)
end
/-! ## Deletion of the atoms that nothing attacks (the program's way) -/
/-- Atom i is left, and no atom that is left attacks it. -/
def freeT (V K : List Nat) (left i : Nat) : Prop := left.testBit i = true ∧ ∀ f, f < V.length → attN V K f i = true → left.testBit f = false
theorem least_bit {n left : Nat} (rk : Nat → Nat) (hne : left ≠ 0) (hl : left < 2 ^ n) : ∃ i, i < n ∧ left.testBit i = true ∧ ∀ j, j < n → left.testBit j = true → rk i ≤ rk j := by
  have hex : (List.range n).filter left.testBit ≠ [] := fun e => hne (Nat.eq_of_testBit_eq fun x => by
    rw [Nat.zero_testBit]
    rcases Nat.lt_or_ge x n with hx | hx
    · have := List.filter_eq_nil_iff.1 e x (List.mem_range.2 hx)
      simpa using this
    · exact Nat.testBit_lt_two_pow (Nat.lt_of_lt_of_le hl (Nat.pow_le_pow_right (by omega) hx)))
  obtain ⟨i, hi, hm⟩ := least_of rk hex
  obtain ⟨h1, h2⟩ := List.mem_filter.1 hi
  exact ⟨i, List.mem_range.1 h1, h2, fun j hj hb => hm j (List.mem_filter.2 ⟨List.mem_range.2 hj, hb⟩)⟩
theorem stuck_mut {V K : List Nat} {left : Nat} (hr : ¬ mutN V K → ∃ rk : Nat → Nat, ∀ f g, f < V.length → g < V.length → attN V K f g = true → rk f < rk g) (hne : left ≠ 0) (hl : left < 2 ^ V.length) (hno : ∀ i, i < V.length → ¬ freeT V K left i) : mutN V K := by
  refine Classical.byContradiction fun hn => ?_
  obtain ⟨rk, hrk⟩ := hr hn
  obtain ⟨i, hi, hb, hm⟩ := least_bit rk hne hl
  refine hno i hi ⟨hb, fun f hf ha => ?_⟩
  rw [← Bool.not_eq_true]
  intro hfb
  have := hrk f i hf hi ha
  have := hm f hf hfb
  omega
/-- Atoms that attack each other are left. -/
def MutIn (V K : List Nat) (left : Nat) : Prop := ∀ f g, f < V.length → g < V.length → attN V K f g = true → attN V K g f = true → left.testBit f = true
theorem MutIn.clr {V K : List Nat} {left i : Nat} (h : MutIn V K left) (hi : freeT V K left i) : MutIn V K (clr left i) := fun f g hf hg h1 h2 => by
  have e := h f g hf hg h1 h2
  refine clr_bit.2 ⟨e, ?_⟩
  rintro rfl
  have := hi.2 g hg h2
  rw [h g f hg hf h2 h1] at this
  cases this
theorem MutIn.zero {V K : List Nat} (h : MutIn V K 0) : ¬ mutN V K := fun ⟨f, g, hf, hg, h1, h2⟩ => by
  have := h f g hf hg h1 h2
  rw [Nat.zero_testBit] at this
  cases this
theorem MutIn.init {V K : List Nat} : MutIn V K (2 ^ V.length - 1) := fun f g hf hg _ _ => by
  rw [Nat.testBit_two_pow_sub_one]
  exact decide_eq_true hf
/-! ## What can be reached (the reference's way) -/
structure RchI (V K : List Nat) (c : List Nat) : Prop where
  len : c.length = 5
  lt : ∀ f, c.getD f 0 < 2 ^ V.length
  has : ∀ f g, f < V.length → g < V.length → attN V K f g = true → (c.getD f 0).testBit g = true
  rise : ∀ rk : Nat → Nat, (∀ f g, f < V.length → g < V.length → attN V K f g = true → rk f < rk g) → ∀ f g, f < V.length → (c.getD f 0).testBit g = true → rk f < rk g
theorem RchI.step {V K : List Nat} {c : List Nat} {f g : Nat} (h : RchI V K c) (hf : f < V.length) (hV : V.length ≤ 5) (hg : g < V.length) (hb : (c.getD f 0).testBit g = true) : RchI V K (c.set f (c.getD f 0 ||| c.getD g 0)) := by
  have get : ∀ i, (c.set f (c.getD f 0 ||| c.getD g 0)).getD i 0 = if i = f then c.getD f 0 ||| c.getD g 0 else c.getD i 0 := fun i => by
    simp only [List.getD_eq_getElem?_getD, List.getElem?_set]
    by_cases e : f = i
    · subst e
      have := h.len
      rw [if_pos rfl, if_pos (by omega), if_pos rfl]
      simp
    · rw [if_neg e, if_neg fun e2 => e e2.symm]
  refine ⟨by rw [List.length_set]; exact h.len, fun i => ?_, fun i j hi hj ha => ?_, fun rk hrk i j hi hb2 => ?_⟩
  · rw [get]
    split
    · exact Nat.or_lt_two_pow (h.lt f) (h.lt g)
    · exact h.lt i
  · rw [get]
    split
    · rename_i e
      subst e
      rw [Nat.testBit_or, h.has i j hi hj ha, Bool.true_or]
    · exact h.has i j hi hj ha
  · rw [get] at hb2
    split at hb2
    · rename_i e
      subst e
      rw [Nat.testBit_or, Bool.or_eq_true] at hb2
      rcases hb2 with h1 | h1
      · exact h.rise rk hrk i j hi h1
      · have a := h.rise rk hrk i g hi hb
        have b := h.rise rk hrk g j hg h1
        omega
    · exact h.rise rk hrk i j hi hb2
/-- Of atoms that attack each other: those whose turn has come reach themselves. -/
def SelfB (V K : List Nat) (c : List Nat) (p : Nat → Nat → Prop) : Prop := ∀ f g, f < V.length → g < V.length → attN V K f g = true → attN V K g f = true → p f g → (c.getD f 0).testBit f = true
theorem SelfB.mono {V K c : List Nat} {p q : Nat → Nat → Prop} (h : SelfB V K c p) (hpq : ∀ f g, f < V.length → g < V.length → q f g → p f g) : SelfB V K c q := fun f g hf hg h1 h2 hq => h f g hf hg h1 h2 (hpq f g hf hg hq)
theorem SelfB.step {V K : List Nat} {c : List Nat} {f g : Nat} {p : Nat → Nat → Prop} (h : RchI V K c) (hs : SelfB V K c p) (hf : f < V.length) (hV : V.length ≤ 5) (hg : g < V.length) : SelfB V K (c.set f (c.getD f 0 ||| c.getD g 0)) fun i j => p i j ∨ (i = f ∧ j = g) := fun i j hi hj h1 h2 hp => by
  have get : ∀ i, (c.set f (c.getD f 0 ||| c.getD g 0)).getD i 0 = if i = f then c.getD f 0 ||| c.getD g 0 else c.getD i 0 := fun i => by
    simp only [List.getD_eq_getElem?_getD, List.getElem?_set]
    by_cases e : f = i
    · subst e
      have := h.len
      rw [if_pos rfl, if_pos (by omega), if_pos rfl]
      simp
    · rw [if_neg e, if_neg fun e2 => e e2.symm]
  rw [get]
  rcases hp with hp | ⟨rfl, rfl⟩
  · have := hs i j hi hj h1 h2 hp
    split
    · rename_i e
      subst e
      rw [Nat.testBit_or, this, Bool.true_or]
    · exact this
  · rw [if_pos rfl, Nat.testBit_or, h.has j i hj hi h2, Bool.or_true]
end Go.Proofs.YtmjpnfapjcfejaaDoor
