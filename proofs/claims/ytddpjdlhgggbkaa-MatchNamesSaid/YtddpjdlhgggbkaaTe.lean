/- Ears and elimination (Graham): what can be eliminated can be eliminated in every way. Of no program. No condition. -/
import Derived.Test.YtddpjdlhgggbkaaVb
import Derived.Test.YtddpjdlhgggbkaaMi
namespace Go.Proofs.Ytddpjdlhgggbkaa
set_option linter.unusedVariables false

section
variable (vs : Nat → Nat → Prop)
/-- i is an ear of S: what it shares with any other is in k. -/
def Ear (S : Nat → Prop) (i k : Nat) : Prop := S i ∧ S k ∧ i ≠ k ∧ ∀ j, S j → j ≠ i → ∀ x, vs i x → vs j x → vs k x
/-- S without i. -/
def Wo (S : Nat → Prop) (i : Nat) : Nat → Prop := fun j => S j ∧ j ≠ i
/-- n atoms can be eliminated down to one. -/
inductive Elim : (Nat → Prop) → Nat → Prop
  | one {S : Nat → Prop} {i : Nat} : (∀ j, S j ↔ j = i) → Elim S 1
  | step {S : Nat → Prop} {i k n : Nat} : Ear vs S i k → Elim (Wo S i) n → Elim S (n + 1)
variable {vs}
theorem Elim.congr {S S' : Nat → Prop} {n : Nat} (h : Elim vs S n) (e : ∀ j, S j ↔ S' j) : Elim vs S' n := by
  have : S = S' := funext fun j => propext (e j)
  exact this ▸ h
theorem Wo.comm {S : Nat → Prop} {i j k : Nat} : Wo (Wo S i) j k ↔ Wo (Wo S j) i k := by
  unfold Wo
  exact ⟨fun h => ⟨⟨h.1.1, h.2⟩, h.1.2⟩, fun h => ⟨⟨h.1.1, h.2⟩, h.1.2⟩⟩
/-- Atoms may be renamed, if what any two share stays. -/
theorem Elim.map {f : Nat → Nat} {S : Nat → Prop} {n : Nat} (h : Elim vs S n) : (∀ a b, S a → S b → f a = f b → a = b) → (∀ a b, S a → S b → a ≠ b → ∀ x, (vs a x ∧ vs b x ↔ vs (f a) x ∧ vs (f b) x)) → ∀ {S' : Nat → Prop}, (∀ j', S' j' ↔ ∃ j, S j ∧ f j = j') → Elim vs S' n := by
  induction h with
  | @one S i hi =>
    intro _ _ S' hS'
    refine .one (i := f i) fun j' => ?_
    rw [hS']
    constructor
    · rintro ⟨j, hj, rfl⟩
      rw [(hi j).1 hj]
    · rintro rfl
      exact ⟨i, (hi i).2 rfl, rfl⟩
  | @step S i k n he hr ih =>
    intro hinj hsh S' hS'
    obtain ⟨h1, h2, h3, h4⟩ := he
    refine .step (i := f i) (k := f k) ⟨(hS' _).2 ⟨i, h1, rfl⟩, (hS' _).2 ⟨k, h2, rfl⟩, fun e => h3 (hinj _ _ h1 h2 e), fun j' hj' hne x hx hy => ?_⟩ ?_
    · obtain ⟨j, hj, rfl⟩ := (hS' _).1 hj'
      have hji : j ≠ i := fun e => hne (by rw [e])
      have h5 := (hsh i j h1 hj (Ne.symm hji) x).2 ⟨hx, hy⟩
      exact ((hsh i k h1 h2 h3 x).1 ⟨h5.1, h4 j hj hji x h5.1 h5.2⟩).2
    · refine ih (fun a b ha hb => hinj a b ha.1 hb.1) (fun a b ha hb => hsh a b ha.1 hb.1) fun j' => ?_
      unfold Wo
      rw [hS']
      constructor
      · rintro ⟨⟨j, hj, rfl⟩, hne⟩
        exact ⟨j, ⟨hj, fun e => hne (by rw [e])⟩, rfl⟩
      · rintro ⟨j, ⟨hj, hne⟩, rfl⟩
        exact ⟨⟨j, hj, rfl⟩, fun e => hne (hinj _ _ hj h1 e)⟩
/-- Whichever ear goes first: the others can still be eliminated. -/
theorem Elim.exch : ∀ {n : Nat} {S : Nat → Prop} {i k : Nat}, Elim vs S (n + 2) → Ear vs S i k → Elim vs (Wo S i) (n + 1) := by
  intro n
  induction n with
  | zero =>
    intro S i k h he
    cases h with
    | @step _ e p _ h1 h2 =>
      by_cases hie : i = e
      · exact hie ▸ h2
      · cases h2 with
        | @one _ r hr =>
          have hri : i = r := (hr i).1 ⟨he.1, hie⟩
          refine .one (i := e) fun j => ?_
          constructor
          · rintro ⟨hj, hne⟩
            refine Classical.byContradiction fun hje => hne ?_
            rw [hri]
            exact (hr j).1 ⟨hj, hje⟩
          · rintro rfl
            exact ⟨h1.1, fun e => hie e.symm⟩
        | step h3 h4 => cases h4
  | succ m IH =>
    intro S i k h he
    cases h with
    | @step _ e p _ h1 h2 =>
      by_cases hie : i = e
      · exact hie ▸ h2
      obtain ⟨a1, a2, a3, a4⟩ := he
      obtain ⟨b1, b2, b3, b4⟩ := h1
      by_cases hmut : k = e ∧ p = i
      · obtain ⟨rfl, rfl⟩ := hmut
        refine Elim.map (f := fun a => if a = p then k else a) h2 ?_ ?_ fun j' => ?_
        · intro a b ha hb hab
          by_cases hap : a = p <;> by_cases hbp : b = p
          · rw [hap, hbp]
          · rw [if_pos hap, if_neg hbp] at hab
            exact absurd hab.symm hb.2
          · rw [if_neg hap, if_pos hbp] at hab
            exact absurd hab ha.2
          · rwa [if_neg hap, if_neg hbp] at hab
        · intro a b ha hb hab x
          by_cases hap : a = p <;> by_cases hbp : b = p
          · exact absurd (hap.trans hbp.symm) hab
          · rw [if_pos hap, if_neg hbp, hap]
            exact ⟨fun h => ⟨a4 b hb.1 hbp x h.1 h.2, h.2⟩, fun h => ⟨b4 b hb.1 hb.2 x h.1 h.2, h.2⟩⟩
          · rw [if_neg hap, if_pos hbp, hbp]
            exact ⟨fun h => ⟨h.1, a4 a ha.1 hap x h.2 h.1⟩, fun h => ⟨h.1, b4 a ha.1 ha.2 x h.2 h.1⟩⟩
          · rw [if_neg hap, if_neg hbp]
        · constructor
          · rintro ⟨hj, hne⟩
            by_cases hjk : j' = k
            · exact ⟨p, ⟨a1, fun e => hie e⟩, by rw [if_pos rfl, hjk]⟩
            · exact ⟨j', ⟨hj, hjk⟩, by rw [if_neg hne]⟩
          · rintro ⟨j, ⟨hj, hjk⟩, rfl⟩
            by_cases hjp : j = p
            · rw [if_pos hjp]
              exact ⟨a2, fun e => a3 e.symm⟩
            · rw [if_neg hjp]
              exact ⟨hj, hjp⟩
      · have ear1 : ∃ k', Ear vs (Wo S e) i k' := by
          by_cases hke : k = e
          · have hpi : p ≠ i := fun h => hmut ⟨hke, h⟩
            exact ⟨p, ⟨a1, hie⟩, ⟨b2, fun e => b3 e.symm⟩, fun e => hpi e.symm, fun j hj hne x hx hy => b4 j hj.1 hj.2 x (hke ▸ a4 j hj.1 hne x hx hy) hy⟩
          · exact ⟨k, ⟨a1, hie⟩, ⟨a2, hke⟩, a3, fun j hj hne x hx hy => a4 j hj.1 hne x hx hy⟩
        obtain ⟨k', hk'⟩ := ear1
        have h5 := IH h2 hk'
        have ear2 : ∃ p', Ear vs (Wo S i) e p' := by
          by_cases hpi : p = i
          · have hke : k ≠ e := fun h => hmut ⟨h, hpi⟩
            exact ⟨k, ⟨b1, fun e => hie e.symm⟩, ⟨a2, fun e => a3 e.symm⟩, fun e => hke e.symm, fun j hj hne x hx hy => a4 j hj.1 hj.2 x (hpi ▸ b4 j hj.1 hne x hx hy) hy⟩
          · exact ⟨p, ⟨b1, fun e => hie e.symm⟩, ⟨b2, hpi⟩, b3, fun j hj hne x hx hy => b4 j hj.1 hne x hx hy⟩
        obtain ⟨p', hp'⟩ := ear2
        exact .step hp' (h5.congr fun j => Wo.comm)
/-- What can be eliminated has an ear. -/
theorem Elim.ear {n : Nat} {S : Nat → Prop} (h : Elim vs S (n + 2)) : ∃ i k, Ear vs S i k := by
  cases h with
  | step h1 h2 => exact ⟨_, _, h1⟩
end
end Go.Proofs.Ytddpjdlhgggbkaa

/- The deletion of ears with sets of variables as numbers: what it finds are ears. Of no program. No condition. -/
namespace Go.Proofs.Ytddpjdlhgggbkaa
set_option linter.unusedVariables false

/-- What the others that are left have. -/
def othG (left : Nat) (V : List Nat) (i : Nat) : List Nat → Nat := List.foldl (fun acc k => if k ≠ i ∧ left.testBit k = true then acc ||| V.getD k 0 else acc) 0
def othN (n left : Nat) (V : List Nat) (i : Nat) : Nat := othG left V i (List.range n)
theorem oth_go (left : Nat) (V : List Nat) (i x : Nat) : ∀ (l : List Nat) (acc : Nat), (l.foldl (fun acc k => if k ≠ i ∧ left.testBit k = true then acc ||| V.getD k 0 else acc) acc).testBit x = true ↔ acc.testBit x = true ∨ ∃ k ∈ l, k ≠ i ∧ left.testBit k = true ∧ (V.getD k 0).testBit x = true
  | [], acc => by simp
  | a :: r, acc => by
    rw [List.foldl_cons, oth_go left V i x r]
    by_cases h : a ≠ i ∧ left.testBit a = true
    · rw [if_pos h, Nat.testBit_or, Bool.or_eq_true]
      constructor
      · rintro ((h1 | h1) | ⟨k, h1, h2⟩)
        · exact .inl h1
        · exact .inr ⟨a, List.mem_cons_self .., h.1, h.2, h1⟩
        · exact .inr ⟨k, List.mem_cons_of_mem _ h1, h2⟩
      · rintro (h1 | ⟨k, h1, h2⟩)
        · exact .inl (.inl h1)
        · rcases List.mem_cons.1 h1 with rfl | h1
          · exact .inl (.inr h2.2.2)
          · exact .inr ⟨k, h1, h2⟩
    · rw [if_neg h]
      constructor
      · rintro (h1 | ⟨k, h1, h2⟩)
        · exact .inl h1
        · exact .inr ⟨k, List.mem_cons_of_mem _ h1, h2⟩
      · rintro (h1 | ⟨k, h1, h2⟩)
        · exact .inl h1
        · rcases List.mem_cons.1 h1 with rfl | h1
          · exact absurd ⟨h2.1, h2.2.1⟩ h
          · exact .inr ⟨k, h1, h2⟩
theorem oth_bit {n left : Nat} {V : List Nat} {i x : Nat} : (othN n left V i).testBit x = true ↔ ∃ k, k < n ∧ k ≠ i ∧ left.testBit k = true ∧ (V.getD k 0).testBit x = true := by
  unfold othN othG
  rw [oth_go]
  simp only [Nat.zero_testBit, Bool.false_eq_true, false_or, List.mem_range]
def cutN (n left : Nat) (V : List Nat) (i : Nat) : List Nat := V.set i (V.getD i 0 &&& othN n left V i)
def cutK (n left : Nat) (V : List Nat) (k : Nat) : List Nat := (List.range k).foldl (cutN n left) V
theorem cutK_succ (n left : Nat) (V : List Nat) (k : Nat) : cutK n left V (k + 1) = cutN n left (cutK n left V k) k := by
  unfold cutK
  rw [List.range_succ, List.foldl_append]
  rfl
/-- What is kept between the rounds. -/
structure EarI (vs : Nat → Nat → Prop) (n left : Nat) (V : List Nat) : Prop where
  len : V.length = n
  sub : ∀ i, i < n → left.testBit i = true → ∀ x, (V.getD i 0).testBit x = true → vs i x
  has : ∀ i k, i < n → k < n → i ≠ k → left.testBit i = true → left.testBit k = true → ∀ x, vs i x → vs k x → (V.getD i 0).testBit x = true
/-- Nothing but what is shared is kept of atom i. -/
def Tight (vs : Nat → Nat → Prop) (n left : Nat) (V : List Nat) (i : Nat) : Prop := ∀ x, (V.getD i 0).testBit x = true → ∃ k, k < n ∧ k ≠ i ∧ left.testBit k = true ∧ vs k x
section
variable {vs : Nat → Nat → Prop} {n left : Nat} {V : List Nat}
theorem getD_setN {l : List Nat} {k : Nat} (hk : k < l.length) (y i : Nat) : (l.set k y).getD i 0 = if i = k then y else l.getD i 0 := by
  simp only [List.getD, List.getElem?_set]
  by_cases h : k = i
  · subst h
    rw [if_pos rfl, if_pos rfl, if_pos hk]
    rfl
  · rw [if_neg h, if_neg (Ne.symm h)]
theorem cut_get (hl : V.length = n) {i : Nat} (hi : i < n) (k : Nat) : (cutN n left V i).getD k 0 = if k = i then V.getD i 0 &&& othN n left V i else V.getD k 0 := getD_setN (by omega) _ _
theorem EarI.cut (h : EarI vs n left V) {i : Nat} (hi : i < n) : EarI vs n left (cutN n left V i) := by
  refine ⟨by unfold cutN; rw [List.length_set]; exact h.len, fun j hj hlj x hx => ?_, fun j k hj hk hjk hlj hlk x hx hy => ?_⟩
  · rw [cut_get h.len hi] at hx
    split at hx
    · rename_i e
      subst e
      rw [Nat.testBit_and, Bool.and_eq_true] at hx
      exact h.sub j hj hlj x hx.1
    · exact h.sub j hj hlj x hx
  · rw [cut_get h.len hi]
    split
    · rename_i e
      subst e
      rw [Nat.testBit_and, Bool.and_eq_true]
      exact ⟨h.has j k hj hk hjk hlj hlk x hx hy, oth_bit.2 ⟨k, hk, Ne.symm hjk, hlk, h.has k j hk hj (Ne.symm hjk) hlk hlj x hy hx⟩⟩
    · exact h.has j k hj hk hjk hlj hlk x hx hy
theorem EarI.cutK (h : EarI vs n left V) : ∀ {k : Nat}, k ≤ n → EarI vs n left (cutK n left V k) ∧ ∀ i, i < k → Tight vs n left (cutK n left V k) i
  | 0, _ => ⟨h, fun i hi => by omega⟩
  | k + 1, hk => by
    obtain ⟨h1, h2⟩ := EarI.cutK h (k := k) (by omega)
    rw [cutK_succ]
    refine ⟨h1.cut (by omega), fun i hi x hx => ?_⟩
    rw [cut_get h1.len (by omega)] at hx
    split at hx
    · rename_i e
      subst e
      rw [Nat.testBit_and, Bool.and_eq_true] at hx
      obtain ⟨k, a1, a2, a3, a4⟩ := oth_bit.1 hx.2
      exact ⟨k, a1, a2, a3, h1.sub k a1 a3 x a4⟩
    · exact h2 i (by omega) x hx
/-- What is tested is: an ear. -/
theorem ear_iff (h : EarI vs n left V) {i k : Nat} (ht : Tight vs n left V i) (hi : i < n) (hk : k < n) (hli : left.testBit i = true) (hlk : left.testBit k = true) (hik : i ≠ k) :
    (∀ x, (V.getD i 0).testBit x = true → (V.getD k 0).testBit x = true) ↔ Ear vs (fun j => j < n ∧ left.testBit j = true) i k := by
  constructor
  · intro hs
    exact ⟨⟨hi, hli⟩, ⟨hk, hlk⟩, hik, fun j hj hji x hx hy => h.sub k hk hlk x (hs x (h.has i j hi hj.1 (Ne.symm hji) hli hj.2 x hx hy))⟩
  · rintro ⟨-, -, -, he⟩ x hx
    have h1 := h.sub i hi hli x hx
    obtain ⟨j, a1, a2, a3, a4⟩ := ht x hx
    exact h.has k i hk hi (Ne.symm hik) hlk hli x (he j ⟨a1, a3⟩ a2 x h1 a4) h1
theorem EarI.less (h : EarI vs n left V) {l2 : Nat} (hl : ∀ i, l2.testBit i = true → left.testBit i = true) : EarI vs n l2 V :=
  ⟨h.len, fun i hi hli => h.sub i hi (hl i hli), fun i k hi hk hik hli hlk => h.has i k hi hk hik (hl i hli) (hl k hlk)⟩
end
/-! ## The pair that is taken: the last -/
def earT (left : Nat) (V : List Nat) (i k : Nat) : Bool := decide (k ≠ i) && left.testBit i && left.testBit k && decide (V.getD i 0 &&& V.getD k 0 = V.getD i 0)
theorem sub_bits {a b : Nat} : a &&& b = a ↔ ∀ x, a.testBit x = true → b.testBit x = true := by
  constructor
  · intro h x hx
    rw [← h, Nat.testBit_and, Bool.and_eq_true] at hx
    exact hx.2
  · intro h
    refine Nat.eq_of_testBit_eq fun x => ?_
    rw [Nat.testBit_and]
    cases hx : a.testBit x with
    | false => rfl
    | true => rw [h x hx]; rfl
def pickIn (left : Nat) (V : List Nat) (i m : Nat) (acc : Option (Nat × Nat)) : Option (Nat × Nat) := (List.range m).foldl (fun acc k => if earT left V i k = true then some (i, k) else acc) acc
def pickN (n left : Nat) (V : List Nat) (m : Nat) : Option (Nat × Nat) := (List.range m).foldl (fun acc i => pickIn left V i n acc) none
theorem pickIn_succ (left : Nat) (V : List Nat) (i m : Nat) (acc : Option (Nat × Nat)) : pickIn left V i (m + 1) acc = if earT left V i m = true then some (i, m) else pickIn left V i m acc := by
  unfold pickIn
  rw [List.range_succ, List.foldl_append]
  rfl
theorem pickN_succ (n left : Nat) (V : List Nat) (m : Nat) : pickN n left V (m + 1) = pickIn left V m n (pickN n left V m) := by
  unfold pickN
  rw [List.range_succ, List.foldl_append]
  rfl
theorem pick_some {n left : Nat} {V : List Nat} : ∀ {m : Nat} {i k : Nat}, m ≤ n → pickN n left V m = some (i, k) → i < n ∧ k < n ∧ earT left V i k = true := by
  have inn : ∀ {j : Nat}, j < n → ∀ m, m ≤ n → ∀ acc : Option (Nat × Nat), (∀ i k, acc = some (i, k) → i < n ∧ k < n ∧ earT left V i k = true) → ∀ i k, pickIn left V j m acc = some (i, k) → i < n ∧ k < n ∧ earT left V i k = true := fun {j} hj m => by
    induction m with
    | zero => intro _ acc h; exact h
    | succ m ih =>
      intro hm acc h i k he
      rw [pickIn_succ] at he
      split at he
      · rename_i ht
        obtain ⟨rfl, rfl⟩ : j = i ∧ m = k := by simpa using he
        exact ⟨hj, by omega, ht⟩
      · exact ih (by omega) acc h i k he
  intro m
  induction m with
  | zero => intro i k _ h; simp [pickN] at h
  | succ m ih =>
    intro i k hm h
    rw [pickN_succ] at h
    exact inn (by omega) n (Nat.le_refl _) _ (fun i k he => ih (by omega) he) i k h
theorem pick_none {n left : Nat} {V : List Nat} : ∀ {m : Nat}, pickN n left V m = none → ∀ i k, i < m → k < n → earT left V i k = false := by
  have inn : ∀ {j : Nat} (m : Nat) (acc : Option (Nat × Nat)), pickIn left V j m acc = none → acc = none ∧ ∀ k, k < m → earT left V j k = false := fun {j} m => by
    induction m with
    | zero => intro acc h; exact ⟨h, fun k hk => by omega⟩
    | succ m ih =>
      intro acc h
      rw [pickIn_succ] at h
      split at h
      · cases h
      · rename_i ht
        obtain ⟨h1, h2⟩ := ih acc h
        refine ⟨h1, fun k hk => ?_⟩
        rcases Nat.lt_or_ge k m with h3 | h3
        · exact h2 k h3
        · have : k = m := by omega
          subst this
          simpa using ht
  intro m
  induction m with
  | zero => intro _ i k hi; omega
  | succ m ih =>
    intro h i k hi hk
    rw [pickN_succ] at h
    obtain ⟨h1, h2⟩ := inn n _ h
    rcases Nat.lt_or_ge i m with h3 | h3
    · exact ih h1 i k h3 hk
    · have : i = m := by omega
      subst this
      exact h2 k hk
end Go.Proofs.Ytddpjdlhgggbkaa

/- The deletion of ears as a relation between its states; what is left is one atom exactly if all can be eliminated. Of no program. No condition. -/
namespace Go.Proofs.Ytddpjdlhgggbkaa
set_option linter.unusedVariables false

/-- A set of bits without one. -/
def clr (left i : Nat) : Nat := VC.nSub left (2 ^ i)
/-- From what is left, with the sets and the parents so far, to what is left at the end. -/
inductive EarsR (n : Nat) : Nat → List Nat → List Int → Nat → List Int → Prop
  | stop {left : Nat} {V : List Nat} {p : List Int} : pickN n left (cutK n left V n) n = none → EarsR n left V p left p
  | go {left : Nat} {V : List Nat} {p : List Int} {i k l2 : Nat} {p2 : List Int} : pickN n left (cutK n left V n) n = some (i, k) → EarsR n (clr left i) (cutK n left V n) (p.set i (k : Int)) l2 p2 → EarsR n left V p l2 p2
theorem EarsR.det {n left : Nat} {V : List Nat} {p : List Int} {l2 : Nat} {p2 : List Int} (h : EarsR n left V p l2 p2) : ∀ {l3 : Nat} {p3 : List Int}, EarsR n left V p l3 p3 → l3 = l2 ∧ p3 = p2 := by
  induction h with
  | stop h1 =>
    intro l3 p3 h
    cases h with
    | stop _ => exact ⟨rfl, rfl⟩
    | go h2 _ => rw [h1] at h2; cases h2
  | go h1 _ ih =>
    intro l3 p3 h
    cases h with
    | stop h2 => rw [h1] at h2; cases h2
    | go h2 h3 =>
      rw [h1] at h2
      obtain ⟨rfl, rfl⟩ : _ = _ ∧ _ = _ := by simpa using h2
      exact ih h3
/-- The parents do not matter for what is left. -/
theorem EarsR.left {n left : Nat} {V : List Nat} {p : List Int} {l2 : Nat} {p2 : List Int} (h : EarsR n left V p l2 p2) : ∀ (q : List Int), ∃ q2, EarsR n left V q l2 q2 := by
  induction h with
  | stop h1 => exact fun q => ⟨q, .stop h1⟩
  | go h1 _ ih =>
    intro q
    obtain ⟨q2, h2⟩ := ih (q.set _ _)
    exact ⟨q2, .go h1 h2⟩
def InS (n left : Nat) : Nat → Prop := fun j => j < n ∧ left.testBit j = true
def Single (n left : Nat) : Prop := ∃ i, ∀ j, InS n left j ↔ j = i
theorem earT_iff {left : Nat} {V : List Nat} {i k : Nat} : earT left V i k = true ↔ k ≠ i ∧ left.testBit i = true ∧ left.testBit k = true ∧ ∀ x, (V.getD i 0).testBit x = true → (V.getD k 0).testBit x = true := by
  unfold earT
  simp only [Bool.and_eq_true, decide_eq_true_eq, sub_bits, and_assoc]
theorem clr_bit {left i j : Nat} : (clr left i).testBit j = true ↔ left.testBit j = true ∧ j ≠ i := by
  unfold clr
  rw [VC.nSub_bit, Nat.testBit_two_pow]
  simp only [Bool.and_eq_true, Bool.not_eq_true', decide_eq_false_iff_not]
  exact ⟨fun h => ⟨h.1, fun e => h.2 e.symm⟩, fun h => ⟨h.1, fun e => h.2 e.symm⟩⟩
/-- One atom is left exactly if all can be eliminated. -/
theorem ears_single {vs : Nat → Nat → Prop} {n left : Nat} {V : List Nat} {p : List Int} {l2 : Nat} {p2 : List Int} (h : EarsR n left V p l2 p2) : EarI vs n left V → (Single n l2 ↔ ∃ m, Elim vs (InS n left) m) := by
  induction h with
  | @stop left V p h1 =>
    intro hI
    obtain ⟨hI2, hT⟩ := hI.cutK (k := n) (Nat.le_refl n)
    constructor
    · rintro ⟨i, hi⟩
      exact ⟨1, .one hi⟩
    · rintro ⟨m, hm⟩
      cases hm with
      | one hi => exact ⟨_, hi⟩
      | @step _ i k _ he hr =>
        exfalso
        obtain ⟨a1, a2, a3, a4⟩ := he
        have := pick_none h1 i k a1.1 a2.1
        have h2 : earT left (cutK n left V n) i k = true := earT_iff.2 ⟨Ne.symm a3, a1.2, a2.2, (ear_iff hI2 (hT i a1.1) a1.1 a2.1 a1.2 a2.2 a3).2 ⟨a1, a2, a3, a4⟩⟩
        rw [h2] at this
        cases this
  | @go left V p i k l2 p2 h1 hr ih =>
    intro hI
    obtain ⟨hI2, hT⟩ := hI.cutK (k := n) (Nat.le_refl n)
    obtain ⟨hi, hk, ht⟩ := pick_some (Nat.le_refl n) h1
    obtain ⟨b1, b2, b3, b4⟩ := earT_iff.1 ht
    have he : Ear vs (InS n left) i k := (ear_iff hI2 (hT i hi) hi hk b2 b3 (Ne.symm b1)).1 b4
    have eW : ∀ j, Wo (InS n left) i j ↔ InS n (clr left i) j := fun j => by
      unfold Wo InS
      rw [clr_bit, and_assoc]
    rw [ih (hI2.less fun j hj => (clr_bit.1 hj).1)]
    constructor
    · rintro ⟨m, hm⟩
      exact ⟨m + 1, .step he (hm.congr fun j => (eW j).symm)⟩
    · rintro ⟨m, hm⟩
      match m, hm with
      | 0, hm => cases hm
      | 1, hm =>
        exfalso
        cases hm with
        | one hi2 => exact b1 (((hi2 k).1 ⟨hk, b3⟩).trans ((hi2 i).1 ⟨hi, b2⟩).symm)
        | step h3 h4 => cases h4
      | m + 2, hm => exact ⟨m + 1, (hm.exch he).congr eW⟩
end Go.Proofs.Ytddpjdlhgggbkaa

/- The parents that the deletion of ears leaves: a join tree. Of no program. No condition. -/
namespace Go.Proofs.Ytddpjdlhgggbkaa
set_option linter.unusedVariables false

def cnt (n left : Nat) : Nat := ((List.range n).filter fun i => left.testBit i).length
theorem cnt_clr {n left i : Nat} (h : InS n left i) : cnt n (clr left i) + 1 = cnt n left := by
  have e : ((List.range n).filter fun j => (clr left i).testBit j) = ((List.range n).filter fun j => left.testBit j).filter fun j => decide (j ≠ i) := by
    rw [List.filter_filter]
    refine List.filter_congr fun j _ => ?_
    rw [Bool.eq_iff_iff, clr_bit]
    simp [and_comm]
  have hm : i ∈ (List.range n).filter fun j => left.testBit j := List.mem_filter.2 ⟨List.mem_range.2 h.1, h.2⟩
  have hn : ((List.range n).filter fun j => left.testBit j).Nodup := List.nodup_range.filter _
  have e2 : (((List.range n).filter fun j => left.testBit j).filter fun j => decide (j ≠ i)) = ((List.range n).filter fun j => left.testBit j).erase i := by
    rw [hn.erase_eq_filter]
    refine List.filter_congr fun j _ => ?_
    simp [bne, Bool.beq_eq_decide_eq]
  unfold cnt
  rw [e, e2, List.length_erase_of_mem hm]
  have := List.length_pos_of_mem hm
  omega
/-- The ranks of the atoms that are left: an atom's parent has a lower rank, and has what the atom shares with an atom of a lower one. -/
structure Ranks (vs : Nat → Nat → Prop) (n left l2 : Nat) (p2 : List Int) (rk : Nat → Nat) : Prop where
  top : ∀ i, InS n left i → rk i < cnt n left
  inj : ∀ i j, InS n left i → InS n left j → rk i = rk j → i = j
  par : ∀ i, InS n left i → ¬ InS n l2 i → ∃ k, InS n left k ∧ p2.getD i 0 = (k : Int) ∧ rk k < rk i
  shr : ∀ i, InS n left i → ¬ InS n l2 i → ∀ j, InS n left j → rk j < rk i → ∀ x, vs i x → vs j x → ∀ k : Nat, p2.getD i 0 = (k : Int) → vs k x
theorem getD_setI {l : List Int} {k : Nat} (hk : k < l.length) (y : Int) (i : Nat) : (l.set k y).getD i 0 = if i = k then y else l.getD i 0 := by
  simp only [List.getD, List.getElem?_set]
  by_cases h : k = i
  · subst h
    rw [if_pos rfl, if_pos rfl, if_pos hk]
    rfl
  · rw [if_neg h, if_neg (Ne.symm h)]
theorem ears_ranks {vs : Nat → Nat → Prop} {n left : Nat} {V : List Nat} {p : List Int} {l2 : Nat} {p2 : List Int} (h : EarsR n left V p l2 p2) : EarI vs n left V → p.length = n → Single n l2 →
    p2.length = n ∧ (∀ i, InS n l2 i → InS n left i) ∧ (∀ i, i < n → (¬ InS n left i ∨ InS n l2 i) → p2.getD i 0 = p.getD i 0) ∧ ∃ rk, Ranks vs n left l2 p2 rk := by
  induction h with
  | @stop left V p h1 =>
    rintro hI hp ⟨r, hr⟩
    refine ⟨hp, fun i hi => hi, fun i _ _ => rfl, fun _ => 0, fun i hi => ?_, fun i j hi hj _ => ((hr i).1 hi).trans ((hr j).1 hj).symm, fun i hi hn => absurd hi hn, fun i hi hn => absurd hi hn⟩
    unfold cnt
    exact List.length_pos_of_mem (List.mem_filter.2 ⟨List.mem_range.2 hi.1, hi.2⟩)
  | @go left V p i k l2 p2 h1 hr ih =>
    intro hI hp hS
    obtain ⟨hI2, hT⟩ := hI.cutK (k := n) (Nat.le_refl n)
    obtain ⟨hi, hk, ht⟩ := pick_some (Nat.le_refl n) h1
    obtain ⟨b1, b2, b3, b4⟩ := earT_iff.1 ht
    obtain ⟨e1, e2, e3, e4⟩ := (ear_iff hI2 (hT i hi) hi hk b2 b3 (Ne.symm b1)).1 b4
    obtain ⟨c1, c2, c3, rk, c4⟩ := ih (hI2.less fun j hj => (clr_bit.1 hj).1) (by rw [List.length_set]; exact hp) hS
    have inL : ∀ j, InS n (clr left i) j ↔ InS n left j ∧ j ≠ i := fun j => by
      unfold InS
      rw [clr_bit, and_assoc]
    have hci := cnt_clr (n := n) (left := left) (i := i) ⟨hi, b2⟩
    have hi2 : ¬ InS n l2 i := fun h => ((inL i).1 (c2 i h)).2 rfl
    have hpi : p2.getD i 0 = (k : Int) := by
      rw [c3 i hi (.inl fun h => ((inL i).1 h).2 rfl), getD_setI (by omega), if_pos rfl]
    refine ⟨c1, fun j hj => ((inL j).1 (c2 j hj)).1, fun j hj hor => ?_, fun j => if j = i then cnt n left - 1 else rk j, fun j hj => ?_, fun a b ha hb hab => ?_, fun j hj hn => ?_, fun j hj hn j2 hj2 hlt x hx hy k2 hk2 => ?_⟩
    · have hji : j ≠ i := fun e => by
        subst e
        rcases hor with h | h
        · exact h ⟨hi, b2⟩
        · exact hi2 h
      rw [c3 j hj ?_, getD_setI (by omega), if_neg hji]
      rcases hor with h | h
      · exact .inl fun h2 => h ((inL j).1 h2).1
      · exact .inr h
    · skip
      split
      · omega
      · rename_i hji
        have := c4.top j ((inL j).2 ⟨hj, hji⟩)
        omega
    · skip
      split at hab <;> split at hab
      · rename_i h1 h2
        exact h1.trans h2.symm
      · rename_i h1 h2
        have := c4.top b ((inL b).2 ⟨hb, h2⟩)
        omega
      · rename_i h1 h2
        have := c4.top a ((inL a).2 ⟨ha, h1⟩)
        omega
      · rename_i h1 h2
        exact c4.inj a b ((inL a).2 ⟨ha, h1⟩) ((inL b).2 ⟨hb, h2⟩) hab
    · by_cases hji : j = i
      · subst hji
        refine ⟨k, ⟨hk, b3⟩, hpi, ?_⟩
        rw [if_neg b1, if_pos rfl]
        have := c4.top k ((inL k).2 ⟨⟨hk, b3⟩, b1⟩)
        omega
      · obtain ⟨k3, d1, d2, d3⟩ := c4.par j ((inL j).2 ⟨hj, hji⟩) hn
        refine ⟨k3, ((inL k3).1 d1).1, d2, ?_⟩
        rw [if_neg ((inL k3).1 d1).2, if_neg hji]
        exact d3
    · skip
      by_cases hji : j = i
      · subst hji
        rw [hpi] at hk2
        obtain rfl : k = k2 := by omega
        have hne : j2 ≠ j := fun e => by
          subst e
          omega
        exact e4 j2 ⟨hj2.1, hj2.2⟩ hne x hx hy
      · rw [if_neg hji] at hlt
        have hne : j2 ≠ i := fun e => by
          rw [if_pos e] at hlt
          have := c4.top j ((inL j).2 ⟨hj, hji⟩)
          omega
        rw [if_neg hne] at hlt
        exact c4.shr j ((inL j).2 ⟨hj, hji⟩) hn j2 ((inL j2).2 ⟨hj2, hne⟩) hlt x hx hy k2 hk2
end Go.Proofs.Ytddpjdlhgggbkaa

/- Join trees as parents. Of no program. No condition. -/
namespace Go.Proofs.Ytddpjdlhgggbkaa
set_option linter.unusedVariables false

def stepP (p : List Int) (a : Int) : Int := if 0 ≤ a then p.getD a.toNat 0 else a
def iterP (p : List Int) : Nat → Int → Int
  | 0, a => a
  | t + 1, a => iterP p t (stepP p a)
theorem iterP_neg {p : List Int} : ∀ {t : Nat} {a : Int}, a < 0 → iterP p t a = a
  | 0, a, _ => rfl
  | t + 1, a, h => by
    rw [iterP, stepP, if_neg (by omega)]
    exact iterP_neg h
theorem iterP_succ (p : List Int) : ∀ (t : Nat) (a : Int), iterP p (t + 1) a = stepP p (iterP p t a)
  | 0, a => rfl
  | t + 1, a => by
    rw [iterP, iterP_succ p t, iterP]
/-- The tops of a set: those that have no parent in it. -/
def isTop (p : List Int) (P : Nat → Bool) (i : Nat) : Bool := P i && (decide (p.getD i 0 < 0) || !P (p.getD i 0).toNat)
def topsK (p : List Int) (P : Nat → Bool) (k : Nat) : Nat := ((List.range k).filter (isTop p P)).length
theorem topsK_succ (p : List Int) (P : Nat → Bool) (k : Nat) : topsK p P (k + 1) = topsK p P k + if isTop p P k = true then 1 else 0 := by
  unfold topsK
  rw [List.range_succ, List.filter_append, List.length_append]
  congr 1
  cases h : isTop p P k <;> simp [List.filter, h]
/-- A join tree. -/
structure TreeS (vb : Nat → Nat → Bool) (n : Nat) (p : List Int) : Prop where
  len : p.length = n
  rng : ∀ i, i < n → -1 ≤ p.getD i 0 ∧ p.getD i 0 < n
  ends : ∀ i, i < n → iterP p n (i : Int) = -1
  root : topsK p (fun _ => true) n = 1
  thr : ∀ x, x < 8 → topsK p (fun i => vb i x) n ≤ 1
theorem one_len {n r : Nat} {P : Nat → Bool} (hr : r < n) (h1 : P r = true) (h2 : ∀ i, i < n → P i = true → i = r) : ((List.range n).filter P).length = 1 := by
  have h3 : ((List.range n).filter P).length ≤ [r].length := sub_len (List.nodup_range.filter _) fun x hx => by
    have := List.mem_filter.1 hx
    rw [h2 x (List.mem_range.1 this.1) this.2]
    exact List.mem_singleton.2 rfl
  have h4 := List.length_pos_of_mem (List.mem_filter.2 ⟨List.mem_range.2 hr, h1⟩)
  simp only [List.length_singleton] at h3
  omega
theorem le_one {n : Nat} {P : Nat → Bool} (h2 : ∀ i j, i < n → j < n → P i = true → P j = true → i = j) : ((List.range n).filter P).length ≤ 1 := by
  by_cases h : ∃ r, r < n ∧ P r = true
  · obtain ⟨r, hr, h1⟩ := h
    rw [one_len hr h1 fun i hi hP => h2 i r hi hr hP h1]
    exact Nat.le_refl 1
  · have : (List.range n).filter P = [] := List.filter_eq_nil_iff.2 fun i hi hP => h ⟨i, List.mem_range.1 hi, hP⟩
    rw [this]
    simp
/-- A set that occurs has a top, where all chains end. -/
theorem top_some {p : List Int} {P : Nat → Bool} {n : Nat} (hr : ∀ i, i < n → -1 ≤ p.getD i 0 ∧ p.getD i 0 < n) : ∀ {t i : Nat}, i < n → P i = true → iterP p t (i : Int) < 0 → 1 ≤ topsK p P n
  | 0, i, _, _, h => by
    simp only [iterP] at h
    omega
  | t + 1, i, hi, hP, h => by
    by_cases ht : isTop p P i = true
    · exact List.length_pos_of_mem (List.mem_filter.2 ⟨List.mem_range.2 hi, ht⟩)
    · have h2 := hr i hi
      rw [isTop, hP, Bool.true_and, Bool.or_eq_true, not_or, decide_eq_true_eq] at ht
      have h3 : P (p.getD i 0).toNat = true := by
        have := ht.2
        simpa using this
      rw [iterP, stepP, if_pos (by omega), Int.toNat_natCast, ← Int.toNat_of_nonneg (by omega : 0 ≤ p.getD i 0)] at h
      exact top_some hr (by omega) h3 h
theorem cnt_all (n : Nat) : cnt n (2 ^ n - 1) = n := by
  unfold cnt
  have : ((List.range n).filter fun i => (2 ^ n - 1).testBit i) = List.range n := List.filter_eq_self.2 fun i hi => by
    rw [Nat.testBit_two_pow_sub_one]
    simpa using hi
  rw [this, List.length_range]
theorem inS_all {n j : Nat} : InS n (2 ^ n - 1) j ↔ j < n := by
  unfold InS
  rw [Nat.testBit_two_pow_sub_one]
  exact ⟨fun h => h.1, fun h => ⟨h, by simpa using h⟩⟩
/-- What the deletion of ears leaves as parents is a join tree, if one atom is left. -/
theorem ears_tree {vb : Nat → Nat → Bool} {n l2 : Nat} {V : List Nat} {p2 : List Int} (h : EarsR n (2 ^ n - 1) V (List.replicate n (-1)) l2 p2) (hI : EarI (fun i x => vb i x = true) n (2 ^ n - 1) V) (hS : Single n l2) : TreeS vb n p2 := by
  obtain ⟨h1, h2, h3, rk, hR⟩ := ears_ranks h hI (by simp) hS
  obtain ⟨r, hr⟩ := hS
  have hrn : r < n := ((hr r).2 rfl).1
  have pr : p2.getD r 0 = -1 := by
    rw [h3 r hrn (.inr ((hr r).2 rfl)), List.getD, List.getElem?_replicate, if_pos hrn]
    rfl
  have par : ∀ i, i < n → i ≠ r → ∃ k, k < n ∧ p2.getD i 0 = (k : Int) ∧ rk k < rk i := fun i hi hne => by
    obtain ⟨k, a1, a2, a3⟩ := hR.par i (inS_all.2 hi) fun h => hne ((hr i).1 h)
    exact ⟨k, a1.1, a2, a3⟩
  have low : ∀ m i, i < n → rk i ≤ m → rk r ≤ rk i := fun m => by
    induction m with
    | zero =>
      intro i hi hm
      by_cases hir : i = r
      · rw [hir]; exact Nat.le_refl _
      · obtain ⟨k, a1, a2, a3⟩ := par i hi hir
        omega
    | succ m ih =>
      intro i hi hm
      by_cases hir : i = r
      · rw [hir]; exact Nat.le_refl _
      · obtain ⟨k, a1, a2, a3⟩ := par i hi hir
        have := ih k a1 (by omega)
        omega
  have ends : ∀ t i, i < n → rk i < t → iterP p2 t (i : Int) = -1 := fun t => by
    induction t with
    | zero => intro i _ hm; omega
    | succ t ih =>
      intro i hi hm
      rw [iterP, stepP, if_pos (by omega), Int.toNat_natCast]
      by_cases hir : i = r
      · rw [hir, pr]
        exact iterP_neg (by omega)
      · obtain ⟨k, a1, a2, a3⟩ := par i hi hir
        rw [a2]
        exact ih k a1 (by omega)
  refine ⟨h1, fun i hi => ?_, fun i hi => ends n i hi (by have := hR.top i (inS_all.2 hi); rwa [cnt_all] at this), ?_, fun x hx => le_one fun i j hi hj hti htj => ?_⟩
  · by_cases hir : i = r
    · rw [hir, pr]
      omega
    · obtain ⟨k, a1, a2, a3⟩ := par i hi hir
      rw [a2]
      omega
  · refine one_len hrn (by simp only [isTop, pr]; decide) fun i hi ht => Classical.byContradiction fun hir => ?_
    obtain ⟨k, a1, a2, a3⟩ := par i hi hir
    simp only [isTop, a2, Bool.true_and, Bool.not_true, Bool.or_false, decide_eq_true_eq] at ht
    omega
  · have key : ∀ a b, a < n → b < n → rk a < rk b → isTop p2 (fun i => vb i x) a = true → isTop p2 (fun i => vb i x) b = true → False := fun a b ha hb hab hta htb => by
      have hbr : b ≠ r := fun e => by
        subst e
        have := low (rk a) a ha (Nat.le_refl _)
        omega
      obtain ⟨k, a1, a2, a3⟩ := par b hb hbr
      simp only [isTop, Bool.and_eq_true] at hta htb
      have := hR.shr b (inS_all.2 hb) (fun h => hbr ((hr b).1 h)) a (inS_all.2 ha) hab x htb.1 hta.1 k a2
      have h9 := htb.2
      rw [a2, Int.toNat_natCast, this] at h9
      simp at h9
      omega
    rcases Nat.lt_trichotomy (rk i) (rk j) with h9 | h9 | h9
    · exact absurd (key i j hi hj h9 hti htj) id
    · exact hR.inj i j (inS_all.2 hi) (inS_all.2 hj) h9
    · exact absurd (key j i hj hi h9 htj hti) id
end Go.Proofs.Ytddpjdlhgggbkaa

/- A join tree can be eliminated. Of no program. No condition. -/
namespace Go.Proofs.Ytddpjdlhgggbkaa
set_option linter.unusedVariables false

/-- The number of steps to the end. -/
def rnk (p : List Int) (n i : Nat) : Nat := ((List.range n).filter fun t => decide (0 ≤ iterP p t (i : Int))).length
theorem rnk_par {p : List Int} {n i k : Nat} (hn : 1 ≤ n) (he : iterP p n (i : Int) = -1) (hk : p.getD i 0 = (k : Int)) : rnk p n i = rnk p n k + 1 := by
  obtain ⟨m, rfl⟩ : ∃ m, n = m + 1 := ⟨n - 1, by omega⟩
  have st : ∀ t, iterP p (t + 1) (i : Int) = iterP p t (k : Int) := fun t => by
    rw [iterP, stepP, if_pos (by omega), Int.toNat_natCast, hk]
  have e1 : rnk p (m + 1) i = 1 + ((List.range m).filter fun t => decide (0 ≤ iterP p t (k : Int))).length := by
    unfold rnk
    rw [List.range_succ_eq_map, List.filter_cons, if_pos (by simp [iterP]), List.length_cons, List.filter_map, List.length_map]
    have : ((fun t => decide (0 ≤ iterP p t (i : Int))) ∘ Nat.succ) = fun t => decide (0 ≤ iterP p t (k : Int)) := funext fun t => by
      show decide (0 ≤ iterP p (t + 1) (i : Int)) = _
      rw [st]
    rw [this]
    omega
  have e2 : rnk p (m + 1) k = ((List.range m).filter fun t => decide (0 ≤ iterP p t (k : Int))).length := by
    unfold rnk
    rw [List.range_succ, List.filter_append, List.length_append]
    have : iterP p m (k : Int) = -1 := by rw [← st, he]
    simp [List.filter, this]
  omega
theorem rnk_pos {p : List Int} {n i : Nat} (hn : 1 ≤ n) : 1 ≤ rnk p n i := by
  unfold rnk
  exact List.length_pos_of_mem (a := 0) (List.mem_filter.2 ⟨List.mem_range.2 hn, by simp [iterP]⟩)
theorem rnk_le (p : List Int) (n i : Nat) : rnk p n i ≤ n := by
  have := List.length_filter_le (fun t => decide (0 ≤ iterP p t (i : Int))) (List.range n)
  rwa [List.length_range] at this
theorem mem_one {l : List Nat} (hl : l.length ≤ 1) {a b : Nat} (ha : a ∈ l) (hb : b ∈ l) : a = b := by
  match l, hl, ha, hb with
  | [x], _, ha, hb => rw [List.mem_singleton.1 ha, List.mem_singleton.1 hb]
theorem max_rnk {p : List Int} {n left : Nat} : ∀ (d i : Nat), InS n left i → n - rnk p n i ≤ d → ∃ i', InS n left i' ∧ ∀ j, InS n left j → rnk p n j ≤ rnk p n i' := by
  intro d
  induction d with
  | zero =>
    intro i hi hd
    exact ⟨i, hi, fun j _ => by have := rnk_le p n j; omega⟩
  | succ d ih =>
    intro i hi hd
    by_cases h : ∃ j, InS n left j ∧ rnk p n i < rnk p n j
    · obtain ⟨j, hj, hlt⟩ := h
      exact ih j hj (by omega)
    · exact ⟨i, hi, fun j hj => Nat.le_of_not_lt fun hlt => h ⟨j, hj, hlt⟩⟩
theorem tree_elim {vb : Nat → Nat → Bool} {n : Nat} {p : List Int} (hn : 1 ≤ n) (h8 : ∀ i x, vb i x = true → x < 8) (hT : TreeS vb n p) : ∀ (c left : Nat), cnt n left = c → (∀ i, InS n left i → ∀ k : Nat, p.getD i 0 = (k : Int) → InS n left k) → (∃ i, InS n left i) → ∃ m, Elim (fun i x => vb i x = true) (InS n left) m := by
  intro c
  induction c with
  | zero =>
    rintro left hc - ⟨i, hi⟩
    exfalso
    have := cnt_clr hi
    omega
  | succ c ih =>
    rintro left hc hcl ⟨i0, hi0⟩
    obtain ⟨i, hi, hmax⟩ := max_rnk (p := p) n i0 hi0 (by omega)
    have hri := hT.rng i hi.1
    by_cases hneg : p.getD i 0 < 0
    · refine ⟨1, .one (i := i) fun j => ⟨fun hj => ?_, fun e => e ▸ hi⟩⟩
      have key : ∀ j, InS n left j → p.getD j 0 < 0 := fun j hj => by
        rcases Int.lt_or_le (p.getD j 0) 0 with h | h
        · exact h
        · exfalso
          have e1 := rnk_par hn (hT.ends j hj.1) (k := (p.getD j 0).toNat) (by omega)
          have e2 := rnk_pos (p := p) (i := (p.getD j 0).toNat) hn
          have e3 := hmax j hj
          have e4 : rnk p n i ≤ 1 := by
            unfold rnk
            refine le_one fun a b ha hb hPa hPb => ?_
            have z : ∀ t, decide (0 ≤ iterP p t (i : Int)) = true → t = 0 := fun t ht => by
              cases t with
              | zero => rfl
              | succ t =>
                rw [iterP, stepP, if_pos (by omega), Int.toNat_natCast, iterP_neg hneg, decide_eq_true_eq] at ht
                omega
            rw [z a hPa, z b hPb]
          omega
      have top1 : ∀ j, InS n left j → j ∈ (List.range n).filter (isTop p fun _ => true) := fun j hj => List.mem_filter.2 ⟨List.mem_range.2 hj.1, by simp only [isTop, decide_eq_true (key j hj)]; rfl⟩
      have hroot := hT.root
      unfold topsK at hroot
      exact mem_one (by omega) (top1 j hj) (top1 i hi)
    · obtain ⟨k, hk⟩ : ∃ k : Nat, p.getD i 0 = (k : Int) := ⟨(p.getD i 0).toNat, by omega⟩
      have hkS := hcl i hi k hk
      have hrk := rnk_par hn (hT.ends i hi.1) hk
      have hik : i ≠ k := fun e => by rw [← e] at hrk; omega
      have nopar : ∀ j, InS n left j → ∀ k2 : Nat, p.getD j 0 = (k2 : Int) → k2 ≠ i := fun j hj k2 hk2 e => by
        have e1 := rnk_par hn (hT.ends j hj.1) hk2
        have e2 := hmax j hj
        rw [e] at e1
        omega
      have other : ∀ x d j, InS n left j → rnk p n j ≤ d → j ≠ i → vb j x = true → ∃ t, t < n ∧ t ≠ i ∧ isTop p (fun a => vb a x) t = true := fun x d => by
        induction d with
        | zero =>
          intro j hj hd
          have := rnk_pos (p := p) (i := j) hn
          omega
        | succ d ih2 =>
          intro j hj hd hji hx
          by_cases ht : isTop p (fun a => vb a x) j = true
          · exact ⟨j, hj.1, hji, ht⟩
          · have hrj := hT.rng j hj.1
            simp only [isTop, hx, Bool.true_and, Bool.or_eq_true, not_or, decide_eq_true_eq, Bool.not_eq_true', Bool.not_eq_false] at ht
            have hk2 : p.getD j 0 = (((p.getD j 0).toNat : Nat) : Int) := by omega
            have e1 := rnk_par hn (hT.ends j hj.1) hk2
            exact ih2 _ (hcl j hj _ hk2) (by omega) (nopar j hj _ hk2) ht.2
      have he : Ear (fun i x => vb i x = true) (InS n left) i k := by
        refine ⟨hi, hkS, hik, fun j hj hji x hx hy => Classical.byContradiction fun hnk => ?_⟩
        obtain ⟨t, ht, hti, htop⟩ := other x _ j hj (Nat.le_refl _) hji hy
        have hitop : isTop p (fun a => vb a x) i = true := by
          simp only [isTop, hx, hk, Int.toNat_natCast, Bool.true_and, Bool.or_eq_true, Bool.not_eq_true']
          right
          rw [← Bool.not_eq_true]
          exact hnk
        have hth := hT.thr x (h8 i x hx)
        unfold topsK at hth
        exact hti (mem_one hth (List.mem_filter.2 ⟨List.mem_range.2 ht, htop⟩) (List.mem_filter.2 ⟨List.mem_range.2 hi.1, hitop⟩))
      have inL : ∀ j, Wo (InS n left) i j ↔ InS n (clr left i) j := fun j => by
        unfold Wo InS
        rw [clr_bit, and_assoc]
      have hcc := cnt_clr hi
      obtain ⟨m, hm⟩ := ih (clr left i) (by omega) (fun j hj k2 hk2 => (inL k2).1 ⟨hcl j ((inL j).2 hj).1 k2 hk2, nopar j ((inL j).2 hj).1 k2 hk2⟩) ⟨k, (inL k).1 ⟨hkS, fun e => hik e.symm⟩⟩
      exact ⟨m + 1, .step he (hm.congr fun j => (inL j).symm)⟩
end Go.Proofs.Ytddpjdlhgggbkaa
