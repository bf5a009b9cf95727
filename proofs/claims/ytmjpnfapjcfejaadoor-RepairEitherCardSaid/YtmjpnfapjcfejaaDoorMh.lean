/- Plain: rising lists, each once; matches of a query. No program. No condition. -/
import Derived.Test.YtmjpnfapjcfejaaDoorMe
namespace Go.Proofs.YtmjpnfapjcfejaaDoor
set_option linter.unusedSimpArgs false
set_option linter.unusedVariables false

/-! ## Rising lists -/
theorem cmpL_lt_trans {a b c : List Int} (h1 : cmpL a b < 0) (h2 : cmpL b c < 0) : cmpL a c < 0 := by
  have h3 := cmpL_trans (xs := a) (ys := b) (zs := c) (by omega) (by omega)
  refine Classical.byContradiction fun hn => ?_
  have h4 : cmpL a c = 0 := by omega
  rw [cmpL_zero.1 h4] at h1
  have := cmpL_swap c b
  omega
theorem cmpL_self (a : List Int) : cmpL a a = 0 := cmpL_zero.2 rfl
section
variable {α : Type} (key : α → List Int)
/-- Put into a rising list. -/
def insK (x : α) : List α → List α
  | [] => [x]
  | y :: r => if cmpL (key y) (key x) < 0 then y :: insK x r else if key y = key x then y :: r else x :: y :: r
def srtK (l : List α) : List α := l.foldl (fun acc x => insK key x acc) []
def StrK (l : List α) : Prop := l.Pairwise fun a b => cmpL (key a) (key b) < 0
variable {key}
theorem mem_insK (hi : ∀ a b, key a = key b → a = b) {x z : α} : ∀ {l : List α}, z ∈ insK key x l ↔ z = x ∨ z ∈ l
  | [] => by simp [insK]
  | y :: r => by
    rw [insK]
    split
    · rw [List.mem_cons, mem_insK hi, List.mem_cons]
      constructor
      · rintro (h | h | h)
        · exact .inr (.inl h)
        · exact .inl h
        · exact .inr (.inr h)
      · rintro (h | h | h)
        · exact .inr (.inl h)
        · exact .inl h
        · exact .inr (.inr h)
    · split
      · rename_i h1 h2
        have := hi _ _ h2
        subst this
        simp
      · simp
theorem str_insK (hi : ∀ a b, key a = key b → a = b) {x : α} : ∀ {l : List α}, StrK key l → StrK key (insK key x l)
  | [], _ => List.pairwise_singleton _ _
  | y :: r, h => by
    have h0 := h
    obtain ⟨h1, h2⟩ := List.pairwise_cons.1 h
    rw [insK]
    split
    · rename_i hlt
      refine List.pairwise_cons.2 ⟨fun z hz => ?_, str_insK hi h2⟩
      rcases (mem_insK hi).1 hz with rfl | hz
      · exact hlt
      · exact h1 z hz
    · split
      · exact h0
      · rename_i hn hne
        have hlt : cmpL (key x) (key y) < 0 := by
          have e := cmpL_swap (key x) (key y)
          have : cmpL (key y) (key x) ≠ 0 := fun e => hne (cmpL_zero.1 e)
          omega
        refine List.pairwise_cons.2 ⟨fun z hz => ?_, h0⟩
        rcases List.mem_cons.1 hz with rfl | hz
        · exact hlt
        · exact cmpL_lt_trans hlt (h1 z hz)
theorem str_irr {l : List α} (h : StrK key l) {a b : α} {r : List α} (e : l = a :: r) (hb : b ∈ r) : a ≠ b := by
  subst e
  intro e
  have := (List.pairwise_cons.1 h).1 b hb
  rw [e, cmpL_self] at this
  omega
theorem str_uniq : ∀ {l l' : List α}, StrK key l → StrK key l' → (∀ a, a ∈ l ↔ a ∈ l') → l = l'
  | [], [], _, _, _ => rfl
  | [], b :: s, _, _, h => absurd ((h b).2 (List.mem_cons_self ..)) (by simp)
  | a :: r, [], _, _, h => absurd ((h a).1 (List.mem_cons_self ..)) (by simp)
  | a :: r, b :: s, h1, h2, h => by
    obtain ⟨p1, q1⟩ := List.pairwise_cons.1 h1
    obtain ⟨p2, q2⟩ := List.pairwise_cons.1 h2
    have hab : a = b := by
      refine Classical.byContradiction fun hne => ?_
      have ha : a ∈ s := ((List.mem_cons.1 ((h a).1 (List.mem_cons_self ..))).resolve_left hne)
      have hb : b ∈ r := ((List.mem_cons.1 ((h b).2 (List.mem_cons_self ..))).resolve_left fun e => hne e.symm)
      have e1 := p1 b hb
      have e2 := p2 a ha
      have := cmpL_swap (key a) (key b)
      omega
    subst hab
    rw [str_uniq q1 q2 fun z => ?_]
    constructor
    · intro hz
      have hne := str_irr h1 rfl hz
      exact (List.mem_cons.1 ((h z).1 (List.mem_cons_of_mem _ hz))).resolve_left fun e => hne e.symm
    · intro hz
      have hne := str_irr h2 rfl hz
      exact (List.mem_cons.1 ((h z).2 (List.mem_cons_of_mem _ hz))).resolve_left fun e => hne e.symm
theorem str_nodup {l : List α} (h : StrK key l) : l.Nodup := by
  refine List.Pairwise.imp ?_ h
  intro a b hab e
  rw [e, cmpL_self] at hab
  omega
theorem srt_app (l : List α) (x : α) : srtK key (l ++ [x]) = insK key x (srtK key l) := by simp [srtK]
theorem srt_go (hi : ∀ a b, key a = key b → a = b) : ∀ (l acc : List α), StrK key acc → StrK key (l.foldl (fun acc x => insK key x acc) acc) ∧ ∀ z, z ∈ l.foldl (fun acc x => insK key x acc) acc ↔ z ∈ l ∨ z ∈ acc
  | [], acc, h => ⟨h, fun z => by simp⟩
  | x :: r, acc, h => by
    obtain ⟨h1, h2⟩ := srt_go hi r (insK key x acc) (str_insK hi h)
    refine ⟨h1, fun z => (h2 z).trans ?_⟩
    rw [mem_insK hi, List.mem_cons]
    constructor
    · rintro (h | h | h)
      · exact .inl (.inr h)
      · exact .inl (.inl h)
      · exact .inr h
    · rintro ((h | h) | h)
      · exact .inr (.inl h)
      · exact .inl h
      · exact .inr (.inr h)
theorem str_srt (hi : ∀ a b, key a = key b → a = b) (l : List α) : StrK key (srtK key l) := (srt_go hi l [] List.Pairwise.nil).1
theorem mem_srt (hi : ∀ a b, key a = key b → a = b) {l : List α} {z : α} : z ∈ srtK key l ↔ z ∈ l := ((srt_go hi l [] List.Pairwise.nil).2 z).trans (by simp)
theorem srt_eq (hi : ∀ a b, key a = key b → a = b) {l l' : List α} (h : StrK key l') (hm : ∀ a, a ∈ l' ↔ a ∈ l) : l' = srtK key l := str_uniq h (str_srt hi l) fun a => (hm a).trans (mem_srt hi).symm
theorem len_insK (x : α) : ∀ l : List α, (insK key x l).length ≤ l.length + 1
  | [] => by simp [insK]
  | y :: r => by
    rw [insK]
    have := len_insK x r
    split
    · simp; omega
    · split <;> simp
theorem len_srt (l : List α) : (srtK key l).length ≤ l.length := by
  have : ∀ (l acc : List α), (l.foldl (fun acc x => insK key x acc) acc).length ≤ l.length + acc.length := by
    intro l
    induction l with
    | nil => intro acc; simp
    | cons x r ih =>
      intro acc
      have h1 := ih (insK key x acc)
      have h2 := len_insK (key := key) x acc
      simp only [List.foldl_cons, List.length_cons]
      omega
  have := this l []
  simpa [srtK] using this
/-- Put at its place. -/
theorem ins_at (hi : ∀ a b, key a = key b → a = b) {l : List α} (h : StrK key l) {x : α} {k : Nat} (hk : k ≤ l.length) (h1 : ∀ y ∈ l.take k, cmpL (key y) (key x) < 0) (h2 : ∀ y ∈ l.drop k, cmpL (key x) (key y) < 0) : l.take k ++ [x] ++ l.drop k = insK key x l := by
  refine str_uniq ?_ (str_insK hi h) fun a => ?_
  · have ht : StrK key (l.take k) := List.Pairwise.sublist (List.take_sublist ..) h
    have hd : StrK key (l.drop k) := List.Pairwise.sublist (List.drop_sublist ..) h
    refine List.pairwise_append.2 ⟨List.pairwise_append.2 ⟨ht, List.pairwise_singleton _ _, fun a ha b hb => ?_⟩, hd, fun a ha b hb => ?_⟩
    · have : b = x := by simpa using hb
      subst this; exact h1 a ha
    · rcases List.mem_append.1 ha with ha | ha
      · exact cmpL_lt_trans (h1 a ha) (h2 b hb)
      · have : a = x := by simpa using ha
        subst this; exact h2 b hb
  · rw [mem_insK hi, List.mem_append, List.mem_append]
    conv => rhs; rw [← List.take_append_drop k l, List.mem_append]
    simp only [List.mem_singleton]
    constructor
    · rintro ((h | h) | h)
      · exact .inr (.inl h)
      · exact .inl h
      · exact .inr (.inr h)
    · rintro (h | h | h)
      · exact .inl (.inr h)
      · exact .inl (.inl h)
      · exact .inr h
theorem ins_in (hi : ∀ a b, key a = key b → a = b) {l : List α} (h : StrK key l) {x : α} (hx : x ∈ l) : l = insK key x l :=
  str_uniq h (str_insK hi h) fun a => by
    rw [mem_insK hi]
    constructor
    · exact .inr
    · rintro (rfl | h)
      · exact hx
      · exact h
end
theorem key_id : ∀ a b : List Int, id a = id b → a = b := fun _ _ h => h
theorem key_A : ∀ a b : Atm, keyA a = keyA b → a = b := fun _ _ h => keyA_inj h
abbrev srtL (l : List (List Int)) : List (List Int) := srtK id l
abbrev srtF (l : List Atm) : List Atm := srtK keyA l
/-! ## Values, and what fits -/
abbrev Vals := List Int
def ofV (m : Vals) (x : Int) : Int := if x < 0 then -x else m.getD x.toNat 0
def imgA (m : Vals) (a : Atm) : Atm := (a.1, a.2.map (ofV m))
def fitL : Vals → List Int → List Int → Option Vals
  | m, [], [] => some m
  | m, x :: xs, y :: ys => if ofV m x = 0 then fitL (m.set x.toNat y) xs ys else if ofV m x = y then fitL m xs ys else none
  | _, _, _ => none
def fitA (m : Vals) (a f : Atm) : Option Vals := if a.1 = f.1 then fitL m a.2 f.2 else none
def stepM (fs : List Atm) (ms : List Vals) (a : Atm) : List Vals := ms.flatMap fun m => fs.filterMap (fitA m a)
def zeroV : Vals := [0, 0, 0, 0, 0, 0, 0, 0]
def allM (fs b : List Atm) : List Vals := b.foldl (stepM fs) [zeroV]
/-- All matches, unless there are too many of some beginning. -/
def runM (fs : List Atm) : List Vals → List Atm → Option (List Vals)
  | ms, [] => some ms
  | ms, a :: r => if (stepM fs ms a).length ≤ 20000 then runM fs (stepM fs ms a) r else none
theorem runM_eq (fs : List Atm) : ∀ (b : List Atm) (ms l : List Vals), runM fs ms b = some l → l = b.foldl (stepM fs) ms
  | [], ms, l, h => by simp [runM] at h; simp [h]
  | a :: r, ms, l, h => by
    rw [runM] at h
    split at h
    · exact runM_eq fs r _ l h
    · cases h
/-- n knows what m knows, and the variables of xs. -/
structure Ext (m n : Vals) (xs : List Int) : Prop where
  len : n.length = 8
  dom : ∀ i, i < 8 → (n.getD i 0 ≠ 0 ↔ m.getD i 0 ≠ 0 ∨ (i : Int) ∈ xs)
  old : ∀ i, i < 8 → m.getD i 0 ≠ 0 → n.getD i 0 = m.getD i 0
theorem vals_ext {m n : Vals} (h1 : m.length = 8) (h2 : n.length = 8) (h : ∀ i, i < 8 → m.getD i 0 = n.getD i 0) : m = n := by
  apply List.ext_getElem (by omega)
  intro i hi hj
  have := h i (by omega)
  simpa [List.getD, hi, hj] using this
theorem Ext.nil {m n : Vals} (h : m.length = 8) : Ext m n [] ↔ n = m := by
  constructor
  · intro hE
    refine vals_ext hE.len h fun i hi => ?_
    by_cases h0 : m.getD i 0 = 0
    · have := hE.dom i hi
      simp only [h0] at this ⊢
      simpa using this
    · exact hE.old i hi h0
  · rintro rfl
    exact ⟨h, fun i _ => by simp, fun i _ _ => rfl⟩
theorem ofV_ext {m n : Vals} {xs : List Int} (h : Ext m n xs) {x : Int} (hx : x ≤ 7) (hk : ofV m x ≠ 0) : ofV n x = ofV m x := by
  unfold ofV at *
  split
  · rfl
  · rename_i h0
    rw [if_neg h0] at hk
    exact h.old _ (by omega) hk
theorem getD_set (m : Vals) {k i : Nat} (hk : k < m.length) (y : Int) : (m.set k y).getD i 0 = if i = k then y else m.getD i 0 := by
  simp only [List.getD, List.getElem?_set]
  by_cases h : k = i
  · subst h; simp [hk]
  · rw [if_neg h, if_neg (fun e => h e.symm)]
theorem fitL_iff : ∀ {xs ys : List Int} {m n : Vals}, m.length = 8 → (∀ x ∈ xs, -9 ≤ x ∧ x ≤ 7) → (∀ y ∈ ys, (1 : Int) ≤ y) → (fitL m xs ys = some n ↔ Ext m n xs ∧ xs.map (ofV n) = ys)
  | [], [], m, n, h8, _, _ => by
    rw [fitL, Ext.nil h8]
    simp [eq_comm]
  | [], y :: ys, m, n, h8, _, _ => by simp [fitL]
  | x :: xs, [], m, n, h8, _, _ => by simp [fitL]
  | x :: xs, y :: ys, m, n, h8, hx, hy => by
    have hx0 := hx x (List.mem_cons_self ..)
    have hy0 := hy y (List.mem_cons_self ..)
    have hxr := fun z hz => hx z (List.mem_cons_of_mem _ hz)
    have hyr := fun z hz => hy z (List.mem_cons_of_mem _ hz)
    rw [fitL]
    split
    · rename_i h0
      have hn : 0 ≤ x := by
        refine Classical.byContradiction fun hn => ?_
        unfold ofV at h0
        rw [if_pos (by omega)] at h0
        omega
      obtain ⟨k, rfl⟩ : ∃ k : Nat, x = k := ⟨x.toNat, by omega⟩
      have hk : k < 8 := by omega
      have hm0 : m.getD k 0 = 0 := by
        unfold ofV at h0
        rw [if_neg (by omega), Int.toNat_natCast] at h0
        exact h0
      rw [Int.toNat_natCast, fitL_iff (by simp [h8]) hxr hyr]
      have gs : ∀ i, (m.set k y).getD i 0 = if i = k then y else m.getD i 0 := fun i => getD_set m (by omega) y
      have key : Ext (m.set k y) n xs ↔ Ext m n (↑k :: xs) ∧ ofV n k = y := by
        have eo : ofV n (k : Int) = n.getD k 0 := by unfold ofV; rw [if_neg (by omega), Int.toNat_natCast]
        rw [eo]
        constructor
        · intro hE
          refine ⟨⟨hE.len, fun i hi => ?_, fun i hi h => ?_⟩, ?_⟩
          · rw [hE.dom i hi, gs i, List.mem_cons]
            by_cases e : i = k
            · subst e
              simp; omega
            · rw [if_neg e]
              constructor
              · rintro (h | h)
                · exact .inl h
                · exact .inr (.inr h)
              · rintro (h | h | h)
                · exact .inl h
                · omega
                · exact .inr h
          · have hne : i ≠ k := fun e => h (e ▸ hm0)
            have := hE.old i hi (by rw [gs, if_neg hne]; exact h)
            rwa [gs, if_neg hne] at this
          · have := hE.old k hk (by rw [gs, if_pos rfl]; omega)
            rwa [gs, if_pos rfl] at this
        · rintro ⟨hE, e⟩
          refine ⟨hE.len, fun i hi => ?_, fun i hi h => ?_⟩
          · rw [hE.dom i hi, gs i, List.mem_cons]
            by_cases e : i = k
            · subst e
              simp; omega
            · rw [if_neg e]
              constructor
              · rintro (h | h | h)
                · exact .inl h
                · omega
                · exact .inr h
              · rintro (h | h)
                · exact .inl h
                · exact .inr (.inr h)
          · rw [gs] at h ⊢
            by_cases e2 : i = k
            · subst e2; rw [if_pos rfl]; exact e
            · rw [if_neg e2] at h ⊢
              exact hE.old i hi h
      rw [key, List.map_cons, List.cons.injEq]
      exact ⟨fun ⟨⟨a, b⟩, c⟩ => ⟨a, b, c⟩, fun ⟨a, b, c⟩ => ⟨⟨a, b⟩, c⟩⟩
    · rename_i h0
      have kn : ∀ i : Nat, x = i → m.getD i 0 ≠ 0 := by
        rintro i rfl
        unfold ofV at h0
        rwa [if_neg (by omega), Int.toNat_natCast] at h0
      have key : Ext m n xs ↔ Ext m n (x :: xs) := by
        constructor
        · intro hE
          refine ⟨hE.len, fun i hi => (hE.dom i hi).trans ?_, hE.old⟩
          rw [List.mem_cons]
          constructor
          · rintro (h | h)
            · exact .inl h
            · exact .inr (.inr h)
          · rintro (h | h | h)
            · exact .inl h
            · exact .inl (kn i h.symm)
            · exact .inr h
        · intro hE
          refine ⟨hE.len, fun i hi => (hE.dom i hi).trans ?_, hE.old⟩
          rw [List.mem_cons]
          constructor
          · rintro (h | h | h)
            · exact .inl h
            · exact .inl (kn i h.symm)
            · exact .inr h
          · rintro (h | h)
            · exact .inl h
            · exact .inr (.inr h)
      split
      · rename_i h1
        rw [fitL_iff h8 hxr hyr, ← key, List.map_cons, List.cons.injEq]
        constructor
        · rintro ⟨a, b⟩
          exact ⟨a, (ofV_ext a hx0.2 h0).trans h1, b⟩
        · rintro ⟨a, b, c⟩
          exact ⟨a, c⟩
      · rename_i h1
        constructor
        · intro h; cases h
        · rintro ⟨a, b⟩
          rw [List.map_cons, List.cons.injEq] at b
          exact absurd ((ofV_ext a hx0.2 h0).symm.trans b.1) h1
/-- Facts: whose arguments are above zero. -/
def PosF (fs : List Atm) : Prop := ∀ f ∈ fs, ∀ y ∈ f.2, (1 : Int) ≤ y
def TermA (a : Atm) : Prop := ∀ x ∈ a.2, -9 ≤ x ∧ x ≤ 7
theorem fitA_iff {m n : Vals} {a f : Atm} (h8 : m.length = 8) (ha : TermA a) (hf : ∀ y ∈ f.2, (1 : Int) ≤ y) : fitA m a f = some n ↔ Ext m n a.2 ∧ imgA n a = f := by
  unfold fitA
  split
  · rename_i h
    rw [fitL_iff h8 ha hf]
    obtain ⟨r, ys⟩ := f
    constructor
    · rintro ⟨h1, h2⟩
      exact ⟨h1, by unfold imgA; rw [h2, h]⟩
    · rintro ⟨h1, h2⟩
      exact ⟨h1, by unfold imgA at h2; simp only [Prod.mk.injEq] at h2; exact h2.2⟩
  · rename_i h
    constructor
    · intro h; cases h
    · rintro ⟨h1, h2⟩
      exact absurd (by rw [← h2]; rfl) h
theorem mem_step {fs : List Atm} {ms : List Vals} {a : Atm} {n : Vals} (h8 : ∀ m ∈ ms, m.length = 8) (ha : TermA a) (hf : PosF fs) : n ∈ stepM fs ms a ↔ (∃ m ∈ ms, Ext m n a.2) ∧ imgA n a ∈ fs := by
  unfold stepM
  simp only [List.mem_flatMap, List.mem_filterMap]
  constructor
  · rintro ⟨m, hm, f, hff, h⟩
    obtain ⟨h1, h2⟩ := (fitA_iff (h8 m hm) ha (hf f hff)).1 h
    exact ⟨⟨m, hm, h1⟩, h2 ▸ hff⟩
  · rintro ⟨⟨m, hm, h1⟩, h2⟩
    exact ⟨m, hm, _, h2, (fitA_iff (h8 m hm) ha (hf _ h2)).2 ⟨h1, rfl⟩⟩
theorem step_len8 {fs : List Atm} {ms : List Vals} {a : Atm} (h8 : ∀ m ∈ ms, m.length = 8) (ha : TermA a) (hf : PosF fs) : ∀ n ∈ stepM fs ms a, n.length = 8 := fun n hn => by
  obtain ⟨⟨m, _, h⟩, _⟩ := (mem_step h8 ha hf).1 hn
  exact h.len
theorem img_ext {m n : Vals} {xs : List Int} {a : Atm} (h : Ext m n xs) (ha : TermA a) (hk : ∀ x ∈ a.2, 0 ≤ x → m.getD x.toNat 0 ≠ 0) : imgA n a = imgA m a := by
  unfold imgA
  congr 1
  refine List.map_congr_left fun x hx => ?_
  by_cases h0 : x < 0
  · simp [ofV, h0]
  · refine ofV_ext h (ha x hx).2 ?_
    unfold ofV
    rw [if_neg h0]
    exact hk x hx (by omega)
theorem mem_fold {fs : List Atm} (hf : PosF fs) : ∀ {b : List Atm} {ms : List Vals} {n : Vals}, (∀ m ∈ ms, m.length = 8) → (∀ a ∈ b, TermA a) → (n ∈ b.foldl (stepM fs) ms ↔ (∃ m ∈ ms, Ext m n (b.flatMap Prod.snd)) ∧ ∀ a ∈ b, imgA n a ∈ fs)
  | [], ms, n, h8, _ => by
    simp only [List.foldl_nil, List.flatMap_nil]
    constructor
    · intro h; exact ⟨⟨n, h, (Ext.nil (h8 n h)).2 rfl⟩, by simp⟩
    · rintro ⟨⟨m, hm, h⟩, _⟩
      rw [(Ext.nil (h8 m hm)).1 h]; exact hm
  | a :: r, ms, n, h8, hb => by
    have ha := hb a (List.mem_cons_self ..)
    have hr := fun x hx => hb x (List.mem_cons_of_mem _ hx)
    rw [List.foldl_cons, mem_fold hf (step_len8 h8 ha hf) hr]
    constructor
    · rintro ⟨⟨m1, hm1, h1⟩, h2⟩
      obtain ⟨⟨m, hm, h3⟩, h4⟩ := (mem_step h8 ha hf).1 hm1
      have hkn : ∀ x ∈ a.2, 0 ≤ x → m1.getD x.toNat 0 ≠ 0 := fun x hx h0 => by
        have hx7 := ha x hx
        refine (h3.dom x.toNat (by omega)).2 (.inr ?_)
        rwa [Int.toNat_of_nonneg h0]
      refine ⟨⟨m, hm, h1.len, fun i hi => ?_, fun i hi h => ?_⟩, fun x hx => ?_⟩
      · rw [h1.dom i hi, h3.dom i hi, List.flatMap_cons, List.mem_append]
        exact or_assoc
      · have e1 := h3.old i hi h
        rw [h1.old i hi (by rw [e1]; exact h), e1]
      · rcases List.mem_cons.1 hx with rfl | hx
        · rw [img_ext h1 ha hkn]; exact h4
        · exact h2 x hx
    · rintro ⟨⟨m, hm, h1⟩, h2⟩
      obtain ⟨m1, hm1⟩ : ∃ m1, m1 = (List.range 8).map (fun i => if m.getD i 0 ≠ 0 ∨ (i : Int) ∈ a.2 then n.getD i 0 else 0) := ⟨_, rfl⟩
      have g1 : ∀ i, i < 8 → m1.getD i 0 = if m.getD i 0 ≠ 0 ∨ (i : Int) ∈ a.2 then n.getD i 0 else 0 := fun i hi => by
        rw [hm1]; simp only [List.getD, List.getElem?_map, List.getElem?_range hi, Option.map_some, Option.getD_some]
      have l1 : m1.length = 8 := by rw [hm1]; simp
      have hn : ∀ i, i < 8 → (m.getD i 0 ≠ 0 ∨ (i : Int) ∈ a.2) → n.getD i 0 ≠ 0 := fun i hi h => by
        refine (h1.dom i hi).2 ?_
        rw [List.flatMap_cons, List.mem_append]
        rcases h with h | h
        · exact .inl h
        · exact .inr (.inl h)
      have hE : Ext m m1 a.2 := by
        refine ⟨l1, fun i hi => ?_, fun i hi h => ?_⟩
        · rw [g1 i hi]
          split
          · rename_i h; exact ⟨fun _ => h, fun _ => hn i hi h⟩
          · rename_i h; exact ⟨fun h0 => absurd rfl h0, fun h0 => absurd h0 h⟩
        · rw [g1 i hi, if_pos (.inl h)]
          exact h1.old i hi h
      have hE2 : Ext m1 n (r.flatMap Prod.snd) := by
        refine ⟨h1.len, fun i hi => ?_, fun i hi h => ?_⟩
        · rw [h1.dom i hi, hE.dom i hi, List.flatMap_cons, List.mem_append]
          exact or_assoc.symm
        · have := (hE.dom i hi).1 h
          rw [g1 i hi, if_pos this]
      have hkn : ∀ x ∈ a.2, 0 ≤ x → m1.getD x.toNat 0 ≠ 0 := fun x hx h0 => by
        have hx7 := ha x hx
        refine (hE.dom x.toNat (by omega)).2 (.inr ?_)
        rwa [Int.toNat_of_nonneg h0]
      refine ⟨⟨m1, (mem_step h8 ha hf).2 ⟨⟨m, hm, hE⟩, ?_⟩, hE2⟩, fun x hx => h2 x (List.mem_cons_of_mem _ hx)⟩
      rw [← img_ext hE2 ha hkn]
      exact h2 a (List.mem_cons_self ..)
/-- A match of a body: eight numbers, 0 where the variable does not occur. -/
structure IsM (fs b : List Atm) (m : Vals) : Prop where
  len : m.length = 8
  dom : ∀ i, i < 8 → (m.getD i 0 ≠ 0 ↔ (i : Int) ∈ b.flatMap Prod.snd)
  hit : ∀ a ∈ b, imgA m a ∈ fs
theorem zero_get (i : Nat) : zeroV.getD i 0 = 0 := by
  rcases Nat.lt_or_ge i 8 with h | h
  · rcases i with _ | _ | _ | _ | _ | _ | _ | _ | i <;> first | rfl | omega
  · simp [zeroV, List.getD, h]
theorem mem_allM {fs b : List Atm} (hf : PosF fs) (hb : ∀ a ∈ b, TermA a) {m : Vals} : m ∈ allM fs b ↔ IsM fs b m := by
  unfold allM
  rw [mem_fold hf (by intro m hm; simp at hm; subst hm; rfl) hb]
  constructor
  · rintro ⟨⟨m0, hm0, h⟩, h2⟩
    have : m0 = zeroV := by simpa using hm0
    subst this
    exact ⟨h.len, fun i hi => (h.dom i hi).trans (by rw [zero_get]; simp), h2⟩
  · intro h
    exact ⟨⟨zeroV, by simp, h.len, fun i hi => (h.dom i hi).trans (by rw [zero_get]; simp), fun i hi h0 => absurd (zero_get i) h0⟩, h.hit⟩
/-! ## No match comes twice -/
theorem step_nodup {fs : List Atm} {ms : List Vals} {a : Atm} (D : Nat → Prop) (h8 : ∀ m ∈ ms, m.length = 8 ∧ ∀ i, i < 8 → (m.getD i 0 ≠ 0 ↔ D i)) (hms : ms.Nodup) (ha : TermA a) (hf : PosF fs) (hfs : fs.Nodup) : (stepM fs ms a).Nodup := by
  unfold stepM
  have inner : ∀ m, m.length = 8 → (fs.filterMap (fitA m a)).Nodup := fun m hm => by
    have : ∀ (l : List Atm), (∀ f ∈ l, f ∈ fs) → l.Nodup → (l.filterMap (fitA m a)).Nodup := by
      intro l
      induction l with
      | nil => intro _ _; exact List.Pairwise.nil
      | cons f r ih =>
        intro hl hn
        obtain ⟨h1, h2⟩ := List.pairwise_cons.1 hn
        have ih := ih (fun g hg => hl g (List.mem_cons_of_mem _ hg)) h2
        rw [List.filterMap_cons]
        split
        · exact ih
        · rename_i n hn
          refine List.pairwise_cons.2 ⟨fun n' hn' e => ?_, ih⟩
          subst e
          obtain ⟨g, hg, hgn⟩ := List.mem_filterMap.1 hn'
          have e1 := ((fitA_iff hm ha (hf f (hl f (List.mem_cons_self ..)))).1 hn).2
          have e2 := ((fitA_iff hm ha (hf g (hl g (List.mem_cons_of_mem _ hg)))).1 hgn).2
          exact h1 g hg (e1.symm.trans e2)
    exact this fs (fun _ h => h) hfs
  have : ∀ (l : List Vals), (∀ m ∈ l, m ∈ ms) → l.Nodup → (l.flatMap fun m => fs.filterMap (fitA m a)).Nodup := by
    intro l
    induction l with
    | nil => intro _ _; exact List.Pairwise.nil
    | cons m r ih =>
      intro hl hn
      obtain ⟨h1, h2⟩ := List.pairwise_cons.1 hn
      have ih := ih (fun g hg => hl g (List.mem_cons_of_mem _ hg)) h2
      rw [List.flatMap_cons]
      have hm := h8 m (hl m (List.mem_cons_self ..))
      refine List.pairwise_append.2 ⟨inner m hm.1, ih, fun n hn n' hn' e => ?_⟩
      subst e
      obtain ⟨f, hff, h3⟩ := List.mem_filterMap.1 hn
      obtain ⟨m', hm', hn'⟩ := List.mem_flatMap.1 hn'
      obtain ⟨g, hgf, h4⟩ := List.mem_filterMap.1 hn'
      have hm2 := h8 m' (hl m' (List.mem_cons_of_mem _ hm'))
      have e1 := ((fitA_iff hm.1 ha (hf f hff)).1 h3).1
      have e2 := ((fitA_iff hm2.1 ha (hf g hgf)).1 h4).1
      refine h1 m' hm' (vals_ext hm.1 hm2.1 fun i hi => ?_)
      by_cases hD : D i
      · rw [← e1.old i hi ((hm.2 i hi).2 hD), ← e2.old i hi ((hm2.2 i hi).2 hD)]
      · have a1 : m.getD i 0 = 0 := by
          have : ¬ m.getD i 0 ≠ 0 := fun e => hD ((hm.2 i hi).1 e)
          simpa using this
        have a2 : m'.getD i 0 = 0 := by
          have : ¬ m'.getD i 0 ≠ 0 := fun e => hD ((hm2.2 i hi).1 e)
          simpa using this
        rw [a1, a2]
  exact this ms (fun _ h => h) hms
theorem step_dom {fs : List Atm} {ms : List Vals} {a : Atm} {D : Nat → Prop} (h8 : ∀ m ∈ ms, m.length = 8 ∧ ∀ i, i < 8 → (m.getD i 0 ≠ 0 ↔ D i)) (ha : TermA a) (hf : PosF fs) : ∀ n ∈ stepM fs ms a, n.length = 8 ∧ ∀ i, i < 8 → (n.getD i 0 ≠ 0 ↔ D i ∨ (i : Int) ∈ a.2) := fun n hn => by
  obtain ⟨⟨m, hm, h⟩, _⟩ := (mem_step (fun m hm => (h8 m hm).1) ha hf).1 hn
  exact ⟨h.len, fun i hi => (h.dom i hi).trans (or_congr_left ((h8 m hm).2 i hi))⟩
/-- What holds after the beginning b of a body. -/
structure StM (fs : List Atm) (b : List Atm) (ms : List Vals) : Prop where
  nodup : ms.Nodup
  dom : ∀ m ∈ ms, m.length = 8 ∧ ∀ i, i < 8 → (m.getD i 0 ≠ 0 ↔ (i : Int) ∈ b.flatMap Prod.snd)
theorem StM.zero (fs : List Atm) : StM fs [] [zeroV] := ⟨by simp, fun m hm => by
  simp at hm; subst hm
  exact ⟨rfl, fun i hi => by rw [zero_get]; simp⟩⟩
theorem StM.step {fs b : List Atm} {ms : List Vals} {a : Atm} (h : StM fs b ms) (ha : TermA a) (hf : PosF fs) (hfs : fs.Nodup) : StM fs (b ++ [a]) (stepM fs ms a) :=
  ⟨step_nodup _ h.dom h.nodup ha hf hfs, fun m hm => by
    obtain ⟨h1, h2⟩ := step_dom h.dom ha hf m hm
    refine ⟨h1, fun i hi => (h2 i hi).trans ?_⟩
    simp [List.flatMap_append]⟩
end Go.Proofs.YtmjpnfapjcfejaaDoor
