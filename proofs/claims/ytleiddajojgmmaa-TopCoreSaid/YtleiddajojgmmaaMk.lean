/- Plain: rising lists, each once; matches of a query. No program. No condition. -/
import Derived.Test.YtleiddajojgmmaaMg
import Derived.Test.YtleiddajojgmmaaMc
import Derived.Test.YtleiddajojgmmaaVw
namespace Go.Proofs.Ytleiddajojgmmaa
set_option linter.unusedSimpArgs false
set_option linter.unusedVariables false

/-! ## Rising lists -/
theorem cmpL_lt_trans {a b c : List Int} (h1 : cmpL a b < 0) (h2 : cmpL b c < 0) : cmpL a c < 0 := by
  have h3 := cmpL_trans (xs := a) (ys := b) (zs := c) (by omega) (by omega)
  refine Classical.byContradiction fun hn => ?_
  have h4 : cmpL a c = 0 := by omega
  rw [cmpL_zero.1 h4] at h1
  have := cmpL_swap c b
  omega
theorem cmpL_self (a : List Int) : cmpL a a = 0 := cmpL_zero.2 rfl
section
variable {α : Type} (key : α → List Int)
/-- Put into a rising list. -/
def insK (x : α) : List α → List α
  | [] => [x]
  | y :: r => if cmpL (key y) (key x) < 0 then y :: insK x r else if key y = key x then y :: r else x :: y :: r
def srtK (l : List α) : List α := l.foldl (fun acc x => insK key x acc) []
def StrK (l : List α) : Prop := l.Pairwise fun a b => cmpL (key a) (key b) < 0
variable {key}
theorem mem_insK (hi : ∀ a b, key a = key b → a = b) {x z : α} : ∀ {l : List α}, z ∈ insK key x l ↔ z = x ∨ z ∈ l
  | [] => by simp [insK]
  | y :: r => by
    rw [insK]
    split
    · rw [List.mem_cons, mem_insK hi, List.mem_cons]
      constructor
      · rintro (h | h | h)
        · exact .inr (.inl h)
        · exact .inl h
        · exact .inr (.inr h)
      · rintro (h | h | h)
        · exact .inr (.inl h)
        · exact .inl h
        · exact .inr (.inr h)
    · split
      · rename_i h1 h2
        have := hi _ _ h2
        subst this
        simp
      · simp
theorem str_insK (hi : ∀ a b, key a = key b → a = b) {x : α} : ∀ {l : List α}, StrK key l → StrK key (insK key x l)
  | [], _ => List.pairwise_singleton _ _
  | y :: r, h => by
    have h0 := h
    obtain ⟨h1, h2⟩ := List.pairwise_cons.1 h
    rw [insK]
    split
    · rename_i hlt
      refine List.pairwise_cons.2 ⟨fun z hz => ?_, str_insK hi h2⟩
      rcases (mem_insK hi).1 hz with rfl | hz
      · exact hlt
      · exact h1 z hz
    · split
      · exact h0
      · rename_i hn hne
        have hlt : cmpL (key x) (key y) < 0 := by
          have e := cmpL_swap (key x) (key y)
          have : cmpL (key y) (key x) ≠ 0 := fun e => hne (cmpL_zero.1 e)
          omega
        refine List.pairwise_cons.2 ⟨fun z hz => ?_, h0⟩
        rcases List.mem_cons.1 hz with rfl | hz
        · exact hlt
        · exact cmpL_lt_trans hlt (h1 z hz)
theorem str_irr {l : List α} (h : StrK key l) {a b : α} {r : List α} (e : l = a :: r) (hb : b ∈ r) : a ≠ b := by
  subst e
  intro e
  have := (List.pairwise_cons.1 h).1 b hb
  rw [e, cmpL_self] at this
  omega
theorem str_uniq : ∀ {l l' : List α}, StrK key l → StrK key l' → (∀ a, a ∈ l ↔ a ∈ l') → l = l'
  | [], [], _, _, _ => rfl
  | [], b :: s, _, _, h => absurd ((h b).2 (List.mem_cons_self ..)) (by simp)
  | a :: r, [], _, _, h => absurd ((h a).1 (List.mem_cons_self ..)) (by simp)
  | a :: r, b :: s, h1, h2, h => by
    obtain ⟨p1, q1⟩ := List.pairwise_cons.1 h1
    obtain ⟨p2, q2⟩ := List.pairwise_cons.1 h2
    have hab : a = b := by
      refine Classical.byContradiction fun hne => ?_
      have ha : a ∈ s := ((List.mem_cons.1 ((h a).1 (List.mem_cons_self ..))).resolve_left hne)
      have hb : b ∈ r := ((List.mem_cons.1 ((h b).2 (List.mem_cons_self ..))).resolve_left fun e => hne e.symm)
      have e1 := p1 b hb
      have e2 := p2 a ha
      have := cmpL_swap (key a) (key b)
      omega
    subst hab
    rw [str_uniq q1 q2 fun z => ?_]
    constructor
    · intro hz
      have hne := str_irr h1 rfl hz
      exact (List.mem_cons.1 ((h z).1 (List.mem_cons_of_mem _ hz))).resolve_left fun e => hne e.symm
    · intro hz
      have hne := str_irr h2 rfl hz
      exact (List.mem_cons.1 ((h z).2 (List.mem_cons_of_mem _ hz))).resolve_left fun e => hne e.symm
theorem str_nodup {l : List α} (h : StrK key l) : l.Nodup := by
  refine List.Pairwise.imp ?_ h
  intro a b hab e
  rw [e, cmpL_self] at hab
  omega
theorem srt_go (hi : ∀ a b, key a = key b → a = b) : ∀ (l acc : List α), StrK key acc → StrK key (l.foldl (fun acc x => insK key x acc) acc) ∧ ∀ z, z ∈ l.foldl (fun acc x => insK key x acc) acc ↔ z ∈ l ∨ z ∈ acc
  | [], acc, h => ⟨h, fun z => by simp⟩
  | x :: r, acc, h => by
    obtain ⟨h1, h2⟩ := srt_go hi r (insK key x acc) (str_insK hi h)
    refine ⟨h1, fun z => (h2 z).trans ?_⟩
    rw [mem_insK hi, List.mem_cons]
    constructor
    · rintro (h | h | h)
      · exact .inl (.inr h)
      · exact .inl (.inl h)
      · exact .inr h
    · rintro ((h | h) | h)
      · exact .inr (.inl h)
      · exact .inl h
      · exact .inr (.inr h)
theorem str_srt (hi : ∀ a b, key a = key b → a = b) (l : List α) : StrK key (srtK key l) := (srt_go hi l [] List.Pairwise.nil).1
theorem mem_srt (hi : ∀ a b, key a = key b → a = b) {l : List α} {z : α} : z ∈ srtK key l ↔ z ∈ l := ((srt_go hi l [] List.Pairwise.nil).2 z).trans (by simp)
theorem srt_eq (hi : ∀ a b, key a = key b → a = b) {l l' : List α} (h : StrK key l') (hm : ∀ a, a ∈ l' ↔ a ∈ l) : l' = srtK key l := str_uniq h (str_srt hi l) fun a => (hm a).trans (mem_srt hi).symm
end
theorem key_id : ∀ a b : List Int, id a = id b → a = b := fun _ _ h => h
theorem key_A : ∀ a b : Atm, keyA a = keyA b → a = b := fun _ _ h => keyA_inj h
abbrev srtL (l : List (List Int)) : List (List Int) := srtK id l
abbrev srtF (l : List Atm) : List Atm := srtK keyA l
/-! ## Values, and what fits -/
abbrev Vals := List Int
def ofV (m : Vals) (x : Int) : Int := if x < 0 then -x else m.getD x.toNat 0
def imgA (m : Vals) (a : Atm) : Atm := (a.1, a.2.map (ofV m))
def fitL : Vals → List Int → List Int → Option Vals
  | m, [], [] => some m
  | m, x :: xs, y :: ys => if ofV m x = 0 then fitL (m.set x.toNat y) xs ys else if ofV m x = y then fitL m xs ys else none
  | _, _, _ => none
def fitA (m : Vals) (a f : Atm) : Option Vals := if a.1 = f.1 then fitL m a.2 f.2 else none
def stepM (fs : List Atm) (ms : List Vals) (a : Atm) : List Vals := ms.flatMap fun m => fs.filterMap (fitA m a)
def zeroV : Vals := [0, 0, 0, 0, 0, 0, 0, 0]
def allM (fs b : List Atm) : List Vals := b.foldl (stepM fs) [zeroV]
/-- All matches, unless there are too many of some beginning. -/
def runM (fs : List Atm) : List Vals → List Atm → Option (List Vals)
  | ms, [] => some ms
  | ms, a :: r => if (stepM fs ms a).length ≤ 20000 then runM fs (stepM fs ms a) r else none
/-- n knows what m knows, and the variables of xs. -/
structure Ext (m n : Vals) (xs : List Int) : Prop where
  len : n.length = 8
  dom : ∀ i, i < 8 → (n.getD i 0 ≠ 0 ↔ m.getD i 0 ≠ 0 ∨ (i : Int) ∈ xs)
  old : ∀ i, i < 8 → m.getD i 0 ≠ 0 → n.getD i 0 = m.getD i 0
theorem vals_ext {m n : Vals} (h1 : m.length = 8) (h2 : n.length = 8) (h : ∀ i, i < 8 → m.getD i 0 = n.getD i 0) : m = n := by
  apply List.ext_getElem (by omega)
  intro i hi hj
  have := h i (by omega)
  simpa [List.getD, hi, hj] using this
theorem Ext.nil {m n : Vals} (h : m.length = 8) : Ext m n [] ↔ n = m := by
  constructor
  · intro hE
    refine vals_ext hE.len h fun i hi => ?_
    by_cases h0 : m.getD i 0 = 0
    · have := hE.dom i hi
      simp only [h0] at this ⊢
      simpa using this
    · exact hE.old i hi h0
  · rintro rfl
    exact ⟨h, fun i _ => by simp, fun i _ _ => rfl⟩
theorem ofV_ext {m n : Vals} {xs : List Int} (h : Ext m n xs) {x : Int} (hx : x ≤ 7) (hk : ofV m x ≠ 0) : ofV n x = ofV m x := by
  unfold ofV at *
  split
  · rfl
  · rename_i h0
    rw [if_neg h0] at hk
    exact h.old _ (by omega) hk
theorem getD_set (m : Vals) {k i : Nat} (hk : k < m.length) (y : Int) : (m.set k y).getD i 0 = if i = k then y else m.getD i 0 := by
  simp only [List.getD, List.getElem?_set]
  by_cases h : k = i
  · subst h; simp [hk]
  · rw [if_neg h, if_neg (fun e => h e.symm)]
theorem fitL_iff : ∀ {xs ys : List Int} {m n : Vals}, m.length = 8 → (∀ x ∈ xs, -9 ≤ x ∧ x ≤ 7) → (∀ y ∈ ys, (1 : Int) ≤ y) → (fitL m xs ys = some n ↔ Ext m n xs ∧ xs.map (ofV n) = ys)
  | [], [], m, n, h8, _, _ => by
    rw [fitL, Ext.nil h8]
    simp [eq_comm]
  | [], y :: ys, m, n, h8, _, _ => by simp [fitL]
  | x :: xs, [], m, n, h8, _, _ => by simp [fitL]
  | x :: xs, y :: ys, m, n, h8, hx, hy => by
    have hx0 := hx x (List.mem_cons_self ..)
    have hy0 := hy y (List.mem_cons_self ..)
    have hxr := fun z hz => hx z (List.mem_cons_of_mem _ hz)
    have hyr := fun z hz => hy z (List.mem_cons_of_mem _ hz)
    rw [fitL]
    split
    · rename_i h0
      have hn : 0 ≤ x := by
        refine Classical.byContradiction fun hn => ?_
        unfold ofV at h0
        rw [if_pos (by omega)] at h0
        omega
      obtain ⟨k, rfl⟩ : ∃ k : Nat, x = k := ⟨x.toNat, by omega⟩
      have hk : k < 8 := by omega
      have hm0 : m.getD k 0 = 0 := by
        unfold ofV at h0
        rw [if_neg (by omega), Int.toNat_natCast] at h0
        exact h0
      rw [Int.toNat_natCast, fitL_iff (by simp [h8]) hxr hyr]
      have gs : ∀ i, (m.set k y).getD i 0 = if i = k then y else m.getD i 0 := fun i => getD_set m (by omega) y
      have key : Ext (m.set k y) n xs ↔ Ext m n (↑k :: xs) ∧ ofV n k = y := by
        have eo : ofV n (k : Int) = n.getD k 0 := by unfold ofV; rw [if_neg (by omega), Int.toNat_natCast]
        rw [eo]
        constructor
        · intro hE
          refine ⟨⟨hE.len, fun i hi => ?_, fun i hi h => ?_⟩, ?_⟩
          · rw [hE.dom i hi, gs i, List.mem_cons]
            by_cases e : i = k
            · subst e
              simp; omega
            · rw [if_neg e]
              constructor
              · rintro (h | h)
                · exact .inl h
                · exact .inr (.inr h)
              · rintro (h | h | h)
                · exact .inl h
                · omega
                · exact .inr h
          · have hne : i ≠ k := fun e => h (e ▸ hm0)
            have := hE.old i hi (by rw [gs, if_neg hne]; exact h)
            rwa [gs, if_neg hne] at this
          · have := hE.old k hk (by rw [gs, if_pos rfl]; omega)
            rwa [gs, if_pos rfl] at this
        · rintro ⟨hE, e⟩
          refine ⟨hE.len, fun i hi => ?_, fun i hi h => ?_⟩
          · rw [hE.dom i hi, gs i, List.mem_cons]
            by_cases e : i = k
            · subst e
              simp; omega
            · rw [if_neg e]
              constructor
              · rintro (h | h | h)
                · exact .inl h
                · omega
                · exact .inr h
              · rintro (h | h)
                · exact .inl h
                · exact .inr (.inr h)
          · rw [gs] at h ⊢
            by_cases e2 : i = k
            · subst e2; rw [if_pos rfl]; exact e
            · rw [if_neg e2] at h ⊢
              exact hE.old i hi h
      rw [key, List.map_cons, List.cons.injEq]
      exact ⟨fun ⟨⟨a, b⟩, c⟩ => ⟨a, b, c⟩, fun ⟨a, b, c⟩ => ⟨⟨a, b⟩, c⟩⟩
    · rename_i h0
      have kn : ∀ i : Nat, x = i → m.getD i 0 ≠ 0 := by
        rintro i rfl
        unfold ofV at h0
        rwa [if_neg (by omega), Int.toNat_natCast] at h0
      have key : Ext m n xs ↔ Ext m n (x :: xs) := by
        constructor
        · intro hE
          refine ⟨hE.len, fun i hi => (hE.dom i hi).trans ?_, hE.old⟩
          rw [List.mem_cons]
          constructor
          · rintro (h | h)
            · exact .inl h
            · exact .inr (.inr h)
          · rintro (h | h | h)
            · exact .inl h
            · exact .inl (kn i h.symm)
            · exact .inr h
        · intro hE
          refine ⟨hE.len, fun i hi => (hE.dom i hi).trans ?_, hE.old⟩
          rw [List.mem_cons]
          constructor
          · rintro (h | h | h)
            · exact .inl h
            · exact .inl (kn i h.symm)
            · exact .inr h
          · rintro (h | h)
            · exact .inl h
            · exact .inr (.inr h)
      split
      · rename_i h1
        rw [fitL_iff h8 hxr hyr, ← key, List.map_cons, List.cons.injEq]
        constructor
        · rintro ⟨a, b⟩
          exact ⟨a, (ofV_ext a hx0.2 h0).trans h1, b⟩
        · rintro ⟨a, b, c⟩
          exact ⟨a, c⟩
      · rename_i h1
        constructor
        · intro h; cases h
        · rintro ⟨a, b⟩
          rw [List.map_cons, List.cons.injEq] at b
          exact absurd ((ofV_ext a hx0.2 h0).symm.trans b.1) h1
/-- Facts: whose arguments are above zero. -/
def PosF (fs : List Atm) : Prop := ∀ f ∈ fs, ∀ y ∈ f.2, (1 : Int) ≤ y
def TermA (a : Atm) : Prop := ∀ x ∈ a.2, -9 ≤ x ∧ x ≤ 7
theorem fitA_iff {m n : Vals} {a f : Atm} (h8 : m.length = 8) (ha : TermA a) (hf : ∀ y ∈ f.2, (1 : Int) ≤ y) : fitA m a f = some n ↔ Ext m n a.2 ∧ imgA n a = f := by
  unfold fitA
  split
  · rename_i h
    rw [fitL_iff h8 ha hf]
    obtain ⟨r, ys⟩ := f
    constructor
    · rintro ⟨h1, h2⟩
      exact ⟨h1, by unfold imgA; rw [h2, h]⟩
    · rintro ⟨h1, h2⟩
      exact ⟨h1, by unfold imgA at h2; simp only [Prod.mk.injEq] at h2; exact h2.2⟩
  · rename_i h
    constructor
    · intro h; cases h
    · rintro ⟨h1, h2⟩
      exact absurd (by rw [← h2]; rfl) h
theorem mem_step {fs : List Atm} {ms : List Vals} {a : Atm} {n : Vals} (h8 : ∀ m ∈ ms, m.length = 8) (ha : TermA a) (hf : PosF fs) : n ∈ stepM fs ms a ↔ (∃ m ∈ ms, Ext m n a.2) ∧ imgA n a ∈ fs := by
  unfold stepM
  simp only [List.mem_flatMap, List.mem_filterMap]
  constructor
  · rintro ⟨m, hm, f, hff, h⟩
    obtain ⟨h1, h2⟩ := (fitA_iff (h8 m hm) ha (hf f hff)).1 h
    exact ⟨⟨m, hm, h1⟩, h2 ▸ hff⟩
  · rintro ⟨⟨m, hm, h1⟩, h2⟩
    exact ⟨m, hm, _, h2, (fitA_iff (h8 m hm) ha (hf _ h2)).2 ⟨h1, rfl⟩⟩
theorem step_len8 {fs : List Atm} {ms : List Vals} {a : Atm} (h8 : ∀ m ∈ ms, m.length = 8) (ha : TermA a) (hf : PosF fs) : ∀ n ∈ stepM fs ms a, n.length = 8 := fun n hn => by
  obtain ⟨⟨m, _, h⟩, _⟩ := (mem_step h8 ha hf).1 hn
  exact h.len
theorem img_ext {m n : Vals} {xs : List Int} {a : Atm} (h : Ext m n xs) (ha : TermA a) (hk : ∀ x ∈ a.2, 0 ≤ x → m.getD x.toNat 0 ≠ 0) : imgA n a = imgA m a := by
  unfold imgA
  congr 1
  refine List.map_congr_left fun x hx => ?_
  by_cases h0 : x < 0
  · simp [ofV, h0]
  · refine ofV_ext h (ha x hx).2 ?_
    unfold ofV
    rw [if_neg h0]
    exact hk x hx (by omega)
theorem mem_fold {fs : List Atm} (hf : PosF fs) : ∀ {b : List Atm} {ms : List Vals} {n : Vals}, (∀ m ∈ ms, m.length = 8) → (∀ a ∈ b, TermA a) → (n ∈ b.foldl (stepM fs) ms ↔ (∃ m ∈ ms, Ext m n (b.flatMap Prod.snd)) ∧ ∀ a ∈ b, imgA n a ∈ fs)
  | [], ms, n, h8, _ => by
    simp only [List.foldl_nil, List.flatMap_nil]
    constructor
    · intro h; exact ⟨⟨n, h, (Ext.nil (h8 n h)).2 rfl⟩, by simp⟩
    · rintro ⟨⟨m, hm, h⟩, _⟩
      rw [(Ext.nil (h8 m hm)).1 h]; exact hm
  | a :: r, ms, n, h8, hb => by
    have ha := hb a (List.mem_cons_self ..)
    have hr := fun x hx => hb x (List.mem_cons_of_mem _ hx)
    rw [List.foldl_cons, mem_fold hf (step_len8 h8 ha hf) hr]
    constructor
    · rintro ⟨⟨m1, hm1, h1⟩, h2⟩
      obtain ⟨⟨m, hm, h3⟩, h4⟩ := (mem_step h8 ha hf).1 hm1
      have hkn : ∀ x ∈ a.2, 0 ≤ x → m1.getD x.toNat 0 ≠ 0 := fun x hx h0 => by
        have hx7 := ha x hx
        refine (h3.dom x.toNat (by omega)).2 (.inr ?_)
        rwa [Int.toNat_of_nonneg h0]
      refine ⟨⟨m, hm, h1.len, fun i hi => ?_, fun i hi h => ?_⟩, fun x hx => ?_⟩
      · rw [h1.dom i hi, h3.dom i hi, List.flatMap_cons, List.mem_append]
        exact or_assoc
      · have e1 := h3.old i hi h
        rw [h1.old i hi (by rw [e1]; exact h), e1]
      · rcases List.mem_cons.1 hx with rfl | hx
        · rw [img_ext h1 ha hkn]; exact h4
        · exact h2 x hx
    · rintro ⟨⟨m, hm, h1⟩, h2⟩
      obtain ⟨m1, hm1⟩ : ∃ m1, m1 = (List.range 8).map (fun i => if m.getD i 0 ≠ 0 ∨ (i : Int) ∈ a.2 then n.getD i 0 else 0) := ⟨_, rfl⟩
      have g1 : ∀ i, i < 8 → m1.getD i 0 = if m.getD i 0 ≠ 0 ∨ (i : Int) ∈ a.2 then n.getD i 0 else 0 := fun i hi => by
        rw [hm1]; simp only [List.getD, List.getElem?_map, List.getElem?_range hi, Option.map_some, Option.getD_some]
      have l1 : m1.length = 8 := by rw [hm1]; simp
      have hn : ∀ i, i < 8 → (m.getD i 0 ≠ 0 ∨ (i : Int) ∈ a.2) → n.getD i 0 ≠ 0 := fun i hi h => by
        refine (h1.dom i hi).2 ?_
        rw [List.flatMap_cons, List.mem_append]
        rcases h with h | h
        · exact .inl h
        · exact .inr (.inl h)
      have hE : Ext m m1 a.2 := by
        refine ⟨l1, fun i hi => ?_, fun i hi h => ?_⟩
        · rw [g1 i hi]
          split
          · rename_i h; exact ⟨fun _ => h, fun _ => hn i hi h⟩
          · rename_i h; exact ⟨fun h0 => absurd rfl h0, fun h0 => absurd h0 h⟩
        · rw [g1 i hi, if_pos (.inl h)]
          exact h1.old i hi h
      have hE2 : Ext m1 n (r.flatMap Prod.snd) := by
        refine ⟨h1.len, fun i hi => ?_, fun i hi h => ?_⟩
        · rw [h1.dom i hi, hE.dom i hi, List.flatMap_cons, List.mem_append]
          exact or_assoc.symm
        · have := (hE.dom i hi).1 h
          rw [g1 i hi, if_pos this]
      have hkn : ∀ x ∈ a.2, 0 ≤ x → m1.getD x.toNat 0 ≠ 0 := fun x hx h0 => by
        have hx7 := ha x hx
        refine (hE.dom x.toNat (by omega)).2 (.inr ?_)
        rwa [Int.toNat_of_nonneg h0]
      refine ⟨⟨m1, (mem_step h8 ha hf).2 ⟨⟨m, hm, hE⟩, ?_⟩, hE2⟩, fun x hx => h2 x (List.mem_cons_of_mem _ hx)⟩
      rw [← img_ext hE2 ha hkn]
      exact h2 a (List.mem_cons_self ..)
/-- A match of a body: eight numbers, 0 where the variable does not occur. -/
structure IsM (fs b : List Atm) (m : Vals) : Prop where
  len : m.length = 8
  dom : ∀ i, i < 8 → (m.getD i 0 ≠ 0 ↔ (i : Int) ∈ b.flatMap Prod.snd)
  hit : ∀ a ∈ b, imgA m a ∈ fs
theorem zero_get (i : Nat) : zeroV.getD i 0 = 0 := by
  rcases Nat.lt_or_ge i 8 with h | h
  · rcases i with _ | _ | _ | _ | _ | _ | _ | _ | i <;> first | rfl | omega
  · simp [zeroV, List.getD, h]
theorem mem_allM {fs b : List Atm} (hf : PosF fs) (hb : ∀ a ∈ b, TermA a) {m : Vals} : m ∈ allM fs b ↔ IsM fs b m := by
  unfold allM
  rw [mem_fold hf (by intro m hm; simp at hm; subst hm; rfl) hb]
  constructor
  · rintro ⟨⟨m0, hm0, h⟩, h2⟩
    have : m0 = zeroV := by simpa using hm0
    subst this
    exact ⟨h.len, fun i hi => (h.dom i hi).trans (by rw [zero_get]; simp), h2⟩
  · intro h
    exact ⟨⟨zeroV, by simp, h.len, fun i hi => (h.dom i hi).trans (by rw [zero_get]; simp), fun i hi h0 => absurd (zero_get i) h0⟩, h.hit⟩
/-! ## No match comes twice -/
theorem step_nodup {fs : List Atm} {ms : List Vals} {a : Atm} (D : Nat → Prop) (h8 : ∀ m ∈ ms, m.length = 8 ∧ ∀ i, i < 8 → (m.getD i 0 ≠ 0 ↔ D i)) (hms : ms.Nodup) (ha : TermA a) (hf : PosF fs) (hfs : fs.Nodup) : (stepM fs ms a).Nodup := by
  unfold stepM
  have inner : ∀ m, m.length = 8 → (fs.filterMap (fitA m a)).Nodup := fun m hm => by
    have : ∀ (l : List Atm), (∀ f ∈ l, f ∈ fs) → l.Nodup → (l.filterMap (fitA m a)).Nodup := by
      intro l
      induction l with
      | nil => intro _ _; exact List.Pairwise.nil
      | cons f r ih =>
        intro hl hn
        obtain ⟨h1, h2⟩ := List.pairwise_cons.1 hn
        have ih := ih (fun g hg => hl g (List.mem_cons_of_mem _ hg)) h2
        rw [List.filterMap_cons]
        split
        · exact ih
        · rename_i n hn
          refine List.pairwise_cons.2 ⟨fun n' hn' e => ?_, ih⟩
          subst e
          obtain ⟨g, hg, hgn⟩ := List.mem_filterMap.1 hn'
          have e1 := ((fitA_iff hm ha (hf f (hl f (List.mem_cons_self ..)))).1 hn).2
          have e2 := ((fitA_iff hm ha (hf g (hl g (List.mem_cons_of_mem _ hg)))).1 hgn).2
          exact h1 g hg (e1.symm.trans e2)
    exact this fs (fun _ h => h) hfs
  have : ∀ (l : List Vals), (∀ m ∈ l, m ∈ ms) → l.Nodup → (l.flatMap fun m => fs.filterMap (fitA m a)).Nodup := by
    intro l
    induction l with
    | nil => intro _ _; exact List.Pairwise.nil
    | cons m r ih =>
      intro hl hn
      obtain ⟨h1, h2⟩ := List.pairwise_cons.1 hn
      have ih := ih (fun g hg => hl g (List.mem_cons_of_mem _ hg)) h2
      rw [List.flatMap_cons]
      have hm := h8 m (hl m (List.mem_cons_self ..))
      refine List.pairwise_append.2 ⟨inner m hm.1, ih, fun n hn n' hn' e => ?_⟩
      subst e
      obtain ⟨f, hff, h3⟩ := List.mem_filterMap.1 hn
      obtain ⟨m', hm', hn'⟩ := List.mem_flatMap.1 hn'
      obtain ⟨g, hgf, h4⟩ := List.mem_filterMap.1 hn'
      have hm2 := h8 m' (hl m' (List.mem_cons_of_mem _ hm'))
      have e1 := ((fitA_iff hm.1 ha (hf f hff)).1 h3).1
      have e2 := ((fitA_iff hm2.1 ha (hf g hgf)).1 h4).1
      refine h1 m' hm' (vals_ext hm.1 hm2.1 fun i hi => ?_)
      by_cases hD : D i
      · rw [← e1.old i hi ((hm.2 i hi).2 hD), ← e2.old i hi ((hm2.2 i hi).2 hD)]
      · have a1 : m.getD i 0 = 0 := by
          have : ¬ m.getD i 0 ≠ 0 := fun e => hD ((hm.2 i hi).1 e)
          simpa using this
        have a2 : m'.getD i 0 = 0 := by
          have : ¬ m'.getD i 0 ≠ 0 := fun e => hD ((hm2.2 i hi).1 e)
          simpa using this
        rw [a1, a2]
  exact this ms (fun _ h => h) hms
theorem step_dom {fs : List Atm} {ms : List Vals} {a : Atm} {D : Nat → Prop} (h8 : ∀ m ∈ ms, m.length = 8 ∧ ∀ i, i < 8 → (m.getD i 0 ≠ 0 ↔ D i)) (ha : TermA a) (hf : PosF fs) : ∀ n ∈ stepM fs ms a, n.length = 8 ∧ ∀ i, i < 8 → (n.getD i 0 ≠ 0 ↔ D i ∨ (i : Int) ∈ a.2) := fun n hn => by
  obtain ⟨⟨m, hm, h⟩, _⟩ := (mem_step (fun m hm => (h8 m hm).1) ha hf).1 hn
  exact ⟨h.len, fun i hi => (h.dom i hi).trans (or_congr_left ((h8 m hm).2 i hi))⟩
/-- What holds after the beginning b of a body. -/
structure StM (fs : List Atm) (b : List Atm) (ms : List Vals) : Prop where
  nodup : ms.Nodup
  dom : ∀ m ∈ ms, m.length = 8 ∧ ∀ i, i < 8 → (m.getD i 0 ≠ 0 ↔ (i : Int) ∈ b.flatMap Prod.snd)
theorem StM.zero (fs : List Atm) : StM fs [] [zeroV] := ⟨by simp, fun m hm => by
  simp at hm; subst hm
  exact ⟨rfl, fun i hi => by rw [zero_get]; simp⟩⟩
theorem StM.step {fs b : List Atm} {ms : List Vals} {a : Atm} (h : StM fs b ms) (ha : TermA a) (hf : PosF fs) (hfs : fs.Nodup) : StM fs (b ++ [a]) (stepM fs ms a) :=
  ⟨step_nodup _ h.dom h.nodup ha hf hfs, fun m hm => by
    obtain ⟨h1, h2⟩ := step_dom h.dom ha hf m hm
    refine ⟨h1, fun i hi => (h2 i hi).trans ?_⟩
    simp [List.flatMap_append]⟩
end Go.Proofs.Ytleiddajojgmmaa

/- Plain: all matches of a query, their number, its results; other facts. No program. No condition. -/
namespace Go.Proofs.Ytleiddajojgmmaa
set_option linter.unusedSimpArgs false
set_option linter.unusedVariables false

theorem runM_iff (fs : List Atm) : ∀ (b : List Atm) (ms l : List Vals), runM fs ms b = some l ↔ l = b.foldl (stepM fs) ms ∧ ∀ k, 1 ≤ k → k ≤ b.length → ((b.take k).foldl (stepM fs) ms).length ≤ 20000
  | [], ms, l => by
    simp only [runM, List.foldl_nil, Option.some.injEq, List.length_nil]
    constructor
    · rintro rfl
      exact ⟨rfl, fun k h1 h2 => by omega⟩
    · rintro ⟨rfl, _⟩
      rfl
  | a :: r, ms, l => by
    rw [runM]
    split
    · rename_i h
      rw [runM_iff fs r, List.foldl_cons]
      refine and_congr_right fun e => ⟨fun h2 k hk1 hk => ?_, fun h2 k hk1 hk => ?_⟩
      · cases k with
        | zero => omega
        | succ k =>
          rw [List.take_succ_cons, List.foldl_cons]
          rcases Nat.eq_zero_or_pos k with rfl | h3
          · simpa using h
          · exact h2 k h3 (by simpa using hk)
      · have := h2 (k + 1) (by omega) (by simpa using hk)
        rwa [List.take_succ_cons, List.foldl_cons] at this
    · rename_i h
      constructor
      · intro h; cases h
      · rintro ⟨_, h2⟩
        have := h2 1 (by omega) (by simp)
        simp at this
        exact absurd this h
/-- All matches, of facts in any order, unless there are too many of some beginning. -/
def runF (fs b : List Atm) : Option (List Vals) := runM (srtF fs) [zeroV] b
def rowsOf (h : List Int) (ms : List Vals) : List (List Int) := srtL (ms.map fun m => h.map (ofV m))
theorem runF_some {fs b : List Atm} {l : List Vals} : runF fs b = some l ↔ l = allM (srtF fs) b ∧ ∀ k, 1 ≤ k → k ≤ b.length → (allM (srtF fs) (b.take k)).length ≤ 20000 := runM_iff _ _ _ _
theorem okF_pos {l : List Atm} (h : okFs l = true) : PosF l := by
  intro f hf y hy
  simp only [okFs, Bool.and_eq_true, List.all_eq_true] at h
  have := okF_iff.1 (h.2 f hf)
  exact (this.2.2.2.2 y hy).1
theorem okB_term {h : List Int} {b : List Atm} (hq : okQ h b = true) : ∀ a ∈ b, TermA a := by
  intro a ha
  simp only [okQ, Bool.and_eq_true, List.all_eq_true] at hq
  exact (okA_iff.1 (hq.1.2 a ha)).2.2.2.2
theorem srtF_pos {l : List Atm} (h : PosF l) : PosF (srtF l) := fun f hf => h f ((mem_srt key_A).1 hf)
theorem srtF_nodup (l : List Atm) : (srtF l).Nodup := str_nodup (str_srt key_A l)
theorem IsM.sub {fs fs' b : List Atm} {m : Vals} (h : IsM fs b m) (hs : ∀ a ∈ b, imgA m a ∈ fs → imgA m a ∈ fs') : IsM fs' b m := ⟨h.len, h.dom, fun a ha => hs a ha (h.hit a ha)⟩
theorem allM_st {fs b : List Atm} (hf : PosF fs) (hn : fs.Nodup) (hb : ∀ a ∈ b, TermA a) : StM fs b (allM fs b) := by
  have : ∀ (r c : List Atm) (ms : List Vals), StM fs c ms → (∀ a ∈ r, TermA a) → StM fs (c ++ r) (r.foldl (stepM fs) ms) := by
    intro r
    induction r with
    | nil => intro c ms h _; simpa using h
    | cons a r ih =>
      intro c ms h hr
      have := ih (c ++ [a]) (stepM fs ms a) (h.step (hr a (List.mem_cons_self ..)) hf hn) fun x hx => hr x (List.mem_cons_of_mem _ hx)
      simpa using this
  exact this b [] [zeroV] (StM.zero fs) hb
theorem sub_len {α : Type} [DecidableEq α] : ∀ {l l' : List α}, l.Nodup → (∀ x ∈ l, x ∈ l') → l.length ≤ l'.length
  | [], _, _, _ => Nat.zero_le _
  | x :: r, l', hn, hs => by
    obtain ⟨h1, h2⟩ := List.pairwise_cons.1 hn
    have hx := hs x (List.mem_cons_self ..)
    have ih := sub_len (l' := l'.erase x) h2 fun y hy => (List.mem_erase_of_ne (fun e => h1 y hy e.symm)).2 (hs y (List.mem_cons_of_mem _ hy))
    rw [List.length_erase_of_mem hx] at ih
    have := List.length_pos_of_mem hx
    simp only [List.length_cons]
    omega
/-- Members of the results. -/
theorem mem_rows {fs b : List Atm} {h : List Int} (hf : PosF fs) (hb : ∀ a ∈ b, TermA a) {y : List Int} : y ∈ rowsOf h (allM (srtF fs) b) ↔ ∃ m, IsM fs b m ∧ y = h.map (ofV m) := by
  unfold rowsOf
  rw [mem_srt key_id, List.mem_map]
  constructor
  · rintro ⟨m, hm, rfl⟩
    exact ⟨m, ((mem_allM (srtF_pos hf) hb).1 hm).sub fun a _ h => (mem_srt key_A).1 h, rfl⟩
  · rintro ⟨m, hm, rfl⟩
    exact ⟨m, (mem_allM (srtF_pos hf) hb).2 (hm.sub fun a _ h => (mem_srt key_A).2 h), rfl⟩
/-- Fewer facts that still have all that matches use: the same matches, in number and results. -/
theorem fewer {fs gs b : List Atm} {h : List Int} (hf : PosF fs) (hb : ∀ a ∈ b, TermA a) (hs : ∀ a ∈ gs, a ∈ fs) (hall : ∀ m, IsM fs b m → ∀ a ∈ b, imgA m a ∈ gs) {l : List Vals} (hl : runF fs b = some l) :
    ∃ l', runF gs b = some l' ∧ l'.length = l.length ∧ rowsOf h l' = rowsOf h l := by
  have hg : PosF gs := fun a ha => hf a (hs a ha)
  obtain ⟨rfl, hk⟩ := runF_some.1 hl
  have iff1 : ∀ m, IsM gs b m ↔ IsM fs b m := fun m => ⟨fun hm => hm.sub fun a _ h => hs _ h, fun hm => ⟨hm.len, hm.dom, fun a ha => hall m hm a ha⟩⟩
  have mg : ∀ m, m ∈ allM (srtF gs) b ↔ m ∈ allM (srtF fs) b := fun m => by
    rw [mem_allM (srtF_pos hg) hb, mem_allM (srtF_pos hf) hb]
    have a1 : IsM (srtF gs) b m ↔ IsM gs b m := ⟨fun hm => hm.sub fun a _ h => (mem_srt key_A).1 h, fun hm => hm.sub fun a _ h => (mem_srt key_A).2 h⟩
    have a2 : IsM (srtF fs) b m ↔ IsM fs b m := ⟨fun hm => hm.sub fun a _ h => (mem_srt key_A).1 h, fun hm => hm.sub fun a _ h => (mem_srt key_A).2 h⟩
    rw [a1, a2, iff1]
  have ng := (allM_st (srtF_pos hg) (srtF_nodup gs) hb).nodup
  have nf := (allM_st (srtF_pos hf) (srtF_nodup fs) hb).nodup
  refine ⟨_, runF_some.2 ⟨rfl, fun k h1 h2 => ?_⟩, ?_, ?_⟩
  · have hb' : ∀ a ∈ b.take k, TermA a := fun a ha => hb a (List.mem_of_mem_take ha)
    refine Nat.le_trans (sub_len (allM_st (srtF_pos hg) (srtF_nodup gs) hb').nodup fun m hm => ?_) (hk k h1 h2)
    rw [mem_allM (srtF_pos hg) hb'] at hm
    rw [mem_allM (srtF_pos hf) hb']
    exact hm.sub fun a _ h => (mem_srt key_A).2 (hs _ ((mem_srt key_A).1 h))
  · exact Nat.le_antisymm (sub_len ng fun m hm => (mg m).1 hm) (sub_len nf fun m hm => (mg m).2 hm)
  · refine str_uniq (str_srt key_id _) (str_srt key_id _) fun y => ?_
    rw [mem_rows hg hb, mem_rows hf hb]
    exact ⟨fun ⟨m, hm, e⟩ => ⟨m, (iff1 m).1 hm, e⟩, fun ⟨m, hm, e⟩ => ⟨m, (iff1 m).2 hm, e⟩⟩
/-- More facts: more results. -/
theorem more {fs gs b : List Atm} {h : List Int} (hg : PosF gs) (hb : ∀ a ∈ b, TermA a) (hs : ∀ a ∈ fs, a ∈ gs) {y : List Int} (hy : y ∈ rowsOf h (allM (srtF fs) b)) : y ∈ rowsOf h (allM (srtF gs) b) := by
  have hf : PosF fs := fun a ha => hg a (hs a ha)
  obtain ⟨m, hm, e⟩ := (mem_rows hf hb).1 hy
  exact (mem_rows hg hb).2 ⟨m, hm.sub fun a _ h => hs _ h, e⟩
/-! ## Two bodies without common variables -/
end Go.Proofs.Ytleiddajojgmmaa

/- Contracts: what fits an atom, and all matches of a query. No condition. -/
namespace Go.Proofs.Ytleiddajojgmmaa
open Go Go.RowKit VC
set_option linter.unusedSimpArgs false
set_option linter.unusedVariables false

/-! ## Values in memory -/
def encV (m : Vals) : List Value := (List.range 8).map fun i => encI (m.getD i 0)
theorem encV_len (m : Vals) : (encV m).length = 8 := by simp [encV]
theorem encV_get (m : Vals) {i : Nat} (hi : i < 8) : (encV m)[i]? = some (encI (m.getD i 0)) := by
  simp only [encV, List.getElem?_map, List.getElem?_range hi, Option.map_some]
theorem encV_eq {m : Vals} (h : m.length = 8) : encV m = m.map encI := by
  apply List.ext_getElem (by simp [encV, h])
  intro i h1 h2
  have hi : i < m.length := by simpa using h2
  simp [encV, List.getD, hi]
theorem encV_one (m : Vals) : ∀ u ∈ encV m, u.oneCell' = true := by
  intro u hu
  simp only [encV, List.mem_map] at hu
  obtain ⟨i, _, rfl⟩ := hu
  rfl
theorem encV_inj {m n : Vals} (h1 : m.length = 8) (h2 : n.length = 8) (h : encV m = encV n) : m = n := by
  refine vals_ext h1 h2 fun i hi => ?_
  have := congrArg (fun l : List Value => l[i]?) h
  simp only [encV_get _ hi, Option.some.injEq, encI, Value.int.injEq, true_and] at this
  exact this
theorem encV_set {m : Vals} (h : m.length = 8) {k : Nat} (hk : k < 8) (y : Int) : (encV m).set k (encI y) = encV (m.set k y) := by
  rw [encV_eq h, encV_eq (by simpa using h), List.map_set]
abbrev SlV (w : World) (v : Value) (ms : List Vals) : Prop := SlR encV w v ms
theorem cells8 {w : World} {b : Nat} {m : Vals} (hr : RecV w b (encV m)) {i : Nat} (hi : i < 8) : w.cell? (Addr.add ⟨b, 0, none⟩ (i * 1)) = some (.int .i64 (m.getD i 0)) := by
  rw [Nat.mul_one]
  exact hr.cell (encV_get m hi)
theorem valOf_c {w : World} {m : Vals} {x : Int} (hx : -9 ≤ x ∧ x ≤ 7) : Calls Try.prog 163 #[.agg (encV m).toArray, .int .i64 x] w (Ret w (.int .i64 (ofV m x))) := by
  refine f163_calls _ _ ?_
  refine ⟨_, rfl, fun w1 hw1 => ?_⟩
  have g1 := alloc_grow hw1
  have hr : RecV w1 w.heap.size (encV m) := RecV.new hw1
  refine condD (fun h => ⟨by unfold inR; omega, ?_, g1⟩) fun h => ⟨by omega, m.getD x.toNat 0, cells8 hr (by omega), ?_, g1⟩
  · rw [ofV, if_pos h, show (0 : Int) - x = -x by omega]
  · rw [ofV, if_neg h]
/-! ## What fits -/
/-- Numbers from 0 to 99. -/
def Sm (m : Vals) : Prop := ∀ x ∈ m, 0 ≤ x ∧ x ≤ 99
theorem fitL_sm : ∀ {xs ys : List Int} {m n : Vals}, Sm m → (∀ y ∈ ys, 1 ≤ y ∧ y ≤ 99) → fitL m xs ys = some n → Sm n
  | [], [], m, n, h, _, e => by simp [fitL] at e; rw [← e]; exact h
  | x :: xs, y :: ys, m, n, h, hy, e => by
    rw [fitL] at e
    have h0 := hy y (List.mem_cons_self ..)
    have hr := fun z hz => hy z (List.mem_cons_of_mem _ hz)
    split at e
    · refine fitL_sm (m := m.set x.toNat y) (fun z hz => ?_) hr e
      rcases List.mem_or_eq_of_mem_set hz with hz | rfl
      · exact h z hz
      · omega
    · split at e
      · exact fitL_sm h hr e
      · cases e
  | [], _ :: _, m, n, h, _, e => by simp [fitL] at e
  | _ :: _, [], m, n, h, _, e => by simp [fitL] at e
theorem fitL_ne : ∀ {xs ys : List Int} {m : Vals}, xs.length ≠ ys.length → fitL m xs ys = none
  | [], [], m, h => absurd rfl h
  | [], _ :: _, m, h => rfl
  | _ :: _, [], m, h => rfl
  | x :: xs, y :: ys, m, h => by
    rw [fitL]
    have : xs.length ≠ ys.length := fun e => h (by simp [e])
    split
    · exact fitL_ne this
    · split
      · exact fitL_ne this
      · rfl
/-- What fits has been found: the values, and whether there are some. -/
def FitR (w : World) (o : Option Vals) : Ending → World → Prop := fun e w' => ∃ m' b, e = .returned (.tuple #[.agg (encV m').toArray, .bool b]) ∧ Grow w w' ∧ m'.length = 8 ∧ o = if b then some m' else none
theorem fits_c {w : World} {m : Vals} {r s : Int} {u v : Value} {xs ys : List Int} (h8 : m.length = 8) (hx : SlI w u xs) (hy : SlI w v ys) (hT : ∀ x ∈ xs, -9 ≤ x ∧ x ≤ 7) :
    Calls Try.prog 142 #[.agg (encV m).toArray, .agg #[.int .i64 r, u], .agg #[.int .i64 s, v]] w (FitR w (fitA m (r, xs) (s, ys))) := by
  refine f142_calls _ _ _ ?_
  refine ⟨_, rfl, fun w1 hw1 => ⟨_, rfl, fun w3 hw3 => ⟨_, rfl, fun w5 hw5 w7 hw7 => ?_⟩⟩⟩
  have g1 := alloc_grow hw1
  have g3 := alloc_grow hw3
  have g5 := alloc_grow hw5
  have g7 := alloc_grow hw7
  have s1 := alloc_size hw1
  have s3 := alloc_size hw3
  have s5 := alloc_size hw5
  have s7 := alloc_size hw7
  have hV : RecV w7 w.heap.size (encV m) := (((RecV.new hw1).grow g3).grow g5).grow g7
  have hA := ((RecV.new hw3).grow g5).grow g7
  have hF := (RecV.new hw5).grow g7
  have hR := RecV.new hw7
  have g07 := ((g1.trans g3).trans g5).trans g7
  have hle := hx.len_le
  have hx7 := hx.grow g07
  have hy7 := hy.grow g07
  have fin : ∀ {w' : World} {m' : Vals} (b : Bool), m'.length = 8 → RecV w' w.heap.size (encV m') → Fr (fun i => i = w.heap.size) w7 w' → fitA m (r, xs) (s, ys) = (if b then some m' else none) →
      ∃ cs : List Value, cs.length = 8 ∧ (∀ (j : Nat) (v : Value), cs[j]? = some v → w'.cell? (Addr.add ⟨w.heap.size, 0, none⟩ j) = some v) ∧ ∃ cs' : Array Value, (Value.agg cs.toArray) = Value.agg cs' ∧ cs'.size = 8 ∧ ∃ w2 : World, (storeCells ⟨w5.heap.size, 0, none⟩ cs'.toList).run Try.prog w' = .ok () w2 ∧
        ∃ ds : List Value, ds.length = 8 ∧ (∀ (j : Nat) (v : Value), ds[j]? = some v → w2.cell? (Addr.add ⟨w5.heap.size, 0, none⟩ j) = some v) ∧ FitR w (fitA m (r, xs) (s, ys)) (.returned (.tuple #[(Value.agg ds.toArray), (Value.bool b)])) w2 := fun {w' m'} b hl hr hf ho => by
    refine ⟨_, encV_len m', hr.all, ?_⟩
    refine RecV.store (cs := encV m') (hR.fr hf (by omega)) (by rw [encV_len]; rfl) (encV_one m') fun w2 hf2 hr2 => ⟨encV m', encV_len m', hr2.all, m', b, rfl, ?_, hl, ho⟩
    exact g07.fr (S := fun i => w.heap.size ≤ i) ((hf.mono fun i _ e => by omega).trans (hf2.mono fun i _ e => by omega)) fun i hi e => by omega
  refine ⟨r, hA.cell (j := 0) rfl, s, hF.cell (j := 0) rfl, condP_i (fun h => ?_) fun h => ?_⟩
  · have h : ¬ r = s := by simpa using h
    exact fin false h8 hV (Fr.refl _ _) (by rw [fitA, if_neg h]; rfl)
  have hrs : r = s := by simpa using h
  have eA : fitA m (r, xs) (s, ys) = fitL m xs ys := by rw [fitA, if_pos hrs]
  refine ⟨u, hA.cell (j := 1) rfl, hx7.ln ⟨v, hF.cell (j := 1) rfl, hy7.ln (condP_i (fun h => ?_) fun h => ?_)⟩⟩
  · have h : ¬ xs.length = ys.length := by simp at h; omega
    exact fin false h8 hV (Fr.refl _ _) (by rw [eA, fitL_ne h]; rfl)
  have hl : xs.length = ys.length := by simp at h; omega
  refine ⟨u, hA.cell (j := 1) rfl, hx7.ln ⟨fun t w' => ∃ (k : Nat) (m' : Vals), t = k ∧ k ≤ xs.length ∧ m'.length = 8 ∧ RecV w' w.heap.size (encV m') ∧ Fr (fun i => i = w.heap.size) w7 w' ∧ fitL m xs ys = fitL m' (xs.drop k) (ys.drop k), fun t _ => xs.length - t.toNat, ⟨0, m, rfl, by omega, h8, hV, Fr.refl _ _, rfl⟩, ?_⟩⟩
  rintro - t w34 ⟨k, m', rfl, hk, hl8, hr, hf, he⟩
  have gx : ∀ {u : Value} {zs : List Int}, SlI w u zs → ∀ {w'}, Fr (fun i => i = w.heap.size) w7 w' → SlI w' u zs := fun {u zs} hs {w'} hf => hs.grow (g07.fr hf fun i hi e => by omega)
  refine condD (fun hlt => ?_) (fun hge => ?_)
  · have hkl : k < xs.length := by omega
    have hky : k < ys.length := by omega
    have hxk := hT _ (List.getElem_mem hkl)
    rw [List.drop_eq_getElem_cons hkl, List.drop_eq_getElem_cons hky, fitL] at he
    refine (gx hx hf).rd rfl hkl ⟨_, encV_len m', hr.all, (valOf_c hxk).mono ?_⟩
    rintro e w40 ⟨rfl, g40⟩
    have hf40 := hf.trans (Fr.of_grow g40)
    have hr40 := hr.grow g40
    refine ⟨_, rfl, condD (fun h0 => ?_) fun h0 => ?_⟩
    · rw [if_pos h0] at he
      have hx0 : 0 ≤ xs[k] := by
        refine Classical.byContradiction fun hn => ?_
        rw [ofV, if_pos (by omega)] at h0
        omega
      refine ⟨v, (hF.fr hf40 (by omega)).cell (j := 1) rfl, (gx hy hf40).rd rfl hky ?_⟩
      refine ⟨by omega, ⟨_, cells8 hr40 (by omega)⟩, by rw [Nat.mul_one]; exact hr40.free _, fun w48 hw48 => ?_⟩
      have hw48' : w48 = w40.setCell (Addr.add ⟨w.heap.size, 0, none⟩ xs[k].toNat) (encI ys[k]) := by rw [hw48, Nat.mul_one, encI]
      refine ⟨by unfold inR; omega, ⟨k + 1, m'.set xs[k].toNat ys[k], by omega, by omega, by simpa using hl8, ?_, hf40.trans (RecV.set_fr hw48'), he⟩, by dsimp only; omega⟩
      rw [← encV_set hl8 (by omega)]
      exact hr40.set hw48'
    · rw [if_neg h0] at he
      refine ⟨v, (hF.fr hf40 (by omega)).cell (j := 1) rfl, (gx hy hf40).rd rfl hky ?_⟩
      refine condP_i (fun h1 => ?_) fun h1 => ?_
      · have h1 : ¬ ofV m' xs[k] = ys[k] := by simpa using h1
        rw [if_neg h1] at he
        exact fin false hl8 hr40 hf40 (by rw [eA, he]; rfl)
      · have h1 : ofV m' xs[k] = ys[k] := by simpa using h1
        rw [if_pos h1] at he
        exact ⟨by unfold inR; omega, ⟨k + 1, m', by omega, by omega, hl8, hr40, hf40, he⟩, by dsimp only; omega⟩
  · have hkl : k = xs.length := by omega
    subst hkl
    rw [List.drop_length, hl, List.drop_length] at he
    exact fin true hl8 hr hf (by rw [eA, he]; rfl)

/-! ## append of one record; where its array lies -/
theorem pappRk {α : Type} {f : α → List Value} {P : Program} {t ty e : TypeId} {sz bytes : Nat} {z : Value} (hT : ElT P t e sz bytes z) (hsz : 0 < sz) (hf : ∀ x, (f x).length = sz) (h1 : ∀ x, ∀ u ∈ f x, u.oneCell' = true) {w w1 : World} {B : Nat} {v : Value} {x : α} {xs : List α}
    (hw : w1 = w.alloc (.cells (f x).toArray e)) (hown : Own w B e sz v xs.length (xs.flatMap f)) (hB : B ≤ w.heap.size) (hlen : (xs.length + 1) * bytes ≤ 140737488355328) (hb : 0 < bytes) {K : Value → World → Prop}
    (hk : ∀ v' w', Own w' B e sz v' (xs ++ [x]).length ((xs ++ [x]).flatMap f) → Fr (fun k => some k = v.ownBlock) w1 w' → (∀ k, v'.ownBlock = some k → some k = v.ownBlock ∨ w.heap.size ≤ k) → K v' w') : PApp P t ty v (.slice (some ⟨w.heap.size, 0, none⟩) 1 1) w1 K := by
  have hl := Own.lit (B := w.heap.size) (n := 1) (sz := sz) hw (Nat.le_refl _) (by omega) (by simp [hf])
  refine pappk hT hsz (hown.grow (alloc_grow hw)) hl.slC (by simp [hf]) (by simpa using h1 x) (by rw [alloc_size hw]; omega) hlen hb ?_
  intro v' w' ho hfr _ hbl
  refine hk v' w' ?_ hfr fun k hk => (hbl k hk).imp id fun h => by have := alloc_size hw; omega
  have e1 : (xs ++ [x]).length = xs.length + 1 := by simp
  have e2 : (xs ++ [x]).flatMap f = xs.flatMap f ++ (f x).toArray.toList := by simp
  rw [e1, e2]
  exact ho
/-- What fits parts all that fits. -/
theorem step_split {fs : List Atm} {ms : List Vals} {a : Atm} {i j : Nat} (hi : i < ms.length) (hj : j < fs.length) {n : Vals} (h : fitA ms[i] a fs[j] = some n) :
    ∃ C, stepM fs ms a = (stepM fs (ms.take i) a ++ (fs.take j).filterMap (fitA ms[i] a)) ++ n :: C := by
  refine ⟨(fs.drop (j + 1)).filterMap (fitA ms[i] a) ++ stepM fs (ms.drop (i + 1)) a, ?_⟩
  have e1 : ms = ms.take i ++ ms[i] :: ms.drop (i + 1) := by rw [← List.drop_eq_getElem_cons hi, List.take_append_drop]
  have e2 : fs.filterMap (fitA ms[i] a) = (fs.take j).filterMap (fitA ms[i] a) ++ (n :: (fs.drop (j + 1)).filterMap (fitA ms[i] a)) := by
    conv => lhs; rw [show fs = fs.take j ++ fs[j] :: fs.drop (j + 1) by rw [← List.drop_eq_getElem_cons hj, List.take_append_drop]]
    rw [List.filterMap_append, List.filterMap_cons, h]
  conv => lhs; unfold stepM; rw [e1]
  rw [List.flatMap_append, List.flatMap_cons, e2]
  simp only [stepM, List.append_assoc, List.cons_append]
theorem step_take {fs : List Atm} {ms : List Vals} {a : Atm} {i : Nat} (hi : i < ms.length) : stepM fs (ms.take (i + 1)) a = stepM fs (ms.take i) a ++ fs.filterMap (fitA ms[i] a) := by
  unfold stepM
  rw [List.take_succ_eq_append_getElem hi, List.flatMap_append]
  simp
theorem fm_take {α β : Type} {f : α → Option β} {l : List α} {j : Nat} (hj : j < l.length) : (l.take (j + 1)).filterMap f = (l.take j).filterMap f ++ (match f l[j] with | some y => [y] | none => []) := by
  rw [List.take_succ_eq_append_getElem hj, List.filterMap_append, List.filterMap_cons]
  cases f l[j] <;> rfl
theorem sm_wf {m : Vals} (h : Sm m) : ∀ x ∈ m, (Lit.int .i64 x).wf = true := by
  intro x hx
  have := h x hx
  have e1 : IntKind.min .i64 = -9223372036854775808 := by decide
  have e2 : IntKind.max .i64 = 9223372036854775807 := by decide
  simp only [Lit.wf, e1, e2, Bool.and_eq_true, decide_eq_true_eq]
  omega
end Go.Proofs.Ytleiddajojgmmaa

/- Contracts: all matches of a query. No condition. -/
namespace Go.Proofs.Ytleiddajojgmmaa
open Go Go.RowKit VC Go.WideMaps
set_option linter.unusedSimpArgs false
set_option linter.unusedVariables false

def zV : Value := .agg #[.int .i64 0, .int .i64 0, .int .i64 0, .int .i64 0, .int .i64 0, .int .i64 0, .int .i64 0, .int .i64 0]
theorem el_vals : ElT Try.prog 134 138 8 64 zV := ⟨by kernel_rfl, ⟨Try.t138, by kernel_rfl, by kernel_rfl, by kernel_rfl, by kernel_rfl⟩, rfl⟩
theorem arr_key : ArrKey Try.prog 138 3 8 := ⟨by kernel_rfl, by kernel_rfl, by kernel_rfl, by kernel_rfl⟩
theorem types_pos : ∃ m, Try.prog.types.size = m + 1 := ⟨Try.prog.types.size - 1, by
  have : 0 < Try.prog.types.size := of_decide_eq_true (by kernel_rfl)
  omega⟩
def keyV (m : Vals) : Value := .agg (encV m).toArray
theorem keyV_inj {m n : Vals} (h1 : m.length = 8) (h2 : n.length = 8) (h : keyV m = keyV n) : m = n := by
  simp only [keyV, Value.agg.injEq] at h
  exact encV_inj h1 h2 (by simpa using h)
theorem keyV_of {m : Vals} (h : m.length = 8) (hs : Sm m) : ∃ l, keyOf Try.prog 138 (keyV m) = some l := by
  unfold keyV
  rw [encV_eq h]
  exact keyOf_eight arr_key (by kernel_rfl) types_pos h (sm_wf hs)
abbrev MapS (w : World) (b : Nat) (N : List Vals) : Prop := MapB Try.prog 138 w b (N.map keyV)
abbrev OwnV (w : World) (B : Nat) (v : Value) (ms : List Vals) : Prop := Own w B 138 8 v ms.length (ms.flatMap encV)
theorem OwnV.slV {w : World} {B : Nat} {v : Value} {ms : List Vals} (h : OwnV w B v ms) : SlV w v ms := Own.slR h
/-- A local copy of eight numbers. -/
theorem SlV.loc {P : Program} {w : World} {v : Value} {ms : List Vals} (h : SlV w v ms) {i : Nat} {j : Int} (hj : j = (i : Int)) (hi : i < ms.length) {zs : Array Value} (hz : zs.size = 8) {t : TypeId} {K : World → Prop}
    (hk : ∀ w2, Grow w w2 → w.heap.size < w2.heap.size → RecV w2 w.heap.size (encV ms[i]) → K w2) :
    ∃ (a : Addr) (m c : Nat), v = .slice (some a) m c ∧ ((0 : Int) ≤ j ∧ j < (m : Int)) ∧ ∃ cs : List Value, cs.length = 8 ∧ (∀ t u, cs[t]? = some u → w.cell? (Addr.add (a.add (Int.toNat j * 8)) t) = some u) ∧
      ∀ w1, w1 = w.alloc (.cells zs t) → ∃ cs' : Array Value, (Value.agg cs.toArray) = Value.agg cs' ∧ cs'.size = 8 ∧ ∃ w2 : World, (storeCells ⟨w.heap.size, 0, none⟩ cs'.toList).run P w1 = .ok () w2 ∧ K w2 := by
  refine SlR.rd h encV_len hj hi fun w1 hw1 => ?_
  have := RecV.init (P := P) (cs := encV ms[i]) hw1 (by rw [hz, encV_len]) (encV_one _) (K := K) hk
  rwa [hz] at this
/-- All matches, or that there are too many. -/
def MatR (w : World) (o : Option (List Vals)) : Ending → World → Prop := fun e w' => Grow w w' ∧ ((∃ v ms, e = .returned (.tuple #[v, .bool true]) ∧ o = some ms ∧ SlV w' v ms) ∨ (∃ v, e = .returned (.tuple #[v, .bool false]) ∧ o = none))
/-- Between the rounds over the facts. -/
structure InI (w25 : World) (mb C : Nat) (fs : List Atm) (ms : List Vals) (a : Atm) (i j : Nat) (hi : i < ms.length) (next : Value) (w' : World) (N : List Vals) : Prop where
  eq : N = stepM fs (ms.take i) a ++ (fs.take j).filterMap (fitA ms[i] a)
  few : N.length ≤ 20000
  own : OwnV w' w25.heap.size next N
  off : ∀ b, next.ownBlock = some b → b ≠ C
  map : MapS w' mb N
  rc : RecV w' C (encV ms[i])
  fr : Fr (fun b => mb ≤ b) w25 w'
theorem matches_c {w : World} {hv bv facts : Value} {b l : List Atm} (hb : SlA w bv b) (hl : SlA w facts l) (okB : ∀ a ∈ b, TermA a) (hbl : b.length ≤ 1000) (hf : okFs l = true) :
    Calls Try.prog 115 #[.agg #[hv, bv], facts] w (MatR w (runF l b)) := by
  have hpos := okF_pos hf
  have hlen : l.length ≤ 24 := by
    simp only [okFs, Bool.and_eq_true, decide_eq_true_eq] at hf
    exact hf.1
  refine f115_calls _ _ ?_
  refine ⟨_, rfl, fun w1 hw1 => ?_⟩
  have g1 := alloc_grow hw1
  refine (once_c (hl.gr g1) (by omega)).mono ?_
  rintro e w3 ⟨fv, fs, rfl, hO, ho3, g3⟩
  have hfs : fs = srtF l := srt_eq key_A hO.inc hO.mem
  have hfp : PosF fs := fun f hf => hpos f ((hO.mem f).1 hf)
  have hfn : fs.Nodup := str_nodup (key := keyA) hO.inc
  have hfl : fs.length ≤ 24 := Nat.le_trans hO.len hlen
  have hf99 : ∀ f ∈ fs, ∀ y ∈ f.2, 1 ≤ y ∧ y ≤ 99 := fun f h0 y hy => by
    simp only [okFs, Bool.and_eq_true, List.all_eq_true] at hf
    exact (okF_iff.1 (hf.2 f ((hO.mem f).1 h0))).2.2.2.2 y hy
  have hF : SlA w3 fv fs := ho3.slX
  refine ⟨fv, rfl, bs1 el_vals (by omega) (by omega) (cs := (encV zeroV).toArray) (by simp [encV_len]) w3 fun w6 hw6 => ?_⟩
  have g6 := alloc_grow hw6
  have g06 := (g1.trans g3).trans g6
  have hall0 : OwnV w6 w3.heap.size (.slice (some ⟨w3.heap.size, 0, none⟩) 1 1) [zeroV] := by
    have := Own.lit (B := w3.heap.size) (n := 1) (sz := 8) hw6 (Nat.le_refl _) (by omega) (by simp [encV_len])
    simpa [OwnV] using this
  refine ⟨bv, (g3.trans g6).cell (boxc hw1 1 _ rfl), SlX.ln (hb.gr g06) ?_⟩
  refine ⟨fun all t w' => ∃ (k : Nat) (ms : List Vals), t = k ∧ k ≤ b.length ∧ SlV w' all ms ∧ StM fs (b.take k) ms ∧ (∀ m ∈ ms, Sm m) ∧ runM fs [zeroV] b = runM fs ms (b.drop k) ∧ ms.length ≤ 20000 ∧ Grow w6 w', fun _ t _ => b.length - t.toNat,
    ⟨0, [zeroV], rfl, by omega, OwnV.slV hall0, by simpa using StM.zero fs, by
      intro m hm
      simp at hm
      subst hm
      intro x hx
      simp [zeroV] at hx
      omega, rfl, by simp, Grow.refl w6⟩, ?_⟩
  rintro - all t w17 ⟨k, ms, rfl, hk, hall, hSt, hsm, hrun, hms, g17⟩
  have g017 := g06.trans g17
  refine condD (fun hlt => ?_) (fun hge => ?_)
  · have hkl : k < b.length := by omega
    obtain ⟨a, ha⟩ : ∃ a, a = b[k] := ⟨_, rfl⟩
    have hTa : TermA a := ha ▸ okB _ (List.getElem_mem hkl)
    rw [List.drop_eq_getElem_cons hkl, ← ha, runM] at hrun
    have hnd := (hSt.step hTa hfp hfn).nodup
    have h8 : ∀ n ∈ stepM fs ms a, n.length = 8 := step_len8 (fun m hm => (hSt.dom m hm).1) hTa hfp
    have hsmN : ∀ n ∈ stepM fs ms a, Sm n := fun n hn => by
      unfold stepM at hn
      simp only [List.mem_flatMap, List.mem_filterMap] at hn
      obtain ⟨m, hm, f, hff, hfit⟩ := hn
      unfold fitA at hfit
      split at hfit
      · exact fitL_sm (hsm m hm) (hf99 f hff) hfit
      · cases hfit
    refine SlX.loc (hb.gr g017) rfl hkl rfl fun w23 u g23 s23 hu c0 c1 => ?_
    rw [← ha] at hu c0
    refine MapB.make (P := Try.prog) (k := 138) _ w23 fun w25 hw25 hm25 g25 s25 => ?_
    refine SlR.ln hall ⟨fun next t w' => ∃ (i : Nat) (N : List Vals), t = i ∧ i ≤ ms.length ∧ N = stepM fs (ms.take i) a ∧ N.length ≤ 20000 ∧ OwnV w' w25.heap.size next N ∧ MapS w' w23.heap.size N ∧ Fr (fun b => w23.heap.size ≤ b) w25 w', fun _ t _ => ms.length - t.toNat,
      ⟨0, [], rfl, by omega, by simp [stepM], by simp, Own.nil _ _ _ _, hm25, Fr.refl _ _⟩, ?_⟩
    rintro - next t w35 ⟨i, N, rfl, hi, hN, hN2, hown, hmap, hfr⟩
    have gF : ∀ {w'}, Fr (fun b => w23.heap.size ≤ b) w25 w' → Grow w23 w' := fun hf => g25.fr hf fun i hi e => by omega
    have g35 := gF hfr
    refine condD (fun hlt2 => ?_) (fun hge2 => ?_)
    · have hil : i < ms.length := by omega
      have h8i := (hSt.dom _ (List.getElem_mem hil)).1
      refine SlV.loc (SlR.grow hall (g23.trans g35)) rfl hil rfl fun w41 g41 s41 hC => ?_
      have hfr41 := hfr.trans (Fr.of_grow g41)
      have g041 : Grow w3 w41 := ((g6.trans g17).trans g23).trans (gF hfr41)
      refine SlX.ln (hF.gr g041) ⟨fun next t w' => ∃ (j : Nat) (N : List Vals), t = j ∧ j ≤ fs.length ∧ InI w25 w23.heap.size w35.heap.size fs ms a i j hil next w' N, fun _ t _ => fs.length - t.toNat,
        ⟨0, N, rfl, by omega, ⟨by simpa using hN, hN2, Own.grow hown g41, fun b hb e => by have := (Own.lt hown hb).2; omega, hmap.grow g41, hC, hfr41⟩⟩, ?_⟩
      rintro - next t w51 ⟨j, N, rfl, hj, hI⟩
      have g051 : Grow w3 w51 := ((g6.trans g17).trans g23).trans (gF hI.fr)
      have hCs : w25.heap.size ≤ w35.heap.size := hfr.size
      refine condD (fun hlt3 => ?_) (fun hge3 => ?_)
      · have hjl : j < fs.length := by omega
        refine SlX.loc (hF.gr g051) rfl hjl rfl fun w57 u2 g57 s57 hu2 d0 d1 => ?_
        have hfr57 := hI.fr.trans (Fr.of_grow g57)
        have k0 := (gF hfr57).cell c0
        have k1 := (gF hfr57).cell c1
        refine ⟨_, encV_len ms[i], (hI.rc.grow g57).all, [_, _], rfl, two k0 k1, [_, _], rfl, two d0 d1, (fits_c (m := ms[i]) h8i (hu.grow (gF hfr57)) hu2 hTa).mono ?_⟩
        rintro e w62 ⟨m', ok, rfl, g62, h8', hfit⟩
        refine ⟨_, _, rfl, fun w66 hw66 => RecV.init (cs := encV m') hw66 (by rw [encV_len]; rfl) (encV_one _) fun w67 g67 s67 hW => ?_⟩
        have g5767 := g62.trans g67
        have hfr67 := hfr57.trans (Fr.of_grow g5767)
        have hcs := g57.size
        have hs51 := hI.rc.lt
        cases ok with
        | false =>
          refine cT rfl ⟨by unfold inR; omega, ⟨j + 1, N, by omega, by omega, ⟨?_, hI.few, Own.grow hI.own (g57.trans g5767), hI.off, hI.map.grow (g57.trans g5767), hI.rc.grow (g57.trans g5767), hfr67⟩⟩, by dsimp only; omega⟩
          rw [fm_take hjl, show fitA ms[i] a fs[j] = none from hfit]
          simpa using hI.eq
        | true =>
          have hfit : fitA ms[i] a fs[j] = some m' := hfit
          obtain ⟨C, hC⟩ := step_split hil hjl hfit
          rw [← hI.eq] at hC
          have hmem : m' ∈ stepM fs ms a := by rw [hC]; simp
          have hnot : m' ∉ N := fun hin => by
            have h9 := hnd
            rw [hC] at h9
            exact (List.pairwise_append.1 h9).2.2 m' hin m' (List.mem_cons_self ..) rfl
          have hN8 : ∀ n ∈ N, n.length = 8 := fun n hn => h8 n (by rw [hC]; exact List.mem_append.2 (.inl hn))
          have hkn : keyV m' ∉ N.map keyV := fun hin => by
            obtain ⟨n, hn, e⟩ := List.mem_map.1 hin
            exact hnot (keyV_inj (hN8 n hn) h8' e ▸ hn)
          obtain ⟨kl, hkl'⟩ := keyV_of h8' (hsmN _ hmem)
          have hm67 := hI.map.grow (g57.trans g5767)
          have ho67 := Own.grow hI.own (g57.trans g5767)
          refine cF rfl ⟨_, encV_len m', hW.all, false, w67, hm67.no arr_key.law (t := 187) (et := 4) (i := Try.t4) (by kernel_rfl) (by kernel_rfl) (by kernel_rfl) hkl' hkn, cF rfl ?_⟩
          refine SlR.ln (OwnV.slV ho67) (condP_i (fun hfull => ?_) fun hroom => ?_)
          · have hfull : N.length = 20000 := by simp at hfull; omega
            refine ⟨g017.trans (g23.trans (gF hfr67)), .inr ⟨_, rfl, ?_⟩⟩
            unfold runF
            rw [← hfs, hrun, if_neg]
            rw [hC, List.length_append, List.length_cons]
            omega
          · have hroom : N.length ≠ 20000 := by simp at hroom; omega
            have hNf := hI.few
            obtain ⟨w76, hrun76, hm76, hf76⟩ := hm67.add arr_key.law (t := 187) (et := 4) (by kernel_rfl) hkl' hkn
            have hmblt := hm67.lt
            have hW76 : RecV w76 w62.heap.size (encV m') := hW.fr hf76 (by
              have := hI.map.lt
              have := g57.size
              have := g62.size
              omega)
            have hNone : ∀ {b : Nat}, next.ownBlock = some b → b ≠ w23.heap.size := fun {b} hb e => by have := (Own.lt hI.own hb).1; omega
            refine ⟨_, encV_len m', hW.all, w76, hrun76, _, encV_len m', hW76.all, bs1 el_vals (by omega) (by omega) (cs := (encV m').toArray) (by simp [encV_len]) w76 fun w78 hw78 => ?_⟩
            have g78 := alloc_grow hw78
            have hs76 := hf76.size
            have ho76 : OwnV w76 w25.heap.size next N := Own.fr ho67 hf76 fun b hb e => hNone hb e
            refine pappRk el_vals (by omega) encV_len encV_one hw78 ho76 (by have := hfr67.size; omega) (by omega) (by omega) ?_
            intro v2 w81 ho2 hf2 hbl
            refine ⟨by unfold inR; omega, ⟨j + 1, N ++ [m'], by omega, by omega, ⟨?_, by simp; omega, ho2, fun b hb e => ?_, ?_, ?_, ?_⟩⟩, by dsimp only; omega⟩
            · rw [fm_take hjl, hfit, ← List.append_assoc, ← hI.eq]
            · rcases hbl b hb with h | h
              · exact hI.off b h.symm e
              · have := hfr67.size
                have := g5767.size
                omega
            · unfold MapS; rw [List.map_append]
              exact (hm76.grow g78).fr hf2 fun e => hNone e.symm rfl
            · exact (((hI.rc.grow (g57.trans g5767)).fr hf76 (by omega)).grow g78).fr hf2 fun e => hI.off _ e.symm rfl
            · refine hfr67.trans ((hf76.mono fun b _ e => by omega).trans ((Fr.of_grow g78).trans (hf2.mono fun b _ e => ?_)))
              have := (Own.lt hI.own e.symm).1
              omega
      · have hjl : j = fs.length := by omega
        subst hjl
        refine ⟨by unfold inR; omega, ⟨i + 1, N, by omega, by omega, ?_, hI.few, hI.own, hI.map, hI.fr⟩, by dsimp only; omega⟩
        rw [hI.eq, List.take_length, step_take hil]
    · have hil : i = ms.length := by omega
      subst hil
      rw [List.take_length] at hN
      subst hN
      refine ⟨by unfold inR; omega, ⟨k + 1, _, by omega, by omega, OwnV.slV hown, ?_, hsmN, ?_, hN2, ((g17.trans g23).trans g35)⟩, by dsimp only; omega⟩
      · rw [List.take_succ_eq_append_getElem hkl, ← ha]
        exact hSt.step hTa hfp hfn
      · rw [hrun, if_pos hN2]
  · have hkl : k = b.length := by omega
    subst hkl
    rw [List.drop_length] at hrun
    refine ⟨g017, .inl ⟨all, ms, rfl, ?_, hall⟩⟩
    unfold runF
    rw [← hfs, hrun, runM]
end Go.Proofs.Ytleiddajojgmmaa
