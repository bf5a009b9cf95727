/- Contracts: the copies that the statements make of queries and facts. No condition. -/
import Derived.Test.YtleiddajojgmmaaMc
import Derived.Test.YtleiddajojgmmaaVw
import Derived.Shelf.SlSortCmp.Insertion
import Derived.Test.YtleiddajojgmmaaSh
import Derived.Laws.BitsLemmas
namespace Go.Proofs.Ytleiddajojgmmaa
open Go Go.RowKit VC
set_option linter.unusedSimpArgs false
set_option linter.unusedVariables false

def trA (a : Atm) : Atm := (a.1, a.2.take 9)
def trF (l : List Atm) : List Atm := (l.take 26).map trA
theorem el_fact : ElT Try.prog 23 33 2 32 (.agg #[.int .i64 0, .slice none 0 0]) := ⟨by kernel_rfl, ⟨Try.t33, by kernel_rfl, by kernel_rfl, by kernel_rfl, by kernel_rfl⟩, rfl⟩
abbrev OwnF (w : World) (B : Nat) (v : Value) (l : List Atm) : Prop := OwnX (fun b => b < B) 2 repA w B 33 v l
abbrev OwnA (w : World) (B : Nat) (v : Value) (l : List Atm) : Prop := OwnX (fun b => b < B) 2 repA w B 41 v l
/-- A record of an int and of a slice of the call's own that is newer than out's array. -/
theorem elx_own {T : Nat → Prop} {w : World} {B : Nat} {r : Int} {v out : Value} {xs : List Int} (ho : OwnI w B v xs) (hT : ∀ b, T b → b < B) (hout : ∀ b, out.ownBlock = some b → b < B) : ElX T 2 repA out w ([.int .i64 r, v], (r, xs)) := by
  refine ⟨rfl, ?_, fun w' hf => ⟨v, rfl, (Own.fr ho hf fun k hk e => ?_).slI⟩⟩
  · intro u hu
    simp at hu
    rcases hu with rfl | rfl
    · rfl
    · exact (Own.one ho).2
  · have h2 := (Own.lt ho hk).1
    rcases e with e | e
    · have := hT k e; omega
    · have h1 := hout k e.symm
      omega
theorem few_c {w : World} {v : Value} {xs : List Int} (hs : SlI w v xs) : Calls Try.prog 28 #[v] w fun e w' => ∃ v', e = .returned v' ∧ OwnI w' w.heap.size v' (xs.take 9) ∧ Grow w w' := by
  refine f28_calls _ ?_
  have hle := hs.len_le
  have e : (if 9 < (xs.length : Int) then (9 : Int) else xs.length) = ((min 9 xs.length : Nat) : Int) := by split <;> omega
  refine hs.ln ?_
  rw [e]
  have e2 : xs.take (min 9 xs.length) = xs.take 9 := by
    rcases Nat.lt_or_ge 9 xs.length with h | h
    · rw [Nat.min_eq_left (by omega)]
    · rw [Nat.min_eq_right h, List.take_length, List.take_of_length_le h]
  obtain ⟨a, n, c, e1, l, h, m, h2, hv'⟩ := hs.upto (i := min 9 xs.length) (k := .i64) (K := fun x => SlI w x (xs.take 9)) rfl (by omega) fun v' hv' => by rwa [e2] at hv'
  refine ⟨a, n, c, e1, l, h, m, h2, (clone_c hv' (by simp; omega)).mono ?_⟩
  rintro e w1 ⟨u, rfl, ho, g1⟩
  exact ⟨u, rfl, u, rfl, ho, g1⟩
theorem trF_succ {l : List Atm} {k : Nat} (hk : k < l.length) : (l.take (k + 1)).map trA = (l.take k).map trA ++ [trA l[k]] := by rw [List.take_succ_eq_append_getElem hk, List.map_append]; rfl
theorem facts_c {w : World} {v : Value} {l : List Atm} (hs : SlA w v l) : Calls Try.prog 10 #[v] w fun e w' => ∃ v', e = .returned v' ∧ OwnF w' w.heap.size v' (trF l) ∧ Grow w w' := by
  refine f10_calls _ ?_
  have hle := SlX.len_le hs
  refine SlX.ln hs ⟨fun out t w' => ∃ k : Nat, t = k ∧ k ≤ l.length ∧ k ≤ 26 ∧ OwnF w' w.heap.size out ((l.take k).map trA) ∧ Grow w w', fun _ t _ => l.length - t.toNat, ⟨0, rfl, by omega, by omega, OwnX.nil _ _ _, Grow.refl w⟩, ?_⟩
  rintro - out t w9 ⟨k, rfl, hk, hk26, hout, g9⟩
  refine condD (fun hlt => ?_) (fun hge => ?_)
  · have hkl : k < l.length := by omega
    refine SlX.loc (hs.gr g9) rfl hkl rfl fun w15 u g15 _ hu c0 c1 => ?_
    have g015 := g9.trans g15
    refine condD (fun h25 => ⟨out, rfl, ?_, g015⟩) fun h25 m => ?_
    · have : k = 26 := by omega
      subst this
      exact hout.grow g15
    · have hbl : ∀ b, out.ownBlock = some b → b < w15.heap.size := fun b hb => by
        have := (hout.lt hb).2
        have := g15.size
        omega
      have gD : Grow w9 (dr w15 m) := g15.dr m
      have leaf : ∀ {E v'}, OwnI E (dr w15 m).heap.size v' ((l[k]).2.take 9) → Grow (dr w15 m) E → oneV v' ∧ ∃ t : Value, ∃ w' : World, (Instr.buildSlice 23 1 #[(0, .agg #[.int .i64 (l[k]).1, v'])]).run Try.prog E = .ok t w' ∧
          PApp Try.prog 23 23 out t w' fun v2 w2 => inR ((k : Int) + 1) ∧ ((∃ k' : Nat, (k : Int) + 1 = k' ∧ k' ≤ l.length ∧ k' ≤ 26 ∧ OwnF w2 w.heap.size v2 ((l.take k').map trA) ∧ Grow w w2) ∧ l.length - Int.toNat ((k : Int) + 1) < l.length - Int.toNat (k : Int)) := fun {E v'} ho gE => by
        have g9E := gD.trans gE
        refine ⟨Own.one ho, bs1 el_fact (by omega) (by omega) (cs := #[.int .i64 (l[k]).1, v']) rfl E fun w' hw' => ?_⟩
        refine pappX1 el_fact (by omega) (cs := [.int .i64 (l[k]).1, v']) (y := trA l[k]) (hout.grow g9E) hw' (elx_own ho (fun b hb => by have := g9.size; have := g15.size; show b < w15.heap.size; omega) hbl) (by have := g9.size; have := g9E.size; omega) (by simp; omega) (by omega) ?_
        intro v2 w2 ho2 hf2 _ _
        refine ⟨by unfold inR; omega, ⟨k + 1, by omega, by omega, by omega, by rw [trF_succ hkl]; exact ho2, ?_⟩, by omega⟩
        exact ((g9.trans g9E).trans (alloc_grow hw')).fr hf2 fun i hi e => by
          have := (hout.lt e.symm).1
          omega
      have call : ∀ {Q : Ending → World → Prop}, (∀ v' E, OwnI E (dr w15 m).heap.size v' ((l[k]).2.take 9) → Grow (dr w15 m) E → Q (.returned v') E) → Calls Try.prog 28 #[u] (dr w15 m) Q := fun h => (few_c (hu.dr m)).mono (by
        rintro e E ⟨v', rfl, ho, gE⟩
        exact h v' E ho gE)
      refine ⟨⟨_, c0, _, c1, call fun v' E ho gE => ⟨v', rfl, leaf ho gE⟩⟩, ⟨_, c1, ⟨_, c0, call fun v' E ho gE => ⟨v', rfl, leaf ho gE⟩⟩, call fun v' E ho gE => ⟨v', rfl, _, gE.cell c0, leaf ho gE⟩⟩⟩
  · have hkl : k = l.length := by omega
    subst hkl
    refine ⟨out, rfl, ?_, g9⟩
    unfold trF
    rw [List.take_of_length_le hk26]
    rwa [List.take_length] at hout
theorem OwnA.mono {w : World} {B B' : Nat} {v : Value} {l : List Atm} (h : OwnA w B v l) (hB : B' ≤ B) : OwnA w B' v l := (OwnX.base h hB).weaken fun b hb => Nat.lt_of_lt_of_le hb hB
theorem OwnF.mono {w : World} {B B' : Nat} {v : Value} {l : List Atm} (h : OwnF w B v l) (hB : B' ≤ B) : OwnF w B' v l := (OwnX.base h hB).weaken fun b hb => Nat.lt_of_lt_of_le hb hB
end Go.Proofs.Ytleiddajojgmmaa

/- The order of facts, and the function that compares them: what it leaves behind is told exactly, as sorting asks. No condition. -/
namespace Go.Proofs.Ytleiddajojgmmaa
open Go Go.RowKit VC
set_option linter.unusedSimpArgs false
set_option linter.unusedVariables false

/-! ## The order -/
theorem cmpI_zero {x y : Int} : cmpI x y = 0 ↔ x = y := by unfold cmpI; split <;> (try split) <;> omega
theorem cmpI_swap (x y : Int) : cmpI y x = - cmpI x y := by unfold cmpI; split <;> split <;> (try split) <;> omega
theorem cmpL_zero : ∀ {xs ys : List Int}, cmpL xs ys = 0 ↔ xs = ys
  | [], [] => by simp [cmpL]
  | [], _ :: _ => by simp [cmpL]
  | _ :: _, [] => by simp [cmpL]
  | x :: r, y :: s => by
    rw [cmpL]
    by_cases h : cmpI x y = 0
    · rw [if_pos h, cmpL_zero, cmpI_zero.1 h]; simp
    · rw [if_neg h]
      have : ¬ x = y := fun e => h (cmpI_zero.2 e)
      simp [h, this]
theorem cmpL_swap : ∀ (xs ys : List Int), cmpL ys xs = - cmpL xs ys
  | [], [] => rfl
  | [], _ :: _ => rfl
  | _ :: _, [] => rfl
  | x :: r, y :: s => by
    rw [cmpL, cmpL, cmpI_swap x y]
    by_cases h : cmpI x y = 0
    · rw [if_pos h, if_pos (by omega), cmpL_swap r s]
    · rw [if_neg h, if_neg (by omega)]
theorem cmpI_trans {x y z : Int} (h1 : cmpI x y ≤ 0) (h2 : cmpI y z ≤ 0) : cmpI x z ≤ 0 ∧ (cmpI x z = 0 → cmpI x y = 0 ∧ cmpI y z = 0) := by
  unfold cmpI at *
  refine ⟨?_, ?_⟩
  · repeat' split
    all_goals (try split at h1) <;> (try split at h2) <;> (try split at h1) <;> (try split at h2) <;> omega
  · repeat' split
    all_goals (try split at h1) <;> (try split at h2) <;> (try split at h1) <;> (try split at h2) <;> omega
theorem cmpL_trans : ∀ {xs ys zs : List Int}, cmpL xs ys ≤ 0 → cmpL ys zs ≤ 0 → cmpL xs zs ≤ 0
  | [], [], zs, _, h2 => h2
  | [], _ :: _, [], _, h2 => by simp [cmpL] at h2
  | [], _ :: _, _ :: _, _, _ => by simp [cmpL]
  | _ :: _, [], _, h1, _ => by simp [cmpL] at h1
  | _ :: _, _ :: _, [], _, h2 => by simp [cmpL] at h2
  | x :: r, y :: s, z :: t, h1, h2 => by
    rw [cmpL] at *
    have hx : cmpI x y ≤ 0 := by
      by_cases h : cmpI x y = 0
      · omega
      · rw [if_neg h] at h1; exact h1
    have hy : cmpI y z ≤ 0 := by
      by_cases h : cmpI y z = 0
      · omega
      · rw [if_neg h] at h2; exact h2
    obtain ⟨h3, h4⟩ := cmpI_trans hx hy
    by_cases h : cmpI x z = 0
    · obtain ⟨h5, h6⟩ := h4 h
      rw [if_pos h5] at h1
      rw [if_pos h6] at h2
      rw [if_pos h]
      exact cmpL_trans h1 h2
    · rw [if_neg h]; exact h3
def keyA (a : Atm) : List Int := a.1 :: a.2
theorem keyA_inj {a b : Atm} (h : keyA a = keyA b) : a = b := by
  obtain ⟨r, l⟩ := a
  obtain ⟨s, m⟩ := b
  simp [keyA] at h
  rw [h.1, h.2]
/-! ## What is left behind -/
end Go.Proofs.Ytleiddajojgmmaa

/- Plain: rising lists, each once; matches of a query. No program. No condition. -/
namespace Go.Proofs.Ytleiddajojgmmaa
set_option linter.unusedSimpArgs false
set_option linter.unusedVariables false

/-! ## Rising lists -/
theorem cmpL_lt_trans {a b c : List Int} (h1 : cmpL a b < 0) (h2 : cmpL b c < 0) : cmpL a c < 0 := by
  have h3 := cmpL_trans (xs := a) (ys := b) (zs := c) (by omega) (by omega)
  refine Classical.byContradiction fun hn => ?_
  have h4 : cmpL a c = 0 := by omega
  rw [cmpL_zero.1 h4] at h1
  have := cmpL_swap c b
  omega
section
variable {α : Type} (key : α → List Int)
/-- Put into a rising list. -/
def insK (x : α) : List α → List α
  | [] => [x]
  | y :: r => if cmpL (key y) (key x) < 0 then y :: insK x r else if key y = key x then y :: r else x :: y :: r
def srtK (l : List α) : List α := l.foldl (fun acc x => insK key x acc) []
def StrK (l : List α) : Prop := l.Pairwise fun a b => cmpL (key a) (key b) < 0
variable {key}
theorem mem_insK (hi : ∀ a b, key a = key b → a = b) {x z : α} : ∀ {l : List α}, z ∈ insK key x l ↔ z = x ∨ z ∈ l
  | [] => by simp [insK]
  | y :: r => by
    rw [insK]
    split
    · rw [List.mem_cons, mem_insK hi, List.mem_cons]
      constructor
      · rintro (h | h | h)
        · exact .inr (.inl h)
        · exact .inl h
        · exact .inr (.inr h)
      · rintro (h | h | h)
        · exact .inr (.inl h)
        · exact .inl h
        · exact .inr (.inr h)
    · split
      · rename_i h1 h2
        have := hi _ _ h2
        subst this
        simp
      · simp
theorem str_insK (hi : ∀ a b, key a = key b → a = b) {x : α} : ∀ {l : List α}, StrK key l → StrK key (insK key x l)
  | [], _ => List.pairwise_singleton _ _
  | y :: r, h => by
    have h0 := h
    obtain ⟨h1, h2⟩ := List.pairwise_cons.1 h
    rw [insK]
    split
    · rename_i hlt
      refine List.pairwise_cons.2 ⟨fun z hz => ?_, str_insK hi h2⟩
      rcases (mem_insK hi).1 hz with rfl | hz
      · exact hlt
      · exact h1 z hz
    · split
      · exact h0
      · rename_i hn hne
        have hlt : cmpL (key x) (key y) < 0 := by
          have e := cmpL_swap (key x) (key y)
          have : cmpL (key y) (key x) ≠ 0 := fun e => hne (cmpL_zero.1 e)
          omega
        refine List.pairwise_cons.2 ⟨fun z hz => ?_, h0⟩
        rcases List.mem_cons.1 hz with rfl | hz
        · exact hlt
        · exact cmpL_lt_trans hlt (h1 z hz)
theorem srt_go (hi : ∀ a b, key a = key b → a = b) : ∀ (l acc : List α), StrK key acc → StrK key (l.foldl (fun acc x => insK key x acc) acc) ∧ ∀ z, z ∈ l.foldl (fun acc x => insK key x acc) acc ↔ z ∈ l ∨ z ∈ acc
  | [], acc, h => ⟨h, fun z => by simp⟩
  | x :: r, acc, h => by
    obtain ⟨h1, h2⟩ := srt_go hi r (insK key x acc) (str_insK hi h)
    refine ⟨h1, fun z => (h2 z).trans ?_⟩
    rw [mem_insK hi, List.mem_cons]
    constructor
    · rintro (h | h | h)
      · exact .inl (.inr h)
      · exact .inl (.inl h)
      · exact .inr h
    · rintro ((h | h) | h)
      · exact .inr (.inl h)
      · exact .inl h
      · exact .inr (.inr h)
theorem mem_srt (hi : ∀ a b, key a = key b → a = b) {l : List α} {z : α} : z ∈ srtK key l ↔ z ∈ l := ((srt_go hi l [] List.Pairwise.nil).2 z).trans (by simp)
end
theorem key_id : ∀ a b : List Int, id a = id b → a = b := fun _ _ h => h
theorem key_A : ∀ a b : Atm, keyA a = keyA b → a = b := fun _ _ h => keyA_inj h
abbrev srtL (l : List (List Int)) : List (List Int) := srtK id l
abbrev srtF (l : List Atm) : List Atm := srtK keyA l
/-! ## Values, and what fits -/
abbrev Vals := List Int
def ofV (m : Vals) (x : Int) : Int := if x < 0 then -x else m.getD x.toNat 0
def imgA (m : Vals) (a : Atm) : Atm := (a.1, a.2.map (ofV m))
def fitL : Vals → List Int → List Int → Option Vals
  | m, [], [] => some m
  | m, x :: xs, y :: ys => if ofV m x = 0 then fitL (m.set x.toNat y) xs ys else if ofV m x = y then fitL m xs ys else none
  | _, _, _ => none
def fitA (m : Vals) (a f : Atm) : Option Vals := if a.1 = f.1 then fitL m a.2 f.2 else none
def stepM (fs : List Atm) (ms : List Vals) (a : Atm) : List Vals := ms.flatMap fun m => fs.filterMap (fitA m a)
def zeroV : Vals := [0, 0, 0, 0, 0, 0, 0, 0]
def allM (fs b : List Atm) : List Vals := b.foldl (stepM fs) [zeroV]
/-- n knows what m knows, and the variables of xs. -/
structure Ext (m n : Vals) (xs : List Int) : Prop where
  len : n.length = 8
  dom : ∀ i, i < 8 → (n.getD i 0 ≠ 0 ↔ m.getD i 0 ≠ 0 ∨ (i : Int) ∈ xs)
  old : ∀ i, i < 8 → m.getD i 0 ≠ 0 → n.getD i 0 = m.getD i 0
theorem vals_ext {m n : Vals} (h1 : m.length = 8) (h2 : n.length = 8) (h : ∀ i, i < 8 → m.getD i 0 = n.getD i 0) : m = n := by
  apply List.ext_getElem (by omega)
  intro i hi hj
  have := h i (by omega)
  simpa [List.getD, hi, hj] using this
theorem Ext.nil {m n : Vals} (h : m.length = 8) : Ext m n [] ↔ n = m := by
  constructor
  · intro hE
    refine vals_ext hE.len h fun i hi => ?_
    by_cases h0 : m.getD i 0 = 0
    · have := hE.dom i hi
      simp only [h0] at this ⊢
      simpa using this
    · exact hE.old i hi h0
  · rintro rfl
    exact ⟨h, fun i _ => by simp, fun i _ _ => rfl⟩
theorem ofV_ext {m n : Vals} {xs : List Int} (h : Ext m n xs) {x : Int} (hx : x ≤ 7) (hk : ofV m x ≠ 0) : ofV n x = ofV m x := by
  unfold ofV at *
  split
  · rfl
  · rename_i h0
    rw [if_neg h0] at hk
    exact h.old _ (by omega) hk
theorem getD_set (m : Vals) {k i : Nat} (hk : k < m.length) (y : Int) : (m.set k y).getD i 0 = if i = k then y else m.getD i 0 := by
  simp only [List.getD, List.getElem?_set]
  by_cases h : k = i
  · subst h; simp [hk]
  · rw [if_neg h, if_neg (fun e => h e.symm)]
theorem fitL_iff : ∀ {xs ys : List Int} {m n : Vals}, m.length = 8 → (∀ x ∈ xs, -9 ≤ x ∧ x ≤ 7) → (∀ y ∈ ys, (1 : Int) ≤ y) → (fitL m xs ys = some n ↔ Ext m n xs ∧ xs.map (ofV n) = ys)
  | [], [], m, n, h8, _, _ => by
    rw [fitL, Ext.nil h8]
    simp [eq_comm]
  | [], y :: ys, m, n, h8, _, _ => by simp [fitL]
  | x :: xs, [], m, n, h8, _, _ => by simp [fitL]
  | x :: xs, y :: ys, m, n, h8, hx, hy => by
    have hx0 := hx x (List.mem_cons_self ..)
    have hy0 := hy y (List.mem_cons_self ..)
    have hxr := fun z hz => hx z (List.mem_cons_of_mem _ hz)
    have hyr := fun z hz => hy z (List.mem_cons_of_mem _ hz)
    rw [fitL]
    split
    · rename_i h0
      have hn : 0 ≤ x := by
        refine Classical.byContradiction fun hn => ?_
        unfold ofV at h0
        rw [if_pos (by omega)] at h0
        omega
      obtain ⟨k, rfl⟩ : ∃ k : Nat, x = k := ⟨x.toNat, by omega⟩
      have hk : k < 8 := by omega
      have hm0 : m.getD k 0 = 0 := by
        unfold ofV at h0
        rw [if_neg (by omega), Int.toNat_natCast] at h0
        exact h0
      rw [Int.toNat_natCast, fitL_iff (by simp [h8]) hxr hyr]
      have gs : ∀ i, (m.set k y).getD i 0 = if i = k then y else m.getD i 0 := fun i => getD_set m (by omega) y
      have key : Ext (m.set k y) n xs ↔ Ext m n (↑k :: xs) ∧ ofV n k = y := by
        have eo : ofV n (k : Int) = n.getD k 0 := by unfold ofV; rw [if_neg (by omega), Int.toNat_natCast]
        rw [eo]
        constructor
        · intro hE
          refine ⟨⟨hE.len, fun i hi => ?_, fun i hi h => ?_⟩, ?_⟩
          · rw [hE.dom i hi, gs i, List.mem_cons]
            by_cases e : i = k
            · subst e
              simp; omega
            · rw [if_neg e]
              constructor
              · rintro (h | h)
                · exact .inl h
                · exact .inr (.inr h)
              · rintro (h | h | h)
                · exact .inl h
                · omega
                · exact .inr h
          · have hne : i ≠ k := fun e => h (e ▸ hm0)
            have := hE.old i hi (by rw [gs, if_neg hne]; exact h)
            rwa [gs, if_neg hne] at this
          · have := hE.old k hk (by rw [gs, if_pos rfl]; omega)
            rwa [gs, if_pos rfl] at this
        · rintro ⟨hE, e⟩
          refine ⟨hE.len, fun i hi => ?_, fun i hi h => ?_⟩
          · rw [hE.dom i hi, gs i, List.mem_cons]
            by_cases e : i = k
            · subst e
              simp; omega
            · rw [if_neg e]
              constructor
              · rintro (h | h | h)
                · exact .inl h
                · omega
                · exact .inr h
              · rintro (h | h)
                · exact .inl h
                · exact .inr (.inr h)
          · rw [gs] at h ⊢
            by_cases e2 : i = k
            · subst e2; rw [if_pos rfl]; exact e
            · rw [if_neg e2] at h ⊢
              exact hE.old i hi h
      rw [key, List.map_cons, List.cons.injEq]
      exact ⟨fun ⟨⟨a, b⟩, c⟩ => ⟨a, b, c⟩, fun ⟨a, b, c⟩ => ⟨⟨a, b⟩, c⟩⟩
    · rename_i h0
      have kn : ∀ i : Nat, x = i → m.getD i 0 ≠ 0 := by
        rintro i rfl
        unfold ofV at h0
        rwa [if_neg (by omega), Int.toNat_natCast] at h0
      have key : Ext m n xs ↔ Ext m n (x :: xs) := by
        constructor
        · intro hE
          refine ⟨hE.len, fun i hi => (hE.dom i hi).trans ?_, hE.old⟩
          rw [List.mem_cons]
          constructor
          · rintro (h | h)
            · exact .inl h
            · exact .inr (.inr h)
          · rintro (h | h | h)
            · exact .inl h
            · exact .inl (kn i h.symm)
            · exact .inr h
        · intro hE
          refine ⟨hE.len, fun i hi => (hE.dom i hi).trans ?_, hE.old⟩
          rw [List.mem_cons]
          constructor
          · rintro (h | h | h)
            · exact .inl h
            · exact .inl (kn i h.symm)
            · exact .inr h
          · rintro (h | h)
            · exact .inl h
            · exact .inr (.inr h)
      split
      · rename_i h1
        rw [fitL_iff h8 hxr hyr, ← key, List.map_cons, List.cons.injEq]
        constructor
        · rintro ⟨a, b⟩
          exact ⟨a, (ofV_ext a hx0.2 h0).trans h1, b⟩
        · rintro ⟨a, b, c⟩
          exact ⟨a, c⟩
      · rename_i h1
        constructor
        · intro h; cases h
        · rintro ⟨a, b⟩
          rw [List.map_cons, List.cons.injEq] at b
          exact absurd ((ofV_ext a hx0.2 h0).symm.trans b.1) h1
/-- Facts: whose arguments are above zero. -/
def PosF (fs : List Atm) : Prop := ∀ f ∈ fs, ∀ y ∈ f.2, (1 : Int) ≤ y
def TermA (a : Atm) : Prop := ∀ x ∈ a.2, -9 ≤ x ∧ x ≤ 7
theorem fitA_iff {m n : Vals} {a f : Atm} (h8 : m.length = 8) (ha : TermA a) (hf : ∀ y ∈ f.2, (1 : Int) ≤ y) : fitA m a f = some n ↔ Ext m n a.2 ∧ imgA n a = f := by
  unfold fitA
  split
  · rename_i h
    rw [fitL_iff h8 ha hf]
    obtain ⟨r, ys⟩ := f
    constructor
    · rintro ⟨h1, h2⟩
      exact ⟨h1, by unfold imgA; rw [h2, h]⟩
    · rintro ⟨h1, h2⟩
      exact ⟨h1, by unfold imgA at h2; simp only [Prod.mk.injEq] at h2; exact h2.2⟩
  · rename_i h
    constructor
    · intro h; cases h
    · rintro ⟨h1, h2⟩
      exact absurd (by rw [← h2]; rfl) h
theorem mem_step {fs : List Atm} {ms : List Vals} {a : Atm} {n : Vals} (h8 : ∀ m ∈ ms, m.length = 8) (ha : TermA a) (hf : PosF fs) : n ∈ stepM fs ms a ↔ (∃ m ∈ ms, Ext m n a.2) ∧ imgA n a ∈ fs := by
  unfold stepM
  simp only [List.mem_flatMap, List.mem_filterMap]
  constructor
  · rintro ⟨m, hm, f, hff, h⟩
    obtain ⟨h1, h2⟩ := (fitA_iff (h8 m hm) ha (hf f hff)).1 h
    exact ⟨⟨m, hm, h1⟩, h2 ▸ hff⟩
  · rintro ⟨⟨m, hm, h1⟩, h2⟩
    exact ⟨m, hm, _, h2, (fitA_iff (h8 m hm) ha (hf _ h2)).2 ⟨h1, rfl⟩⟩
theorem step_len8 {fs : List Atm} {ms : List Vals} {a : Atm} (h8 : ∀ m ∈ ms, m.length = 8) (ha : TermA a) (hf : PosF fs) : ∀ n ∈ stepM fs ms a, n.length = 8 := fun n hn => by
  obtain ⟨⟨m, _, h⟩, _⟩ := (mem_step h8 ha hf).1 hn
  exact h.len
theorem img_ext {m n : Vals} {xs : List Int} {a : Atm} (h : Ext m n xs) (ha : TermA a) (hk : ∀ x ∈ a.2, 0 ≤ x → m.getD x.toNat 0 ≠ 0) : imgA n a = imgA m a := by
  unfold imgA
  congr 1
  refine List.map_congr_left fun x hx => ?_
  by_cases h0 : x < 0
  · simp [ofV, h0]
  · refine ofV_ext h (ha x hx).2 ?_
    unfold ofV
    rw [if_neg h0]
    exact hk x hx (by omega)
theorem mem_fold {fs : List Atm} (hf : PosF fs) : ∀ {b : List Atm} {ms : List Vals} {n : Vals}, (∀ m ∈ ms, m.length = 8) → (∀ a ∈ b, TermA a) → (n ∈ b.foldl (stepM fs) ms ↔ (∃ m ∈ ms, Ext m n (b.flatMap Prod.snd)) ∧ ∀ a ∈ b, imgA n a ∈ fs)
  | [], ms, n, h8, _ => by
    simp only [List.foldl_nil, List.flatMap_nil]
    constructor
    · intro h; exact ⟨⟨n, h, (Ext.nil (h8 n h)).2 rfl⟩, by simp⟩
    · rintro ⟨⟨m, hm, h⟩, _⟩
      rw [(Ext.nil (h8 m hm)).1 h]; exact hm
  | a :: r, ms, n, h8, hb => by
    have ha := hb a (List.mem_cons_self ..)
    have hr := fun x hx => hb x (List.mem_cons_of_mem _ hx)
    rw [List.foldl_cons, mem_fold hf (step_len8 h8 ha hf) hr]
    constructor
    · rintro ⟨⟨m1, hm1, h1⟩, h2⟩
      obtain ⟨⟨m, hm, h3⟩, h4⟩ := (mem_step h8 ha hf).1 hm1
      have hkn : ∀ x ∈ a.2, 0 ≤ x → m1.getD x.toNat 0 ≠ 0 := fun x hx h0 => by
        have hx7 := ha x hx
        refine (h3.dom x.toNat (by omega)).2 (.inr ?_)
        rwa [Int.toNat_of_nonneg h0]
      refine ⟨⟨m, hm, h1.len, fun i hi => ?_, fun i hi h => ?_⟩, fun x hx => ?_⟩
      · rw [h1.dom i hi, h3.dom i hi, List.flatMap_cons, List.mem_append]
        exact or_assoc
      · have e1 := h3.old i hi h
        rw [h1.old i hi (by rw [e1]; exact h), e1]
      · rcases List.mem_cons.1 hx with rfl | hx
        · rw [img_ext h1 ha hkn]; exact h4
        · exact h2 x hx
    · rintro ⟨⟨m, hm, h1⟩, h2⟩
      obtain ⟨m1, hm1⟩ : ∃ m1, m1 = (List.range 8).map (fun i => if m.getD i 0 ≠ 0 ∨ (i : Int) ∈ a.2 then n.getD i 0 else 0) := ⟨_, rfl⟩
      have g1 : ∀ i, i < 8 → m1.getD i 0 = if m.getD i 0 ≠ 0 ∨ (i : Int) ∈ a.2 then n.getD i 0 else 0 := fun i hi => by
        rw [hm1]; simp only [List.getD, List.getElem?_map, List.getElem?_range hi, Option.map_some, Option.getD_some]
      have l1 : m1.length = 8 := by rw [hm1]; simp
      have hn : ∀ i, i < 8 → (m.getD i 0 ≠ 0 ∨ (i : Int) ∈ a.2) → n.getD i 0 ≠ 0 := fun i hi h => by
        refine (h1.dom i hi).2 ?_
        rw [List.flatMap_cons, List.mem_append]
        rcases h with h | h
        · exact .inl h
        · exact .inr (.inl h)
      have hE : Ext m m1 a.2 := by
        refine ⟨l1, fun i hi => ?_, fun i hi h => ?_⟩
        · rw [g1 i hi]
          split
          · rename_i h; exact ⟨fun _ => h, fun _ => hn i hi h⟩
          · rename_i h; exact ⟨fun h0 => absurd rfl h0, fun h0 => absurd h0 h⟩
        · rw [g1 i hi, if_pos (.inl h)]
          exact h1.old i hi h
      have hE2 : Ext m1 n (r.flatMap Prod.snd) := by
        refine ⟨h1.len, fun i hi => ?_, fun i hi h => ?_⟩
        · rw [h1.dom i hi, hE.dom i hi, List.flatMap_cons, List.mem_append]
          exact or_assoc.symm
        · have := (hE.dom i hi).1 h
          rw [g1 i hi, if_pos this]
      have hkn : ∀ x ∈ a.2, 0 ≤ x → m1.getD x.toNat 0 ≠ 0 := fun x hx h0 => by
        have hx7 := ha x hx
        refine (hE.dom x.toNat (by omega)).2 (.inr ?_)
        rwa [Int.toNat_of_nonneg h0]
      refine ⟨⟨m1, (mem_step h8 ha hf).2 ⟨⟨m, hm, hE⟩, ?_⟩, hE2⟩, fun x hx => h2 x (List.mem_cons_of_mem _ hx)⟩
      rw [← img_ext hE2 ha hkn]
      exact h2 a (List.mem_cons_self ..)
/-- A match of a body: eight numbers, 0 where the variable does not occur. -/
structure IsM (fs b : List Atm) (m : Vals) : Prop where
  len : m.length = 8
  dom : ∀ i, i < 8 → (m.getD i 0 ≠ 0 ↔ (i : Int) ∈ b.flatMap Prod.snd)
  hit : ∀ a ∈ b, imgA m a ∈ fs
theorem zero_get (i : Nat) : zeroV.getD i 0 = 0 := by
  rcases Nat.lt_or_ge i 8 with h | h
  · rcases i with _ | _ | _ | _ | _ | _ | _ | _ | i <;> first | rfl | omega
  · simp [zeroV, List.getD, h]
theorem mem_allM {fs b : List Atm} (hf : PosF fs) (hb : ∀ a ∈ b, TermA a) {m : Vals} : m ∈ allM fs b ↔ IsM fs b m := by
  unfold allM
  rw [mem_fold hf (by intro m hm; simp at hm; subst hm; rfl) hb]
  constructor
  · rintro ⟨⟨m0, hm0, h⟩, h2⟩
    have : m0 = zeroV := by simpa using hm0
    subst this
    exact ⟨h.len, fun i hi => (h.dom i hi).trans (by rw [zero_get]; simp), h2⟩
  · intro h
    exact ⟨⟨zeroV, by simp, h.len, fun i hi => (h.dom i hi).trans (by rw [zero_get]; simp), fun i hi h0 => absurd (zero_get i) h0⟩, h.hit⟩
/-! ## No match comes twice -/
theorem step_nodup {fs : List Atm} {ms : List Vals} {a : Atm} (D : Nat → Prop) (h8 : ∀ m ∈ ms, m.length = 8 ∧ ∀ i, i < 8 → (m.getD i 0 ≠ 0 ↔ D i)) (hms : ms.Nodup) (ha : TermA a) (hf : PosF fs) (hfs : fs.Nodup) : (stepM fs ms a).Nodup := by
  unfold stepM
  have inner : ∀ m, m.length = 8 → (fs.filterMap (fitA m a)).Nodup := fun m hm => by
    have : ∀ (l : List Atm), (∀ f ∈ l, f ∈ fs) → l.Nodup → (l.filterMap (fitA m a)).Nodup := by
      intro l
      induction l with
      | nil => intro _ _; exact List.Pairwise.nil
      | cons f r ih =>
        intro hl hn
        obtain ⟨h1, h2⟩ := List.pairwise_cons.1 hn
        have ih := ih (fun g hg => hl g (List.mem_cons_of_mem _ hg)) h2
        rw [List.filterMap_cons]
        split
        · exact ih
        · rename_i n hn
          refine List.pairwise_cons.2 ⟨fun n' hn' e => ?_, ih⟩
          subst e
          obtain ⟨g, hg, hgn⟩ := List.mem_filterMap.1 hn'
          have e1 := ((fitA_iff hm ha (hf f (hl f (List.mem_cons_self ..)))).1 hn).2
          have e2 := ((fitA_iff hm ha (hf g (hl g (List.mem_cons_of_mem _ hg)))).1 hgn).2
          exact h1 g hg (e1.symm.trans e2)
    exact this fs (fun _ h => h) hfs
  have : ∀ (l : List Vals), (∀ m ∈ l, m ∈ ms) → l.Nodup → (l.flatMap fun m => fs.filterMap (fitA m a)).Nodup := by
    intro l
    induction l with
    | nil => intro _ _; exact List.Pairwise.nil
    | cons m r ih =>
      intro hl hn
      obtain ⟨h1, h2⟩ := List.pairwise_cons.1 hn
      have ih := ih (fun g hg => hl g (List.mem_cons_of_mem _ hg)) h2
      rw [List.flatMap_cons]
      have hm := h8 m (hl m (List.mem_cons_self ..))
      refine List.pairwise_append.2 ⟨inner m hm.1, ih, fun n hn n' hn' e => ?_⟩
      subst e
      obtain ⟨f, hff, h3⟩ := List.mem_filterMap.1 hn
      obtain ⟨m', hm', hn'⟩ := List.mem_flatMap.1 hn'
      obtain ⟨g, hgf, h4⟩ := List.mem_filterMap.1 hn'
      have hm2 := h8 m' (hl m' (List.mem_cons_of_mem _ hm'))
      have e1 := ((fitA_iff hm.1 ha (hf f hff)).1 h3).1
      have e2 := ((fitA_iff hm2.1 ha (hf g hgf)).1 h4).1
      refine h1 m' hm' (vals_ext hm.1 hm2.1 fun i hi => ?_)
      by_cases hD : D i
      · rw [← e1.old i hi ((hm.2 i hi).2 hD), ← e2.old i hi ((hm2.2 i hi).2 hD)]
      · have a1 : m.getD i 0 = 0 := by
          have : ¬ m.getD i 0 ≠ 0 := fun e => hD ((hm.2 i hi).1 e)
          simpa using this
        have a2 : m'.getD i 0 = 0 := by
          have : ¬ m'.getD i 0 ≠ 0 := fun e => hD ((hm2.2 i hi).1 e)
          simpa using this
        rw [a1, a2]
  exact this ms (fun _ h => h) hms
theorem step_dom {fs : List Atm} {ms : List Vals} {a : Atm} {D : Nat → Prop} (h8 : ∀ m ∈ ms, m.length = 8 ∧ ∀ i, i < 8 → (m.getD i 0 ≠ 0 ↔ D i)) (ha : TermA a) (hf : PosF fs) : ∀ n ∈ stepM fs ms a, n.length = 8 ∧ ∀ i, i < 8 → (n.getD i 0 ≠ 0 ↔ D i ∨ (i : Int) ∈ a.2) := fun n hn => by
  obtain ⟨⟨m, hm, h⟩, _⟩ := (mem_step (fun m hm => (h8 m hm).1) ha hf).1 hn
  exact ⟨h.len, fun i hi => (h.dom i hi).trans (or_congr_left ((h8 m hm).2 i hi))⟩
/-- What holds after the beginning b of a body. -/
structure StM (fs : List Atm) (b : List Atm) (ms : List Vals) : Prop where
  nodup : ms.Nodup
  dom : ∀ m ∈ ms, m.length = 8 ∧ ∀ i, i < 8 → (m.getD i 0 ≠ 0 ↔ (i : Int) ∈ b.flatMap Prod.snd)
theorem StM.zero (fs : List Atm) : StM fs [] [zeroV] := ⟨by simp, fun m hm => by
  simp at hm; subst hm
  exact ⟨rfl, fun i hi => by rw [zero_get]; simp⟩⟩
theorem StM.step {fs b : List Atm} {ms : List Vals} {a : Atm} (h : StM fs b ms) (ha : TermA a) (hf : PosF fs) (hfs : fs.Nodup) : StM fs (b ++ [a]) (stepM fs ms a) :=
  ⟨step_nodup _ h.dom h.nodup ha hf hfs, fun m hm => by
    obtain ⟨h1, h2⟩ := step_dom h.dom ha hf m hm
    refine ⟨h1, fun i hi => (h2 i hi).trans ?_⟩
    simp [List.flatMap_append]⟩
end Go.Proofs.Ytleiddajojgmmaa

/- Plain: all matches of a query, their number, its results; other facts. No program. No condition. -/
namespace Go.Proofs.Ytleiddajojgmmaa
set_option linter.unusedSimpArgs false
set_option linter.unusedVariables false

def rowsOf (h : List Int) (ms : List Vals) : List (List Int) := srtL (ms.map fun m => h.map (ofV m))
theorem srtF_pos {l : List Atm} (h : PosF l) : PosF (srtF l) := fun f hf => h f ((mem_srt key_A).1 hf)
theorem IsM.sub {fs fs' b : List Atm} {m : Vals} (h : IsM fs b m) (hs : ∀ a ∈ b, imgA m a ∈ fs → imgA m a ∈ fs') : IsM fs' b m := ⟨h.len, h.dom, fun a ha => hs a ha (h.hit a ha)⟩
theorem sub_len {α : Type} [DecidableEq α] : ∀ {l l' : List α}, l.Nodup → (∀ x ∈ l, x ∈ l') → l.length ≤ l'.length
  | [], _, _, _ => Nat.zero_le _
  | x :: r, l', hn, hs => by
    obtain ⟨h1, h2⟩ := List.pairwise_cons.1 hn
    have hx := hs x (List.mem_cons_self ..)
    have ih := sub_len (l' := l'.erase x) h2 fun y hy => (List.mem_erase_of_ne (fun e => h1 y hy e.symm)).2 (hs y (List.mem_cons_of_mem _ hy))
    rw [List.length_erase_of_mem hx] at ih
    have := List.length_pos_of_mem hx
    simp only [List.length_cons]
    omega
/-- Members of the results. -/
theorem mem_rows {fs b : List Atm} {h : List Int} (hf : PosF fs) (hb : ∀ a ∈ b, TermA a) {y : List Int} : y ∈ rowsOf h (allM (srtF fs) b) ↔ ∃ m, IsM fs b m ∧ y = h.map (ofV m) := by
  unfold rowsOf
  rw [mem_srt key_id, List.mem_map]
  constructor
  · rintro ⟨m, hm, rfl⟩
    exact ⟨m, ((mem_allM (srtF_pos hf) hb).1 hm).sub fun a _ h => (mem_srt key_A).1 h, rfl⟩
  · rintro ⟨m, hm, rfl⟩
    exact ⟨m, (mem_allM (srtF_pos hf) hb).2 (hm.sub fun a _ h => (mem_srt key_A).2 h), rfl⟩
/-- More facts: more results. -/
theorem more {fs gs b : List Atm} {h : List Int} (hg : PosF gs) (hb : ∀ a ∈ b, TermA a) (hs : ∀ a ∈ fs, a ∈ gs) {y : List Int} (hy : y ∈ rowsOf h (allM (srtF fs) b)) : y ∈ rowsOf h (allM (srtF gs) b) := by
  have hf : PosF fs := fun a ha => hg a (hs a ha)
  obtain ⟨m, hm, e⟩ := (mem_rows hf hb).1 hy
  exact (mem_rows hg hb).2 ⟨m, hm.sub fun a _ h => hs _ h, e⟩
/-! ## Two bodies without common variables -/
end Go.Proofs.Ytleiddajojgmmaa

/- Contracts: what fits an atom, and all matches of a query. No condition. -/
namespace Go.Proofs.Ytleiddajojgmmaa
open Go Go.RowKit VC
set_option linter.unusedSimpArgs false
set_option linter.unusedVariables false

/-! ## Values in memory -/
def encV (m : Vals) : List Value := (List.range 8).map fun i => encI (m.getD i 0)
theorem encV_len (m : Vals) : (encV m).length = 8 := by simp [encV]
theorem encV_one (m : Vals) : ∀ u ∈ encV m, u.oneCell' = true := by
  intro u hu
  simp only [encV, List.mem_map] at hu
  obtain ⟨i, _, rfl⟩ := hu
  rfl
abbrev SlV (w : World) (v : Value) (ms : List Vals) : Prop := SlR encV w v ms
/-! ## What fits -/
/-! ## append of one record; where its array lies -/
end Go.Proofs.Ytleiddajojgmmaa

/- Contracts: all matches of a query. No condition. -/
namespace Go.Proofs.Ytleiddajojgmmaa
open Go Go.RowKit VC Go.WideMaps
set_option linter.unusedSimpArgs false
set_option linter.unusedVariables false

/-- A local copy of eight numbers. -/
theorem SlV.loc {P : Program} {w : World} {v : Value} {ms : List Vals} (h : SlV w v ms) {i : Nat} {j : Int} (hj : j = (i : Int)) (hi : i < ms.length) {zs : Array Value} (hz : zs.size = 8) {t : TypeId} {K : World → Prop}
    (hk : ∀ w2, Grow w w2 → w.heap.size < w2.heap.size → RecV w2 w.heap.size (encV ms[i]) → K w2) :
    ∃ (a : Addr) (m c : Nat), v = .slice (some a) m c ∧ ((0 : Int) ≤ j ∧ j < (m : Int)) ∧ ∃ cs : List Value, cs.length = 8 ∧ (∀ t u, cs[t]? = some u → w.cell? (Addr.add (a.add (Int.toNat j * 8)) t) = some u) ∧
      ∀ w1, w1 = w.alloc (.cells zs t) → ∃ cs' : Array Value, (Value.agg cs.toArray) = Value.agg cs' ∧ cs'.size = 8 ∧ ∃ w2 : World, (storeCells ⟨w.heap.size, 0, none⟩ cs'.toList).run P w1 = .ok () w2 ∧ K w2 := by
  refine SlR.rd h encV_len hj hi fun w1 hw1 => ?_
  have := RecV.init (P := P) (cs := encV ms[i]) hw1 (by rw [hz, encV_len]) (encV_one _) (K := K) hk
  rwa [hz] at this
end Go.Proofs.Ytleiddajojgmmaa

/- Contracts: rows of ints are sorted by the library, and put together where neighbours are equal. No condition. -/
namespace Go.Proofs.Ytleiddajojgmmaa
open Go Go.RowKit VC Go.Sort Go.Shelf
set_option linter.unusedSimpArgs false
set_option linter.unusedVariables false

theorem el_row : ElT Try.prog 31 22 1 24 (.slice none 0 0) := ⟨by kernel_rfl, ⟨Try.t22, by kernel_rfl, by kernel_rfl, by kernel_rfl, by kernel_rfl⟩, rfl⟩
/-! ## Sorted and put together: each row once -/
end Go.Proofs.Ytleiddajojgmmaa

/- Contracts: results and their number. No condition. -/
namespace Go.Proofs.Ytleiddajojgmmaa
open Go Go.RowKit VC
set_option linter.unusedSimpArgs false
set_option linter.unusedVariables false

theorem SlR.nil {α : Type} {f : α → List Value} (w : World) : SlR f w (.slice none 0 0) [] := SlC.nil w
end Go.Proofs.Ytleiddajojgmmaa

/- Contracts of the reference: what comes before, rising lists of slices, keys of facts, what fits. No condition. -/
namespace Go.Proofs.Ytleiddajojgmmaa
open Go Go.RowKit VC
set_option linter.unusedSimpArgs false
set_option linter.unusedVariables false

theorem before_c {w : World} {u v : Value} {xs ys : List Int} (hx : SlI w u xs) (hy : SlI w v ys) : Calls Try.prog 48 #[u, v] w (Same w (.bool (decide (cmpL xs ys < 0)))) := by
  refine f48_calls _ _ ?_
  have h1 := hx.len_le
  have h2 := hy.len_le
  refine hx.ln ⟨fun t w' => ∃ k : Nat, t = k ∧ k ≤ xs.length ∧ k ≤ ys.length ∧ w' = w ∧ cmpL xs ys = cmpL (xs.drop k) (ys.drop k), fun t _ => xs.length - t.toNat, ⟨0, rfl, by omega, by omega, rfl, rfl⟩, ?_⟩
  rintro - t w1 ⟨k, rfl, hk, hk2, rfl, he⟩
  have ret : ∀ {b : Bool}, decide (cmpL xs ys < 0) = b → Same w1 (.bool (decide (cmpL xs ys < 0))) (.returned (.bool b)) w1 := fun h => ⟨by rw [h], rfl⟩
  refine condD (fun hlt => ?_) (fun hge => ?_)
  · have hkl : k < xs.length := by omega
    rw [List.drop_eq_getElem_cons hkl] at he
    refine hx.rd rfl hkl (hy.ln (condD (fun h => ret ?_) fun h => ?_))
    · have : ys.drop k = [] := List.drop_eq_nil_of_le (by omega)
      rw [this] at he
      rw [he]; rfl
    · have hkl2 : k < ys.length := by omega
      rw [List.drop_eq_getElem_cons hkl2, cmpL] at he
      refine hy.rd rfl hkl2 (condD (fun h3 => ret ?_) fun h3 => hy.rd rfl hkl2 (condD (fun h4 => ret ?_) fun h4 => ?_))
      · have e : cmpI xs[k] ys[k] = 1 := by unfold cmpI; rw [if_neg (by omega), if_pos h3]
        rw [he, e]; rfl
      · have e : cmpI xs[k] ys[k] = -1 := by unfold cmpI; rw [if_pos h4]
        rw [he, e]; rfl
      · have e : cmpI xs[k] ys[k] = 0 := by unfold cmpI; rw [if_neg (by omega), if_neg (by omega)]
        rw [if_pos e] at he
        exact ⟨by unfold inR; omega, ⟨k + 1, by omega, by omega, by omega, rfl, he⟩, by dsimp only; omega⟩
  · have hkl : k = xs.length := by omega
    subst hkl
    rw [List.drop_length] at he
    refine hx.ln (hy.ln (ret ?_))
    rw [he]
    rcases Nat.lt_or_ge xs.length ys.length with h | h
    · rw [List.drop_eq_getElem_cons h]
      have : decide ((xs.length : Int) < ys.length) = true := decide_eq_true (by omega)
      rw [this]; rfl
    · rw [List.drop_eq_nil_of_le h]
      have : decide ((xs.length : Int) < ys.length) = false := decide_eq_false (by omega)
      rw [this]; rfl
theorem refEqual_c {w : World} {u v : Value} {xs ys : List Int} (hx : SlI w u xs) (hy : SlI w v ys) : Calls Try.prog 23 #[u, v] w (Same w (.bool (decide (xs = ys)))) := by
  refine f23_calls _ _ ?_
  have hz := cmpL_zero (xs := xs) (ys := ys)
  have hw := cmpL_swap xs ys
  refine (before_c hx hy).mono ?_
  rintro e w1 ⟨rfl, rfl⟩
  refine ⟨_, rfl, condP_i (fun h => ?_) fun h => ?_⟩
  · have h : ¬ cmpL xs ys < 0 := by simpa using h
    refine (before_c hy hx).mono ?_
    rintro e w2 ⟨rfl, rfl⟩
    refine ⟨_, rfl, ?_, rfl⟩
    congr 2
    by_cases h2 : cmpL ys xs < 0
    · have : ¬ xs = ys := fun e => by have := hz.2 e; omega
      simp [h2, this]
    · have : xs = ys := hz.1 (by omega)
      rw [decide_eq_true this, decide_eq_false h2]; rfl
  · have h : cmpL xs ys < 0 := by simpa using h
    refine ⟨?_, rfl⟩
    have : ¬ xs = ys := fun e => by have := hz.2 e; omega
    rw [decide_eq_false this]
/-! ## Parts of a slice -/
section
variable {α : Type} {k : Nat} {rep : World → List Value → α → Prop}
theorem SlX.upto {w : World} {v : Value} {xs : List α} (h : SlX k rep w v xs) {i : Nat} {ik : IntKind} {z : Int} (hz : z = (i : Int)) (hi : i ≤ xs.length) {K : Value → Prop} (hk : ∀ v', SlX k rep w v' (xs.take i) → K v') :
    ∃ (a : Option Addr) (n c : Nat), v = .slice a n c ∧ ∃ l hh m : Nat, sbR none (some (.int ik z)) none n c l hh m ∧ K (.slice (if m = l then a else a.map (·.add (l * k))) (hh - l) (m - l)) := by
  subst hz
  obtain ⟨a, c, rfl, h1, h2, h3, h4⟩ := h.ex
  have hl : (xs.take i).length = i := by simp; omega
  refine ⟨a, _, c, rfl, 0, i, c, ⟨rfl, rfl, rfl, by simp, by omega, by omega, by omega⟩, hk _ ⟨a, c, ?_, by omega, h2, h3, fun j hj => ?_⟩⟩
  · rw [hl]
    by_cases hc : c = 0
    · simp [hc]
    · rw [if_neg hc]
      cases a <;> simp [Addr.add]
  · obtain ⟨b, cs, e1, e2, e3, e4⟩ := h4 j (by omega)
    exact ⟨b, cs, e1, e2, e3, by rw [List.getElem_take]; exact e4⟩
end
/-! ## Put -/
theorem SlX.imp {α : Type} {k : Nat} {rep rep' : World → List Value → α → Prop} {w : World} {v : Value} {xs : List α} (h : SlX k rep w v xs) (hi : ∀ cs x, rep w cs x → rep' w cs x) : SlX k rep' w v xs := by
  obtain ⟨a, c, e, h1, h2, h3, h4⟩ := h.ex
  exact ⟨a, c, e, h1, h2, h3, fun i hi' => by
    obtain ⟨b, cs, e1, e2, e3, e4⟩ := h4 i hi'
    exact ⟨b, cs, e1, e2, e3, hi _ _ e4⟩⟩
/-! ## Keys of facts -/
end Go.Proofs.Ytleiddajojgmmaa

/- Contracts of the reference: what fits. No condition. -/
namespace Go.Proofs.Ytleiddajojgmmaa
open Go Go.RowKit VC
set_option linter.unusedSimpArgs false
set_option linter.unusedVariables false

theorem set_same {m : Vals} {k : Nat} {y : Int} (hk : k < m.length) (h : m.getD k 0 = y) : m.set k y = m := by
  apply List.ext_getElem (by simp)
  intro i h1 h2
  rw [List.getElem_set]
  split
  · rename_i e
    subst e
    rw [← h]; simp [List.getD, hk]
  · rfl
end Go.Proofs.Ytleiddajojgmmaa

/- Contracts: the reference's results, equal rows, a fact is matched; the copies that the statements make. No condition. -/
namespace Go.Proofs.Ytleiddajojgmmaa
open Go Go.RowKit VC
set_option linter.unusedSimpArgs false
set_option linter.unusedVariables false

/-! ## Equal rows -/
/-! ## A fact is matched -/
theorem slI_lit {w w' : World} {cs : Array Value} {xs : List Int} {e : TypeId} (hw : w' = w.alloc (.cells cs e)) (hc : cs.toList = xs.map VC.encI) (hl : xs.length ≤ 1000) : SlI w' (.slice (some ⟨w.heap.size, 0, none⟩) xs.length xs.length) xs := by
  have h := Own.lit (B := w.heap.size) (n := xs.length) (sz := 1) hw (Nat.le_refl _) (by omega) (by
    rw [← Array.length_toList, hc]; simp)
  rw [hc] at h
  exact Own.slI h
/-! ## The copies say the same -/
theorem trA_id {a : Atm} (h : a.2.length ≤ 9) : trA a = a := by
  unfold trA
  rw [List.take_of_length_le h]
theorem map_trA {l : List Atm} (h : ∀ a ∈ l, a.2.length ≤ 9) : l.map trA = l := by
  conv => rhs; rw [← List.map_id l]
  exact List.map_congr_left fun a ha => trA_id (h a ha)
theorem trF_of {l : List Atm} (hf : okFs l = true) : trF l = l := by
  simp only [okFs, Bool.and_eq_true, decide_eq_true_eq, List.all_eq_true] at hf
  unfold trF
  rw [List.take_of_length_le (by omega), map_trA fun a ha => by have := (okF_iff.1 (hf.2 a ha)).2.2.2.1; omega]
theorem factsS_c {w : World} {v : Value} {l : List Atm} (hs : SlA w v l) : Calls Try.prog 10 #[v] w fun e w' => ∃ v', e = .returned v' ∧ SlA w' v' (trF l) ∧ Grow w w' := by
  refine (facts_c hs).mono ?_
  rintro e w' ⟨a, rfl, h1, g⟩
  exact ⟨a, rfl, h1.slX, g⟩
end Go.Proofs.Ytleiddajojgmmaa

/- Contracts: facts turned around; rows searched. No condition. -/
namespace Go.Proofs.Ytleiddajojgmmaa
open Go Go.RowKit VC
set_option linter.unusedSimpArgs false
set_option linter.unusedVariables false

/-! ## Rows searched -/
def AsksL (w : World) (f : Value) (L : List (List Int)) (p : List Int → Bool) : Prop :=
  ∃ g fst cap, f = .func (.func g) fst cap ∧ callOK g = true ∧ ∀ x ∈ L, ∀ w' u, Grow w w' → SlI w' u x → Calls Try.prog g (fst ++ #[u] ++ cap) w' (Ret w' (.bool (p x)))
theorem indexL_c {w : World} {v f : Value} {L : List (List Int)} {p : List Int → Bool} (hs : SlL w v L) (hf : AsksL w f L p) : Calls Try.prog 100 #[v, f] w (Ret w (.int .i64 (idxOf p L))) := by
  refine f100_calls _ _ ?_
  obtain ⟨g, fst, cap, rfl, hg, hcall⟩ := hf
  have hle := SlX.len_le hs
  refine SlX.ln hs ⟨fun t w' => ∃ k : Nat, t = k ∧ k ≤ L.length ∧ Grow w w' ∧ ∀ j (hj : j < L.length), j < k → p L[j] = false, fun t _ => L.length - t.toNat, ⟨0, rfl, by omega, Grow.refl w, fun j _ h => by omega⟩, ?_⟩
  rintro - t w1 ⟨k, rfl, hk, hw, hno⟩
  refine condD (fun hlt => ?_) (fun hge => ?_)
  · have hkl : k < L.length := by omega
    refine SlL.rd1 (hs.gr hw) rfl hkl fun u hu => ⟨g, fst, cap, rfl, hg, (hcall L[k] (List.getElem_mem hkl) w1 u hw hu).mono ?_⟩
    rintro e w2 ⟨rfl, hg2⟩
    refine ⟨_, rfl, condP_i (fun hp => ?_) (fun hp => ?_)⟩
    · exact ⟨by rw [idxOf_some hkl hp hno], hw.trans hg2⟩
    · refine ⟨by unfold inR; omega, ⟨k + 1, by omega, by omega, hw.trans hg2, fun j hj hjk => ?_⟩, by dsimp only; omega⟩
      by_cases e : j = k
      · subst e; exact hp
      · exact hno j hj (by omega)
  · exact ⟨by rw [idxOf_none fun j hj => hno j hj (by omega)], hw⟩
theorem containsL_c {w : World} {v f : Value} {L : List (List Int)} {p : List Int → Bool} (hs : SlL w v L) (hf : AsksL w f L p) : Calls Try.prog 55 #[v, f] w (Ret w (.bool (L.any p))) := by
  refine f55_calls _ _ ?_
  refine (indexL_c hs hf).mono ?_
  rintro e w' ⟨rfl, hg⟩
  refine ⟨_, rfl, ?_, hg⟩
  rw [idxOf_any]
end Go.Proofs.Ytleiddajojgmmaa
