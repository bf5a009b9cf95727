/- Contracts: the copies that the statements make of queries and facts. No condition. -/
import Derived.Test.YtleiddajojgmmaaMc
import Derived.Test.YtleiddajojgmmaaVw
import Derived.Shelf.SlSortCmp.Insertion
import Derived.Test.YtleiddajojgmmaaSh
import Derived.Laws.BitsLemmas
import Derived.Test.YtleiddajojgmmaaVr
namespace Go.Proofs.Ytleiddajojgmmaa
open Go Go.RowKit VC
set_option linter.unusedSimpArgs false
set_option linter.unusedVariables false

def trA (a : Atm) : Atm := (a.1, a.2.take 9)
theorem el_fact : ElT Try.prog 23 33 2 32 (.agg #[.int .i64 0, .slice none 0 0]) := ⟨by kernel_rfl, ⟨Try.t33, by kernel_rfl, by kernel_rfl, by kernel_rfl, by kernel_rfl⟩, rfl⟩
theorem el_atom : ElT Try.prog 59 41 2 32 (.agg #[.int .i64 0, .slice none 0 0]) := ⟨by kernel_rfl, ⟨Try.t41, by kernel_rfl, by kernel_rfl, by kernel_rfl, by kernel_rfl⟩, rfl⟩
abbrev OwnF (w : World) (B : Nat) (v : Value) (l : List Atm) : Prop := OwnX (fun b => b < B) 2 repA w B 33 v l
abbrev OwnA (w : World) (B : Nat) (v : Value) (l : List Atm) : Prop := OwnX (fun b => b < B) 2 repA w B 41 v l
/-- A record of an int and of a slice of the call's own that is newer than out's array. -/
theorem elx_own {T : Nat → Prop} {w : World} {B : Nat} {r : Int} {v out : Value} {xs : List Int} (ho : OwnI w B v xs) (hT : ∀ b, T b → b < B) (hout : ∀ b, out.ownBlock = some b → b < B) : ElX T 2 repA out w ([.int .i64 r, v], (r, xs)) := by
  refine ⟨rfl, ?_, fun w' hf => ⟨v, rfl, (Own.fr ho hf fun k hk e => ?_).slI⟩⟩
  · intro u hu
    simp at hu
    rcases hu with rfl | rfl
    · rfl
    · exact (Own.one ho).2
  · have h2 := (Own.lt ho hk).1
    rcases e with e | e
    · have := hT k e; omega
    · have h1 := hout k e.symm
      omega
theorem OwnA.mono {w : World} {B B' : Nat} {v : Value} {l : List Atm} (h : OwnA w B v l) (hB : B' ≤ B) : OwnA w B' v l := (OwnX.base h hB).weaken fun b hb => Nat.lt_of_lt_of_le hb hB
theorem OwnF.mono {w : World} {B B' : Nat} {v : Value} {l : List Atm} (h : OwnF w B v l) (hB : B' ≤ B) : OwnF w B' v l := (OwnX.base h hB).weaken fun b hb => Nat.lt_of_lt_of_le hb hB
end Go.Proofs.Ytleiddajojgmmaa

/- The order of facts, and the function that compares them: what it leaves behind is told exactly, as sorting asks. No condition. -/
namespace Go.Proofs.Ytleiddajojgmmaa
open Go Go.RowKit VC
set_option linter.unusedSimpArgs false
set_option linter.unusedVariables false

/-! ## The order -/
theorem cmpI_zero {x y : Int} : cmpI x y = 0 ↔ x = y := by unfold cmpI; split <;> (try split) <;> omega
theorem cmpI_swap (x y : Int) : cmpI y x = - cmpI x y := by unfold cmpI; split <;> split <;> (try split) <;> omega
theorem cmpL_zero : ∀ {xs ys : List Int}, cmpL xs ys = 0 ↔ xs = ys
  | [], [] => by simp [cmpL]
  | [], _ :: _ => by simp [cmpL]
  | _ :: _, [] => by simp [cmpL]
  | x :: r, y :: s => by
    rw [cmpL]
    by_cases h : cmpI x y = 0
    · rw [if_pos h, cmpL_zero, cmpI_zero.1 h]; simp
    · rw [if_neg h]
      have : ¬ x = y := fun e => h (cmpI_zero.2 e)
      simp [h, this]
theorem cmpL_swap : ∀ (xs ys : List Int), cmpL ys xs = - cmpL xs ys
  | [], [] => rfl
  | [], _ :: _ => rfl
  | _ :: _, [] => rfl
  | x :: r, y :: s => by
    rw [cmpL, cmpL, cmpI_swap x y]
    by_cases h : cmpI x y = 0
    · rw [if_pos h, if_pos (by omega), cmpL_swap r s]
    · rw [if_neg h, if_neg (by omega)]
theorem cmpI_trans {x y z : Int} (h1 : cmpI x y ≤ 0) (h2 : cmpI y z ≤ 0) : cmpI x z ≤ 0 ∧ (cmpI x z = 0 → cmpI x y = 0 ∧ cmpI y z = 0) := by
  unfold cmpI at *
  refine ⟨?_, ?_⟩
  · repeat' split
    all_goals (try split at h1) <;> (try split at h2) <;> (try split at h1) <;> (try split at h2) <;> omega
  · repeat' split
    all_goals (try split at h1) <;> (try split at h2) <;> (try split at h1) <;> (try split at h2) <;> omega
theorem cmpL_trans : ∀ {xs ys zs : List Int}, cmpL xs ys ≤ 0 → cmpL ys zs ≤ 0 → cmpL xs zs ≤ 0
  | [], [], zs, _, h2 => h2
  | [], _ :: _, [], _, h2 => by simp [cmpL] at h2
  | [], _ :: _, _ :: _, _, _ => by simp [cmpL]
  | _ :: _, [], _, h1, _ => by simp [cmpL] at h1
  | _ :: _, _ :: _, [], _, h2 => by simp [cmpL] at h2
  | x :: r, y :: s, z :: t, h1, h2 => by
    rw [cmpL] at *
    have hx : cmpI x y ≤ 0 := by
      by_cases h : cmpI x y = 0
      · omega
      · rw [if_neg h] at h1; exact h1
    have hy : cmpI y z ≤ 0 := by
      by_cases h : cmpI y z = 0
      · omega
      · rw [if_neg h] at h2; exact h2
    obtain ⟨h3, h4⟩ := cmpI_trans hx hy
    by_cases h : cmpI x z = 0
    · obtain ⟨h5, h6⟩ := h4 h
      rw [if_pos h5] at h1
      rw [if_pos h6] at h2
      rw [if_pos h]
      exact cmpL_trans h1 h2
    · rw [if_neg h]; exact h3
theorem swoL {α : Type} (key : α → List Int) : Go.Sort.SWO (ltOf fun a b => cmpL (key a) (key b)) := by
  refine ⟨fun x => ?_, fun x y z h1 h2 => ?_, fun x y z h1 h2 => ?_⟩
  · have : cmpL (key x) (key x) = 0 := cmpL_zero.2 rfl
    simp [ltOf, this]
  · simp only [ltOf, decide_eq_true_eq] at *
    have h3 := cmpL_trans (xs := key x) (ys := key y) (zs := key z) (by omega) (by omega)
    refine Classical.byContradiction fun hn => ?_
    have h4 : cmpL (key x) (key z) = 0 := by omega
    rw [cmpL_zero.1 h4] at h1
    have := cmpL_swap (key z) (key y)
    omega
  · simp only [ltOf, decide_eq_false_iff_not] at *
    have e1 := cmpL_swap (key x) (key y)
    have e2 := cmpL_swap (key y) (key z)
    have e3 := cmpL_swap (key x) (key z)
    have h3 := cmpL_trans (xs := key z) (ys := key y) (zs := key x) (by omega) (by omega)
    omega
def keyA (a : Atm) : List Int := a.1 :: a.2
theorem keyA_inj {a b : Atm} (h : keyA a = keyA b) : a = b := by
  obtain ⟨r, l⟩ := a
  obtain ⟨s, m⟩ := b
  simp [keyA] at h
  rw [h.1, h.2]
def cmpA (a b : Atm) : Int := cmpL (keyA a) (keyA b)
/-! ## What is left behind -/
/-- It returns v; nothing that was there has turned, and no draw is taken back. -/
def RetD (w : World) (v : Value) : Ending → World → Prop := fun e w' => e = .returned v ∧ Grow w w' ∧ w.drawn ≤ w'.drawn
theorem growD {w w' : World} (h : Grow w w') (hd : w.drawn ≤ w'.drawn) : ∃ q os, w' = Go.Sort.grow (w.drewN q) os := by
  refine ⟨w'.drawn - w.drawn, w'.heap.extract w.heap.size w'.heap.size, ?_⟩
  have hh : w'.heap = w.heap ++ w'.heap.extract w.heap.size w'.heap.size := by
    apply Array.ext_getElem?
    intro i
    rw [Array.getElem?_append]
    split
    · rename_i hi; exact h.block i hi
    · rename_i hi
      rw [Array.getElem?_extract]
      have hs := h.size
      split
      · rename_i h2; congr 1; omega
      · rename_i h2
        exact Array.getElem?_eq_none (by simp at h2; omega)
  have e1 := h.os
  have e2 := h.tape
  have e3 := h.output
  cases w with
  | mk heap tape drawn os output =>
    cases w' with
    | mk heap' tape' drawn' os' output' =>
      dsimp only at hh e1 e2 e3 hd
      subst e1; subst e2; subst e3
      simp only [Go.Sort.grow, World.drewN]
      congr 1
      omega
theorem or_c {w : World} {v : Value} {x y : Int} (hs : SlI w v [x, y]) : Calls Try.prog 74 #[v] w (Same w (.int .i64 (if x = 0 then y else x))) := by
  refine f74_calls _ ?_
  refine hs.ln ⟨fun t w' => ∃ k : Nat, t = k ∧ k ≤ 2 ∧ w' = w ∧ (k = 1 → x = 0) ∧ (k = 2 → x = 0 ∧ y = 0), fun t _ => 2 - t.toNat, ⟨0, rfl, by omega, rfl, by omega, by omega⟩, ?_⟩
  rintro - t w1 ⟨k, rfl, hk, rfl, h1, h2⟩
  refine condD (fun hlt => ?_) (fun hge => ?_)
  · have hkl : k < 2 := by simp at hlt; omega
    refine hs.rd rfl hkl (condP_i (fun h => ?_) fun h => ?_)
    · rcases Nat.lt_or_ge k 1 with h3 | h3
      · have : k = 0 := by omega
        subst this
        have h : ¬ x = 0 := by simpa using h
        exact ⟨by rw [if_neg h]; rfl, rfl⟩
      · have : k = 1 := by omega
        subst this
        exact ⟨by rw [if_pos (h1 rfl)]; rfl, rfl⟩
    · rcases Nat.lt_or_ge k 1 with h3 | h3
      · have : k = 0 := by omega
        subst this
        have h : x = 0 := by simpa using h
        exact ⟨by unfold inR; omega, ⟨1, by omega, by omega, rfl, fun _ => h, by omega⟩, by dsimp only; omega⟩
      · have : k = 1 := by omega
        subst this
        have h : y = 0 := by simpa using h
        exact ⟨by unfold inR; omega, ⟨2, by omega, by omega, rfl, by omega, fun _ => ⟨h1 rfl, h⟩⟩, by dsimp only; omega⟩
  · have : k = 2 := by simp at hge; omega
    subst this
    exact ⟨by rw [if_pos (h2 rfl).1, (h2 rfl).2], rfl⟩
end Go.Proofs.Ytleiddajojgmmaa

/- Contracts: facts are cloned, and put together where neighbours are equal. No condition. -/
namespace Go.Proofs.Ytleiddajojgmmaa
open Go Go.RowKit VC
set_option linter.unusedSimpArgs false
set_option linter.unusedVariables false

theorem app2 (a b : Value) : (#[] ++ #[a, b] ++ #[] : Array Value) = #[a, b] := rfl
end Go.Proofs.Ytleiddajojgmmaa

/- Contracts: facts are sorted by the library; once: facts in their order, each once. No condition. -/
namespace Go.Proofs.Ytleiddajojgmmaa
open Go Go.RowKit VC Go.Sort Go.Shelf
set_option linter.unusedSimpArgs false
set_option linter.unusedVariables false

theorem agg_fact (w : World) : (isAgg 33).run Try.prog w = .ok true w := by
  have h : (Try.prog.underlying 33).isSome = true := by kernel_rfl
  have hm : (match Try.prog.underlying 33 with | some (.struct _) => true | _ => false) = true := by kernel_rfl
  obtain ⟨d, hd⟩ := Option.isSome_iff_exists.1 h
  rw [hd] at hm
  rw [isAgg_run hd]
  cases d <;> first | rfl | (simp at hm; done)
theorem size_fact (w : World) : (Go.sizeOf 33).run Try.prog w = .ok 2 w := by
  have h : Try.prog.cellsOf 33 = 2 := by kernel_rfl
  have := cellsOf_run (P := Try.prog) (t := 33) (by rw [h]; decide) w
  rwa [h] at this
/-! ## Each once -/
end Go.Proofs.Ytleiddajojgmmaa

/- Plain: rising lists, each once; matches of a query. No program. No condition. -/
namespace Go.Proofs.Ytleiddajojgmmaa
set_option linter.unusedSimpArgs false
set_option linter.unusedVariables false

/-! ## Rising lists -/
theorem cmpL_lt_trans {a b c : List Int} (h1 : cmpL a b < 0) (h2 : cmpL b c < 0) : cmpL a c < 0 := by
  have h3 := cmpL_trans (xs := a) (ys := b) (zs := c) (by omega) (by omega)
  refine Classical.byContradiction fun hn => ?_
  have h4 : cmpL a c = 0 := by omega
  rw [cmpL_zero.1 h4] at h1
  have := cmpL_swap c b
  omega
section
variable {α : Type} (key : α → List Int)
/-- Put into a rising list. -/
def insK (x : α) : List α → List α
  | [] => [x]
  | y :: r => if cmpL (key y) (key x) < 0 then y :: insK x r else if key y = key x then y :: r else x :: y :: r
def srtK (l : List α) : List α := l.foldl (fun acc x => insK key x acc) []
def StrK (l : List α) : Prop := l.Pairwise fun a b => cmpL (key a) (key b) < 0
variable {key}
theorem mem_insK (hi : ∀ a b, key a = key b → a = b) {x z : α} : ∀ {l : List α}, z ∈ insK key x l ↔ z = x ∨ z ∈ l
  | [] => by simp [insK]
  | y :: r => by
    rw [insK]
    split
    · rw [List.mem_cons, mem_insK hi, List.mem_cons]
      constructor
      · rintro (h | h | h)
        · exact .inr (.inl h)
        · exact .inl h
        · exact .inr (.inr h)
      · rintro (h | h | h)
        · exact .inr (.inl h)
        · exact .inl h
        · exact .inr (.inr h)
    · split
      · rename_i h1 h2
        have := hi _ _ h2
        subst this
        simp
      · simp
theorem str_insK (hi : ∀ a b, key a = key b → a = b) {x : α} : ∀ {l : List α}, StrK key l → StrK key (insK key x l)
  | [], _ => List.pairwise_singleton _ _
  | y :: r, h => by
    have h0 := h
    obtain ⟨h1, h2⟩ := List.pairwise_cons.1 h
    rw [insK]
    split
    · rename_i hlt
      refine List.pairwise_cons.2 ⟨fun z hz => ?_, str_insK hi h2⟩
      rcases (mem_insK hi).1 hz with rfl | hz
      · exact hlt
      · exact h1 z hz
    · split
      · exact h0
      · rename_i hn hne
        have hlt : cmpL (key x) (key y) < 0 := by
          have e := cmpL_swap (key x) (key y)
          have : cmpL (key y) (key x) ≠ 0 := fun e => hne (cmpL_zero.1 e)
          omega
        refine List.pairwise_cons.2 ⟨fun z hz => ?_, h0⟩
        rcases List.mem_cons.1 hz with rfl | hz
        · exact hlt
        · exact cmpL_lt_trans hlt (h1 z hz)
theorem srt_go (hi : ∀ a b, key a = key b → a = b) : ∀ (l acc : List α), StrK key acc → StrK key (l.foldl (fun acc x => insK key x acc) acc) ∧ ∀ z, z ∈ l.foldl (fun acc x => insK key x acc) acc ↔ z ∈ l ∨ z ∈ acc
  | [], acc, h => ⟨h, fun z => by simp⟩
  | x :: r, acc, h => by
    obtain ⟨h1, h2⟩ := srt_go hi r (insK key x acc) (str_insK hi h)
    refine ⟨h1, fun z => (h2 z).trans ?_⟩
    rw [mem_insK hi, List.mem_cons]
    constructor
    · rintro (h | h | h)
      · exact .inl (.inr h)
      · exact .inl (.inl h)
      · exact .inr h
    · rintro ((h | h) | h)
      · exact .inr (.inl h)
      · exact .inl h
      · exact .inr (.inr h)
theorem mem_srt (hi : ∀ a b, key a = key b → a = b) {l : List α} {z : α} : z ∈ srtK key l ↔ z ∈ l := ((srt_go hi l [] List.Pairwise.nil).2 z).trans (by simp)
end
theorem key_id : ∀ a b : List Int, id a = id b → a = b := fun _ _ h => h
theorem key_A : ∀ a b : Atm, keyA a = keyA b → a = b := fun _ _ h => keyA_inj h
abbrev srtL (l : List (List Int)) : List (List Int) := srtK id l
abbrev srtF (l : List Atm) : List Atm := srtK keyA l
/-! ## Values, and what fits -/
abbrev Vals := List Int
def ofV (m : Vals) (x : Int) : Int := if x < 0 then -x else m.getD x.toNat 0
def imgA (m : Vals) (a : Atm) : Atm := (a.1, a.2.map (ofV m))
def fitL : Vals → List Int → List Int → Option Vals
  | m, [], [] => some m
  | m, x :: xs, y :: ys => if ofV m x = 0 then fitL (m.set x.toNat y) xs ys else if ofV m x = y then fitL m xs ys else none
  | _, _, _ => none
def fitA (m : Vals) (a f : Atm) : Option Vals := if a.1 = f.1 then fitL m a.2 f.2 else none
def stepM (fs : List Atm) (ms : List Vals) (a : Atm) : List Vals := ms.flatMap fun m => fs.filterMap (fitA m a)
def zeroV : Vals := [0, 0, 0, 0, 0, 0, 0, 0]
def allM (fs b : List Atm) : List Vals := b.foldl (stepM fs) [zeroV]
/-- n knows what m knows, and the variables of xs. -/
structure Ext (m n : Vals) (xs : List Int) : Prop where
  len : n.length = 8
  dom : ∀ i, i < 8 → (n.getD i 0 ≠ 0 ↔ m.getD i 0 ≠ 0 ∨ (i : Int) ∈ xs)
  old : ∀ i, i < 8 → m.getD i 0 ≠ 0 → n.getD i 0 = m.getD i 0
theorem vals_ext {m n : Vals} (h1 : m.length = 8) (h2 : n.length = 8) (h : ∀ i, i < 8 → m.getD i 0 = n.getD i 0) : m = n := by
  apply List.ext_getElem (by omega)
  intro i hi hj
  have := h i (by omega)
  simpa [List.getD, hi, hj] using this
theorem Ext.nil {m n : Vals} (h : m.length = 8) : Ext m n [] ↔ n = m := by
  constructor
  · intro hE
    refine vals_ext hE.len h fun i hi => ?_
    by_cases h0 : m.getD i 0 = 0
    · have := hE.dom i hi
      simp only [h0] at this ⊢
      simpa using this
    · exact hE.old i hi h0
  · rintro rfl
    exact ⟨h, fun i _ => by simp, fun i _ _ => rfl⟩
theorem ofV_ext {m n : Vals} {xs : List Int} (h : Ext m n xs) {x : Int} (hx : x ≤ 7) (hk : ofV m x ≠ 0) : ofV n x = ofV m x := by
  unfold ofV at *
  split
  · rfl
  · rename_i h0
    rw [if_neg h0] at hk
    exact h.old _ (by omega) hk
theorem getD_set (m : Vals) {k i : Nat} (hk : k < m.length) (y : Int) : (m.set k y).getD i 0 = if i = k then y else m.getD i 0 := by
  simp only [List.getD, List.getElem?_set]
  by_cases h : k = i
  · subst h; simp [hk]
  · rw [if_neg h, if_neg (fun e => h e.symm)]
theorem fitL_iff : ∀ {xs ys : List Int} {m n : Vals}, m.length = 8 → (∀ x ∈ xs, -9 ≤ x ∧ x ≤ 7) → (∀ y ∈ ys, (1 : Int) ≤ y) → (fitL m xs ys = some n ↔ Ext m n xs ∧ xs.map (ofV n) = ys)
  | [], [], m, n, h8, _, _ => by
    rw [fitL, Ext.nil h8]
    simp [eq_comm]
  | [], y :: ys, m, n, h8, _, _ => by simp [fitL]
  | x :: xs, [], m, n, h8, _, _ => by simp [fitL]
  | x :: xs, y :: ys, m, n, h8, hx, hy => by
    have hx0 := hx x (List.mem_cons_self ..)
    have hy0 := hy y (List.mem_cons_self ..)
    have hxr := fun z hz => hx z (List.mem_cons_of_mem _ hz)
    have hyr := fun z hz => hy z (List.mem_cons_of_mem _ hz)
    rw [fitL]
    split
    · rename_i h0
      have hn : 0 ≤ x := by
        refine Classical.byContradiction fun hn => ?_
        unfold ofV at h0
        rw [if_pos (by omega)] at h0
        omega
      obtain ⟨k, rfl⟩ : ∃ k : Nat, x = k := ⟨x.toNat, by omega⟩
      have hk : k < 8 := by omega
      have hm0 : m.getD k 0 = 0 := by
        unfold ofV at h0
        rw [if_neg (by omega), Int.toNat_natCast] at h0
        exact h0
      rw [Int.toNat_natCast, fitL_iff (by simp [h8]) hxr hyr]
      have gs : ∀ i, (m.set k y).getD i 0 = if i = k then y else m.getD i 0 := fun i => getD_set m (by omega) y
      have key : Ext (m.set k y) n xs ↔ Ext m n (↑k :: xs) ∧ ofV n k = y := by
        have eo : ofV n (k : Int) = n.getD k 0 := by unfold ofV; rw [if_neg (by omega), Int.toNat_natCast]
        rw [eo]
        constructor
        · intro hE
          refine ⟨⟨hE.len, fun i hi => ?_, fun i hi h => ?_⟩, ?_⟩
          · rw [hE.dom i hi, gs i, List.mem_cons]
            by_cases e : i = k
            · subst e
              simp; omega
            · rw [if_neg e]
              constructor
              · rintro (h | h)
                · exact .inl h
                · exact .inr (.inr h)
              · rintro (h | h | h)
                · exact .inl h
                · omega
                · exact .inr h
          · have hne : i ≠ k := fun e => h (e ▸ hm0)
            have := hE.old i hi (by rw [gs, if_neg hne]; exact h)
            rwa [gs, if_neg hne] at this
          · have := hE.old k hk (by rw [gs, if_pos rfl]; omega)
            rwa [gs, if_pos rfl] at this
        · rintro ⟨hE, e⟩
          refine ⟨hE.len, fun i hi => ?_, fun i hi h => ?_⟩
          · rw [hE.dom i hi, gs i, List.mem_cons]
            by_cases e : i = k
            · subst e
              simp; omega
            · rw [if_neg e]
              constructor
              · rintro (h | h | h)
                · exact .inl h
                · omega
                · exact .inr h
              · rintro (h | h)
                · exact .inl h
                · exact .inr (.inr h)
          · rw [gs] at h ⊢
            by_cases e2 : i = k
            · subst e2; rw [if_pos rfl]; exact e
            · rw [if_neg e2] at h ⊢
              exact hE.old i hi h
      rw [key, List.map_cons, List.cons.injEq]
      exact ⟨fun ⟨⟨a, b⟩, c⟩ => ⟨a, b, c⟩, fun ⟨a, b, c⟩ => ⟨⟨a, b⟩, c⟩⟩
    · rename_i h0
      have kn : ∀ i : Nat, x = i → m.getD i 0 ≠ 0 := by
        rintro i rfl
        unfold ofV at h0
        rwa [if_neg (by omega), Int.toNat_natCast] at h0
      have key : Ext m n xs ↔ Ext m n (x :: xs) := by
        constructor
        · intro hE
          refine ⟨hE.len, fun i hi => (hE.dom i hi).trans ?_, hE.old⟩
          rw [List.mem_cons]
          constructor
          · rintro (h | h)
            · exact .inl h
            · exact .inr (.inr h)
          · rintro (h | h | h)
            · exact .inl h
            · exact .inl (kn i h.symm)
            · exact .inr h
        · intro hE
          refine ⟨hE.len, fun i hi => (hE.dom i hi).trans ?_, hE.old⟩
          rw [List.mem_cons]
          constructor
          · rintro (h | h | h)
            · exact .inl h
            · exact .inl (kn i h.symm)
            · exact .inr h
          · rintro (h | h)
            · exact .inl h
            · exact .inr (.inr h)
      split
      · rename_i h1
        rw [fitL_iff h8 hxr hyr, ← key, List.map_cons, List.cons.injEq]
        constructor
        · rintro ⟨a, b⟩
          exact ⟨a, (ofV_ext a hx0.2 h0).trans h1, b⟩
        · rintro ⟨a, b, c⟩
          exact ⟨a, c⟩
      · rename_i h1
        constructor
        · intro h; cases h
        · rintro ⟨a, b⟩
          rw [List.map_cons, List.cons.injEq] at b
          exact absurd ((ofV_ext a hx0.2 h0).symm.trans b.1) h1
/-- Facts: whose arguments are above zero. -/
def PosF (fs : List Atm) : Prop := ∀ f ∈ fs, ∀ y ∈ f.2, (1 : Int) ≤ y
def TermA (a : Atm) : Prop := ∀ x ∈ a.2, -9 ≤ x ∧ x ≤ 7
theorem fitA_iff {m n : Vals} {a f : Atm} (h8 : m.length = 8) (ha : TermA a) (hf : ∀ y ∈ f.2, (1 : Int) ≤ y) : fitA m a f = some n ↔ Ext m n a.2 ∧ imgA n a = f := by
  unfold fitA
  split
  · rename_i h
    rw [fitL_iff h8 ha hf]
    obtain ⟨r, ys⟩ := f
    constructor
    · rintro ⟨h1, h2⟩
      exact ⟨h1, by unfold imgA; rw [h2, h]⟩
    · rintro ⟨h1, h2⟩
      exact ⟨h1, by unfold imgA at h2; simp only [Prod.mk.injEq] at h2; exact h2.2⟩
  · rename_i h
    constructor
    · intro h; cases h
    · rintro ⟨h1, h2⟩
      exact absurd (by rw [← h2]; rfl) h
theorem mem_step {fs : List Atm} {ms : List Vals} {a : Atm} {n : Vals} (h8 : ∀ m ∈ ms, m.length = 8) (ha : TermA a) (hf : PosF fs) : n ∈ stepM fs ms a ↔ (∃ m ∈ ms, Ext m n a.2) ∧ imgA n a ∈ fs := by
  unfold stepM
  simp only [List.mem_flatMap, List.mem_filterMap]
  constructor
  · rintro ⟨m, hm, f, hff, h⟩
    obtain ⟨h1, h2⟩ := (fitA_iff (h8 m hm) ha (hf f hff)).1 h
    exact ⟨⟨m, hm, h1⟩, h2 ▸ hff⟩
  · rintro ⟨⟨m, hm, h1⟩, h2⟩
    exact ⟨m, hm, _, h2, (fitA_iff (h8 m hm) ha (hf _ h2)).2 ⟨h1, rfl⟩⟩
theorem step_len8 {fs : List Atm} {ms : List Vals} {a : Atm} (h8 : ∀ m ∈ ms, m.length = 8) (ha : TermA a) (hf : PosF fs) : ∀ n ∈ stepM fs ms a, n.length = 8 := fun n hn => by
  obtain ⟨⟨m, _, h⟩, _⟩ := (mem_step h8 ha hf).1 hn
  exact h.len
theorem img_ext {m n : Vals} {xs : List Int} {a : Atm} (h : Ext m n xs) (ha : TermA a) (hk : ∀ x ∈ a.2, 0 ≤ x → m.getD x.toNat 0 ≠ 0) : imgA n a = imgA m a := by
  unfold imgA
  congr 1
  refine List.map_congr_left fun x hx => ?_
  by_cases h0 : x < 0
  · simp [ofV, h0]
  · refine ofV_ext h (ha x hx).2 ?_
    unfold ofV
    rw [if_neg h0]
    exact hk x hx (by omega)
theorem mem_fold {fs : List Atm} (hf : PosF fs) : ∀ {b : List Atm} {ms : List Vals} {n : Vals}, (∀ m ∈ ms, m.length = 8) → (∀ a ∈ b, TermA a) → (n ∈ b.foldl (stepM fs) ms ↔ (∃ m ∈ ms, Ext m n (b.flatMap Prod.snd)) ∧ ∀ a ∈ b, imgA n a ∈ fs)
  | [], ms, n, h8, _ => by
    simp only [List.foldl_nil, List.flatMap_nil]
    constructor
    · intro h; exact ⟨⟨n, h, (Ext.nil (h8 n h)).2 rfl⟩, by simp⟩
    · rintro ⟨⟨m, hm, h⟩, _⟩
      rw [(Ext.nil (h8 m hm)).1 h]; exact hm
  | a :: r, ms, n, h8, hb => by
    have ha := hb a (List.mem_cons_self ..)
    have hr := fun x hx => hb x (List.mem_cons_of_mem _ hx)
    rw [List.foldl_cons, mem_fold hf (step_len8 h8 ha hf) hr]
    constructor
    · rintro ⟨⟨m1, hm1, h1⟩, h2⟩
      obtain ⟨⟨m, hm, h3⟩, h4⟩ := (mem_step h8 ha hf).1 hm1
      have hkn : ∀ x ∈ a.2, 0 ≤ x → m1.getD x.toNat 0 ≠ 0 := fun x hx h0 => by
        have hx7 := ha x hx
        refine (h3.dom x.toNat (by omega)).2 (.inr ?_)
        rwa [Int.toNat_of_nonneg h0]
      refine ⟨⟨m, hm, h1.len, fun i hi => ?_, fun i hi h => ?_⟩, fun x hx => ?_⟩
      · rw [h1.dom i hi, h3.dom i hi, List.flatMap_cons, List.mem_append]
        exact or_assoc
      · have e1 := h3.old i hi h
        rw [h1.old i hi (by rw [e1]; exact h), e1]
      · rcases List.mem_cons.1 hx with rfl | hx
        · rw [img_ext h1 ha hkn]; exact h4
        · exact h2 x hx
    · rintro ⟨⟨m, hm, h1⟩, h2⟩
      obtain ⟨m1, hm1⟩ : ∃ m1, m1 = (List.range 8).map (fun i => if m.getD i 0 ≠ 0 ∨ (i : Int) ∈ a.2 then n.getD i 0 else 0) := ⟨_, rfl⟩
      have g1 : ∀ i, i < 8 → m1.getD i 0 = if m.getD i 0 ≠ 0 ∨ (i : Int) ∈ a.2 then n.getD i 0 else 0 := fun i hi => by
        rw [hm1]; simp only [List.getD, List.getElem?_map, List.getElem?_range hi, Option.map_some, Option.getD_some]
      have l1 : m1.length = 8 := by rw [hm1]; simp
      have hn : ∀ i, i < 8 → (m.getD i 0 ≠ 0 ∨ (i : Int) ∈ a.2) → n.getD i 0 ≠ 0 := fun i hi h => by
        refine (h1.dom i hi).2 ?_
        rw [List.flatMap_cons, List.mem_append]
        rcases h with h | h
        · exact .inl h
        · exact .inr (.inl h)
      have hE : Ext m m1 a.2 := by
        refine ⟨l1, fun i hi => ?_, fun i hi h => ?_⟩
        · rw [g1 i hi]
          split
          · rename_i h; exact ⟨fun _ => h, fun _ => hn i hi h⟩
          · rename_i h; exact ⟨fun h0 => absurd rfl h0, fun h0 => absurd h0 h⟩
        · rw [g1 i hi, if_pos (.inl h)]
          exact h1.old i hi h
      have hE2 : Ext m1 n (r.flatMap Prod.snd) := by
        refine ⟨h1.len, fun i hi => ?_, fun i hi h => ?_⟩
        · rw [h1.dom i hi, hE.dom i hi, List.flatMap_cons, List.mem_append]
          exact or_assoc.symm
        · have := (hE.dom i hi).1 h
          rw [g1 i hi, if_pos this]
      have hkn : ∀ x ∈ a.2, 0 ≤ x → m1.getD x.toNat 0 ≠ 0 := fun x hx h0 => by
        have hx7 := ha x hx
        refine (hE.dom x.toNat (by omega)).2 (.inr ?_)
        rwa [Int.toNat_of_nonneg h0]
      refine ⟨⟨m1, (mem_step h8 ha hf).2 ⟨⟨m, hm, hE⟩, ?_⟩, hE2⟩, fun x hx => h2 x (List.mem_cons_of_mem _ hx)⟩
      rw [← img_ext hE2 ha hkn]
      exact h2 a (List.mem_cons_self ..)
/-- A match of a body: eight numbers, 0 where the variable does not occur. -/
structure IsM (fs b : List Atm) (m : Vals) : Prop where
  len : m.length = 8
  dom : ∀ i, i < 8 → (m.getD i 0 ≠ 0 ↔ (i : Int) ∈ b.flatMap Prod.snd)
  hit : ∀ a ∈ b, imgA m a ∈ fs
theorem zero_get (i : Nat) : zeroV.getD i 0 = 0 := by
  rcases Nat.lt_or_ge i 8 with h | h
  · rcases i with _ | _ | _ | _ | _ | _ | _ | _ | i <;> first | rfl | omega
  · simp [zeroV, List.getD, h]
theorem mem_allM {fs b : List Atm} (hf : PosF fs) (hb : ∀ a ∈ b, TermA a) {m : Vals} : m ∈ allM fs b ↔ IsM fs b m := by
  unfold allM
  rw [mem_fold hf (by intro m hm; simp at hm; subst hm; rfl) hb]
  constructor
  · rintro ⟨⟨m0, hm0, h⟩, h2⟩
    have : m0 = zeroV := by simpa using hm0
    subst this
    exact ⟨h.len, fun i hi => (h.dom i hi).trans (by rw [zero_get]; simp), h2⟩
  · intro h
    exact ⟨⟨zeroV, by simp, h.len, fun i hi => (h.dom i hi).trans (by rw [zero_get]; simp), fun i hi h0 => absurd (zero_get i) h0⟩, h.hit⟩
/-! ## No match comes twice -/
theorem step_nodup {fs : List Atm} {ms : List Vals} {a : Atm} (D : Nat → Prop) (h8 : ∀ m ∈ ms, m.length = 8 ∧ ∀ i, i < 8 → (m.getD i 0 ≠ 0 ↔ D i)) (hms : ms.Nodup) (ha : TermA a) (hf : PosF fs) (hfs : fs.Nodup) : (stepM fs ms a).Nodup := by
  unfold stepM
  have inner : ∀ m, m.length = 8 → (fs.filterMap (fitA m a)).Nodup := fun m hm => by
    have : ∀ (l : List Atm), (∀ f ∈ l, f ∈ fs) → l.Nodup → (l.filterMap (fitA m a)).Nodup := by
      intro l
      induction l with
      | nil => intro _ _; exact List.Pairwise.nil
      | cons f r ih =>
        intro hl hn
        obtain ⟨h1, h2⟩ := List.pairwise_cons.1 hn
        have ih := ih (fun g hg => hl g (List.mem_cons_of_mem _ hg)) h2
        rw [List.filterMap_cons]
        split
        · exact ih
        · rename_i n hn
          refine List.pairwise_cons.2 ⟨fun n' hn' e => ?_, ih⟩
          subst e
          obtain ⟨g, hg, hgn⟩ := List.mem_filterMap.1 hn'
          have e1 := ((fitA_iff hm ha (hf f (hl f (List.mem_cons_self ..)))).1 hn).2
          have e2 := ((fitA_iff hm ha (hf g (hl g (List.mem_cons_of_mem _ hg)))).1 hgn).2
          exact h1 g hg (e1.symm.trans e2)
    exact this fs (fun _ h => h) hfs
  have : ∀ (l : List Vals), (∀ m ∈ l, m ∈ ms) → l.Nodup → (l.flatMap fun m => fs.filterMap (fitA m a)).Nodup := by
    intro l
    induction l with
    | nil => intro _ _; exact List.Pairwise.nil
    | cons m r ih =>
      intro hl hn
      obtain ⟨h1, h2⟩ := List.pairwise_cons.1 hn
      have ih := ih (fun g hg => hl g (List.mem_cons_of_mem _ hg)) h2
      rw [List.flatMap_cons]
      have hm := h8 m (hl m (List.mem_cons_self ..))
      refine List.pairwise_append.2 ⟨inner m hm.1, ih, fun n hn n' hn' e => ?_⟩
      subst e
      obtain ⟨f, hff, h3⟩ := List.mem_filterMap.1 hn
      obtain ⟨m', hm', hn'⟩ := List.mem_flatMap.1 hn'
      obtain ⟨g, hgf, h4⟩ := List.mem_filterMap.1 hn'
      have hm2 := h8 m' (hl m' (List.mem_cons_of_mem _ hm'))
      have e1 := ((fitA_iff hm.1 ha (hf f hff)).1 h3).1
      have e2 := ((fitA_iff hm2.1 ha (hf g hgf)).1 h4).1
      refine h1 m' hm' (vals_ext hm.1 hm2.1 fun i hi => ?_)
      by_cases hD : D i
      · rw [← e1.old i hi ((hm.2 i hi).2 hD), ← e2.old i hi ((hm2.2 i hi).2 hD)]
      · have a1 : m.getD i 0 = 0 := by
          have : ¬ m.getD i 0 ≠ 0 := fun e => hD ((hm.2 i hi).1 e)
          simpa using this
        have a2 : m'.getD i 0 = 0 := by
          have : ¬ m'.getD i 0 ≠ 0 := fun e => hD ((hm2.2 i hi).1 e)
          simpa using this
        rw [a1, a2]
  exact this ms (fun _ h => h) hms
theorem step_dom {fs : List Atm} {ms : List Vals} {a : Atm} {D : Nat → Prop} (h8 : ∀ m ∈ ms, m.length = 8 ∧ ∀ i, i < 8 → (m.getD i 0 ≠ 0 ↔ D i)) (ha : TermA a) (hf : PosF fs) : ∀ n ∈ stepM fs ms a, n.length = 8 ∧ ∀ i, i < 8 → (n.getD i 0 ≠ 0 ↔ D i ∨ (i : Int) ∈ a.2) := fun n hn => by
  obtain ⟨⟨m, hm, h⟩, _⟩ := (mem_step (fun m hm => (h8 m hm).1) ha hf).1 hn
  exact ⟨h.len, fun i hi => (h.dom i hi).trans (or_congr_left ((h8 m hm).2 i hi))⟩
/-- What holds after the beginning b of a body. -/
structure StM (fs : List Atm) (b : List Atm) (ms : List Vals) : Prop where
  nodup : ms.Nodup
  dom : ∀ m ∈ ms, m.length = 8 ∧ ∀ i, i < 8 → (m.getD i 0 ≠ 0 ↔ (i : Int) ∈ b.flatMap Prod.snd)
theorem StM.zero (fs : List Atm) : StM fs [] [zeroV] := ⟨by simp, fun m hm => by
  simp at hm; subst hm
  exact ⟨rfl, fun i hi => by rw [zero_get]; simp⟩⟩
theorem StM.step {fs b : List Atm} {ms : List Vals} {a : Atm} (h : StM fs b ms) (ha : TermA a) (hf : PosF fs) (hfs : fs.Nodup) : StM fs (b ++ [a]) (stepM fs ms a) :=
  ⟨step_nodup _ h.dom h.nodup ha hf hfs, fun m hm => by
    obtain ⟨h1, h2⟩ := step_dom h.dom ha hf m hm
    refine ⟨h1, fun i hi => (h2 i hi).trans ?_⟩
    simp [List.flatMap_append]⟩
end Go.Proofs.Ytleiddajojgmmaa

/- Plain: all matches of a query, their number, its results; other facts. No program. No condition. -/
namespace Go.Proofs.Ytleiddajojgmmaa
set_option linter.unusedSimpArgs false
set_option linter.unusedVariables false

def rowsOf (h : List Int) (ms : List Vals) : List (List Int) := srtL (ms.map fun m => h.map (ofV m))
theorem srtF_pos {l : List Atm} (h : PosF l) : PosF (srtF l) := fun f hf => h f ((mem_srt key_A).1 hf)
theorem IsM.sub {fs fs' b : List Atm} {m : Vals} (h : IsM fs b m) (hs : ∀ a ∈ b, imgA m a ∈ fs → imgA m a ∈ fs') : IsM fs' b m := ⟨h.len, h.dom, fun a ha => hs a ha (h.hit a ha)⟩
theorem sub_len {α : Type} [DecidableEq α] : ∀ {l l' : List α}, l.Nodup → (∀ x ∈ l, x ∈ l') → l.length ≤ l'.length
  | [], _, _, _ => Nat.zero_le _
  | x :: r, l', hn, hs => by
    obtain ⟨h1, h2⟩ := List.pairwise_cons.1 hn
    have hx := hs x (List.mem_cons_self ..)
    have ih := sub_len (l' := l'.erase x) h2 fun y hy => (List.mem_erase_of_ne (fun e => h1 y hy e.symm)).2 (hs y (List.mem_cons_of_mem _ hy))
    rw [List.length_erase_of_mem hx] at ih
    have := List.length_pos_of_mem hx
    simp only [List.length_cons]
    omega
/-- Members of the results. -/
theorem mem_rows {fs b : List Atm} {h : List Int} (hf : PosF fs) (hb : ∀ a ∈ b, TermA a) {y : List Int} : y ∈ rowsOf h (allM (srtF fs) b) ↔ ∃ m, IsM fs b m ∧ y = h.map (ofV m) := by
  unfold rowsOf
  rw [mem_srt key_id, List.mem_map]
  constructor
  · rintro ⟨m, hm, rfl⟩
    exact ⟨m, ((mem_allM (srtF_pos hf) hb).1 hm).sub fun a _ h => (mem_srt key_A).1 h, rfl⟩
  · rintro ⟨m, hm, rfl⟩
    exact ⟨m, (mem_allM (srtF_pos hf) hb).2 (hm.sub fun a _ h => (mem_srt key_A).2 h), rfl⟩
/-- More facts: more results. -/
theorem more {fs gs b : List Atm} {h : List Int} (hg : PosF gs) (hb : ∀ a ∈ b, TermA a) (hs : ∀ a ∈ fs, a ∈ gs) {y : List Int} (hy : y ∈ rowsOf h (allM (srtF fs) b)) : y ∈ rowsOf h (allM (srtF gs) b) := by
  have hf : PosF fs := fun a ha => hg a (hs a ha)
  obtain ⟨m, hm, e⟩ := (mem_rows hf hb).1 hy
  exact (mem_rows hg hb).2 ⟨m, hm.sub fun a _ h => hs _ h, e⟩
/-! ## Two bodies without common variables -/
end Go.Proofs.Ytleiddajojgmmaa

/- Contracts: what fits an atom, and all matches of a query. No condition. -/
namespace Go.Proofs.Ytleiddajojgmmaa
open Go Go.RowKit VC
set_option linter.unusedSimpArgs false
set_option linter.unusedVariables false

/-! ## Values in memory -/
def encV (m : Vals) : List Value := (List.range 8).map fun i => encI (m.getD i 0)
theorem encV_len (m : Vals) : (encV m).length = 8 := by simp [encV]
theorem encV_one (m : Vals) : ∀ u ∈ encV m, u.oneCell' = true := by
  intro u hu
  simp only [encV, List.mem_map] at hu
  obtain ⟨i, _, rfl⟩ := hu
  rfl
abbrev SlV (w : World) (v : Value) (ms : List Vals) : Prop := SlR encV w v ms
/-! ## What fits -/
/-! ## append of one record; where its array lies -/
theorem pappRk {α : Type} {f : α → List Value} {P : Program} {t ty e : TypeId} {sz bytes : Nat} {z : Value} (hT : ElT P t e sz bytes z) (hsz : 0 < sz) (hf : ∀ x, (f x).length = sz) (h1 : ∀ x, ∀ u ∈ f x, u.oneCell' = true) {w w1 : World} {B : Nat} {v : Value} {x : α} {xs : List α}
    (hw : w1 = w.alloc (.cells (f x).toArray e)) (hown : Own w B e sz v xs.length (xs.flatMap f)) (hB : B ≤ w.heap.size) (hlen : (xs.length + 1) * bytes ≤ 140737488355328) (hb : 0 < bytes) {K : Value → World → Prop}
    (hk : ∀ v' w', Own w' B e sz v' (xs ++ [x]).length ((xs ++ [x]).flatMap f) → Fr (fun k => some k = v.ownBlock) w1 w' → (∀ k, v'.ownBlock = some k → some k = v.ownBlock ∨ w.heap.size ≤ k) → K v' w') : PApp P t ty v (.slice (some ⟨w.heap.size, 0, none⟩) 1 1) w1 K := by
  have hl := Own.lit (B := w.heap.size) (n := 1) (sz := sz) hw (Nat.le_refl _) (by omega) (by simp [hf])
  refine pappk hT hsz (hown.grow (alloc_grow hw)) hl.slC (by simp [hf]) (by simpa using h1 x) (by rw [alloc_size hw]; omega) hlen hb ?_
  intro v' w' ho hfr _ hbl
  refine hk v' w' ?_ hfr fun k hk => (hbl k hk).imp id fun h => by have := alloc_size hw; omega
  have e1 : (xs ++ [x]).length = xs.length + 1 := by simp
  have e2 : (xs ++ [x]).flatMap f = xs.flatMap f ++ (f x).toArray.toList := by simp
  rw [e1, e2]
  exact ho
end Go.Proofs.Ytleiddajojgmmaa

/- Contracts: all matches of a query. No condition. -/
namespace Go.Proofs.Ytleiddajojgmmaa
open Go Go.RowKit VC Go.WideMaps
set_option linter.unusedSimpArgs false
set_option linter.unusedVariables false

/-- A local copy of eight numbers. -/
theorem SlV.loc {P : Program} {w : World} {v : Value} {ms : List Vals} (h : SlV w v ms) {i : Nat} {j : Int} (hj : j = (i : Int)) (hi : i < ms.length) {zs : Array Value} (hz : zs.size = 8) {t : TypeId} {K : World → Prop}
    (hk : ∀ w2, Grow w w2 → w.heap.size < w2.heap.size → RecV w2 w.heap.size (encV ms[i]) → K w2) :
    ∃ (a : Addr) (m c : Nat), v = .slice (some a) m c ∧ ((0 : Int) ≤ j ∧ j < (m : Int)) ∧ ∃ cs : List Value, cs.length = 8 ∧ (∀ t u, cs[t]? = some u → w.cell? (Addr.add (a.add (Int.toNat j * 8)) t) = some u) ∧
      ∀ w1, w1 = w.alloc (.cells zs t) → ∃ cs' : Array Value, (Value.agg cs.toArray) = Value.agg cs' ∧ cs'.size = 8 ∧ ∃ w2 : World, (storeCells ⟨w.heap.size, 0, none⟩ cs'.toList).run P w1 = .ok () w2 ∧ K w2 := by
  refine SlR.rd h encV_len hj hi fun w1 hw1 => ?_
  have := RecV.init (P := P) (cs := encV ms[i]) hw1 (by rw [hz, encV_len]) (encV_one _) (K := K) hk
  rwa [hz] at this
end Go.Proofs.Ytleiddajojgmmaa

/- Contracts: results and their number. No condition. -/
namespace Go.Proofs.Ytleiddajojgmmaa
open Go Go.RowKit VC
set_option linter.unusedSimpArgs false
set_option linter.unusedVariables false

theorem SlR.nil {α : Type} {f : α → List Value} (w : World) : SlR f w (.slice none 0 0) [] := SlC.nil w
end Go.Proofs.Ytleiddajojgmmaa

/- Contracts of the reference: what comes before, rising lists of slices, keys of facts, what fits. No condition. -/
namespace Go.Proofs.Ytleiddajojgmmaa
open Go Go.RowKit VC
set_option linter.unusedSimpArgs false
set_option linter.unusedVariables false

/-! ## Parts of a slice -/
section
variable {α : Type} {k : Nat} {rep : World → List Value → α → Prop}
theorem SlX.upto {w : World} {v : Value} {xs : List α} (h : SlX k rep w v xs) {i : Nat} {ik : IntKind} {z : Int} (hz : z = (i : Int)) (hi : i ≤ xs.length) {K : Value → Prop} (hk : ∀ v', SlX k rep w v' (xs.take i) → K v') :
    ∃ (a : Option Addr) (n c : Nat), v = .slice a n c ∧ ∃ l hh m : Nat, sbR none (some (.int ik z)) none n c l hh m ∧ K (.slice (if m = l then a else a.map (·.add (l * k))) (hh - l) (m - l)) := by
  subst hz
  obtain ⟨a, c, rfl, h1, h2, h3, h4⟩ := h.ex
  have hl : (xs.take i).length = i := by simp; omega
  refine ⟨a, _, c, rfl, 0, i, c, ⟨rfl, rfl, rfl, by simp, by omega, by omega, by omega⟩, hk _ ⟨a, c, ?_, by omega, h2, h3, fun j hj => ?_⟩⟩
  · rw [hl]
    by_cases hc : c = 0
    · simp [hc]
    · rw [if_neg hc]
      cases a <;> simp [Addr.add]
  · obtain ⟨b, cs, e1, e2, e3, e4⟩ := h4 j (by omega)
    exact ⟨b, cs, e1, e2, e3, by rw [List.getElem_take]; exact e4⟩
end
/-! ## Put -/
theorem SlX.imp {α : Type} {k : Nat} {rep rep' : World → List Value → α → Prop} {w : World} {v : Value} {xs : List α} (h : SlX k rep w v xs) (hi : ∀ cs x, rep w cs x → rep' w cs x) : SlX k rep' w v xs := by
  obtain ⟨a, c, e, h1, h2, h3, h4⟩ := h.ex
  exact ⟨a, c, e, h1, h2, h3, fun i hi' => by
    obtain ⟨b, cs, e1, e2, e3, e4⟩ := h4 i hi'
    exact ⟨b, cs, e1, e2, e3, hi _ _ e4⟩⟩
/-! ## Keys of facts -/
end Go.Proofs.Ytleiddajojgmmaa

/- Contracts of the reference: what fits. No condition. -/
namespace Go.Proofs.Ytleiddajojgmmaa
open Go Go.RowKit VC
set_option linter.unusedSimpArgs false
set_option linter.unusedVariables false

theorem set_same {m : Vals} {k : Nat} {y : Int} (hk : k < m.length) (h : m.getD k 0 = y) : m.set k y = m := by
  apply List.ext_getElem (by simp)
  intro i h1 h2
  rw [List.getElem_set]
  split
  · rename_i e
    subst e
    rw [← h]; simp [List.getD, hk]
  · rfl
end Go.Proofs.Ytleiddajojgmmaa

/- Contracts: the reference's results, equal rows, a fact is matched; the copies that the statements make. No condition. -/
namespace Go.Proofs.Ytleiddajojgmmaa
open Go Go.RowKit VC
set_option linter.unusedSimpArgs false
set_option linter.unusedVariables false

/-! ## Equal rows -/
/-! ## A fact is matched -/
theorem slI_lit {w w' : World} {cs : Array Value} {xs : List Int} {e : TypeId} (hw : w' = w.alloc (.cells cs e)) (hc : cs.toList = xs.map VC.encI) (hl : xs.length ≤ 1000) : SlI w' (.slice (some ⟨w.heap.size, 0, none⟩) xs.length xs.length) xs := by
  have h := Own.lit (B := w.heap.size) (n := xs.length) (sz := 1) hw (Nat.le_refl _) (by omega) (by
    rw [← Array.length_toList, hc]; simp)
  rw [hc] at h
  exact Own.slI h
/-! ## The copies say the same -/
end Go.Proofs.Ytleiddajojgmmaa

/- What reads on where a block that holds nothing but slices turns. No condition. -/
namespace Go.Proofs.Ytleiddajojgmmaa
open Go Go.RowKit VC
set_option linter.unusedSimpArgs false
set_option linter.unusedVariables false

/-- The block O holds nothing but slices. -/
structure SlB (w : World) (O : Nat) : Prop where
  ex : ∃ cs t fr, w.heap[O]? = some (.cells cs t fr) ∧ ∀ u ∈ cs.toList, ∃ a n c, u = Value.slice a n c
theorem SlB.no {w : World} {O : Nat} (h : SlB w O) {a : Addr} {k : IntKind} {z : Int} (hc : w.cell? a = some (.int k z)) : a.block ≠ O := by
  intro e
  obtain ⟨cs, t, fr, h1, h2⟩ := h.ex
  unfold World.cell? at hc
  rw [e, h1] at hc
  simp only at hc
  split at hc
  · cases hc
  · obtain ⟨x, n, c, e2⟩ := h2 (.int k z) (by
      obtain ⟨hj, he⟩ := Array.getElem?_eq_some_iff.1 hc
      rw [← he]
      exact Array.mem_toList_iff.2 (Array.getElem_mem hj))
    cases e2
theorem SlI.skip {w w' : World} {O : Nat} {v : Value} {xs : List Int} (hO : SlB w O) (h : SlI w v xs) (hf : Fr (fun k => k = O) w w') : SlI w' v xs := by
  obtain ⟨a, c, rfl, h1, h2, h3, h4⟩ := h.ex
  cases xs with
  | nil => exact ⟨a, c, rfl, h1, h2, h3, fun j u hj => by simp at hj⟩
  | cons x r =>
    obtain ⟨b, rfl, hb⟩ := h4 0 (encI x) rfl
    have hne := hO.no hb
    rw [add_block] at hne
    refine ⟨some b, c, rfl, h1, h2, h3, fun j u hj => ?_⟩
    obtain ⟨b', e, hc⟩ := h4 j u hj
    cases e
    exact ⟨b, rfl, hf.cell hc (by rw [add_block]; exact hne)⟩
theorem SlA.skip {w w' : World} {O : Nat} {v : Value} {l : List (Int × List Int)} (hO : SlB w O) (h : SlA w v l) (hf : Fr (fun k => k = O) w w') : SlA w' v l := by
  obtain ⟨a, c, rfl, h1, h2, h3, h4⟩ := h.ex
  refine ⟨a, c, rfl, h1, h2, h3, fun i hi => ?_⟩
  obtain ⟨b, cs, e1, e2, e3, u, rfl, hu⟩ := h4 i hi
  have hne := hO.no (e3 0 _ rfl)
  rw [add_block] at hne
  exact ⟨b, _, e1, e2, fun t y ht => hf.cell (e3 t y ht) (by rw [add_block]; exact hne), u, rfl, SlI.skip hO hu hf⟩
end Go.Proofs.Ytleiddajojgmmaa

/- Contracts: the facts that matches use. No condition. -/
namespace Go.Proofs.Ytleiddajojgmmaa
open Go Go.RowKit VC
set_option linter.unusedSimpArgs false
set_option linter.unusedVariables false

/-- A slice of facts, as an element. -/
def repF (w : World) (cs : List Value) (l : List Atm) : Prop := ∃ v, cs = [v] ∧ SlA w v l
theorem repF_mono : Mono repF := fun w w' cs x hg ⟨v, h1, h2⟩ => ⟨v, h1, h2.gr hg⟩
abbrev SlF (w : World) (v : Value) (L : List (List Atm)) : Prop := SlX 1 repF w v L
theorem SlF.gr {w w' : World} {v : Value} {L : List (List Atm)} (h : SlF w v L) (hf : Grow w w') : SlF w' v L := h.grow repF_mono hf
theorem SlA.sl {w : World} {v : Value} {l : List Atm} (h : SlA w v l) : ∃ a n c, v = Value.slice a n c := by
  obtain ⟨a, c, e, _⟩ := h.ex
  exact ⟨a, _, c, e⟩
end Go.Proofs.Ytleiddajojgmmaa

/- Contracts: the reference's facts that matches use; equal lists of facts. No condition. -/
namespace Go.Proofs.Ytleiddajojgmmaa
open Go Go.RowKit VC
set_option linter.unusedSimpArgs false
set_option linter.unusedVariables false

/-! ## Equal lists of facts -/
theorem same1_c {w : World} {r s : Int} {t u : Value} {xs ys : List Int} (ht : SlI w t xs) (hu : SlI w u ys) : Calls Try.prog 60 #[.agg #[.int .i64 r, t], .agg #[.int .i64 s, u]] w (Ret w (.bool (decide (((r, xs) : Atm) = (s, ys))))) := by
  refine f60_calls _ _ ?_
  refine ⟨_, rfl, fun w1 hw1 => ⟨_, rfl, fun w3 hw3 => ?_⟩⟩
  have g1 := alloc_grow hw1
  have g3 := alloc_grow hw3
  have g03 := g1.trans g3
  refine ⟨r, g3.cell (boxc hw1 0 _ rfl), s, boxc hw3 0 _ rfl, condD (fun h => ?_) fun h => ⟨?_, g03⟩⟩
  · refine ⟨t, g3.cell (boxc hw1 1 _ rfl), u, boxc hw3 1 _ rfl, (equal_c (ht.grow g03) (hu.grow g03)).mono ?_⟩
    rintro e w2 ⟨rfl, g2⟩
    refine ⟨_, rfl, ?_, g03.trans g2⟩
    congr 2
    rw [decide_eq_decide, Prod.mk.injEq]
    exact ⟨fun e => ⟨h, e⟩, fun e => e.2⟩
  · congr 2
    symm
    rw [decide_eq_false_iff_not, Prod.mk.injEq]
    exact fun e => h e.1
theorem same_c {w : World} {u v : Value} {L M : List Atm} (hx : SlA w u L) (hy : SlA w v M) : Calls Try.prog 33 #[u, v] w (Ret w (.bool (decide (L = M)))) := by
  refine f33_calls _ _ ?_
  have main : Calls Try.prog 59 #[u, v, .func (.func 60) #[] #[]] w (Ret w (.bool (decide (L = M)))) := by
    refine f59_calls _ _ _ ?_
    have h1 := SlX.len_le hx
    have h2 := SlX.len_le hy
    refine SlX.ln hx (SlX.ln hy (condP_i (fun h => ?_) fun h => ?_))
    · refine ⟨?_, Grow.refl w⟩
      have : L ≠ M := fun e => by subst e; simp at h
      rw [decide_eq_false this]
    have hl : L.length = M.length := by simp at h; omega
    refine SlX.ln hx ⟨fun t w' => ∃ k : Nat, t = k ∧ k ≤ L.length ∧ Grow w w' ∧ L.take k = M.take k, fun t _ => L.length - t.toNat, ⟨0, rfl, by omega, Grow.refl w, by simp⟩, ?_⟩
    rintro - t w1 ⟨k, rfl, hk, hw, htk⟩
    refine condD (fun hlt => ?_) (fun hge => ?_)
    · have hkl : k < L.length := by omega
      have hkm : k < M.length := by omega
      refine SlX.loc (hx.gr hw) rfl hkl rfl fun w20 a g20 s20 ha c0 c1 => ?_
      have hw20 := hw.trans g20
      refine SlX.loc (hy.gr hw20) rfl hkm rfl fun w27 c g27 s27 hc d0 d1 => ?_
      refine ⟨[_, _], rfl, two (g27.cell c0) (g27.cell c1), [_, _], rfl, two d0 d1, _, _, _, rfl, by kernel_rfl, ?_⟩
      rw [app2]
      refine (same1_c (r := L[k].1) (s := M[k].1) (ha.grow g27) hc).mono ?_
      rintro e w2 ⟨rfl, g2⟩
      have hw2 := (hw20.trans g27).trans g2
      refine ⟨_, rfl, condP_i (fun h => ?_) fun h => ?_⟩
      · have h : ¬ L[k] = M[k] := by rw [Bool.not_eq_true'] at h; exact of_decide_eq_false h
        refine ⟨?_, hw2⟩
        have : L ≠ M := fun e => h (by subst e; rfl)
        rw [decide_eq_false this]
      · have he : L[k] = M[k] := by rw [Bool.not_eq_false'] at h; exact of_decide_eq_true h
        refine ⟨by unfold inR; omega, ⟨k + 1, by omega, by omega, hw2, ?_⟩, by dsimp only; omega⟩
        rw [List.take_succ_eq_append_getElem hkl, List.take_succ_eq_append_getElem hkm, htk, he]
    · refine ⟨?_, hw⟩
      have : k = L.length := by omega
      subst this
      rw [List.take_length, hl, List.take_length] at htk
      rw [decide_eq_true htk]
  refine main.mono ?_
  rintro e w' ⟨rfl, g⟩
  exact ⟨_, rfl, rfl, g⟩
/-! ## The reference -/
end Go.Proofs.Ytleiddajojgmmaa
