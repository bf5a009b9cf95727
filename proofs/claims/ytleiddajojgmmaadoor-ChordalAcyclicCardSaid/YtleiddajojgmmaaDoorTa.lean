/- Contracts: the copies that the statements make of queries and facts. No condition. -/
import Derived.Test.YtleiddajojgmmaaDoorMc
import Derived.Test.YtleiddajojgmmaaDoorVw
import Derived.Shelf.SlSortCmp.Insertion
import Derived.Test.YtleiddajojgmmaaDoorSh
import Derived.Laws.BitsLemmas
import Derived.Test.YtleiddajojgmmaaDoorCb
namespace Go.Proofs.YtleiddajojgmmaaDoor
open Go Go.RowKit VC
set_option linter.unusedSimpArgs false
set_option linter.unusedVariables false

def trA (a : Atm) : Atm := (a.1, a.2.take 9)
def trB (l : List Atm) : List Atm := (l.take 7).map trA
theorem el_atom : ElT Tryd.prog 30 50 2 32 (.agg #[.int .i64 0, .slice none 0 0]) := ⟨by kernel_rfl, ⟨Tryd.t50, by kernel_rfl, by kernel_rfl, by kernel_rfl, by kernel_rfl⟩, rfl⟩
abbrev OwnA (w : World) (B : Nat) (v : Value) (l : List Atm) : Prop := OwnX (fun b => b < B) 2 repA w B 50 v l
/-- A record of an int and of a slice of the call's own that is newer than out's array. -/
theorem elx_own {T : Nat → Prop} {w : World} {B : Nat} {r : Int} {v out : Value} {xs : List Int} (ho : OwnI w B v xs) (hT : ∀ b, T b → b < B) (hout : ∀ b, out.ownBlock = some b → b < B) : ElX T 2 repA out w ([.int .i64 r, v], (r, xs)) := by
  refine ⟨rfl, ?_, fun w' hf => ⟨v, rfl, (Own.fr ho hf fun k hk e => ?_).slI⟩⟩
  · intro u hu
    simp at hu
    rcases hu with rfl | rfl
    · rfl
    · exact (Own.one ho).2
  · have h2 := (Own.lt ho hk).1
    rcases e with e | e
    · have := hT k e; omega
    · have h1 := hout k e.symm
      omega
theorem few_c {w : World} {v : Value} {xs : List Int} (hs : SlI w v xs) : Calls Tryd.prog 23 #[v] w fun e w' => ∃ v', e = .returned v' ∧ OwnI w' w.heap.size v' (xs.take 9) ∧ Grow w w' := by
  refine f23_calls _ ?_
  have hle := hs.len_le
  have e : (if 9 < (xs.length : Int) then (9 : Int) else xs.length) = ((min 9 xs.length : Nat) : Int) := by split <;> omega
  refine hs.ln ?_
  rw [e]
  have e2 : xs.take (min 9 xs.length) = xs.take 9 := by
    rcases Nat.lt_or_ge 9 xs.length with h | h
    · rw [Nat.min_eq_left (by omega)]
    · rw [Nat.min_eq_right h, List.take_length, List.take_of_length_le h]
  obtain ⟨a, n, c, e1, l, h, m, h2, hv'⟩ := hs.upto (i := min 9 xs.length) (k := .i64) (K := fun x => SlI w x (xs.take 9)) rfl (by omega) fun v' hv' => by rwa [e2] at hv'
  refine ⟨a, n, c, e1, l, h, m, h2, (clone_c hv' (by simp; omega)).mono ?_⟩
  rintro e w1 ⟨u, rfl, ho, g1⟩
  exact ⟨u, rfl, u, rfl, ho, g1⟩
theorem trF_succ {l : List Atm} {k : Nat} (hk : k < l.length) : (l.take (k + 1)).map trA = (l.take k).map trA ++ [trA l[k]] := by rw [List.take_succ_eq_append_getElem hk, List.map_append]; rfl
theorem OwnA.mono {w : World} {B B' : Nat} {v : Value} {l : List Atm} (h : OwnA w B v l) (hB : B' ≤ B) : OwnA w B' v l := (OwnX.base h hB).weaken fun b hb => Nat.lt_of_lt_of_le hb hB
/-- Between the rounds of Of. -/
structure OfI (w9 : World) (C : Nat) (hv : Value) (l : List Atm) (k : Nat) (w' : World) (bv : Value) : Prop where
  rc : RecV w' C [hv, bv]
  own : OwnA w' w9.heap.size bv ((l.take k).map trA)
  fr : Fr (fun i => i = C) w9 w'
/-- The copy of a query. -/
theorem of_c {w : World} {hv v : Value} {h : List Int} {l : List Atm} (hh : SlI w hv h) (hs : SlA w v l) : Calls Tryd.prog 6 #[.agg #[hv, v]] w fun e w' => ∃ hv' v', e = .returned (.agg #[hv', v']) ∧ OwnI w' w.heap.size hv' (h.take 9) ∧ OwnA w' w.heap.size v' (trB l) ∧ Grow w w' ∧ ∀ k, hv'.ownBlock = some k → v'.ownBlock ≠ some k := by
  refine f6_calls _ ?_
  have hle := SlX.len_le hs
  refine ⟨_, rfl, fun w1 hw1 w3 hw3 => ?_⟩
  have g1 := alloc_grow hw1
  have g3 := alloc_grow hw3
  have s1 := alloc_size hw1
  have s3 := alloc_size hw3
  have hR := RecV.new hw3
  have hq := (RecV.new hw1).grow g3
  refine ⟨_, hq.cell (j := 0) rfl, (few_c (hh.grow (g1.trans g3))).mono ?_⟩
  rintro e w5 ⟨hv', rfl, ho5, g5⟩
  refine ⟨hv', rfl, Own.one ho5, fun w8 hw8 => RecV.init (cs := [hv', .slice none 0 0]) hw8 rfl (by
    intro u hu
    simp at hu
    rcases hu with rfl | rfl
    · exact (Own.one ho5).2
    · rfl) fun w9 g9 s9 hC => ?_⟩
  have g39 := g5.trans g9
  have g09 := (g1.trans g3).trans g39
  refine ⟨_, (hq.grow g39).cell (j := 1) rfl, SlX.ln (hs.gr g09) ?_⟩
  have hs5 := g5.size
  have hs9 := g9.size
  have fin : ∀ {k w' bv}, (l.take k).map trA = trB l → OfI w9 w5.heap.size hv' l k w' bv → ∃ cs : List Value, cs.length = 2 ∧ (∀ (j : Nat) (u : Value), cs[j]? = some u → w'.cell? (Addr.add ⟨w5.heap.size, 0, none⟩ j) = some u) ∧ ∃ cs' : Array Value, (Value.agg cs.toArray) = Value.agg cs' ∧ cs'.size = 2 ∧
      ∃ w2 : World, (storeCells ⟨w1.heap.size, 0, none⟩ cs'.toList).run Tryd.prog w' = .ok () w2 ∧ ∃ ds : List Value, ds.length = 2 ∧ (∀ (j : Nat) (u : Value), ds[j]? = some u → w2.cell? (Addr.add ⟨w1.heap.size, 0, none⟩ j) = some u) ∧
        ∃ hv2 v2, Ending.returned (.agg ds.toArray) = .returned (.agg #[hv2, v2]) ∧ OwnI w2 w.heap.size hv2 (h.take 9) ∧ OwnA w2 w.heap.size v2 (trB l) ∧ Grow w w2 ∧ ∀ k, hv2.ownBlock = some k → v2.ownBlock ≠ some k := fun {k w' bv} hk hI => by
    have hfr := hI.fr
    have hR' : RecV w' w1.heap.size _ := (hR.grow g39).fr hfr (by omega)
    refine ⟨[hv', bv], rfl, hI.rc.all, ?_⟩
    refine RecV.store (cs := [hv', bv]) hR' rfl (by
      intro u hu
      simp at hu
      rcases hu with rfl | rfl
      · exact (Own.one ho5).2
      · exact hI.own.one.2) fun w2 hf hr => ⟨[hv', bv], rfl, hr.all, hv', bv, rfl, ?_, ?_, ?_, fun k hk e => by have := (Own.lt ho5 hk).2; have := (hI.own.lt e).1; omega⟩
    · refine Own.mono (Own.fr (Own.fr (Own.grow ho5 g9) hfr fun b hb e => ?_) hf fun b hb e => ?_) (by omega)
      · have := Own.lt ho5 hb; omega
      · have := Own.lt ho5 hb; omega
    · rw [← hk]
      refine OwnA.mono (OwnX.fr hI.own hf (fun b hb => ?_) fun b hb e => ?_) (by omega)
      · show b < w9.heap.size
        omega
      · have := (hI.own.lt hb).1; omega
    · exact (g09.fr hfr fun i hi e => by omega).fr hf fun i hi e => by omega
  refine ⟨fun t w' => ∃ (k : Nat) (bv : Value), t = k ∧ k ≤ l.length ∧ k ≤ 7 ∧ OfI w9 w5.heap.size hv' l k w' bv, fun t _ => l.length - t.toNat, ⟨0, _, rfl, by omega, by omega, hC, OwnX.nil _ _ _, Fr.refl _ _⟩, ?_⟩
  rintro - t w19 ⟨k, bv, rfl, hk, hk7, hI⟩
  have gI : Grow w w19 := g09.fr hI.fr fun i hi e => by omega
  refine condD (fun hlt => ?_) (fun hge => ?_)
  · have hkl : k < l.length := by omega
    refine SlX.loc (hs.gr gI) rfl hkl rfl fun w25 u g25 _ hu c0 c1 => ?_
    have hI25 : OfI w9 w5.heap.size hv' l k w25 bv := ⟨hI.rc.grow g25, hI.own.grow g25, hI.fr.trans (Fr.of_grow g25)⟩
    refine condD (fun h6 => fin ?_ hI25) fun h6 m => ?_
    · have : k = 7 := by omega
      subst this; rfl
    · have gm : Grow w25 (dr w25 m) := (Grow.refl w25).dr m
      have hf9 := hI25.fr.size
      have hbl : ∀ b, bv.ownBlock = some b → b < w25.heap.size := fun b hb => (hI25.own.lt hb).2
      have leaf : ∀ {E v'}, OwnI E (dr w25 m).heap.size v' ((l[k]).2.take 9) → Grow (dr w25 m) E → ∃ t : Value, ∃ w' : World, (Instr.buildSlice 30 1 #[(0, .agg #[.int .i64 (l[k]).1, v'])]).run Tryd.prog E = .ok t w' ∧ (w'.cell? (Addr.add ⟨w5.heap.size, 0, none⟩ 1) = some bv ∧
          PApp Tryd.prog 30 30 bv t w' fun v2 w2 => oneV v2 ∧ (∃ old, w2.cell? (Addr.add ⟨w5.heap.size, 0, none⟩ 1) = some old) ∧ w2.frozen? (Addr.add ⟨w5.heap.size, 0, none⟩ 1) = false ∧ ∀ w4, w4 = w2.setCell (Addr.add ⟨w5.heap.size, 0, none⟩ 1) v2 →
            inR ((k : Int) + 1) ∧ ((∃ (k' : Nat) (bv : Value), (k : Int) + 1 = k' ∧ k' ≤ l.length ∧ k' ≤ 7 ∧ OfI w9 w5.heap.size hv' l k' w4 bv) ∧ l.length - Int.toNat ((k : Int) + 1) < l.length - Int.toNat (k : Int))) := fun {E v'} ho gE => by
        have gE' := gm.trans gE
        refine bs1 el_atom (by omega) (by omega) (cs := #[.int .i64 (l[k]).1, v']) rfl E fun w' hw' => ⟨((hI25.rc.grow gE').grow (alloc_grow hw')).cell rfl, ?_⟩
        refine pappX1 el_atom (by omega) (cs := [.int .i64 (l[k]).1, v']) (y := trA l[k]) (hI25.own.grow gE') hw' (elx_own ho (fun b hb => Nat.lt_of_lt_of_le hb hf9) hbl) (by have := gE'.size; omega) (by simp; omega) (by omega) ?_
        intro v2 w2 ho2 hf2 _ hblk
        have hCne : ∀ (k : Nat), k = w5.heap.size → ¬ some k = bv.ownBlock := fun b e e2 => by
          have := (hI25.own.lt e2.symm).1; omega
        have hC2 : RecV w2 w5.heap.size [hv', bv] := ((hI25.rc.grow gE').grow (alloc_grow hw')).fr hf2 (hCne _ rfl)
        refine ⟨ho2.one, ⟨_, hC2.cell (j := 1) rfl⟩, hC2.free 1, fun w4 hw4 => ⟨by unfold inR; omega, ⟨k + 1, v2, by omega, by omega, by omega, hC2.set hw4, ?_, ?_⟩, by omega⟩⟩
        · rw [trF_succ hkl]
          refine OwnX.fr ho2 (RecV.set_fr hw4) (fun b hb => ?_) fun b hb e => ?_
          · show b < w9.heap.size
            omega
          · have := (ho2.lt hb).1; omega
        · refine Fr.trans (b := w2) (Fr.mono (S := fun i => w9.heap.size ≤ i ∨ i = w5.heap.size) ((hI25.fr.mono fun i _ e => .inr e).trans ((Fr.of_grow (gE'.trans (alloc_grow hw'))).trans (hf2.mono fun i _ e => .inl ?_))) fun i hi e => ?_) (RecV.set_fr hw4)
          · exact (hI25.own.lt e.symm).1
          · rcases e with e | e
            · omega
            · exact e
      have call : ∀ {Q : Ending → World → Prop}, (∀ v' E, OwnI E (dr w25 m).heap.size v' ((l[k]).2.take 9) → Grow (dr w25 m) E → Q (.returned v') E) → Calls Tryd.prog 23 #[u] (dr w25 m) Q := fun hq => (few_c (hu.dr m)).mono (by
        rintro e E ⟨v', rfl, ho, gE⟩
        exact hq v' E ho gE)
      have cC : ∀ {E}, Grow (dr w25 m) E → E.cell? (Addr.add ⟨w5.heap.size, 0, none⟩ 1) = some bv := fun g => (hI25.rc.grow (gm.trans g)).cell (j := 1) rfl
      have k0 : ∀ {E}, Grow (dr w25 m) E → E.cell? (Addr.add ⟨w19.heap.size, 0, none⟩ 0) = some (.int .i64 (l[k]).1) := fun g => (gm.trans g).cell c0
      have k1 : ∀ {E}, Grow (dr w25 m) E → E.cell? (Addr.add ⟨w19.heap.size, 0, none⟩ 1) = some u := fun g => (gm.trans g).cell c1
      repeat' first
        | exact Own.one ‹_›
        | refine And.intro ?_ ?_
        | refine ⟨_, cC (Grow.refl _), ?_⟩
        | refine ⟨_, k0 (Grow.refl _), ?_⟩
        | refine ⟨_, k1 (Grow.refl _), ?_⟩
        | refine ⟨_, cC ‹Grow (dr w25 m.1) _›, ?_⟩
        | refine ⟨_, k0 ‹Grow (dr w25 m.1) _›, ?_⟩
        | (refine call ?_; intro v' E ho gE; refine ⟨v', rfl, ?_⟩)
        | (obtain ⟨t, w', a, b, c⟩ := leaf ‹_› ‹Grow (dr w25 m.1) _›; exact ⟨t, w', a, c⟩)
        | (obtain ⟨t, w', a, b, c⟩ := leaf ‹_› ‹Grow (dr w25 m.1) _›; exact ⟨t, w', a, _, b, c⟩)
  · have hkl : k = l.length := by omega
    subst hkl
    exact fin (by unfold trB; rw [List.take_length, List.take_of_length_le hk7]) hI
end Go.Proofs.YtleiddajojgmmaaDoor

/- The order of facts, and the function that compares them: what it leaves behind is told exactly, as sorting asks. No condition. -/
namespace Go.Proofs.YtleiddajojgmmaaDoor
open Go Go.RowKit VC
set_option linter.unusedSimpArgs false
set_option linter.unusedVariables false

/-! ## The order -/
theorem cmpI_zero {x y : Int} : cmpI x y = 0 ↔ x = y := by unfold cmpI; split <;> (try split) <;> omega
theorem cmpI_swap (x y : Int) : cmpI y x = - cmpI x y := by unfold cmpI; split <;> split <;> (try split) <;> omega
theorem cmpL_zero : ∀ {xs ys : List Int}, cmpL xs ys = 0 ↔ xs = ys
  | [], [] => by simp [cmpL]
  | [], _ :: _ => by simp [cmpL]
  | _ :: _, [] => by simp [cmpL]
  | x :: r, y :: s => by
    rw [cmpL]
    by_cases h : cmpI x y = 0
    · rw [if_pos h, cmpL_zero, cmpI_zero.1 h]; simp
    · rw [if_neg h]
      have : ¬ x = y := fun e => h (cmpI_zero.2 e)
      simp [h, this]
theorem cmpL_swap : ∀ (xs ys : List Int), cmpL ys xs = - cmpL xs ys
  | [], [] => rfl
  | [], _ :: _ => rfl
  | _ :: _, [] => rfl
  | x :: r, y :: s => by
    rw [cmpL, cmpL, cmpI_swap x y]
    by_cases h : cmpI x y = 0
    · rw [if_pos h, if_pos (by omega), cmpL_swap r s]
    · rw [if_neg h, if_neg (by omega)]
theorem cmpI_trans {x y z : Int} (h1 : cmpI x y ≤ 0) (h2 : cmpI y z ≤ 0) : cmpI x z ≤ 0 ∧ (cmpI x z = 0 → cmpI x y = 0 ∧ cmpI y z = 0) := by
  unfold cmpI at *
  refine ⟨?_, ?_⟩
  · repeat' split
    all_goals (try split at h1) <;> (try split at h2) <;> (try split at h1) <;> (try split at h2) <;> omega
  · repeat' split
    all_goals (try split at h1) <;> (try split at h2) <;> (try split at h1) <;> (try split at h2) <;> omega
theorem cmpL_trans : ∀ {xs ys zs : List Int}, cmpL xs ys ≤ 0 → cmpL ys zs ≤ 0 → cmpL xs zs ≤ 0
  | [], [], zs, _, h2 => h2
  | [], _ :: _, [], _, h2 => by simp [cmpL] at h2
  | [], _ :: _, _ :: _, _, _ => by simp [cmpL]
  | _ :: _, [], _, h1, _ => by simp [cmpL] at h1
  | _ :: _, _ :: _, [], _, h2 => by simp [cmpL] at h2
  | x :: r, y :: s, z :: t, h1, h2 => by
    rw [cmpL] at *
    have hx : cmpI x y ≤ 0 := by
      by_cases h : cmpI x y = 0
      · omega
      · rw [if_neg h] at h1; exact h1
    have hy : cmpI y z ≤ 0 := by
      by_cases h : cmpI y z = 0
      · omega
      · rw [if_neg h] at h2; exact h2
    obtain ⟨h3, h4⟩ := cmpI_trans hx hy
    by_cases h : cmpI x z = 0
    · obtain ⟨h5, h6⟩ := h4 h
      rw [if_pos h5] at h1
      rw [if_pos h6] at h2
      rw [if_pos h]
      exact cmpL_trans h1 h2
    · rw [if_neg h]; exact h3
def keyA (a : Atm) : List Int := a.1 :: a.2
theorem keyA_inj {a b : Atm} (h : keyA a = keyA b) : a = b := by
  obtain ⟨r, l⟩ := a
  obtain ⟨s, m⟩ := b
  simp [keyA] at h
  rw [h.1, h.2]
/-! ## What is left behind -/
end Go.Proofs.YtleiddajojgmmaaDoor

/- Plain: rising lists, each once; matches of a query. No program. No condition. -/
namespace Go.Proofs.YtleiddajojgmmaaDoor
set_option linter.unusedSimpArgs false
set_option linter.unusedVariables false

/-! ## Rising lists -/
theorem cmpL_lt_trans {a b c : List Int} (h1 : cmpL a b < 0) (h2 : cmpL b c < 0) : cmpL a c < 0 := by
  have h3 := cmpL_trans (xs := a) (ys := b) (zs := c) (by omega) (by omega)
  refine Classical.byContradiction fun hn => ?_
  have h4 : cmpL a c = 0 := by omega
  rw [cmpL_zero.1 h4] at h1
  have := cmpL_swap c b
  omega
theorem cmpL_self (a : List Int) : cmpL a a = 0 := cmpL_zero.2 rfl
section
variable {α : Type} (key : α → List Int)
/-- Put into a rising list. -/
def insK (x : α) : List α → List α
  | [] => [x]
  | y :: r => if cmpL (key y) (key x) < 0 then y :: insK x r else if key y = key x then y :: r else x :: y :: r
def srtK (l : List α) : List α := l.foldl (fun acc x => insK key x acc) []
def StrK (l : List α) : Prop := l.Pairwise fun a b => cmpL (key a) (key b) < 0
variable {key}
theorem mem_insK (hi : ∀ a b, key a = key b → a = b) {x z : α} : ∀ {l : List α}, z ∈ insK key x l ↔ z = x ∨ z ∈ l
  | [] => by simp [insK]
  | y :: r => by
    rw [insK]
    split
    · rw [List.mem_cons, mem_insK hi, List.mem_cons]
      constructor
      · rintro (h | h | h)
        · exact .inr (.inl h)
        · exact .inl h
        · exact .inr (.inr h)
      · rintro (h | h | h)
        · exact .inr (.inl h)
        · exact .inl h
        · exact .inr (.inr h)
    · split
      · rename_i h1 h2
        have := hi _ _ h2
        subst this
        simp
      · simp
theorem str_insK (hi : ∀ a b, key a = key b → a = b) {x : α} : ∀ {l : List α}, StrK key l → StrK key (insK key x l)
  | [], _ => List.pairwise_singleton _ _
  | y :: r, h => by
    have h0 := h
    obtain ⟨h1, h2⟩ := List.pairwise_cons.1 h
    rw [insK]
    split
    · rename_i hlt
      refine List.pairwise_cons.2 ⟨fun z hz => ?_, str_insK hi h2⟩
      rcases (mem_insK hi).1 hz with rfl | hz
      · exact hlt
      · exact h1 z hz
    · split
      · exact h0
      · rename_i hn hne
        have hlt : cmpL (key x) (key y) < 0 := by
          have e := cmpL_swap (key x) (key y)
          have : cmpL (key y) (key x) ≠ 0 := fun e => hne (cmpL_zero.1 e)
          omega
        refine List.pairwise_cons.2 ⟨fun z hz => ?_, h0⟩
        rcases List.mem_cons.1 hz with rfl | hz
        · exact hlt
        · exact cmpL_lt_trans hlt (h1 z hz)
theorem srt_go (hi : ∀ a b, key a = key b → a = b) : ∀ (l acc : List α), StrK key acc → StrK key (l.foldl (fun acc x => insK key x acc) acc) ∧ ∀ z, z ∈ l.foldl (fun acc x => insK key x acc) acc ↔ z ∈ l ∨ z ∈ acc
  | [], acc, h => ⟨h, fun z => by simp⟩
  | x :: r, acc, h => by
    obtain ⟨h1, h2⟩ := srt_go hi r (insK key x acc) (str_insK hi h)
    refine ⟨h1, fun z => (h2 z).trans ?_⟩
    rw [mem_insK hi, List.mem_cons]
    constructor
    · rintro (h | h | h)
      · exact .inl (.inr h)
      · exact .inl (.inl h)
      · exact .inr h
    · rintro ((h | h) | h)
      · exact .inr (.inl h)
      · exact .inl h
      · exact .inr (.inr h)
theorem mem_srt (hi : ∀ a b, key a = key b → a = b) {l : List α} {z : α} : z ∈ srtK key l ↔ z ∈ l := ((srt_go hi l [] List.Pairwise.nil).2 z).trans (by simp)
end
theorem key_id : ∀ a b : List Int, id a = id b → a = b := fun _ _ h => h
theorem key_A : ∀ a b : Atm, keyA a = keyA b → a = b := fun _ _ h => keyA_inj h
abbrev srtL (l : List (List Int)) : List (List Int) := srtK id l
abbrev srtF (l : List Atm) : List Atm := srtK keyA l
/-! ## Values, and what fits -/
abbrev Vals := List Int
def ofV (m : Vals) (x : Int) : Int := if x < 0 then -x else m.getD x.toNat 0
def imgA (m : Vals) (a : Atm) : Atm := (a.1, a.2.map (ofV m))
def fitL : Vals → List Int → List Int → Option Vals
  | m, [], [] => some m
  | m, x :: xs, y :: ys => if ofV m x = 0 then fitL (m.set x.toNat y) xs ys else if ofV m x = y then fitL m xs ys else none
  | _, _, _ => none
def fitA (m : Vals) (a f : Atm) : Option Vals := if a.1 = f.1 then fitL m a.2 f.2 else none
def stepM (fs : List Atm) (ms : List Vals) (a : Atm) : List Vals := ms.flatMap fun m => fs.filterMap (fitA m a)
def zeroV : Vals := [0, 0, 0, 0, 0, 0, 0, 0]
def allM (fs b : List Atm) : List Vals := b.foldl (stepM fs) [zeroV]
/-- n knows what m knows, and the variables of xs. -/
structure Ext (m n : Vals) (xs : List Int) : Prop where
  len : n.length = 8
  dom : ∀ i, i < 8 → (n.getD i 0 ≠ 0 ↔ m.getD i 0 ≠ 0 ∨ (i : Int) ∈ xs)
  old : ∀ i, i < 8 → m.getD i 0 ≠ 0 → n.getD i 0 = m.getD i 0
theorem vals_ext {m n : Vals} (h1 : m.length = 8) (h2 : n.length = 8) (h : ∀ i, i < 8 → m.getD i 0 = n.getD i 0) : m = n := by
  apply List.ext_getElem (by omega)
  intro i hi hj
  have := h i (by omega)
  simpa [List.getD, hi, hj] using this
theorem Ext.nil {m n : Vals} (h : m.length = 8) : Ext m n [] ↔ n = m := by
  constructor
  · intro hE
    refine vals_ext hE.len h fun i hi => ?_
    by_cases h0 : m.getD i 0 = 0
    · have := hE.dom i hi
      simp only [h0] at this ⊢
      simpa using this
    · exact hE.old i hi h0
  · rintro rfl
    exact ⟨h, fun i _ => by simp, fun i _ _ => rfl⟩
theorem ofV_ext {m n : Vals} {xs : List Int} (h : Ext m n xs) {x : Int} (hx : x ≤ 7) (hk : ofV m x ≠ 0) : ofV n x = ofV m x := by
  unfold ofV at *
  split
  · rfl
  · rename_i h0
    rw [if_neg h0] at hk
    exact h.old _ (by omega) hk
theorem getD_set (m : Vals) {k i : Nat} (hk : k < m.length) (y : Int) : (m.set k y).getD i 0 = if i = k then y else m.getD i 0 := by
  simp only [List.getD, List.getElem?_set]
  by_cases h : k = i
  · subst h; simp [hk]
  · rw [if_neg h, if_neg (fun e => h e.symm)]
theorem fitL_iff : ∀ {xs ys : List Int} {m n : Vals}, m.length = 8 → (∀ x ∈ xs, -9 ≤ x ∧ x ≤ 7) → (∀ y ∈ ys, (1 : Int) ≤ y) → (fitL m xs ys = some n ↔ Ext m n xs ∧ xs.map (ofV n) = ys)
  | [], [], m, n, h8, _, _ => by
    rw [fitL, Ext.nil h8]
    simp [eq_comm]
  | [], y :: ys, m, n, h8, _, _ => by simp [fitL]
  | x :: xs, [], m, n, h8, _, _ => by simp [fitL]
  | x :: xs, y :: ys, m, n, h8, hx, hy => by
    have hx0 := hx x (List.mem_cons_self ..)
    have hy0 := hy y (List.mem_cons_self ..)
    have hxr := fun z hz => hx z (List.mem_cons_of_mem _ hz)
    have hyr := fun z hz => hy z (List.mem_cons_of_mem _ hz)
    rw [fitL]
    split
    · rename_i h0
      have hn : 0 ≤ x := by
        refine Classical.byContradiction fun hn => ?_
        unfold ofV at h0
        rw [if_pos (by omega)] at h0
        omega
      obtain ⟨k, rfl⟩ : ∃ k : Nat, x = k := ⟨x.toNat, by omega⟩
      have hk : k < 8 := by omega
      have hm0 : m.getD k 0 = 0 := by
        unfold ofV at h0
        rw [if_neg (by omega), Int.toNat_natCast] at h0
        exact h0
      rw [Int.toNat_natCast, fitL_iff (by simp [h8]) hxr hyr]
      have gs : ∀ i, (m.set k y).getD i 0 = if i = k then y else m.getD i 0 := fun i => getD_set m (by omega) y
      have key : Ext (m.set k y) n xs ↔ Ext m n (↑k :: xs) ∧ ofV n k = y := by
        have eo : ofV n (k : Int) = n.getD k 0 := by unfold ofV; rw [if_neg (by omega), Int.toNat_natCast]
        rw [eo]
        constructor
        · intro hE
          refine ⟨⟨hE.len, fun i hi => ?_, fun i hi h => ?_⟩, ?_⟩
          · rw [hE.dom i hi, gs i, List.mem_cons]
            by_cases e : i = k
            · subst e
              simp; omega
            · rw [if_neg e]
              constructor
              · rintro (h | h)
                · exact .inl h
                · exact .inr (.inr h)
              · rintro (h | h | h)
                · exact .inl h
                · omega
                · exact .inr h
          · have hne : i ≠ k := fun e => h (e ▸ hm0)
            have := hE.old i hi (by rw [gs, if_neg hne]; exact h)
            rwa [gs, if_neg hne] at this
          · have := hE.old k hk (by rw [gs, if_pos rfl]; omega)
            rwa [gs, if_pos rfl] at this
        · rintro ⟨hE, e⟩
          refine ⟨hE.len, fun i hi => ?_, fun i hi h => ?_⟩
          · rw [hE.dom i hi, gs i, List.mem_cons]
            by_cases e : i = k
            · subst e
              simp; omega
            · rw [if_neg e]
              constructor
              · rintro (h | h | h)
                · exact .inl h
                · omega
                · exact .inr h
              · rintro (h | h)
                · exact .inl h
                · exact .inr (.inr h)
          · rw [gs] at h ⊢
            by_cases e2 : i = k
            · subst e2; rw [if_pos rfl]; exact e
            · rw [if_neg e2] at h ⊢
              exact hE.old i hi h
      rw [key, List.map_cons, List.cons.injEq]
      exact ⟨fun ⟨⟨a, b⟩, c⟩ => ⟨a, b, c⟩, fun ⟨a, b, c⟩ => ⟨⟨a, b⟩, c⟩⟩
    · rename_i h0
      have kn : ∀ i : Nat, x = i → m.getD i 0 ≠ 0 := by
        rintro i rfl
        unfold ofV at h0
        rwa [if_neg (by omega), Int.toNat_natCast] at h0
      have key : Ext m n xs ↔ Ext m n (x :: xs) := by
        constructor
        · intro hE
          refine ⟨hE.len, fun i hi => (hE.dom i hi).trans ?_, hE.old⟩
          rw [List.mem_cons]
          constructor
          · rintro (h | h)
            · exact .inl h
            · exact .inr (.inr h)
          · rintro (h | h | h)
            · exact .inl h
            · exact .inl (kn i h.symm)
            · exact .inr h
        · intro hE
          refine ⟨hE.len, fun i hi => (hE.dom i hi).trans ?_, hE.old⟩
          rw [List.mem_cons]
          constructor
          · rintro (h | h | h)
            · exact .inl h
            · exact .inl (kn i h.symm)
            · exact .inr h
          · rintro (h | h)
            · exact .inl h
            · exact .inr (.inr h)
      split
      · rename_i h1
        rw [fitL_iff h8 hxr hyr, ← key, List.map_cons, List.cons.injEq]
        constructor
        · rintro ⟨a, b⟩
          exact ⟨a, (ofV_ext a hx0.2 h0).trans h1, b⟩
        · rintro ⟨a, b, c⟩
          exact ⟨a, c⟩
      · rename_i h1
        constructor
        · intro h; cases h
        · rintro ⟨a, b⟩
          rw [List.map_cons, List.cons.injEq] at b
          exact absurd ((ofV_ext a hx0.2 h0).symm.trans b.1) h1
/-- Facts: whose arguments are above zero. -/
def PosF (fs : List Atm) : Prop := ∀ f ∈ fs, ∀ y ∈ f.2, (1 : Int) ≤ y
def TermA (a : Atm) : Prop := ∀ x ∈ a.2, -9 ≤ x ∧ x ≤ 7
theorem fitA_iff {m n : Vals} {a f : Atm} (h8 : m.length = 8) (ha : TermA a) (hf : ∀ y ∈ f.2, (1 : Int) ≤ y) : fitA m a f = some n ↔ Ext m n a.2 ∧ imgA n a = f := by
  unfold fitA
  split
  · rename_i h
    rw [fitL_iff h8 ha hf]
    obtain ⟨r, ys⟩ := f
    constructor
    · rintro ⟨h1, h2⟩
      exact ⟨h1, by unfold imgA; rw [h2, h]⟩
    · rintro ⟨h1, h2⟩
      exact ⟨h1, by unfold imgA at h2; simp only [Prod.mk.injEq] at h2; exact h2.2⟩
  · rename_i h
    constructor
    · intro h; cases h
    · rintro ⟨h1, h2⟩
      exact absurd (by rw [← h2]; rfl) h
theorem mem_step {fs : List Atm} {ms : List Vals} {a : Atm} {n : Vals} (h8 : ∀ m ∈ ms, m.length = 8) (ha : TermA a) (hf : PosF fs) : n ∈ stepM fs ms a ↔ (∃ m ∈ ms, Ext m n a.2) ∧ imgA n a ∈ fs := by
  unfold stepM
  simp only [List.mem_flatMap, List.mem_filterMap]
  constructor
  · rintro ⟨m, hm, f, hff, h⟩
    obtain ⟨h1, h2⟩ := (fitA_iff (h8 m hm) ha (hf f hff)).1 h
    exact ⟨⟨m, hm, h1⟩, h2 ▸ hff⟩
  · rintro ⟨⟨m, hm, h1⟩, h2⟩
    exact ⟨m, hm, _, h2, (fitA_iff (h8 m hm) ha (hf _ h2)).2 ⟨h1, rfl⟩⟩
theorem step_len8 {fs : List Atm} {ms : List Vals} {a : Atm} (h8 : ∀ m ∈ ms, m.length = 8) (ha : TermA a) (hf : PosF fs) : ∀ n ∈ stepM fs ms a, n.length = 8 := fun n hn => by
  obtain ⟨⟨m, _, h⟩, _⟩ := (mem_step h8 ha hf).1 hn
  exact h.len
theorem img_ext {m n : Vals} {xs : List Int} {a : Atm} (h : Ext m n xs) (ha : TermA a) (hk : ∀ x ∈ a.2, 0 ≤ x → m.getD x.toNat 0 ≠ 0) : imgA n a = imgA m a := by
  unfold imgA
  congr 1
  refine List.map_congr_left fun x hx => ?_
  by_cases h0 : x < 0
  · simp [ofV, h0]
  · refine ofV_ext h (ha x hx).2 ?_
    unfold ofV
    rw [if_neg h0]
    exact hk x hx (by omega)
theorem mem_fold {fs : List Atm} (hf : PosF fs) : ∀ {b : List Atm} {ms : List Vals} {n : Vals}, (∀ m ∈ ms, m.length = 8) → (∀ a ∈ b, TermA a) → (n ∈ b.foldl (stepM fs) ms ↔ (∃ m ∈ ms, Ext m n (b.flatMap Prod.snd)) ∧ ∀ a ∈ b, imgA n a ∈ fs)
  | [], ms, n, h8, _ => by
    simp only [List.foldl_nil, List.flatMap_nil]
    constructor
    · intro h; exact ⟨⟨n, h, (Ext.nil (h8 n h)).2 rfl⟩, by simp⟩
    · rintro ⟨⟨m, hm, h⟩, _⟩
      rw [(Ext.nil (h8 m hm)).1 h]; exact hm
  | a :: r, ms, n, h8, hb => by
    have ha := hb a (List.mem_cons_self ..)
    have hr := fun x hx => hb x (List.mem_cons_of_mem _ hx)
    rw [List.foldl_cons, mem_fold hf (step_len8 h8 ha hf) hr]
    constructor
    · rintro ⟨⟨m1, hm1, h1⟩, h2⟩
      obtain ⟨⟨m, hm, h3⟩, h4⟩ := (mem_step h8 ha hf).1 hm1
      have hkn : ∀ x ∈ a.2, 0 ≤ x → m1.getD x.toNat 0 ≠ 0 := fun x hx h0 => by
        have hx7 := ha x hx
        refine (h3.dom x.toNat (by omega)).2 (.inr ?_)
        rwa [Int.toNat_of_nonneg h0]
      refine ⟨⟨m, hm, h1.len, fun i hi => ?_, fun i hi h => ?_⟩, fun x hx => ?_⟩
      · rw [h1.dom i hi, h3.dom i hi, List.flatMap_cons, List.mem_append]
        exact or_assoc
      · have e1 := h3.old i hi h
        rw [h1.old i hi (by rw [e1]; exact h), e1]
      · rcases List.mem_cons.1 hx with rfl | hx
        · rw [img_ext h1 ha hkn]; exact h4
        · exact h2 x hx
    · rintro ⟨⟨m, hm, h1⟩, h2⟩
      obtain ⟨m1, hm1⟩ : ∃ m1, m1 = (List.range 8).map (fun i => if m.getD i 0 ≠ 0 ∨ (i : Int) ∈ a.2 then n.getD i 0 else 0) := ⟨_, rfl⟩
      have g1 : ∀ i, i < 8 → m1.getD i 0 = if m.getD i 0 ≠ 0 ∨ (i : Int) ∈ a.2 then n.getD i 0 else 0 := fun i hi => by
        rw [hm1]; simp only [List.getD, List.getElem?_map, List.getElem?_range hi, Option.map_some, Option.getD_some]
      have l1 : m1.length = 8 := by rw [hm1]; simp
      have hn : ∀ i, i < 8 → (m.getD i 0 ≠ 0 ∨ (i : Int) ∈ a.2) → n.getD i 0 ≠ 0 := fun i hi h => by
        refine (h1.dom i hi).2 ?_
        rw [List.flatMap_cons, List.mem_append]
        rcases h with h | h
        · exact .inl h
        · exact .inr (.inl h)
      have hE : Ext m m1 a.2 := by
        refine ⟨l1, fun i hi => ?_, fun i hi h => ?_⟩
        · rw [g1 i hi]
          split
          · rename_i h; exact ⟨fun _ => h, fun _ => hn i hi h⟩
          · rename_i h; exact ⟨fun h0 => absurd rfl h0, fun h0 => absurd h0 h⟩
        · rw [g1 i hi, if_pos (.inl h)]
          exact h1.old i hi h
      have hE2 : Ext m1 n (r.flatMap Prod.snd) := by
        refine ⟨h1.len, fun i hi => ?_, fun i hi h => ?_⟩
        · rw [h1.dom i hi, hE.dom i hi, List.flatMap_cons, List.mem_append]
          exact or_assoc.symm
        · have := (hE.dom i hi).1 h
          rw [g1 i hi, if_pos this]
      have hkn : ∀ x ∈ a.2, 0 ≤ x → m1.getD x.toNat 0 ≠ 0 := fun x hx h0 => by
        have hx7 := ha x hx
        refine (hE.dom x.toNat (by omega)).2 (.inr ?_)
        rwa [Int.toNat_of_nonneg h0]
      refine ⟨⟨m1, (mem_step h8 ha hf).2 ⟨⟨m, hm, hE⟩, ?_⟩, hE2⟩, fun x hx => h2 x (List.mem_cons_of_mem _ hx)⟩
      rw [← img_ext hE2 ha hkn]
      exact h2 a (List.mem_cons_self ..)
/-- A match of a body: eight numbers, 0 where the variable does not occur. -/
structure IsM (fs b : List Atm) (m : Vals) : Prop where
  len : m.length = 8
  dom : ∀ i, i < 8 → (m.getD i 0 ≠ 0 ↔ (i : Int) ∈ b.flatMap Prod.snd)
  hit : ∀ a ∈ b, imgA m a ∈ fs
theorem zero_get (i : Nat) : zeroV.getD i 0 = 0 := by
  rcases Nat.lt_or_ge i 8 with h | h
  · rcases i with _ | _ | _ | _ | _ | _ | _ | _ | i <;> first | rfl | omega
  · simp [zeroV, List.getD, h]
theorem mem_allM {fs b : List Atm} (hf : PosF fs) (hb : ∀ a ∈ b, TermA a) {m : Vals} : m ∈ allM fs b ↔ IsM fs b m := by
  unfold allM
  rw [mem_fold hf (by intro m hm; simp at hm; subst hm; rfl) hb]
  constructor
  · rintro ⟨⟨m0, hm0, h⟩, h2⟩
    have : m0 = zeroV := by simpa using hm0
    subst this
    exact ⟨h.len, fun i hi => (h.dom i hi).trans (by rw [zero_get]; simp), h2⟩
  · intro h
    exact ⟨⟨zeroV, by simp, h.len, fun i hi => (h.dom i hi).trans (by rw [zero_get]; simp), fun i hi h0 => absurd (zero_get i) h0⟩, h.hit⟩
/-! ## No match comes twice -/
theorem step_nodup {fs : List Atm} {ms : List Vals} {a : Atm} (D : Nat → Prop) (h8 : ∀ m ∈ ms, m.length = 8 ∧ ∀ i, i < 8 → (m.getD i 0 ≠ 0 ↔ D i)) (hms : ms.Nodup) (ha : TermA a) (hf : PosF fs) (hfs : fs.Nodup) : (stepM fs ms a).Nodup := by
  unfold stepM
  have inner : ∀ m, m.length = 8 → (fs.filterMap (fitA m a)).Nodup := fun m hm => by
    have : ∀ (l : List Atm), (∀ f ∈ l, f ∈ fs) → l.Nodup → (l.filterMap (fitA m a)).Nodup := by
      intro l
      induction l with
      | nil => intro _ _; exact List.Pairwise.nil
      | cons f r ih =>
        intro hl hn
        obtain ⟨h1, h2⟩ := List.pairwise_cons.1 hn
        have ih := ih (fun g hg => hl g (List.mem_cons_of_mem _ hg)) h2
        rw [List.filterMap_cons]
        split
        · exact ih
        · rename_i n hn
          refine List.pairwise_cons.2 ⟨fun n' hn' e => ?_, ih⟩
          subst e
          obtain ⟨g, hg, hgn⟩ := List.mem_filterMap.1 hn'
          have e1 := ((fitA_iff hm ha (hf f (hl f (List.mem_cons_self ..)))).1 hn).2
          have e2 := ((fitA_iff hm ha (hf g (hl g (List.mem_cons_of_mem _ hg)))).1 hgn).2
          exact h1 g hg (e1.symm.trans e2)
    exact this fs (fun _ h => h) hfs
  have : ∀ (l : List Vals), (∀ m ∈ l, m ∈ ms) → l.Nodup → (l.flatMap fun m => fs.filterMap (fitA m a)).Nodup := by
    intro l
    induction l with
    | nil => intro _ _; exact List.Pairwise.nil
    | cons m r ih =>
      intro hl hn
      obtain ⟨h1, h2⟩ := List.pairwise_cons.1 hn
      have ih := ih (fun g hg => hl g (List.mem_cons_of_mem _ hg)) h2
      rw [List.flatMap_cons]
      have hm := h8 m (hl m (List.mem_cons_self ..))
      refine List.pairwise_append.2 ⟨inner m hm.1, ih, fun n hn n' hn' e => ?_⟩
      subst e
      obtain ⟨f, hff, h3⟩ := List.mem_filterMap.1 hn
      obtain ⟨m', hm', hn'⟩ := List.mem_flatMap.1 hn'
      obtain ⟨g, hgf, h4⟩ := List.mem_filterMap.1 hn'
      have hm2 := h8 m' (hl m' (List.mem_cons_of_mem _ hm'))
      have e1 := ((fitA_iff hm.1 ha (hf f hff)).1 h3).1
      have e2 := ((fitA_iff hm2.1 ha (hf g hgf)).1 h4).1
      refine h1 m' hm' (vals_ext hm.1 hm2.1 fun i hi => ?_)
      by_cases hD : D i
      · rw [← e1.old i hi ((hm.2 i hi).2 hD), ← e2.old i hi ((hm2.2 i hi).2 hD)]
      · have a1 : m.getD i 0 = 0 := by
          have : ¬ m.getD i 0 ≠ 0 := fun e => hD ((hm.2 i hi).1 e)
          simpa using this
        have a2 : m'.getD i 0 = 0 := by
          have : ¬ m'.getD i 0 ≠ 0 := fun e => hD ((hm2.2 i hi).1 e)
          simpa using this
        rw [a1, a2]
  exact this ms (fun _ h => h) hms
theorem step_dom {fs : List Atm} {ms : List Vals} {a : Atm} {D : Nat → Prop} (h8 : ∀ m ∈ ms, m.length = 8 ∧ ∀ i, i < 8 → (m.getD i 0 ≠ 0 ↔ D i)) (ha : TermA a) (hf : PosF fs) : ∀ n ∈ stepM fs ms a, n.length = 8 ∧ ∀ i, i < 8 → (n.getD i 0 ≠ 0 ↔ D i ∨ (i : Int) ∈ a.2) := fun n hn => by
  obtain ⟨⟨m, hm, h⟩, _⟩ := (mem_step (fun m hm => (h8 m hm).1) ha hf).1 hn
  exact ⟨h.len, fun i hi => (h.dom i hi).trans (or_congr_left ((h8 m hm).2 i hi))⟩
/-- What holds after the beginning b of a body. -/
structure StM (fs : List Atm) (b : List Atm) (ms : List Vals) : Prop where
  nodup : ms.Nodup
  dom : ∀ m ∈ ms, m.length = 8 ∧ ∀ i, i < 8 → (m.getD i 0 ≠ 0 ↔ (i : Int) ∈ b.flatMap Prod.snd)
theorem StM.zero (fs : List Atm) : StM fs [] [zeroV] := ⟨by simp, fun m hm => by
  simp at hm; subst hm
  exact ⟨rfl, fun i hi => by rw [zero_get]; simp⟩⟩
theorem StM.step {fs b : List Atm} {ms : List Vals} {a : Atm} (h : StM fs b ms) (ha : TermA a) (hf : PosF fs) (hfs : fs.Nodup) : StM fs (b ++ [a]) (stepM fs ms a) :=
  ⟨step_nodup _ h.dom h.nodup ha hf hfs, fun m hm => by
    obtain ⟨h1, h2⟩ := step_dom h.dom ha hf m hm
    refine ⟨h1, fun i hi => (h2 i hi).trans ?_⟩
    simp [List.flatMap_append]⟩
end Go.Proofs.YtleiddajojgmmaaDoor

/- Plain: all matches of a query, their number, its results; other facts. No program. No condition. -/
namespace Go.Proofs.YtleiddajojgmmaaDoor
set_option linter.unusedSimpArgs false
set_option linter.unusedVariables false

def rowsOf (h : List Int) (ms : List Vals) : List (List Int) := srtL (ms.map fun m => h.map (ofV m))
theorem srtF_pos {l : List Atm} (h : PosF l) : PosF (srtF l) := fun f hf => h f ((mem_srt key_A).1 hf)
theorem IsM.sub {fs fs' b : List Atm} {m : Vals} (h : IsM fs b m) (hs : ∀ a ∈ b, imgA m a ∈ fs → imgA m a ∈ fs') : IsM fs' b m := ⟨h.len, h.dom, fun a ha => hs a ha (h.hit a ha)⟩
/-- Members of the results. -/
theorem mem_rows {fs b : List Atm} {h : List Int} (hf : PosF fs) (hb : ∀ a ∈ b, TermA a) {y : List Int} : y ∈ rowsOf h (allM (srtF fs) b) ↔ ∃ m, IsM fs b m ∧ y = h.map (ofV m) := by
  unfold rowsOf
  rw [mem_srt key_id, List.mem_map]
  constructor
  · rintro ⟨m, hm, rfl⟩
    exact ⟨m, ((mem_allM (srtF_pos hf) hb).1 hm).sub fun a _ h => (mem_srt key_A).1 h, rfl⟩
  · rintro ⟨m, hm, rfl⟩
    exact ⟨m, (mem_allM (srtF_pos hf) hb).2 (hm.sub fun a _ h => (mem_srt key_A).2 h), rfl⟩
/-- More facts: more results. -/
theorem more {fs gs b : List Atm} {h : List Int} (hg : PosF gs) (hb : ∀ a ∈ b, TermA a) (hs : ∀ a ∈ fs, a ∈ gs) {y : List Int} (hy : y ∈ rowsOf h (allM (srtF fs) b)) : y ∈ rowsOf h (allM (srtF gs) b) := by
  have hf : PosF fs := fun a ha => hg a (hs a ha)
  obtain ⟨m, hm, e⟩ := (mem_rows hf hb).1 hy
  exact (mem_rows hg hb).2 ⟨m, hm.sub fun a _ h => hs _ h, e⟩
/-! ## Two bodies without common variables -/
end Go.Proofs.YtleiddajojgmmaaDoor

/- Contracts: what fits an atom, and all matches of a query. No condition. -/
namespace Go.Proofs.YtleiddajojgmmaaDoor
open Go Go.RowKit VC
set_option linter.unusedSimpArgs false
set_option linter.unusedVariables false

/-! ## Values in memory -/
def encV (m : Vals) : List Value := (List.range 8).map fun i => VC.encI (m.getD i 0)
theorem encV_len (m : Vals) : (encV m).length = 8 := by simp [encV]
theorem encV_get (m : Vals) {i : Nat} (hi : i < 8) : (encV m)[i]? = some (VC.encI (m.getD i 0)) := by
  simp only [encV, List.getElem?_map, List.getElem?_range hi, Option.map_some]
theorem encV_eq {m : Vals} (h : m.length = 8) : encV m = m.map VC.encI := by
  apply List.ext_getElem (by simp [encV, h])
  intro i h1 h2
  have hi : i < m.length := by simpa using h2
  simp [encV, List.getD, hi]
theorem encV_one (m : Vals) : ∀ u ∈ encV m, u.oneCell' = true := by
  intro u hu
  simp only [encV, List.mem_map] at hu
  obtain ⟨i, _, rfl⟩ := hu
  rfl
theorem encV_set {m : Vals} (h : m.length = 8) {k : Nat} (hk : k < 8) (y : Int) : (encV m).set k (VC.encI y) = encV (m.set k y) := by
  rw [encV_eq h, encV_eq (by simpa using h), List.map_set]
abbrev SlV (w : World) (v : Value) (ms : List Vals) : Prop := SlR encV w v ms
theorem cells8 {w : World} {b : Nat} {m : Vals} (hr : RecV w b (encV m)) {i : Nat} (hi : i < 8) : w.cell? (Addr.add ⟨b, 0, none⟩ (i * 1)) = some (.int .i64 (m.getD i 0)) := by
  rw [Nat.mul_one]
  exact hr.cell (encV_get m hi)
/-! ## What fits -/
/-! ## append of one record; where its array lies -/
end Go.Proofs.YtleiddajojgmmaaDoor

/- Contracts: all matches of a query. No condition. -/
namespace Go.Proofs.YtleiddajojgmmaaDoor
open Go Go.RowKit VC Go.WideMaps
set_option linter.unusedSimpArgs false
set_option linter.unusedVariables false

/-- A local copy of eight numbers. -/
theorem SlV.loc {P : Program} {w : World} {v : Value} {ms : List Vals} (h : SlV w v ms) {i : Nat} {j : Int} (hj : j = (i : Int)) (hi : i < ms.length) {zs : Array Value} (hz : zs.size = 8) {t : TypeId} {K : World → Prop}
    (hk : ∀ w2, Grow w w2 → w.heap.size < w2.heap.size → RecV w2 w.heap.size (encV ms[i]) → K w2) :
    ∃ (a : Addr) (m c : Nat), v = .slice (some a) m c ∧ ((0 : Int) ≤ j ∧ j < (m : Int)) ∧ ∃ cs : List Value, cs.length = 8 ∧ (∀ t u, cs[t]? = some u → w.cell? (Addr.add (a.add (Int.toNat j * 8)) t) = some u) ∧
      ∀ w1, w1 = w.alloc (.cells zs t) → ∃ cs' : Array Value, (Value.agg cs.toArray) = Value.agg cs' ∧ cs'.size = 8 ∧ ∃ w2 : World, (storeCells ⟨w.heap.size, 0, none⟩ cs'.toList).run P w1 = .ok () w2 ∧ K w2 := by
  refine SlR.rd h encV_len hj hi fun w1 hw1 => ?_
  have := RecV.init (P := P) (cs := encV ms[i]) hw1 (by rw [hz, encV_len]) (encV_one _) (K := K) hk
  rwa [hz] at this
end Go.Proofs.YtleiddajojgmmaaDoor

/- Contracts: results and their number. No condition. -/
namespace Go.Proofs.YtleiddajojgmmaaDoor
open Go Go.RowKit VC
set_option linter.unusedSimpArgs false
set_option linter.unusedVariables false

theorem okQ_len {h : List Int} {b : List Atm} (hq : okQ h b = true) : 1 ≤ b.length ∧ b.length ≤ 5 ∧ h.length ≤ 4 := by
  simp only [okQ, Bool.and_eq_true, decide_eq_true_eq] at hq
  exact ⟨hq.1.1.1.1, hq.1.1.1.2, hq.1.1.2⟩
theorem SlR.nil {α : Type} {f : α → List Value} (w : World) : SlR f w (.slice none 0 0) [] := SlC.nil w
end Go.Proofs.YtleiddajojgmmaaDoor

/- Contracts of the reference: what comes before, rising lists of slices, keys of facts, what fits. No condition. -/
namespace Go.Proofs.YtleiddajojgmmaaDoor
open Go Go.RowKit VC
set_option linter.unusedSimpArgs false
set_option linter.unusedVariables false

/-! ## Parts of a slice -/
section
variable {α : Type} {k : Nat} {rep : World → List Value → α → Prop}
theorem SlX.upto {w : World} {v : Value} {xs : List α} (h : SlX k rep w v xs) {i : Nat} {ik : IntKind} {z : Int} (hz : z = (i : Int)) (hi : i ≤ xs.length) {K : Value → Prop} (hk : ∀ v', SlX k rep w v' (xs.take i) → K v') :
    ∃ (a : Option Addr) (n c : Nat), v = .slice a n c ∧ ∃ l hh m : Nat, sbR none (some (.int ik z)) none n c l hh m ∧ K (.slice (if m = l then a else a.map (·.add (l * k))) (hh - l) (m - l)) := by
  subst hz
  obtain ⟨a, c, rfl, h1, h2, h3, h4⟩ := h.ex
  have hl : (xs.take i).length = i := by simp; omega
  refine ⟨a, _, c, rfl, 0, i, c, ⟨rfl, rfl, rfl, by simp, by omega, by omega, by omega⟩, hk _ ⟨a, c, ?_, by omega, h2, h3, fun j hj => ?_⟩⟩
  · rw [hl]
    by_cases hc : c = 0
    · simp [hc]
    · rw [if_neg hc]
      cases a <;> simp [Addr.add]
  · obtain ⟨b, cs, e1, e2, e3, e4⟩ := h4 j (by omega)
    exact ⟨b, cs, e1, e2, e3, by rw [List.getElem_take]; exact e4⟩
end
/-! ## Put -/
theorem SlX.imp {α : Type} {k : Nat} {rep rep' : World → List Value → α → Prop} {w : World} {v : Value} {xs : List α} (h : SlX k rep w v xs) (hi : ∀ cs x, rep w cs x → rep' w cs x) : SlX k rep' w v xs := by
  obtain ⟨a, c, e, h1, h2, h3, h4⟩ := h.ex
  exact ⟨a, c, e, h1, h2, h3, fun i hi' => by
    obtain ⟨b, cs, e1, e2, e3, e4⟩ := h4 i hi'
    exact ⟨b, cs, e1, e2, e3, hi _ _ e4⟩⟩
/-! ## Keys of facts -/
end Go.Proofs.YtleiddajojgmmaaDoor

/- Contracts of the reference: what fits. No condition. -/
namespace Go.Proofs.YtleiddajojgmmaaDoor
open Go Go.RowKit VC
set_option linter.unusedSimpArgs false
set_option linter.unusedVariables false

theorem set_same {m : Vals} {k : Nat} {y : Int} (hk : k < m.length) (h : m.getD k 0 = y) : m.set k y = m := by
  apply List.ext_getElem (by simp)
  intro i h1 h2
  rw [List.getElem_set]
  split
  · rename_i e
    subst e
    rw [← h]; simp [List.getD, hk]
  · rfl
end Go.Proofs.YtleiddajojgmmaaDoor

/- Contracts: the reference's results, equal rows, a fact is matched; the copies that the statements make. No condition. -/
namespace Go.Proofs.YtleiddajojgmmaaDoor
open Go Go.RowKit VC
set_option linter.unusedSimpArgs false
set_option linter.unusedVariables false

/-! ## Equal rows -/
/-! ## A fact is matched -/
theorem slI_lit {w w' : World} {cs : Array Value} {xs : List Int} {e : TypeId} (hw : w' = w.alloc (.cells cs e)) (hc : cs.toList = xs.map VC.encI) (hl : xs.length ≤ 1000) : SlI w' (.slice (some ⟨w.heap.size, 0, none⟩) xs.length xs.length) xs := by
  have h := Own.lit (B := w.heap.size) (n := xs.length) (sz := 1) hw (Nat.le_refl _) (by omega) (by
    rw [← Array.length_toList, hc]; simp)
  rw [hc] at h
  exact Own.slI h
/-! ## The copies say the same -/
theorem trA_id {a : Atm} (h : a.2.length ≤ 9) : trA a = a := by
  unfold trA
  rw [List.take_of_length_le h]
theorem trA_len {a : Atm} (h : (trA a).2.length ≤ 3) : a.2.length ≤ 3 := by
  unfold trA at h
  simp only [List.length_take] at h
  omega
theorem map_trA {l : List Atm} (h : ∀ a ∈ l, a.2.length ≤ 9) : l.map trA = l := by
  conv => rhs; rw [← List.map_id l]
  exact List.map_congr_left fun a ha => trA_id (h a ha)
theorem trB_of {h : List Int} {b : List Atm} (hq : okQ h b = true) : trB b = b ∧ h.take 9 = h := by
  obtain ⟨h1, h2, h3⟩ := okQ_len hq
  have hb : ∀ a ∈ b, a.2.length ≤ 9 := fun a ha => by
    simp only [okQ, Bool.and_eq_true, List.all_eq_true] at hq
    have := (okA_iff.1 (hq.1.2 a ha)).2.2.2.1
    omega
  exact ⟨by unfold trB; rw [List.take_of_length_le (by omega), map_trA hb], List.take_of_length_le (by omega)⟩
theorem okQ_tr (h : List Int) (b : List Atm) : okQ (h.take 9) (trB b) = okQ h b := by
  rw [Bool.eq_iff_iff]
  constructor
  · intro hq
    have h0 := hq
    obtain ⟨h1, h2, h3⟩ := okQ_len hq
    have hbl : b.length ≤ 5 := by unfold trB at h2; simp at h2; omega
    have hhl : h.length ≤ 4 := by simp at h3; omega
    have hb : ∀ a ∈ b, a.2.length ≤ 9 := fun a ha => by
      simp only [okQ, Bool.and_eq_true, List.all_eq_true] at hq
      have hm : trA a ∈ trB b := List.mem_map_of_mem (by rw [List.take_of_length_le (by omega)]; exact ha)
      have := trA_len (okA_iff.1 (hq.1.2 _ hm)).2.2.2.1
      omega
    have e1 : trB b = b := by unfold trB; rw [List.take_of_length_le (by omega), map_trA hb]
    rwa [e1, List.take_of_length_le (by omega)] at h0
  · intro hq
    obtain ⟨e1, e2⟩ := trB_of hq
    rwa [e1, e2]
theorem ofS_c {w : World} {hv v : Value} {h : List Int} {l : List Atm} (hh : SlI w hv h) (hs : SlA w v l) : Calls Tryd.prog 6 #[.agg #[hv, v]] w fun e w' => ∃ hv' v', e = .returned (.agg #[hv', v']) ∧ SlI w' hv' (h.take 9) ∧ SlA w' v' (trB l) ∧ Grow w w' := by
  refine (of_c hh hs).mono ?_
  rintro e w' ⟨a, b, rfl, h1, h2, g, -⟩
  exact ⟨a, b, rfl, Own.slI h1, h2.slX, g⟩
theorem varsL_bit : ∀ {xs : List Int} {i : Nat}, (varsL xs).testBit i = true ↔ (i : Int) ∈ xs
  | [], i => by simp [varsL]
  | x :: r, i => by
    rw [varsL, Nat.testBit_or, Bool.or_eq_true, varsL_bit, List.mem_cons]
    refine or_congr_left ?_
    split
    · rename_i h
      rw [Nat.testBit_two_pow]
      simp; omega
    · simp; omega
theorem varsB_bit : ∀ {b : List Atm} {i : Nat}, (varsB b).testBit i = true ↔ (i : Int) ∈ b.flatMap Prod.snd
  | [], i => by simp [varsB]
  | a :: r, i => by rw [varsB, Nat.testBit_or, Bool.or_eq_true, varsB_bit, varsL_bit, List.flatMap_cons, List.mem_append]
end Go.Proofs.YtleiddajojgmmaaDoor

/- Ears and elimination (Graham): what can be eliminated can be eliminated in every way. Of no program. No condition. -/
namespace Go.Proofs.YtleiddajojgmmaaDoor
set_option linter.unusedVariables false

section
variable (vs : Nat → Nat → Prop)
/-- i is an ear of S: what it shares with any other is in k. -/
def Ear (S : Nat → Prop) (i k : Nat) : Prop := S i ∧ S k ∧ i ≠ k ∧ ∀ j, S j → j ≠ i → ∀ x, vs i x → vs j x → vs k x
/-- S without i. -/
def Wo (S : Nat → Prop) (i : Nat) : Nat → Prop := fun j => S j ∧ j ≠ i
/-- n atoms can be eliminated down to one. -/
inductive Elim : (Nat → Prop) → Nat → Prop
  | one {S : Nat → Prop} {i : Nat} : (∀ j, S j ↔ j = i) → Elim S 1
  | step {S : Nat → Prop} {i k n : Nat} : Ear vs S i k → Elim (Wo S i) n → Elim S (n + 1)
variable {vs}
theorem Elim.congr {S S' : Nat → Prop} {n : Nat} (h : Elim vs S n) (e : ∀ j, S j ↔ S' j) : Elim vs S' n := by
  have : S = S' := funext fun j => propext (e j)
  exact this ▸ h
theorem Wo.comm {S : Nat → Prop} {i j k : Nat} : Wo (Wo S i) j k ↔ Wo (Wo S j) i k := by
  unfold Wo
  exact ⟨fun h => ⟨⟨h.1.1, h.2⟩, h.1.2⟩, fun h => ⟨⟨h.1.1, h.2⟩, h.1.2⟩⟩
/-- Atoms may be renamed, if what any two share stays. -/
theorem Elim.map {f : Nat → Nat} {S : Nat → Prop} {n : Nat} (h : Elim vs S n) : (∀ a b, S a → S b → f a = f b → a = b) → (∀ a b, S a → S b → a ≠ b → ∀ x, (vs a x ∧ vs b x ↔ vs (f a) x ∧ vs (f b) x)) → ∀ {S' : Nat → Prop}, (∀ j', S' j' ↔ ∃ j, S j ∧ f j = j') → Elim vs S' n := by
  induction h with
  | @one S i hi =>
    intro _ _ S' hS'
    refine .one (i := f i) fun j' => ?_
    rw [hS']
    constructor
    · rintro ⟨j, hj, rfl⟩
      rw [(hi j).1 hj]
    · rintro rfl
      exact ⟨i, (hi i).2 rfl, rfl⟩
  | @step S i k n he hr ih =>
    intro hinj hsh S' hS'
    obtain ⟨h1, h2, h3, h4⟩ := he
    refine .step (i := f i) (k := f k) ⟨(hS' _).2 ⟨i, h1, rfl⟩, (hS' _).2 ⟨k, h2, rfl⟩, fun e => h3 (hinj _ _ h1 h2 e), fun j' hj' hne x hx hy => ?_⟩ ?_
    · obtain ⟨j, hj, rfl⟩ := (hS' _).1 hj'
      have hji : j ≠ i := fun e => hne (by rw [e])
      have h5 := (hsh i j h1 hj (Ne.symm hji) x).2 ⟨hx, hy⟩
      exact ((hsh i k h1 h2 h3 x).1 ⟨h5.1, h4 j hj hji x h5.1 h5.2⟩).2
    · refine ih (fun a b ha hb => hinj a b ha.1 hb.1) (fun a b ha hb => hsh a b ha.1 hb.1) fun j' => ?_
      unfold Wo
      rw [hS']
      constructor
      · rintro ⟨⟨j, hj, rfl⟩, hne⟩
        exact ⟨j, ⟨hj, fun e => hne (by rw [e])⟩, rfl⟩
      · rintro ⟨j, ⟨hj, hne⟩, rfl⟩
        exact ⟨⟨j, hj, rfl⟩, fun e => hne (hinj _ _ hj h1 e)⟩
/-- Whichever ear goes first: the others can still be eliminated. -/
theorem Elim.exch : ∀ {n : Nat} {S : Nat → Prop} {i k : Nat}, Elim vs S (n + 2) → Ear vs S i k → Elim vs (Wo S i) (n + 1) := by
  intro n
  induction n with
  | zero =>
    intro S i k h he
    cases h with
    | @step _ e p _ h1 h2 =>
      by_cases hie : i = e
      · exact hie ▸ h2
      · cases h2 with
        | @one _ r hr =>
          have hri : i = r := (hr i).1 ⟨he.1, hie⟩
          refine .one (i := e) fun j => ?_
          constructor
          · rintro ⟨hj, hne⟩
            refine Classical.byContradiction fun hje => hne ?_
            rw [hri]
            exact (hr j).1 ⟨hj, hje⟩
          · rintro rfl
            exact ⟨h1.1, fun e => hie e.symm⟩
        | step h3 h4 => cases h4
  | succ m IH =>
    intro S i k h he
    cases h with
    | @step _ e p _ h1 h2 =>
      by_cases hie : i = e
      · exact hie ▸ h2
      obtain ⟨a1, a2, a3, a4⟩ := he
      obtain ⟨b1, b2, b3, b4⟩ := h1
      by_cases hmut : k = e ∧ p = i
      · obtain ⟨rfl, rfl⟩ := hmut
        refine Elim.map (f := fun a => if a = p then k else a) h2 ?_ ?_ fun j' => ?_
        · intro a b ha hb hab
          by_cases hap : a = p <;> by_cases hbp : b = p
          · rw [hap, hbp]
          · rw [if_pos hap, if_neg hbp] at hab
            exact absurd hab.symm hb.2
          · rw [if_neg hap, if_pos hbp] at hab
            exact absurd hab ha.2
          · rwa [if_neg hap, if_neg hbp] at hab
        · intro a b ha hb hab x
          by_cases hap : a = p <;> by_cases hbp : b = p
          · exact absurd (hap.trans hbp.symm) hab
          · rw [if_pos hap, if_neg hbp, hap]
            exact ⟨fun h => ⟨a4 b hb.1 hbp x h.1 h.2, h.2⟩, fun h => ⟨b4 b hb.1 hb.2 x h.1 h.2, h.2⟩⟩
          · rw [if_neg hap, if_pos hbp, hbp]
            exact ⟨fun h => ⟨h.1, a4 a ha.1 hap x h.2 h.1⟩, fun h => ⟨h.1, b4 a ha.1 ha.2 x h.2 h.1⟩⟩
          · rw [if_neg hap, if_neg hbp]
        · constructor
          · rintro ⟨hj, hne⟩
            by_cases hjk : j' = k
            · exact ⟨p, ⟨a1, fun e => hie e⟩, by rw [if_pos rfl, hjk]⟩
            · exact ⟨j', ⟨hj, hjk⟩, by rw [if_neg hne]⟩
          · rintro ⟨j, ⟨hj, hjk⟩, rfl⟩
            by_cases hjp : j = p
            · rw [if_pos hjp]
              exact ⟨a2, fun e => a3 e.symm⟩
            · rw [if_neg hjp]
              exact ⟨hj, hjp⟩
      · have ear1 : ∃ k', Ear vs (Wo S e) i k' := by
          by_cases hke : k = e
          · have hpi : p ≠ i := fun h => hmut ⟨hke, h⟩
            exact ⟨p, ⟨a1, hie⟩, ⟨b2, fun e => b3 e.symm⟩, fun e => hpi e.symm, fun j hj hne x hx hy => b4 j hj.1 hj.2 x (hke ▸ a4 j hj.1 hne x hx hy) hy⟩
          · exact ⟨k, ⟨a1, hie⟩, ⟨a2, hke⟩, a3, fun j hj hne x hx hy => a4 j hj.1 hne x hx hy⟩
        obtain ⟨k', hk'⟩ := ear1
        have h5 := IH h2 hk'
        have ear2 : ∃ p', Ear vs (Wo S i) e p' := by
          by_cases hpi : p = i
          · have hke : k ≠ e := fun h => hmut ⟨h, hpi⟩
            exact ⟨k, ⟨b1, fun e => hie e.symm⟩, ⟨a2, fun e => a3 e.symm⟩, fun e => hke e.symm, fun j hj hne x hx hy => a4 j hj.1 hj.2 x (hpi ▸ b4 j hj.1 hne x hx hy) hy⟩
          · exact ⟨p, ⟨b1, fun e => hie e.symm⟩, ⟨b2, hpi⟩, b3, fun j hj hne x hx hy => b4 j hj.1 hne x hx hy⟩
        obtain ⟨p', hp'⟩ := ear2
        exact .step hp' (h5.congr fun j => Wo.comm)
/-- What can be eliminated has an ear. -/
theorem Elim.ear {n : Nat} {S : Nat → Prop} (h : Elim vs S (n + 2)) : ∃ i k, Ear vs S i k := by
  cases h with
  | step h1 h2 => exact ⟨_, _, h1⟩
end
end Go.Proofs.YtleiddajojgmmaaDoor
