/- Contracts: the copies that the statements make of queries and facts. No condition. -/
import Derived.Test.YtleiddajojgmmaaMc
import Derived.Test.YtleiddajojgmmaaVw
import Derived.Shelf.SlSortCmp.Insertion
import Derived.Test.YtleiddajojgmmaaSh
namespace Go.Proofs.Ytleiddajojgmmaa
open Go Go.RowKit VC
set_option linter.unusedSimpArgs false
set_option linter.unusedVariables false

def trA (a : Atm) : Atm := (a.1, a.2.take 9)
def trB (l : List Atm) : List Atm := (l.take 7).map trA
theorem el_fact : ElT Try.prog 23 33 2 32 (.agg #[.int .i64 0, .slice none 0 0]) := ⟨by kernel_rfl, ⟨Try.t33, by kernel_rfl, by kernel_rfl, by kernel_rfl, by kernel_rfl⟩, rfl⟩
theorem el_atom : ElT Try.prog 59 41 2 32 (.agg #[.int .i64 0, .slice none 0 0]) := ⟨by kernel_rfl, ⟨Try.t41, by kernel_rfl, by kernel_rfl, by kernel_rfl, by kernel_rfl⟩, rfl⟩
abbrev OwnF (w : World) (B : Nat) (v : Value) (l : List Atm) : Prop := OwnX (fun b => b < B) 2 repA w B 33 v l
abbrev OwnA (w : World) (B : Nat) (v : Value) (l : List Atm) : Prop := OwnX (fun b => b < B) 2 repA w B 41 v l
/-- A record of an int and of a slice of the call's own that is newer than out's array. -/
theorem elx_own {T : Nat → Prop} {w : World} {B : Nat} {r : Int} {v out : Value} {xs : List Int} (ho : OwnI w B v xs) (hT : ∀ b, T b → b < B) (hout : ∀ b, out.ownBlock = some b → b < B) : ElX T 2 repA out w ([.int .i64 r, v], (r, xs)) := by
  refine ⟨rfl, ?_, fun w' hf => ⟨v, rfl, (Own.fr ho hf fun k hk e => ?_).slI⟩⟩
  · intro u hu
    simp at hu
    rcases hu with rfl | rfl
    · rfl
    · exact (Own.one ho).2
  · have h2 := (Own.lt ho hk).1
    rcases e with e | e
    · have := hT k e; omega
    · have h1 := hout k e.symm
      omega
theorem few_c {w : World} {v : Value} {xs : List Int} (hs : SlI w v xs) : Calls Try.prog 28 #[v] w fun e w' => ∃ v', e = .returned v' ∧ OwnI w' w.heap.size v' (xs.take 9) ∧ Grow w w' := by
  refine f28_calls _ ?_
  have hle := hs.len_le
  have e : (if 9 < (xs.length : Int) then (9 : Int) else xs.length) = ((min 9 xs.length : Nat) : Int) := by split <;> omega
  refine hs.ln ?_
  rw [e]
  have e2 : xs.take (min 9 xs.length) = xs.take 9 := by
    rcases Nat.lt_or_ge 9 xs.length with h | h
    · rw [Nat.min_eq_left (by omega)]
    · rw [Nat.min_eq_right h, List.take_length, List.take_of_length_le h]
  obtain ⟨a, n, c, e1, l, h, m, h2, hv'⟩ := hs.upto (i := min 9 xs.length) (k := .i64) (K := fun x => SlI w x (xs.take 9)) rfl (by omega) fun v' hv' => by rwa [e2] at hv'
  refine ⟨a, n, c, e1, l, h, m, h2, (clone_c hv' (by simp; omega)).mono ?_⟩
  rintro e w1 ⟨u, rfl, ho, g1⟩
  exact ⟨u, rfl, u, rfl, ho, g1⟩
theorem trF_succ {l : List Atm} {k : Nat} (hk : k < l.length) : (l.take (k + 1)).map trA = (l.take k).map trA ++ [trA l[k]] := by rw [List.take_succ_eq_append_getElem hk, List.map_append]; rfl
theorem OwnA.mono {w : World} {B B' : Nat} {v : Value} {l : List Atm} (h : OwnA w B v l) (hB : B' ≤ B) : OwnA w B' v l := (OwnX.base h hB).weaken fun b hb => Nat.lt_of_lt_of_le hb hB
theorem OwnF.mono {w : World} {B B' : Nat} {v : Value} {l : List Atm} (h : OwnF w B v l) (hB : B' ≤ B) : OwnF w B' v l := (OwnX.base h hB).weaken fun b hb => Nat.lt_of_lt_of_le hb hB
/-- Between the rounds of Of. -/
structure OfI (w9 : World) (C : Nat) (hv : Value) (l : List Atm) (k : Nat) (w' : World) (bv : Value) : Prop where
  rc : RecV w' C [hv, bv]
  own : OwnA w' w9.heap.size bv ((l.take k).map trA)
  fr : Fr (fun i => i = C) w9 w'
/-- The copy of a query. -/
theorem of_c {w : World} {hv v : Value} {h : List Int} {l : List Atm} (hh : SlI w hv h) (hs : SlA w v l) : Calls Try.prog 19 #[.agg #[hv, v]] w fun e w' => ∃ hv' v', e = .returned (.agg #[hv', v']) ∧ OwnI w' w.heap.size hv' (h.take 9) ∧ OwnA w' w.heap.size v' (trB l) ∧ Grow w w' ∧ ∀ k, hv'.ownBlock = some k → v'.ownBlock ≠ some k := by
  refine f19_calls _ ?_
  have hle := SlX.len_le hs
  refine ⟨_, rfl, fun w1 hw1 w3 hw3 => ?_⟩
  have g1 := alloc_grow hw1
  have g3 := alloc_grow hw3
  have s1 := alloc_size hw1
  have s3 := alloc_size hw3
  have hR := RecV.new hw3
  have hq := (RecV.new hw1).grow g3
  refine ⟨_, hq.cell (j := 0) rfl, (few_c (hh.grow (g1.trans g3))).mono ?_⟩
  rintro e w5 ⟨hv', rfl, ho5, g5⟩
  refine ⟨hv', rfl, Own.one ho5, fun w8 hw8 => RecV.init (cs := [hv', .slice none 0 0]) hw8 rfl (by
    intro u hu
    simp at hu
    rcases hu with rfl | rfl
    · exact (Own.one ho5).2
    · rfl) fun w9 g9 s9 hC => ?_⟩
  have g39 := g5.trans g9
  have g09 := (g1.trans g3).trans g39
  refine ⟨_, (hq.grow g39).cell (j := 1) rfl, SlX.ln (hs.gr g09) ?_⟩
  have hs5 := g5.size
  have hs9 := g9.size
  have fin : ∀ {k w' bv}, (l.take k).map trA = trB l → OfI w9 w5.heap.size hv' l k w' bv → ∃ cs : List Value, cs.length = 2 ∧ (∀ (j : Nat) (u : Value), cs[j]? = some u → w'.cell? (Addr.add ⟨w5.heap.size, 0, none⟩ j) = some u) ∧ ∃ cs' : Array Value, (Value.agg cs.toArray) = Value.agg cs' ∧ cs'.size = 2 ∧
      ∃ w2 : World, (storeCells ⟨w1.heap.size, 0, none⟩ cs'.toList).run Try.prog w' = .ok () w2 ∧ ∃ ds : List Value, ds.length = 2 ∧ (∀ (j : Nat) (u : Value), ds[j]? = some u → w2.cell? (Addr.add ⟨w1.heap.size, 0, none⟩ j) = some u) ∧
        ∃ hv2 v2, Ending.returned (.agg ds.toArray) = .returned (.agg #[hv2, v2]) ∧ OwnI w2 w.heap.size hv2 (h.take 9) ∧ OwnA w2 w.heap.size v2 (trB l) ∧ Grow w w2 ∧ ∀ k, hv2.ownBlock = some k → v2.ownBlock ≠ some k := fun {k w' bv} hk hI => by
    have hfr := hI.fr
    have hR' : RecV w' w1.heap.size _ := (hR.grow g39).fr hfr (by omega)
    refine ⟨[hv', bv], rfl, hI.rc.all, ?_⟩
    refine RecV.store (cs := [hv', bv]) hR' rfl (by
      intro u hu
      simp at hu
      rcases hu with rfl | rfl
      · exact (Own.one ho5).2
      · exact hI.own.one.2) fun w2 hf hr => ⟨[hv', bv], rfl, hr.all, hv', bv, rfl, ?_, ?_, ?_, fun k hk e => by have := (Own.lt ho5 hk).2; have := (hI.own.lt e).1; omega⟩
    · refine Own.mono (Own.fr (Own.fr (Own.grow ho5 g9) hfr fun b hb e => ?_) hf fun b hb e => ?_) (by omega)
      · have := Own.lt ho5 hb; omega
      · have := Own.lt ho5 hb; omega
    · rw [← hk]
      refine OwnA.mono (OwnX.fr hI.own hf (fun b hb => ?_) fun b hb e => ?_) (by omega)
      · show b < w9.heap.size
        omega
      · have := (hI.own.lt hb).1; omega
    · exact (g09.fr hfr fun i hi e => by omega).fr hf fun i hi e => by omega
  refine ⟨fun t w' => ∃ (k : Nat) (bv : Value), t = k ∧ k ≤ l.length ∧ k ≤ 7 ∧ OfI w9 w5.heap.size hv' l k w' bv, fun t _ => l.length - t.toNat, ⟨0, _, rfl, by omega, by omega, hC, OwnX.nil _ _ _, Fr.refl _ _⟩, ?_⟩
  rintro - t w19 ⟨k, bv, rfl, hk, hk7, hI⟩
  have gI : Grow w w19 := g09.fr hI.fr fun i hi e => by omega
  refine condD (fun hlt => ?_) (fun hge => ?_)
  · have hkl : k < l.length := by omega
    refine SlX.loc (hs.gr gI) rfl hkl rfl fun w25 u g25 _ hu c0 c1 => ?_
    have hI25 : OfI w9 w5.heap.size hv' l k w25 bv := ⟨hI.rc.grow g25, hI.own.grow g25, hI.fr.trans (Fr.of_grow g25)⟩
    refine condD (fun h6 => fin ?_ hI25) fun h6 m => ?_
    · have : k = 7 := by omega
      subst this; rfl
    · have gm : Grow w25 (dr w25 m) := (Grow.refl w25).dr m
      have hf9 := hI25.fr.size
      have hbl : ∀ b, bv.ownBlock = some b → b < w25.heap.size := fun b hb => (hI25.own.lt hb).2
      have leaf : ∀ {E v'}, OwnI E (dr w25 m).heap.size v' ((l[k]).2.take 9) → Grow (dr w25 m) E → ∃ t : Value, ∃ w' : World, (Instr.buildSlice 59 1 #[(0, .agg #[.int .i64 (l[k]).1, v'])]).run Try.prog E = .ok t w' ∧ (w'.cell? (Addr.add ⟨w5.heap.size, 0, none⟩ 1) = some bv ∧
          PApp Try.prog 59 59 bv t w' fun v2 w2 => oneV v2 ∧ (∃ old, w2.cell? (Addr.add ⟨w5.heap.size, 0, none⟩ 1) = some old) ∧ w2.frozen? (Addr.add ⟨w5.heap.size, 0, none⟩ 1) = false ∧ ∀ w4, w4 = w2.setCell (Addr.add ⟨w5.heap.size, 0, none⟩ 1) v2 →
            inR ((k : Int) + 1) ∧ ((∃ (k' : Nat) (bv : Value), (k : Int) + 1 = k' ∧ k' ≤ l.length ∧ k' ≤ 7 ∧ OfI w9 w5.heap.size hv' l k' w4 bv) ∧ l.length - Int.toNat ((k : Int) + 1) < l.length - Int.toNat (k : Int))) := fun {E v'} ho gE => by
        have gE' := gm.trans gE
        refine bs1 el_atom (by omega) (by omega) (cs := #[.int .i64 (l[k]).1, v']) rfl E fun w' hw' => ⟨((hI25.rc.grow gE').grow (alloc_grow hw')).cell rfl, ?_⟩
        refine pappX1 el_atom (by omega) (cs := [.int .i64 (l[k]).1, v']) (y := trA l[k]) (hI25.own.grow gE') hw' (elx_own ho (fun b hb => Nat.lt_of_lt_of_le hb hf9) hbl) (by have := gE'.size; omega) (by simp; omega) (by omega) ?_
        intro v2 w2 ho2 hf2 _ hblk
        have hCne : ∀ (k : Nat), k = w5.heap.size → ¬ some k = bv.ownBlock := fun b e e2 => by
          have := (hI25.own.lt e2.symm).1; omega
        have hC2 : RecV w2 w5.heap.size [hv', bv] := ((hI25.rc.grow gE').grow (alloc_grow hw')).fr hf2 (hCne _ rfl)
        refine ⟨ho2.one, ⟨_, hC2.cell (j := 1) rfl⟩, hC2.free 1, fun w4 hw4 => ⟨by unfold inR; omega, ⟨k + 1, v2, by omega, by omega, by omega, hC2.set hw4, ?_, ?_⟩, by omega⟩⟩
        · rw [trF_succ hkl]
          refine OwnX.fr ho2 (RecV.set_fr hw4) (fun b hb => ?_) fun b hb e => ?_
          · show b < w9.heap.size
            omega
          · have := (ho2.lt hb).1; omega
        · refine Fr.trans (b := w2) (Fr.mono (S := fun i => w9.heap.size ≤ i ∨ i = w5.heap.size) ((hI25.fr.mono fun i _ e => .inr e).trans ((Fr.of_grow (gE'.trans (alloc_grow hw'))).trans (hf2.mono fun i _ e => .inl ?_))) fun i hi e => ?_) (RecV.set_fr hw4)
          · exact (hI25.own.lt e.symm).1
          · rcases e with e | e
            · omega
            · exact e
      have call : ∀ {Q : Ending → World → Prop}, (∀ v' E, OwnI E (dr w25 m).heap.size v' ((l[k]).2.take 9) → Grow (dr w25 m) E → Q (.returned v') E) → Calls Try.prog 28 #[u] (dr w25 m) Q := fun hq => (few_c (hu.dr m)).mono (by
        rintro e E ⟨v', rfl, ho, gE⟩
        exact hq v' E ho gE)
      have cC : ∀ {E}, Grow (dr w25 m) E → E.cell? (Addr.add ⟨w5.heap.size, 0, none⟩ 1) = some bv := fun g => (hI25.rc.grow (gm.trans g)).cell (j := 1) rfl
      have k0 : ∀ {E}, Grow (dr w25 m) E → E.cell? (Addr.add ⟨w19.heap.size, 0, none⟩ 0) = some (.int .i64 (l[k]).1) := fun g => (gm.trans g).cell c0
      have k1 : ∀ {E}, Grow (dr w25 m) E → E.cell? (Addr.add ⟨w19.heap.size, 0, none⟩ 1) = some u := fun g => (gm.trans g).cell c1
      repeat' first
        | exact Own.one ‹_›
        | refine And.intro ?_ ?_
        | refine ⟨_, cC (Grow.refl _), ?_⟩
        | refine ⟨_, k0 (Grow.refl _), ?_⟩
        | refine ⟨_, k1 (Grow.refl _), ?_⟩
        | refine ⟨_, cC ‹Grow (dr w25 m.1) _›, ?_⟩
        | refine ⟨_, k0 ‹Grow (dr w25 m.1) _›, ?_⟩
        | (refine call ?_; intro v' E ho gE; refine ⟨v', rfl, ?_⟩)
        | (obtain ⟨t, w', a, b, c⟩ := leaf ‹_› ‹Grow (dr w25 m.1) _›; exact ⟨t, w', a, c⟩)
        | (obtain ⟨t, w', a, b, c⟩ := leaf ‹_› ‹Grow (dr w25 m.1) _›; exact ⟨t, w', a, _, b, c⟩)
  · have hkl : k = l.length := by omega
    subst hkl
    exact fin (by unfold trB; rw [List.take_length, List.take_of_length_le hk7]) hI
end Go.Proofs.Ytleiddajojgmmaa

/- The order of facts, and the function that compares them: what it leaves behind is told exactly, as sorting asks. No condition. -/
namespace Go.Proofs.Ytleiddajojgmmaa
open Go Go.RowKit VC
set_option linter.unusedSimpArgs false
set_option linter.unusedVariables false

/-! ## The order -/
theorem cmpI_zero {x y : Int} : cmpI x y = 0 ↔ x = y := by unfold cmpI; split <;> (try split) <;> omega
theorem cmpI_swap (x y : Int) : cmpI y x = - cmpI x y := by unfold cmpI; split <;> split <;> (try split) <;> omega
theorem cmpL_zero : ∀ {xs ys : List Int}, cmpL xs ys = 0 ↔ xs = ys
  | [], [] => by simp [cmpL]
  | [], _ :: _ => by simp [cmpL]
  | _ :: _, [] => by simp [cmpL]
  | x :: r, y :: s => by
    rw [cmpL]
    by_cases h : cmpI x y = 0
    · rw [if_pos h, cmpL_zero, cmpI_zero.1 h]; simp
    · rw [if_neg h]
      have : ¬ x = y := fun e => h (cmpI_zero.2 e)
      simp [h, this]
theorem cmpL_swap : ∀ (xs ys : List Int), cmpL ys xs = - cmpL xs ys
  | [], [] => rfl
  | [], _ :: _ => rfl
  | _ :: _, [] => rfl
  | x :: r, y :: s => by
    rw [cmpL, cmpL, cmpI_swap x y]
    by_cases h : cmpI x y = 0
    · rw [if_pos h, if_pos (by omega), cmpL_swap r s]
    · rw [if_neg h, if_neg (by omega)]
theorem cmpI_trans {x y z : Int} (h1 : cmpI x y ≤ 0) (h2 : cmpI y z ≤ 0) : cmpI x z ≤ 0 ∧ (cmpI x z = 0 → cmpI x y = 0 ∧ cmpI y z = 0) := by
  unfold cmpI at *
  refine ⟨?_, ?_⟩
  · repeat' split
    all_goals (try split at h1) <;> (try split at h2) <;> (try split at h1) <;> (try split at h2) <;> omega
  · repeat' split
    all_goals (try split at h1) <;> (try split at h2) <;> (try split at h1) <;> (try split at h2) <;> omega
theorem cmpL_trans : ∀ {xs ys zs : List Int}, cmpL xs ys ≤ 0 → cmpL ys zs ≤ 0 → cmpL xs zs ≤ 0
  | [], [], zs, _, h2 => h2
  | [], _ :: _, [], _, h2 => by simp [cmpL] at h2
  | [], _ :: _, _ :: _, _, _ => by simp [cmpL]
  | _ :: _, [], _, h1, _ => by simp [cmpL] at h1
  | _ :: _, _ :: _, [], _, h2 => by simp [cmpL] at h2
  | x :: r, y :: s, z :: t, h1, h2 => by
    rw [cmpL] at *
    have hx : cmpI x y ≤ 0 := by
      by_cases h : cmpI x y = 0
      · omega
      · rw [if_neg h] at h1; exact h1
    have hy : cmpI y z ≤ 0 := by
      by_cases h : cmpI y z = 0
      · omega
      · rw [if_neg h] at h2; exact h2
    obtain ⟨h3, h4⟩ := cmpI_trans hx hy
    by_cases h : cmpI x z = 0
    · obtain ⟨h5, h6⟩ := h4 h
      rw [if_pos h5] at h1
      rw [if_pos h6] at h2
      rw [if_pos h]
      exact cmpL_trans h1 h2
    · rw [if_neg h]; exact h3
theorem swoL {α : Type} (key : α → List Int) : Go.Sort.SWO (ltOf fun a b => cmpL (key a) (key b)) := by
  refine ⟨fun x => ?_, fun x y z h1 h2 => ?_, fun x y z h1 h2 => ?_⟩
  · have : cmpL (key x) (key x) = 0 := cmpL_zero.2 rfl
    simp [ltOf, this]
  · simp only [ltOf, decide_eq_true_eq] at *
    have h3 := cmpL_trans (xs := key x) (ys := key y) (zs := key z) (by omega) (by omega)
    refine Classical.byContradiction fun hn => ?_
    have h4 : cmpL (key x) (key z) = 0 := by omega
    rw [cmpL_zero.1 h4] at h1
    have := cmpL_swap (key z) (key y)
    omega
  · simp only [ltOf, decide_eq_false_iff_not] at *
    have e1 := cmpL_swap (key x) (key y)
    have e2 := cmpL_swap (key y) (key z)
    have e3 := cmpL_swap (key x) (key z)
    have h3 := cmpL_trans (xs := key z) (ys := key y) (zs := key x) (by omega) (by omega)
    omega
def keyA (a : Atm) : List Int := a.1 :: a.2
theorem keyA_inj {a b : Atm} (h : keyA a = keyA b) : a = b := by
  obtain ⟨r, l⟩ := a
  obtain ⟨s, m⟩ := b
  simp [keyA] at h
  rw [h.1, h.2]
def cmpA (a b : Atm) : Int := cmpL (keyA a) (keyA b)
theorem cmpA_zero {a b : Atm} : cmpA a b = 0 ↔ a = b := cmpL_zero.trans ⟨keyA_inj, fun h => by rw [h]⟩
/-! ## What is left behind -/
/-- It returns v; nothing that was there has turned, and no draw is taken back. -/
def RetD (w : World) (v : Value) : Ending → World → Prop := fun e w' => e = .returned v ∧ Grow w w' ∧ w.drawn ≤ w'.drawn
theorem growD {w w' : World} (h : Grow w w') (hd : w.drawn ≤ w'.drawn) : ∃ q os, w' = Go.Sort.grow (w.drewN q) os := by
  refine ⟨w'.drawn - w.drawn, w'.heap.extract w.heap.size w'.heap.size, ?_⟩
  have hh : w'.heap = w.heap ++ w'.heap.extract w.heap.size w'.heap.size := by
    apply Array.ext_getElem?
    intro i
    rw [Array.getElem?_append]
    split
    · rename_i hi; exact h.block i hi
    · rename_i hi
      rw [Array.getElem?_extract]
      have hs := h.size
      split
      · rename_i h2; congr 1; omega
      · rename_i h2
        exact Array.getElem?_eq_none (by simp at h2; omega)
  have e1 := h.os
  have e2 := h.tape
  have e3 := h.output
  cases w with
  | mk heap tape drawn os output =>
    cases w' with
    | mk heap' tape' drawn' os' output' =>
      dsimp only at hh e1 e2 e3 hd
      subst e1; subst e2; subst e3
      simp only [Go.Sort.grow, World.drewN]
      congr 1
      omega
theorem or_c {w : World} {v : Value} {x y : Int} (hs : SlI w v [x, y]) : Calls Try.prog 74 #[v] w (Same w (.int .i64 (if x = 0 then y else x))) := by
  refine f74_calls _ ?_
  refine hs.ln ⟨fun t w' => ∃ k : Nat, t = k ∧ k ≤ 2 ∧ w' = w ∧ (k = 1 → x = 0) ∧ (k = 2 → x = 0 ∧ y = 0), fun t _ => 2 - t.toNat, ⟨0, rfl, by omega, rfl, by omega, by omega⟩, ?_⟩
  rintro - t w1 ⟨k, rfl, hk, rfl, h1, h2⟩
  refine condD (fun hlt => ?_) (fun hge => ?_)
  · have hkl : k < 2 := by simp at hlt; omega
    refine hs.rd rfl hkl (condP_i (fun h => ?_) fun h => ?_)
    · rcases Nat.lt_or_ge k 1 with h3 | h3
      · have : k = 0 := by omega
        subst this
        have h : ¬ x = 0 := by simpa using h
        exact ⟨by rw [if_neg h]; rfl, rfl⟩
      · have : k = 1 := by omega
        subst this
        exact ⟨by rw [if_pos (h1 rfl)]; rfl, rfl⟩
    · rcases Nat.lt_or_ge k 1 with h3 | h3
      · have : k = 0 := by omega
        subst this
        have h : x = 0 := by simpa using h
        exact ⟨by unfold inR; omega, ⟨1, by omega, by omega, rfl, fun _ => h, by omega⟩, by dsimp only; omega⟩
      · have : k = 1 := by omega
        subst this
        have h : y = 0 := by simpa using h
        exact ⟨by unfold inR; omega, ⟨2, by omega, by omega, rfl, by omega, fun _ => ⟨h1 rfl, h⟩⟩, by dsimp only; omega⟩
  · have : k = 2 := by simp at hge; omega
    subst this
    exact ⟨by rw [if_pos (h2 rfl).1, (h2 rfl).2], rfl⟩
/-- Facts are compared. -/
theorem compareA_c {w : World} {r s : Int} {u v : Value} {xs ys : List Int} (hx : SlI w u xs) (hy : SlI w v ys) : Calls Try.prog 160 #[.agg #[.int .i64 r, u], .agg #[.int .i64 s, v]] w (RetD w (.int .i64 (cmpA (r, xs) (s, ys)))) := by
  refine f160_calls _ _ ?_
  refine ⟨_, rfl, fun w1 hw1 => ⟨_, rfl, fun w3 hw3 m => ?_⟩⟩
  have g1 := alloc_grow hw1
  have g3 := alloc_grow hw3
  have gm : Grow w3 (dr w3 m) := (Grow.refl w3).dr m
  have gD := (g1.trans g3).trans gm
  have d1 : w1.drawn = w.drawn := by subst hw1; rfl
  have d3 : w3.drawn = w1.drawn := by subst hw3; rfl
  have dm : w.drawn ≤ (dr w3 m).drawn := by have := m.2; show w.drawn ≤ m.1; omega
  have hxD := hx.grow gD
  have hyD := hy.grow gD
  have a0 := (g3.trans gm).cell (boxc hw1 0 _ rfl)
  have a1 := (g3.trans gm).cell (boxc hw1 1 _ rfl)
  have b0 := gm.cell (boxc hw3 0 _ rfl)
  have b1 := gm.cell (boxc hw3 1 _ rfl)
  have fin : ∀ w4, w4 = (dr w3 m).alloc (.cells #[.int .i64 (cmpI r s), .int .i64 (cmpL xs ys)] 3) → Calls Try.prog 74 #[.slice (some ⟨(dr w3 m).heap.size, 0, none⟩) 2 2] w4 fun e w' => ∃ t : Int, e = .returned (.int .i64 t) ∧ RetD w (.int .i64 (cmpA (r, xs) (s, ys))) (.returned (.int .i64 t)) w' := fun w4 hw4 => by
    have hl := Own.lit (B := (dr w3 m).heap.size) (n := 2) (sz := 1) hw4 (Nat.le_refl _) (by omega) (by simp)
    refine (or_c (x := cmpI r s) (y := cmpL xs ys) (Own.slI hl)).mono ?_
    rintro e w' ⟨rfl, rfl⟩
    refine ⟨_, rfl, ?_, gD.trans (alloc_grow hw4), ?_⟩
    · simp only [cmpA, keyA, cmpL]
    · have : w'.drawn = (dr w3 m).drawn := by subst hw4; rfl
      omega
  repeat' first
    | refine And.intro ?_ ?_
    | refine ⟨_, a0, ?_⟩
    | refine ⟨_, b0, ?_⟩
    | refine ⟨_, a1, ?_⟩
    | refine ⟨_, b1, ?_⟩
    | (refine cmpI_c.mono ?_; rintro e w' ⟨rfl, rfl⟩; refine ⟨_, rfl, ?_⟩)
    | (refine (compare_c hxD hyD).mono ?_; rintro e w' ⟨rfl, rfl⟩; exact ⟨_, rfl, fin⟩)
theorem eqA_c {w : World} {r s : Int} {u v : Value} {xs ys : List Int} (hx : SlI w u xs) (hy : SlI w v ys) : Calls Try.prog 162 #[.agg #[.int .i64 r, u], .agg #[.int .i64 s, v]] w (Ret w (.bool (decide ((r, xs) = (s, ys))))) := by
  refine f162_calls _ _ ?_
  refine ⟨_, rfl, fun w1 hw1 => ⟨_, rfl, fun w3 hw3 => ?_⟩⟩
  have g1 := alloc_grow hw1
  have g3 := alloc_grow hw3
  refine ⟨[_, _], rfl, two (g3.cell (boxc hw1 0 _ rfl)) (g3.cell (boxc hw1 1 _ rfl)), [_, _], rfl, two (boxc hw3 0 _ rfl) (boxc hw3 1 _ rfl), (compareA_c (hx.grow (g1.trans g3)) (hy.grow (g1.trans g3))).mono ?_⟩
  rintro e w4 ⟨rfl, g4, -⟩
  refine ⟨_, rfl, ?_, (g1.trans g3).trans g4⟩
  congr 2
  rw [decide_eq_decide]
  exact cmpA_zero
end Go.Proofs.Ytleiddajojgmmaa

/- Contracts: facts are cloned, and put together where neighbours are equal. No condition. -/
namespace Go.Proofs.Ytleiddajojgmmaa
open Go Go.RowKit VC
set_option linter.unusedSimpArgs false
set_option linter.unusedVariables false

/-- An own slice of facts whose arguments are older than block B. -/
abbrev OwnO (B0 : Nat) (w : World) (B : Nat) (v : Value) (l : List Atm) : Prop := OwnX (fun b => B0 ≤ b) 2 repA w B 33 v l
theorem repA_one {w : World} {cs : List Value} {a : Atm} (h : repA w cs a) : ∀ u ∈ cs, u.oneCell' = true := by
  obtain ⟨v, rfl, hv⟩ := h
  intro u hu
  simp at hu
  rcases hu with rfl | rfl
  · rfl
  · exact hv.one.2
theorem cloneF_c {w : World} {v : Value} {l : List Atm} (hs : SlA w v l) (hlen : l.length ≤ 1000000) : Calls Try.prog 159 #[v] w fun e w' => ∃ v', e = .returned v' ∧ OwnO w.heap.size w' w.heap.size v' l ∧ Grow w w' := by
  refine f159_calls _ ?_
  obtain ⟨ps, hps, hel, hsc⟩ := SlX.cells (by omega) hs
  obtain ⟨a, c, rfl, h1, h2, h3, h4⟩ := hs.ex
  refine ⟨a.isNone, nilEq (e := 33) (by kernel_rfl), condP_i (fun ha => ?_) (fun ha => ?_)⟩
  · have : a = none := by simpa using ha
    have hc := h3 this
    have : l = [] := by have : l.length = 0 := by omega
                        simpa using this
    subst this
    exact ⟨_, rfl, OwnX.nil _ _ _, Grow.refl w⟩
  · refine bs0 el_fact w fun w1 hw1 => ?_
    have g1 := alloc_grow hw1
    have s1 := alloc_size hw1
    have hl := Own.lit (B := w.heap.size) (n := 0) (sz := 2) hw1 (Nat.le_refl _) (by omega) (by simp)
    have ho : OwnO w.heap.size w1 w.heap.size (.slice (some ⟨w.heap.size, 0, none⟩) 0 0) [] := ⟨[], rfl, by simp, by simpa using hl⟩
    have hpl : ps.length = l.length := by rw [← hps, List.length_map]
    refine pappX (qs := ps) el_fact (by omega) ho (SlC.grow hsc g1) (fun p hp => ⟨(hel p hp).1, repA_one (hel p hp).2, fun w' hf => repA_mono _ _ _ _ (g1.fr hf fun i hi e => ?_) (hel p hp).2⟩) (by omega) (by simp; omega) (by omega) ?_
    · rcases e with e | e
      · omega
      · simp [Value.ownBlock] at e; omega
    · intro v' w' ho' hf hn _
      refine ⟨v', rfl, by simpa [hps] using ho', g1.fr hf fun i hi e => ?_⟩
      simp [Value.ownBlock] at e
      omega
/-- What holds between the rounds of CompactFunc, once two neighbours were equal: k kept, the rest from place k on as it was. -/
structure CpI (T : Nat → Prop) (w : World) (B g n cap : Nat) (l : List Atm) (ps : List (List Value × Atm)) (k j : Nat) (w' : World) (qs : List (List Value × Atm)) : Prop where
  len : qs.length = n
  kept : (qs.take k).map Prod.snd = dd (l.take j)
  rest : ∀ i, k ≤ i → qs[i]? = ps[i]?
  el : ∀ q ∈ qs, ElX T 2 repA (.slice (some ⟨g, 0, none⟩) n cap) w' q
  own : Own w' B 33 2 (.slice (some ⟨g, 0, none⟩) n cap) n (qs.flatMap Prod.fst)
  fr : Fr (fun b => b = g) w w'
theorem app2 (a b : Value) : (#[] ++ #[a, b] ++ #[] : Array Value) = #[a, b] := rfl
theorem rec_at {w : World} {B g n cap : Nat} {t : TypeId} {qs : List (List Value × Atm)} (hl : ∀ q ∈ qs, q.1.length = 2) (ho : Own w B t 2 (.slice (some ⟨g, 0, none⟩) n cap) n (qs.flatMap Prod.fst)) {i : Nat} (hi : i < qs.length) : ∀ (j : Nat) (u : Value), (qs[i].1)[j]? = some u → w.cell? ⟨g, i * 2 + j, none⟩ = some u := by
  intro j u hj
  have hjk : j < 2 := by
    have h1 := (List.getElem?_eq_some_iff.1 hj).1
    have h2 := hl _ (List.getElem_mem hi)
    omega
  have hc := World.ownsRow.cells (g := g) ho rfl (i * 2 + j) u (by rw [flat_get' hl hi hjk]; exact hj)
  rwa [Addr.add0] at hc
theorem compactF_c {T : Nat → Prop} {w : World} {B : Nat} {v : Value} {l : List Atm} (ho : OwnX T 2 repA w B 33 v l) : Calls Try.prog 161 #[v, .func (.func 162) #[] #[]] w fun e w' => ∃ v', e = .returned v' ∧ OwnX T 2 repA w' B 33 v' (dd l) ∧ FrO v w w' ∧ (∀ b, v'.ownBlock = some b → v.ownBlock = some b) := by
  refine f161_calls _ _ ?_
  have hle := SlX.len_le ho.slX
  refine ho.ln (condD (fun h2 => ⟨v, rfl, ?_, Fr.refl _ _, fun b hb => hb⟩) fun h2 => ?_)
  · have : dd l = l := by
      match l, h2 with
      | [], _ => rfl
      | [a], _ => rfl
      | _ :: _ :: r, h => simp at h; omega
    rwa [this]
  obtain ⟨ps, hps, hel, hown⟩ := ho.ex
  have hpl : ps.length = l.length := by rw [← hps, List.length_map]
  have hv : ∃ g cap, v = .slice (some ⟨g, 0, none⟩) l.length cap ∧ l.length ≤ cap ∧ g < w.heap.size := by
    rcases hown.2 with ⟨_, h0⟩ | ⟨g, cap, cur, rfl, hb, hgg, hnc, _⟩
    · omega
    · exact ⟨g, cap, rfl, hnc, (Array.getElem?_eq_some_iff.1 hgg).1⟩
  obtain ⟨g, cap, rfl, hcap, hgw⟩ := hv
  have hl2 : ∀ p ∈ ps, p.1.length = 2 := fun p hp => (hel p hp).len
  have eqc : ∀ {w1 : World} {p q : List Value × Atm}, ElX T 2 repA (.slice (some ⟨g, 0, none⟩) l.length cap) w1 p → ElX T 2 repA (.slice (some ⟨g, 0, none⟩) l.length cap) w1 q → ∀ w2, Grow w1 w2 → Calls Try.prog 162 (#[] ++ #[.agg p.1.toArray, .agg q.1.toArray] ++ #[]) w2 fun e w' => e = .returned (.bool (decide (p.2 = q.2))) ∧ Grow w2 w' := fun {w1 p q} hp hq w2 hg => by
    obtain ⟨u, h1, hu⟩ := hp.rep w2 (Fr.of_grow hg)
    obtain ⟨u', h1', hu'⟩ := hq.rep w2 (Fr.of_grow hg)
    rw [h1, h1', app2]
    exact eqA_c (r := p.2.1) (s := q.2.1) hu hu'
  have idx : ∀ i (hi : i < l.length), (ps[i]'(by omega)).2 = l[i] := fun i hi => by
    simp only [← hps, List.getElem_map]
  have at0 : ∀ (i j : Nat), Addr.add (Addr.add ⟨g, 0, none⟩ (i * 2)) j = ⟨g, i * 2 + j, none⟩ := fun i j => by rw [add_add, Addr.add0]
  refine ⟨fun k w' => ∃ i : Nat, k = i ∧ 1 ≤ i ∧ i ≤ l.length ∧ dd (l.take i) = l.take i ∧ Grow w w', fun k _ => l.length - k.toNat, ⟨1, rfl, by omega, by omega, ?_, Grow.refl w⟩, ?_⟩
  · match l, h2 with
    | [], h => simp at h
    | a :: r, _ => rfl
  rintro - k w8 ⟨i, rfl, hi1, hi, hdd, g8⟩
  have o8 := Own.grow hown g8
  refine ⟨_, _, _, rfl, condD (fun hlt => ?_) fun hge => ?_⟩
  · have hil : i < l.length := by omega
    have e1 : ((i : Int) - 1).toNat = i - 1 := by omega
    refine ⟨_, _, _, rfl, ⟨by omega, by omega⟩, (ps[i]'(by omega)).1, hl2 _ (List.getElem_mem _), fun j u hj => ?_, by unfold inR; omega, _, _, _, rfl, ⟨by omega, by omega⟩, (ps[i - 1]'(by omega)).1, hl2 _ (List.getElem_mem _), fun j u hj => ?_, ?_⟩
    · rw [Int.toNat_natCast, at0]; exact rec_at hl2 o8 (by omega) j u hj
    · rw [e1, at0]; exact rec_at hl2 o8 (by omega) j u hj
    refine ⟨_, _, _, rfl, by kernel_rfl, _, eqc ((hel _ (List.getElem_mem _)).grow g8) ((hel _ (List.getElem_mem _)).grow g8), fun w27 g27 => ?_⟩
    have g027 := g8.trans g27
    rw [idx i hil, idx (i - 1) (by omega)]
    have hdt := dd_take (l := l) hi1 hil
    refine condD (fun heq => ?_) fun hne => ?_
    · rw [if_pos heq, List.append_nil] at hdt
      have hsb : sbR (some (Value.int .i64 (i : Int))) none none l.length cap i l.length cap := ⟨rfl, rfl, rfl, by simp, by omega, by omega, by omega⟩
      have hci : ¬ cap = i := by omega
      refine ⟨_, _, _, rfl, i, l.length, cap, hsb, ?_⟩
      rw [if_neg hci]
      refine ⟨fun k k2 w' => ∃ (a b : Nat) (qs : List (List Value × Atm)), k = a ∧ k2 = b ∧ 1 ≤ b ∧ i + b ≤ l.length ∧ a + 1 ≤ i + b ∧ 1 ≤ a ∧ CpI T w B g l.length cap l ps a (i + b) w' qs, fun _ k2 _ => l.length - i - k2.toNat, ⟨i, 1, ps, rfl, rfl, by omega, by omega, by omega, by omega, ⟨hpl, ?_, fun _ _ => rfl, fun q hq => (hel q hq).grow g027, Own.grow hown g027, Fr.of_grow g027⟩⟩, ?_⟩
      · rw [hdt, hdd, List.map_take, hps]
      rintro - - - w39 ⟨a, b, qs, rfl, rfl, hb1, hib, hab, ha1, hI⟩
      have hql : ∀ q ∈ qs, q.1.length = 2 := fun q hq => (hI.el q hq).len
      have hqn := hI.len
      refine ⟨_, _, _, rfl, condD (fun hlt2 => ?_) fun hge2 => ?_⟩
      · have hbl : i + b < l.length := by omega
        have qe : ∀ j (hj : a ≤ j) (hjl : j < l.length), qs[j]'(by omega) = ps[j]'(by omega) := fun j hj hjl => by
          have := hI.rest j hj
          rw [List.getElem?_eq_getElem (by omega), List.getElem?_eq_getElem (by omega)] at this
          exact Option.some.inj this
        have e2 : ((b : Int) - 1).toNat = b - 1 := by omega
        have at2 : ∀ (x j : Nat), Addr.add (Addr.add (Addr.add ⟨g, 0, none⟩ (i * 2)) (x * 2)) j = ⟨g, (i + x) * 2 + j, none⟩ := fun x j => by
          rw [add_add, add_add, Addr.add0]; congr 1; omega
        refine ⟨_, _, _, rfl, ⟨by omega, by omega⟩, (qs[i + b]'(by omega)).1, hql _ (List.getElem_mem _), fun j u hj => ?_, by unfold inR; omega, _, _, _, rfl, ⟨by omega, by omega⟩, (qs[i + (b - 1)]'(by omega)).1, hql _ (List.getElem_mem _), fun j u hj => ?_, ?_⟩
        · rw [Int.toNat_natCast, at2]; exact rec_at hql hI.own (by omega) j u hj
        · rw [e2, at2]; exact rec_at hql hI.own (by omega) j u hj
        refine ⟨_, _, _, rfl, by kernel_rfl, _, eqc (hI.el _ (List.getElem_mem _)) (hI.el _ (List.getElem_mem _)), fun w58 g58 => ?_⟩
        have hdt2 := dd_take (l := l) (i := i + b) (by omega) hbl
        have c1 : (qs[i + b]'(by omega)).2 = l[i + b] := by rw [qe _ (by omega) (by omega), idx]
        have c2 : (qs[i + (b - 1)]'(by omega)).2 = l[i + b - 1] := by
          rw [qe _ (by omega) (by omega), idx (i + (b - 1)) (by omega)]
          congr 1; omega
        rw [c1, c2]
        have hI58 : CpI T w B g l.length cap l ps a (i + b) w58 qs := ⟨hqn, hI.kept, hI.rest, fun q hq => (hI.el q hq).grow g58, Own.grow hI.own g58, hI.fr.trans (Fr.of_grow g58)⟩
        refine condP_i (fun hne => ?_) fun heq2 => ?_
        · have hne : ¬ l[i + b] = l[i + b - 1] := by simpa using hne
          rw [if_neg hne] at hdt2
          refine ⟨_, _, _, rfl, ⟨by omega, by omega⟩, (qs[i + b]'(by omega)).1, hql _ (List.getElem_mem _), fun j u hj => ?_, _, _, _, rfl, ⟨by omega, by omega⟩, ?_⟩
          · rw [Int.toNat_natCast, at2]; exact rec_at hql hI58.own (by omega) j u hj
          · have hel58 := hI58.el _ (List.getElem_mem (show i + b < qs.length by omega))
            have hfl : (qs.flatMap Prod.fst).length = qs.length * 2 := flat_len' hql
            obtain ⟨w66, hr, hf66, ho66⟩ := Own.put (P := Try.prog) (o := a * 2) (vs := (qs[i + b]'(by omega)).1) hI58.own (by rw [hel58.len]; omega) hel58.one
            refine ⟨_, rfl, by simpa using hel58.len, w66, ?_, by unfold inR; omega, by unfold inR; omega, ⟨a + 1, b + 1, qs.set a (qs[i + b]'(by omega)), by omega, by omega, by omega, by omega, by omega, by omega, ?_⟩, by dsimp only; omega⟩
            · rw [Int.toNat_natCast, Addr.add0]
              simpa using hr
            · refine ⟨by simpa using hqn, ?_, fun j hj => ?_, fun q hq => ?_, ?_, hI58.fr.trans hf66⟩
              · rw [← Nat.add_assoc, hdt2, ← hI.kept, List.take_succ_eq_append_getElem (by simp; omega), List.map_append]
                congr 1
                · rw [List.take_set_of_le (by omega)]
                · simp [c1]
              · rw [List.getElem?_set_ne (by omega)]
                exact hI.rest j (by omega)
              · rcases List.mem_or_eq_of_mem_set hq with hq | rfl
                · exact (hI58.el q hq).later (hf66.mono fun b' _ e => .inr (by rw [e]; rfl))
                · exact hel58.later (hf66.mono fun b' _ e => .inr (by rw [e]; rfl))
              · have e3 : (qs.set a (qs[i + b]'(by omega))).flatMap Prod.fst = (qs.flatMap Prod.fst).take (a * 2) ++ (qs[i + b]'(by omega)).1 ++ (qs.flatMap Prod.fst).drop (a * 2 + (qs[i + b]'(by omega)).1.length) := flat_set hql (by omega) hel58.len
                rw [e3]; exact ho66
        · have heq2 : l[i + b] = l[i + b - 1] := by simpa using heq2
          rw [if_pos heq2, List.append_nil] at hdt2
          refine ⟨by unfold inR; omega, ⟨a, b + 1, qs, rfl, by omega, by omega, by omega, by omega, ha1, ⟨hqn, ?_, hI58.rest, hI58.el, hI58.own, hI58.fr⟩⟩, by dsimp only; omega⟩
          rw [← Nat.add_assoc, hdt2]; exact hI.kept
      · have hbl : i + b = l.length := by omega
        have hsb2 : sbR (some (Value.int .i64 (a : Int))) none none l.length cap a l.length cap := ⟨rfl, rfl, rfl, by simp, by omega, by omega, by omega⟩
        have hca : ¬ cap = a := by omega
        have hfl : (qs.flatMap Prod.fst).length = qs.length * 2 := flat_len' hql
        have hzl : (Builtin.zeroCells (Value.agg #[.int .i64 0, .slice none 0 0]).cells (l.length - a)).toList.length = (l.length - a) * 2 := by
          rw [Array.length_toList, size_zeroCells]; rfl
        obtain ⟨w74, hr, hf74, ho74⟩ := Own.put (P := Try.prog) (o := a * 2) (vs := (Builtin.zeroCells (Value.agg #[.int .i64 0, .slice none 0 0]).cells (l.length - a)).toList) hI.own (by rw [hzl]; omega) (zeroCells_mem (by decide) (by
          intro u hu
          simp [Value.cells] at hu
          rcases hu with rfl | rfl <;> rfl))
        refine ⟨_, _, _, rfl, a, l.length, cap, hsb2, w74, ?_, ?_⟩
        · rw [if_neg hca]
          refine clear_run el_fact (by omega) ?_
          show (storeCells (Addr.add ⟨g, 0, none⟩ (a * 2)) _).run _ _ = _
          rw [Addr.add0]; exact hr
        · refine ⟨_, _, _, rfl, 0, a, cap, ⟨rfl, rfl, rfl, by simp, by omega, by omega, by omega⟩, ?_⟩
          have hcc : ¬ cap = 0 := by omega
          have hcut := Own.cut ho74 (k := a) (by omega)
          have e5 : ((qs.flatMap Prod.fst).take (a * 2) ++ (Builtin.zeroCells (Value.agg #[.int .i64 0, .slice none 0 0]).cells (l.length - a)).toList ++ (qs.flatMap Prod.fst).drop (a * 2 + (Builtin.zeroCells (Value.agg #[.int .i64 0, .slice none 0 0]).cells (l.length - a)).toList.length)).take (a * 2) = (qs.take a).flatMap Prod.fst := by
            rw [List.append_assoc, List.take_append_of_le_length (by rw [List.length_take, hfl]; omega), List.take_take, Nat.min_self]
            exact (flat_take hql).symm
          rw [e5] at hcut
          have hkl : (dd l).length = a := by
            have := congrArg List.length hI.kept
            rw [hbl, List.take_length] at this
            rw [← this]; simp; omega
          refine ⟨_, rfl, ⟨qs.take a, ?_, fun q hq => ?_, ?_⟩, hI.fr.trans hf74 |>.mono (fun b' _ e => by rw [e]; rfl), fun b' hb' => ?_⟩
          · rw [hI.kept, hbl, List.take_length]
          · have hq' := hI.el q (List.mem_of_mem_take hq)
            refine ⟨hq'.len, hq'.one, fun w2 hf2 => hq'.rep w2 ((hf74.mono fun b' _ e => .inr (by rw [e]; rfl)).trans (hf2.mono fun b' _ e => ?_))⟩
            rcases e with e | e
            · exact .inl e
            · refine .inr ?_
              rw [if_neg hcc] at e
              simpa [Value.ownBlock, add_block] using e
          · rw [hkl, if_neg hcc]
            simpa [Addr.add0] using hcut
          · rw [if_neg hcc] at hb'
            simpa [Value.ownBlock, add_block] using hb'
    · rw [if_neg hne] at hdt
      refine ⟨by unfold inR; omega, ⟨i + 1, by omega, by omega, by omega, ?_, g027⟩, by dsimp only; omega⟩
      rw [hdt, hdd, List.take_succ_eq_append_getElem hil]
  · have hil : i = l.length := by omega
    subst hil
    rw [List.take_length] at hdd
    exact ⟨_, rfl, by rw [hdd]; exact ho.grow g8, Fr.of_grow g8, fun b hb => hb⟩
end Go.Proofs.Ytleiddajojgmmaa

/- Contracts: facts are sorted by the library; once: facts in their order, each once. No condition. -/
namespace Go.Proofs.Ytleiddajojgmmaa
open Go Go.RowKit VC Go.Sort Go.Shelf
set_option linter.unusedSimpArgs false
set_option linter.unusedVariables false

theorem agg_fact (w : World) : (isAgg 33).run Try.prog w = .ok true w := by
  have h : (Try.prog.underlying 33).isSome = true := by kernel_rfl
  have hm : (match Try.prog.underlying 33 with | some (.struct _) => true | _ => false) = true := by kernel_rfl
  obtain ⟨d, hd⟩ := Option.isSome_iff_exists.1 h
  rw [hd] at hm
  rw [isAgg_run hd]
  cases d <;> first | rfl | (simp at hm; done)
theorem size_fact (w : World) : (Go.sizeOf 33).run Try.prog w = .ok 2 w := by
  have h : Try.prog.cellsOf 33 = 2 := by kernel_rfl
  have := cellsOf_run (P := Try.prog) (t := 33) (by rw [h]; decide) w
  rwa [h] at this
theorem sortF_c {T : Nat → Prop} {w : World} {B : Nat} {v : Value} {l : List Atm} (ho : OwnX T 2 repA w B 33 v l) (hlen : l.length ≤ 1000000) : Calls Try.prog 72 #[v, .func (.func 160) #[] #[]] w fun e w' =>
    ∃ l', e = .returned (.tuple #[]) ∧ l'.Perm l ∧ l'.Pairwise (fun a b => cmpA a b ≤ 0) ∧ OwnX T 2 repA w' B 33 v l' ∧ FrO v w w' := by
  obtain ⟨ps, hps, hel, hown⟩ := ho.ex
  have hpl : ps.length = l.length := by rw [← hps, List.length_map]
  have none : ∀ a c, l = [] → Calls Try.prog 72 #[.slice a 0 c, .func (.func 160) #[] #[]] w fun e w' => e = .returned (.tuple #[]) ∧ w' = w := fun a c _ =>
    AnyF.slices_SortFunc_none Try.laysSlF06_f72 a c _ w
  rcases hown.2 with ⟨rfl, h0⟩ | ⟨g, cap, cur, rfl, hb, hgg, hnc, hcm, hcs, htake⟩
  · have hl : l = [] := by simpa using h0
    subst hl
    refine (none _ _ rfl).mono ?_
    rintro e w' ⟨rfl, rfl⟩
    exact ⟨[], rfl, List.Perm.refl _, List.Pairwise.nil, ho, Fr.refl _ _⟩
  by_cases hl : l = []
  · subst hl
    refine (none _ _ rfl).mono ?_
    rintro e w' ⟨rfl, rfl⟩
    exact ⟨[], rfl, List.Perm.refl _, List.Pairwise.nil, ho, Fr.refl _ _⟩
  have hgw : g < w.heap.size := (Array.getElem?_eq_some_iff.1 hgg).1
  have hpos : 0 < ps.length := by
    rcases Nat.eq_zero_or_pos l.length with h | h
    · exact absurd (by simpa using h) hl
    · omega
  let α := { p : List Value × Atm // ElX T 2 repA (.slice (some ⟨g, 0, Option.none⟩) l.length cap) w p }
  haveI : Inhabited α := ⟨⟨ps[0], hel _ (List.getElem_mem hpos)⟩⟩
  let enc : α → List Value := fun p => p.1.1
  have hk : ∀ x, (enc x).length = 2 := fun x => x.2.len
  let d : Array α := (ps.pmap (fun p hp => (⟨p, hp⟩ : α)) hel).toArray
  have hds : d.size = l.length := by simp [d, hpl]
  have hfl : d.toList.flatMap enc = ps.flatMap Prod.fst := by
    simp only [d, enc]
    have : ∀ (qs : List (List Value × Atm)) (hq : ∀ p ∈ qs, ElX T 2 repA (.slice (some ⟨g, 0, Option.none⟩) l.length cap) w p), (qs.pmap (fun p hp => (⟨p, hp⟩ : α)) hq).flatMap (fun p => p.1.1) = qs.flatMap Prod.fst := by
      intro qs
      induction qs with
      | nil => intro _; rfl
      | cons q r ih => intro hq; simp only [List.pmap_cons, List.flatMap_cons]; rw [ih]
    exact this ps hel
  have hcont : d.toList.map (fun p => p.1.2) = l := by
    refine Eq.trans ?_ hps
    simp only [d, List.map_pmap]
    rw [List.pmap_eq_map]
  have hH : HoldsK enc 2 w g 0 d := by
    unfold HoldsK
    rw [flatK_eq hk (by omega), hfl]
    exact Own.holds hown
  have eg := callAll 160 (by kernel_rfl)
  have hcmp : CmpLays Try.prog 160 #[] enc 2 (fun x y => cmpA x.1.2 y.1.2) g 0 d.size w := by
    intro m os dk hdk x y
    have hfr : FrT T (.slice (some ⟨g, 0, Option.none⟩) l.length cap) w (sortWorldK enc 2 w g 0 m dk os) := (put_fr (n := m) (os := os) (flatK enc 2 dk)).mono fun b _ e => .inr (by rw [e]; rfl)
    obtain ⟨u, h1, hu⟩ := x.2.rep _ hfr
    obtain ⟨u', h1', hu'⟩ := y.2.rep _ hfr
    have e1 : enc x = [.int .i64 x.1.2.1, u] := h1
    have e2 : enc y = [.int .i64 y.1.2.1, u'] := h1'
    rw [e1, e2]
    refine (compareA_c (r := x.1.2.1) (s := y.1.2.1) hu hu').mono ?_
    rintro e w' ⟨rfl, hg, hd⟩
    exact ⟨rfl, growD hg hd⟩
  have hn : l.length = d.size := hds.symm
  have key := Try.slices_SortFunc_facts 2 agg_fact size_fact enc hk (fun x => x.2.one) (fun x y => cmpA x.1.2 y.1.2) (swoL (α := α) fun x => keyA x.1.2) 160 #[] g 0 cap d w eg hcmp hH hgw (by omega)
  rw [hds] at key
  refine key.mono ?_
  rintro e w' ⟨rfl, d', n, os, hperm, hsort, rfl⟩
  have hds' : d'.size = l.length := hperm.1.trans hds
  have hp : d'.toList.Perm d.toList := by
    have := hperm.2.2
    have a1 : d'.extract 0 l.length = d' := by rw [← hds']; simp
    have a2 : d.extract 0 l.length = d := by rw [← hds]; simp
    rwa [a1, a2] at this
  have hf : FrO (.slice (some ⟨g, 0, Option.none⟩) l.length cap) w (sortWorldK enc 2 w g 0 n d' os) := (put_fr (n := n) (os := os) (flatK enc 2 d')).mono fun b _ e => by rw [e]; rfl
  refine ⟨d'.toList.map (fun p => p.1.2), rfl, ?_, ?_, ⟨d'.toList.map (fun p => p.1), by rw [List.map_map]; rfl, fun p hp' => ?_, ?_⟩, hf⟩
  · have := hp.map (fun p => p.1.2)
    rwa [hcont] at this
  · rw [List.pairwise_map, List.pairwise_iff_getElem]
    intro i j hi hj hij
    have hi' : i < d'.size := by simpa using hi
    have hj' : j < d'.size := by simpa using hj
    have := hsort i j (Nat.zero_le _) hij (by omega)
    rw [getElem!_pos d' j hj', getElem!_pos d' i hi'] at this
    simp only [ltOf, decide_eq_false_iff_not] at this
    have h3 := cmpL_swap (keyA d'[i].1.2) (keyA d'[j].1.2)
    simp only [Array.getElem_toList]
    show cmpL _ _ ≤ 0
    have h4 : ¬ cmpL (keyA d'[j].1.2) (keyA d'[i].1.2) < 0 := this
    omega
  · obtain ⟨q, _, rfl⟩ := List.mem_map.1 hp'
    exact q.2.later (hf.mono fun b _ e => .inr e)
  · have e1 : (d'.toList.map (fun p => p.1)).flatMap Prod.fst = d'.toList.flatMap enc := by rw [List.flatMap_map]
    have e2 : (d'.toList.map (fun p => p.1.2)).length = l.length := by simp [hds']
    rw [e1, e2]
    have hb2 := Own.behind (m := n) (os := os) (ts := d'.toList.flatMap enc) hown (by rw [flat_len hk]; simp [hds'])
    have e3 : sortWorldK enc 2 w g 0 n d' os = Go.Sort.grow (putRow id (Go.Sort.ahead w n) g 0 (d'.toList.flatMap enc).toArray) os := by
      rw [← flatK_eq hk (by omega)]; rfl
    rw [e3]; exact hb2
/-! ## Each once -/
theorem cmpA_trans {a b c : Atm} (h1 : cmpA a b < 0) (h2 : cmpA b c < 0) : cmpA a c < 0 := by
  have := (swoL keyA).trans a b c (by simpa [ltOf, cmpA] using h1) (by simpa [ltOf, cmpA] using h2)
  simpa [ltOf, cmpA] using this
theorem cmpA_lt {a b : Atm} (h : cmpA a b ≤ 0) (hne : a ≠ b) : cmpA a b < 0 := by
  have : cmpA a b ≠ 0 := fun e => hne (cmpA_zero.1 e)
  omega
theorem mem_ddp {α : Type} [DecidableEq α] {z : α} : ∀ {r : List α} {y : α}, z ∈ y :: ddp y r ↔ z ∈ y :: r
  | [], y => by simp [ddp]
  | x :: r, y => by
    rw [ddp]
    split
    · rename_i e
      subst e
      have := mem_ddp (z := z) (r := r) (y := x)
      simp at this ⊢
      rw [this]
    · have := mem_ddp (z := z) (r := r) (y := x)
      simp only [List.mem_cons] at this ⊢
      rw [this]
theorem mem_dd {α : Type} [DecidableEq α] {z : α} {l : List α} : z ∈ dd l ↔ z ∈ l := by
  cases l with
  | nil => rfl
  | cons a r => exact mem_ddp
theorem ddp_sorted : ∀ {r : List Atm} {y : Atm}, (y :: r).Pairwise (fun a b => cmpA a b ≤ 0) → (y :: ddp y r).Pairwise (fun a b => cmpA a b < 0)
  | [], y, _ => by simp [ddp]
  | x :: r, y, h => by
    obtain ⟨h1, h2⟩ := List.pairwise_cons.1 h
    have ih := ddp_sorted h2
    rw [ddp]
    split
    · rename_i e
      subst e; exact ih
    · rename_i hne
      have hyx := cmpA_lt (h1 x (List.mem_cons_self ..)) (fun e => hne e.symm)
      refine List.pairwise_cons.2 ⟨fun z hz => ?_, ih⟩
      rcases List.mem_cons.1 hz with rfl | hz
      · exact hyx
      · exact cmpA_trans hyx ((List.pairwise_cons.1 ih).1 z hz)
theorem dd_sorted {l : List Atm} (h : l.Pairwise (fun a b => cmpA a b ≤ 0)) : (dd l).Pairwise (fun a b => cmpA a b < 0) := by
  cases l with
  | nil => exact List.Pairwise.nil
  | cons a r => exact ddp_sorted h
/-- Facts in their order, each once. -/
structure OnceL (l l' : List Atm) : Prop where
  inc : l'.Pairwise (fun a b => cmpA a b < 0)
  mem : ∀ a, a ∈ l' ↔ a ∈ l
  len : l'.length ≤ l.length
theorem dd_len {α : Type} [DecidableEq α] : ∀ (l : List α), (dd l).length ≤ l.length := by
  have : ∀ (r : List α) (y : α), (ddp y r).length ≤ r.length := by
    intro r
    induction r with
    | nil => intro y; simp [ddp]
    | cons x r ih =>
      intro y
      rw [ddp]
      have := ih x
      split <;> simp <;> omega
  intro l
  cases l with
  | nil => exact Nat.le_refl _
  | cons a r => have := this r a; simp [dd]; omega
theorem once_c {w : World} {v : Value} {l : List Atm} (hs : SlA w v l) (hlen : l.length ≤ 1000000) : Calls Try.prog 141 #[v] w fun e w' => ∃ v' l', e = .returned v' ∧ OnceL l l' ∧ OwnO w.heap.size w' w.heap.size v' l' ∧ Grow w w' := by
  refine f141_calls _ ?_
  refine (cloneF_c hs hlen).mono ?_
  rintro e w1 ⟨v1, rfl, ho1, g1⟩
  refine ⟨v1, rfl, (sortF_c ho1 hlen).mono ?_⟩
  rintro e w2 ⟨l2, rfl, hp, hpw, ho2, hf2⟩
  refine ⟨rfl, (compactF_c ho2).mono ?_⟩
  rintro e w3 ⟨v3, rfl, ho3, hf3, hb⟩
  refine ⟨v3, rfl, v3, dd l2, rfl, ⟨dd_sorted hpw, fun a => mem_dd.trans hp.mem_iff, ?_⟩, ho3, ?_⟩
  · have := dd_len l2
    rw [hp.length_eq] at this; exact this
  · refine g1.fr (hf2.trans hf3) fun i hi e => ?_
    have := (ho1.lt e.symm).1
    omega
end Go.Proofs.Ytleiddajojgmmaa
