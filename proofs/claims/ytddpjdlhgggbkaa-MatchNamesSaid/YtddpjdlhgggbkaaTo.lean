/- Of, with all that it owns; atoms turned around. No condition. -/
import Derived.Test.YtddpjdlhgggbkaaMr
namespace Go.Proofs.Ytddpjdlhgggbkaa
open Go Go.RowKit VC
set_option linter.unusedSimpArgs false
set_option linter.unusedVariables false

/-- A slice of atoms with Args that are the call's own as well, each in an array of its own. -/
structure Nest (w : World) (B : Nat) (v : Value) (ps : List (Value × Atm)) : Prop where
  own : Own w B 34 2 v ps.length (ps.flatMap fun p => [.int .i64 p.2.1, p.1])
  args : ∀ p ∈ ps, OwnI w B p.1 p.2.2
  sep : ps.Pairwise fun p q => ∀ k, p.1.ownBlock = some k → q.1.ownBlock ≠ some k
  sepv : ∀ p ∈ ps, ∀ k, p.1.ownBlock = some k → v.ownBlock ≠ some k
theorem Nest.fr {S : Nat → Prop} {w w' : World} {B : Nat} {v : Value} {ps : List (Value × Atm)} (h : Nest w B v ps) (hf : Fr S w w') (hv : ∀ k, v.ownBlock = some k → ¬ S k) (ha : ∀ p ∈ ps, ∀ k, p.1.ownBlock = some k → ¬ S k) : Nest w' B v ps :=
  ⟨Own.fr h.own hf hv, fun p hp => Own.fr (h.args p hp) hf (ha p hp), h.sep, h.sepv⟩
theorem Nest.grow {w w' : World} {B : Nat} {v : Value} {ps : List (Value × Atm)} (h : Nest w B v ps) (hf : Grow w w') : Nest w' B v ps := h.fr (Fr.of_grow (S := fun _ => False) hf) (fun _ _ => id) fun _ _ _ _ => id
theorem Nest.mono {w : World} {B B' : Nat} {v : Value} {ps : List (Value × Atm)} (h : Nest w B v ps) (hB : B' ≤ B) : Nest w B' v ps := ⟨Own.mono h.own hB, fun p hp => Own.mono (h.args p hp) hB, h.sep, h.sepv⟩
theorem Nest.ownX {w : World} {B : Nat} {v : Value} {ps : List (Value × Atm)} (h : Nest w B v ps) : OwnA w B v (ps.map Prod.snd) := by
  refine ⟨ps.map fun p => ([.int .i64 p.2.1, p.1], p.2), ?_, fun q hq => ?_, ?_⟩
  · rw [List.map_map]; rfl
  · obtain ⟨p, hp, rfl⟩ := List.mem_map.1 hq
    have ho := h.args p hp
    refine ⟨rfl, ?_, fun w' hf => ⟨p.1, rfl, (Own.fr ho hf fun k hk e => ?_).slI⟩⟩
    · intro u hu
      simp at hu
      rcases hu with rfl | rfl
      · rfl
      · exact (Own.one ho).2
    · rcases e with e | e
      · have := (Own.lt ho hk).1
        have e : k < B := e
        omega
      · exact h.sepv p hp k hk e.symm
  · rw [List.length_map, List.flatMap_map]
    exact h.own
theorem Nest.slA {w : World} {B : Nat} {v : Value} {ps : List (Value × Atm)} (h : Nest w B v ps) : SlA w v (ps.map Prod.snd) := h.ownX.slX
def repO (B : Nat) (w : World) (cs : List Value) (x : Atm × Option Nat) : Prop := ∃ v, cs = [.int .i64 x.1.1, v] ∧ v.ownBlock = x.2 ∧ OwnI w B v x.1.2
theorem elx_ownO {T : Nat → Prop} {w : World} {B B0 : Nat} {r : Int} {v out : Value} {xs : List Int} (ho : OwnI w B v xs) (hB : B0 ≤ B) (hT : ∀ b, T b → b < B) (hout : ∀ b, out.ownBlock = some b → b < B) : ElX T 2 (repO B0) out w ([.int .i64 r, v], ((r, xs), v.ownBlock)) := by
  refine ⟨rfl, ?_, fun w' hf => ⟨v, rfl, rfl, Own.mono (Own.fr ho hf fun k hk e => ?_) hB⟩⟩
  · intro u hu
    simp at hu
    rcases hu with rfl | rfl
    · rfl
    · exact (Own.one ho).2
  · have h2 := (Own.lt ho hk).1
    rcases e with e | e
    · have := hT k e; omega
    · have h1 := hout k e.symm
      omega
theorem nest_of {T : Nat → Prop} {w : World} {B : Nat} {v : Value} {xs : List (Atm × Option Nat)} (h : OwnX T 2 (repO B) w B 34 v xs) (hs : xs.Pairwise fun x y => ∀ k, x.2 = some k → y.2 ≠ some k) (hv : ∀ x ∈ xs, ∀ k, x.2 = some k → v.ownBlock ≠ some k) : ∃ ps : List (Value × Atm), Nest w B v ps ∧ ps.map Prod.snd = xs.map Prod.fst ∧ ∀ p ∈ ps, ∃ x ∈ xs, x.2 = p.1.ownBlock := by
  obtain ⟨qs, rfl, hel, hown⟩ := h.ex
  have hrep : ∀ q ∈ qs, repO B w q.1 q.2 := fun q hq => (hel q hq).rep w (Fr.refl _ _)
  have hcell : ∀ q ∈ qs, q.1 = [.int .i64 q.2.1.1, q.1.getD 1 undef] := fun q hq => by
    obtain ⟨u, h1, h2, h3⟩ := hrep q hq
    rw [h1]
    rfl
  have hblk : ∀ q ∈ qs, (q.1.getD 1 undef).ownBlock = q.2.2 ∧ OwnI w B (q.1.getD 1 undef) q.2.1.2 := fun q hq => by
    obtain ⟨u, h1, h2, h3⟩ := hrep q hq
    rw [h1]
    exact ⟨h2, h3⟩
  refine ⟨qs.map fun q => (q.1.getD 1 undef, q.2.1), ⟨?_, fun p hp => ?_, ?_, fun p hp k hk => ?_⟩, ?_, fun p hp => ?_⟩
  · rw [List.length_map, List.flatMap_map]
    rw [List.length_map] at hown
    have : (qs.flatMap fun q => [Value.int .i64 q.2.1.1, q.1.getD 1 undef]) = qs.flatMap Prod.fst := by
      clear hown hel hrep hblk hs hv h
      induction qs with
      | nil => rfl
      | cons a r ih =>
        rw [List.flatMap_cons, List.flatMap_cons, ih fun q hq => hcell q (List.mem_cons_of_mem _ hq), ← hcell a (List.mem_cons_self ..)]
    show Own w B _ 2 v qs.length (qs.flatMap fun q => [Value.int .i64 q.2.1.1, q.1.getD 1 undef])
    rw [this]
    exact hown
  · obtain ⟨q, hq, rfl⟩ := List.mem_map.1 hp
    exact (hblk q hq).2
  · rw [List.pairwise_map]
    rw [List.pairwise_map] at hs
    refine hs.imp_of_mem fun {a b} ha hb hab k hk => ?_
    show (b.1.getD 1 undef).ownBlock ≠ some k
    rw [(hblk b hb).1]
    exact hab k ((hblk a ha).1 ▸ hk)
  · obtain ⟨q, hq, rfl⟩ := List.mem_map.1 hp
    exact hv q.2 (List.mem_map.2 ⟨q, hq, rfl⟩) k ((hblk q hq).1 ▸ hk)
  · rw [List.map_map, List.map_map]; rfl
  · obtain ⟨q, hq, rfl⟩ := List.mem_map.1 hp
    exact ⟨q.2, List.mem_map.2 ⟨q, hq, rfl⟩, (hblk q hq).1.symm⟩
/-- Between the rounds of Of. -/
structure OfO (w9 : World) (C : Nat) (hv : Value) (l : List Atm) (k : Nat) (w' : World) (bv : Value) (xs : List (Atm × Option Nat)) : Prop where
  rc : RecV w' C [hv, bv]
  own : OwnX (fun b => b < w9.heap.size) 2 (repO w9.heap.size) w' w9.heap.size 34 bv xs
  eq : xs.map Prod.fst = (l.take k).map trA
  sep : xs.Pairwise fun x y => ∀ k, x.2 = some k → y.2 ≠ some k
  ub : ∀ x ∈ xs, ∀ k, x.2 = some k → (w9.heap.size ≤ k ∧ k < w'.heap.size) ∧ bv.ownBlock ≠ some k
  fr : Fr (fun i => i = C) w9 w'
theorem OfO.len {w9 : World} {C : Nat} {hv : Value} {l : List Atm} {k : Nat} {w' : World} {bv : Value} {xs : List (Atm × Option Nat)} (h : OfO w9 C hv l k w' bv xs) (hk : k ≤ l.length) : xs.length = k := by
  have := congrArg List.length h.eq
  simpa [Nat.min_eq_left hk] using this
/-- The copy of a query, all of whose arrays are its own. -/
theorem ofO_c {w : World} {hv v : Value} {h : List Int} {l : List Atm} (hh : SlI w hv h) (hs : SlA w v l) : Calls Try.prog 6 #[.agg #[hv, v]] w fun e w' => ∃ hv' v' ps, e = .returned (.agg #[hv', v']) ∧ OwnI w' w.heap.size hv' (h.take 9) ∧ Nest w' w.heap.size v' ps ∧ ps.map Prod.snd = trB l ∧ Grow w w' ∧ ∀ k, hv'.ownBlock = some k → v'.ownBlock ≠ some k ∧ ∀ p ∈ ps, p.1.ownBlock ≠ some k := by
  refine f6_calls _ ?_
  have hle := SlX.len_le hs
  refine ⟨_, rfl, fun w1 hw1 w3 hw3 => ?_⟩
  have g1 := alloc_grow hw1
  have g3 := alloc_grow hw3
  have s1 := alloc_size hw1
  have s3 := alloc_size hw3
  have hR := RecV.new hw3
  have hq := (RecV.new hw1).grow g3
  refine ⟨_, hq.cell (j := 0) rfl, (few_c (hh.grow (g1.trans g3))).mono ?_⟩
  rintro e w5 ⟨hv', rfl, ho5, g5⟩
  refine ⟨hv', rfl, Own.one ho5, fun w8 hw8 => RecV.init (cs := [hv', .slice none 0 0]) hw8 rfl (by
    intro u hu
    simp at hu
    rcases hu with rfl | rfl
    · exact (Own.one ho5).2
    · rfl) fun w9 g9 s9 hC => ?_⟩
  have g39 := g5.trans g9
  have g09 := (g1.trans g3).trans g39
  refine ⟨_, (hq.grow g39).cell (j := 1) rfl, SlX.ln (hs.gr g09) ?_⟩
  have hs5 := g5.size
  have hs9 := g9.size
  have fin : ∀ {k w' bv xs}, (l.take k).map trA = trB l → OfO w9 w5.heap.size hv' l k w' bv xs → ∃ cs : List Value, cs.length = 2 ∧ (∀ (j : Nat) (u : Value), cs[j]? = some u → w'.cell? (Addr.add ⟨w5.heap.size, 0, none⟩ j) = some u) ∧ ∃ cs' : Array Value, (Value.agg cs.toArray) = Value.agg cs' ∧ cs'.size = 2 ∧
      ∃ w2 : World, (storeCells ⟨w1.heap.size, 0, none⟩ cs'.toList).run Try.prog w' = .ok () w2 ∧ ∃ ds : List Value, ds.length = 2 ∧ (∀ (j : Nat) (u : Value), ds[j]? = some u → w2.cell? (Addr.add ⟨w1.heap.size, 0, none⟩ j) = some u) ∧
        ∃ hv2 v2 ps, Ending.returned (.agg ds.toArray) = .returned (.agg #[hv2, v2]) ∧ OwnI w2 w.heap.size hv2 (h.take 9) ∧ Nest w2 w.heap.size v2 ps ∧ ps.map Prod.snd = trB l ∧ Grow w w2 ∧ ∀ k, hv2.ownBlock = some k → v2.ownBlock ≠ some k ∧ ∀ p ∈ ps, p.1.ownBlock ≠ some k := fun {k w' bv xs} hk hI => by
    have hfr := hI.fr
    have hR' : RecV w' w1.heap.size _ := (hR.grow g39).fr hfr (by omega)
    refine ⟨[hv', bv], rfl, hI.rc.all, ?_⟩
    refine RecV.store (cs := [hv', bv]) hR' rfl (by
      intro u hu
      simp at hu
      rcases hu with rfl | rfl
      · exact (Own.one ho5).2
      · exact hI.own.one.2) fun w2 hf hr => ?_
    have hown2 := OwnX.fr hI.own hf (fun b hb => by show b < w9.heap.size; omega) fun b hb e => by have := (hI.own.lt hb).1; omega
    obtain ⟨ps, hN, hps, hblk⟩ := nest_of hown2 hI.sep fun x hx k hk => (hI.ub x hx k hk).2
    refine ⟨[hv', bv], rfl, hr.all, hv', bv, ps, rfl, ?_, Nest.mono hN (by omega), by rw [hps, hI.eq, hk], ?_, fun k hk => ⟨fun e => by have := (Own.lt ho5 hk).2; have := (hI.own.lt e).1; omega, fun p hp e => ?_⟩⟩
    · refine Own.mono (Own.fr (Own.fr (Own.grow ho5 g9) hfr fun b hb e => ?_) hf fun b hb e => ?_) (by omega)
      · have := Own.lt ho5 hb; omega
      · have := Own.lt ho5 hb; omega
    · exact (g09.fr hfr fun i hi e => by omega).fr hf fun i hi e => by omega
    · obtain ⟨x, hx, he⟩ := hblk p hp
      have h1 := (hI.ub x hx k (he.trans e)).1
      have h2 := (Own.lt ho5 hk).2
      omega
  refine ⟨fun t w' => ∃ (k : Nat) (bv : Value) (xs : List (Atm × Option Nat)), t = k ∧ k ≤ l.length ∧ k ≤ 7 ∧ OfO w9 w5.heap.size hv' l k w' bv xs, fun t _ => l.length - t.toNat, ⟨0, _, [], rfl, by omega, by omega, hC, OwnX.nil _ _ _, rfl, List.Pairwise.nil, fun x hx => by simp at hx, Fr.refl _ _⟩, ?_⟩
  rintro - t w19 ⟨k, bv, xs, rfl, hk, hk7, hI⟩
  have gI : Grow w w19 := g09.fr hI.fr fun i hi e => by omega
  refine condD (fun hlt => ?_) (fun hge => ?_)
  · have hkl : k < l.length := by omega
    refine SlX.loc (hs.gr gI) rfl hkl rfl fun w25 u g25 _ hu c0 c1 => ?_
    have hI25 : OfO w9 w5.heap.size hv' l k w25 bv xs := ⟨hI.rc.grow g25, hI.own.grow g25, hI.eq, hI.sep, fun x hx k hk => ⟨⟨(hI.ub x hx k hk).1.1, Nat.lt_of_lt_of_le (hI.ub x hx k hk).1.2 g25.size⟩, (hI.ub x hx k hk).2⟩, hI.fr.trans (Fr.of_grow g25)⟩
    have hxl := hI25.len hk
    refine condD (fun h6 => fin ?_ hI25) fun h6 m => ?_
    · have : k = 7 := by omega
      subst this; rfl
    · have gm : Grow w25 (dr w25 m) := (Grow.refl w25).dr m
      have hf9 := hI25.fr.size
      have hbl : ∀ b, bv.ownBlock = some b → b < w25.heap.size := fun b hb => (hI25.own.lt hb).2
      have leaf : ∀ {E v'}, OwnI E (dr w25 m).heap.size v' ((l[k]).2.take 9) → Grow (dr w25 m) E → ∃ t : Value, ∃ w' : World, (Instr.buildSlice 27 1 #[(0, .agg #[.int .i64 (l[k]).1, v'])]).run Try.prog E = .ok t w' ∧ (w'.cell? (Addr.add ⟨w5.heap.size, 0, none⟩ 1) = some bv ∧
          PApp Try.prog 27 27 bv t w' fun v2 w2 => oneV v2 ∧ (∃ old, w2.cell? (Addr.add ⟨w5.heap.size, 0, none⟩ 1) = some old) ∧ w2.frozen? (Addr.add ⟨w5.heap.size, 0, none⟩ 1) = false ∧ ∀ w4, w4 = w2.setCell (Addr.add ⟨w5.heap.size, 0, none⟩ 1) v2 →
            inR ((k : Int) + 1) ∧ ((∃ (k' : Nat) (bv : Value) (xs : List (Atm × Option Nat)), (k : Int) + 1 = k' ∧ k' ≤ l.length ∧ k' ≤ 7 ∧ OfO w9 w5.heap.size hv' l k' w4 bv xs) ∧ l.length - Int.toNat ((k : Int) + 1) < l.length - Int.toNat (k : Int))) := fun {E v'} ho gE => by
        have gE' := gm.trans gE
        refine bs1 el_atom (by omega) (by omega) (cs := #[.int .i64 (l[k]).1, v']) rfl E fun w' hw' => ⟨((hI25.rc.grow gE').grow (alloc_grow hw')).cell rfl, ?_⟩
        refine pappX1 el_atom (by omega) (cs := [.int .i64 (l[k]).1, v']) (y := (trA l[k], v'.ownBlock)) (hI25.own.grow gE') hw' (elx_ownO ho hf9 (fun b hb => Nat.lt_of_lt_of_le hb hf9) hbl) (by have := gE'.size; omega) (by rw [hxl]; omega) (by omega) ?_
        intro v2 w2 ho2 hf2 _ hblk
        have hCne : ∀ (k : Nat), k = w5.heap.size → ¬ some k = bv.ownBlock := fun b e e2 => by
          have := (hI25.own.lt e2.symm).1; omega
        have hC2 : RecV w2 w5.heap.size [hv', bv] := ((hI25.rc.grow gE').grow (alloc_grow hw')).fr hf2 (hCne _ rfl)
        have hsz : (dr w25 m).heap.size = w25.heap.size := rfl
        have hszE := gE'.size
        have hszw := alloc_size hw'
        have hsz2 := hf2.size
        refine ⟨ho2.one, ⟨_, hC2.cell (j := 1) rfl⟩, hC2.free 1, fun w4 hw4 => ⟨by unfold inR; omega, ⟨k + 1, v2, xs ++ [(trA l[k], v'.ownBlock)], by omega, by omega, by omega, hC2.set hw4, ?_, ?_, ?_, ?_, ?_⟩, by omega⟩⟩
        · refine OwnX.fr ho2 (RecV.set_fr hw4) (fun b hb => ?_) fun b hb e => ?_
          · show b < w9.heap.size
            omega
          · have := (ho2.lt hb).1; omega
        · rw [trF_succ hkl, List.map_append, hI25.eq]
          rfl
        · refine List.pairwise_append.2 ⟨hI25.sep, List.pairwise_singleton _ _, fun x hx y hy j hj e => ?_⟩
          rw [List.mem_singleton.1 hy] at e
          have h1 := (hI25.ub x hx j hj).1.2
          have h2 := (Own.lt ho e).1
          omega
        · have s4 : w4.heap.size = w2.heap.size := by rw [hw4]; simp
          intro x hx j hj
          rcases List.mem_append.1 hx with hx | hx
          · have h1 := hI25.ub x hx j hj
            refine ⟨⟨h1.1.1, by omega⟩, fun e => ?_⟩
            rcases hblk j e with h | h
            · exact h1.2 h.symm
            · omega
          · rw [List.mem_singleton.1 hx] at hj
            have h2 := Own.lt ho hj
            refine ⟨⟨by omega, by omega⟩, fun e => ?_⟩
            rcases hblk j e with h | h
            · have := hbl j h.symm
              omega
            · omega
        · refine Fr.trans (b := w2) (Fr.mono (S := fun i => w9.heap.size ≤ i ∨ i = w5.heap.size) ((hI25.fr.mono fun i _ e => .inr e).trans ((Fr.of_grow (gE'.trans (alloc_grow hw'))).trans (hf2.mono fun i _ e => .inl ?_))) fun i hi e => ?_) (RecV.set_fr hw4)
          · exact (hI25.own.lt e.symm).1
          · rcases e with e | e
            · omega
            · exact e
      have call : ∀ {Q : Ending → World → Prop}, (∀ v' E, OwnI E (dr w25 m).heap.size v' ((l[k]).2.take 9) → Grow (dr w25 m) E → Q (.returned v') E) → Calls Try.prog 16 #[u] (dr w25 m) Q := fun hq => (few_c (hu.dr m)).mono (by
        rintro e E ⟨v', rfl, ho, gE⟩
        exact hq v' E ho gE)
      have cC : ∀ {E}, Grow (dr w25 m) E → E.cell? (Addr.add ⟨w5.heap.size, 0, none⟩ 1) = some bv := fun g => (hI25.rc.grow (gm.trans g)).cell (j := 1) rfl
      have k0 : ∀ {E}, Grow (dr w25 m) E → E.cell? (Addr.add ⟨w19.heap.size, 0, none⟩ 0) = some (.int .i64 (l[k]).1) := fun g => (gm.trans g).cell c0
      have k1 : ∀ {E}, Grow (dr w25 m) E → E.cell? (Addr.add ⟨w19.heap.size, 0, none⟩ 1) = some u := fun g => (gm.trans g).cell c1
      repeat' first
        | exact Own.one ‹_›
        | refine And.intro ?_ ?_
        | refine ⟨_, cC (Grow.refl _), ?_⟩
        | refine ⟨_, k0 (Grow.refl _), ?_⟩
        | refine ⟨_, k1 (Grow.refl _), ?_⟩
        | refine ⟨_, cC ‹Grow (dr w25 m.1) _›, ?_⟩
        | refine ⟨_, k0 ‹Grow (dr w25 m.1) _›, ?_⟩
        | (refine call ?_; intro v' E ho gE; refine ⟨v', rfl, ?_⟩)
        | (obtain ⟨t, w', a, b, c⟩ := leaf ‹_› ‹Grow (dr w25 m.1) _›; exact ⟨t, w', a, c⟩)
        | (obtain ⟨t, w', a, b, c⟩ := leaf ‹_› ‹Grow (dr w25 m.1) _›; exact ⟨t, w', a, _, b, c⟩)
  · have hkl : k = l.length := by omega
    subst hkl
    exact fin (by unfold trB; rw [List.take_length, List.take_of_length_le hk7]) hI
/-- Between the rounds of Reverse. -/
structure RvA (T : Nat → Prop) (w : World) (B g n cap : Nat) (ps : List (List Value × Atm)) (i j : Int) (w' : World) (qs : List (List Value × Atm)) : Prop where
  len : qs.length = n
  at_ : ∀ k, k < n → qs[k]? = if (k : Int) < i ∨ j < (k : Int) then ps[n - 1 - k]? else ps[k]?
  el : ∀ q ∈ qs, ElX T 2 repA (.slice (some ⟨g, 0, none⟩) n cap) w' q
  own : Own w' B 34 2 (.slice (some ⟨g, 0, none⟩) n cap) n (qs.flatMap Prod.fst)
  fr : Fr (fun b => b = g) w w'
theorem reverseA_c {T : Nat → Prop} {w : World} {B : Nat} {v : Value} {l : List Atm} (ho : OwnX T 2 repA w B 34 v l) : Calls Try.prog 12 #[v] w fun e w' => e = .returned (.tuple #[]) ∧ OwnX T 2 repA w' B 34 v l.reverse ∧ FrO v w w' := by
  refine f12_calls _ ?_
  have hle := SlX.len_le ho.slX
  obtain ⟨ps, hps, hel, hown⟩ := ho.ex
  have hpl : ps.length = l.length := by rw [← hps, List.length_map]
  rcases hown.2 with ⟨rfl, h0⟩ | ⟨g, cap, cur, rfl, hb, hgg, hnc, hcm, hcs, htake⟩
  · have hl : l = [] := by simpa using h0
    subst hl
    refine ⟨_, _, _, rfl, by unfold inR; omega, fun i j w' => w' = w ∧ i = 0 ∧ j = -1, fun _ _ _ => 0, ⟨rfl, rfl, rfl⟩, ?_⟩
    rintro - i j w' ⟨rfl, rfl, rfl⟩
    exact cF (decide_eq_false (by omega)) ⟨rfl, ho, Fr.refl _ _⟩
  have hgw : g < w.heap.size := (Array.getElem?_eq_some_iff.1 hgg).1
  have hn : l.length ≤ 9223372036854775807 := hle
  refine ⟨_, _, _, rfl, by unfold inR; omega, fun i j w' => ∃ qs, 0 ≤ i ∧ i + j = (l.length : Int) - 1 ∧ i ≤ j + 2 ∧ RvA T w B g l.length cap ps i j w' qs, fun i j _ => (j - i + 3).toNat, ⟨ps, by omega, by omega, by omega, ⟨hpl, fun k hk => ?_, hel, hown, Fr.refl _ _⟩⟩, ?_⟩
  · rw [if_neg (by omega)]
  rintro - i j w9 ⟨qs, hi, hij, hij2, hI⟩
  have hql : ∀ q ∈ qs, q.1.length = 2 := fun q hq => (hI.el q hq).len
  have hqn := hI.len
  refine condD (fun hlt => ?_) (fun hge => ?_)
  · intro m
    obtain ⟨a, rfl⟩ : ∃ a : Nat, i = a := ⟨i.toNat, by omega⟩
    obtain ⟨b, rfl⟩ : ∃ b : Nat, j = b := ⟨j.toNat, by omega⟩
    have hal : a < qs.length := by omega
    have hbl : b < qs.length := by omega
    have hbl' : b < l.length := by omega
    have gm : Grow w9 (dr w9 m) := (Grow.refl w9).dr m
    have om := Own.grow hI.own gm
    have at0 : ∀ (i j : Nat), Addr.add (Addr.add ⟨g, 0, none⟩ (Int.toNat (i : Int) * 2)) j = ⟨g, i * 2 + j, none⟩ := fun i j => by rw [add_add, Addr.add0, Int.toNat_natCast]
    have at1 : ∀ (i : Nat), Addr.add ⟨g, 0, none⟩ (Int.toNat (i : Int) * 2) = ⟨g, i * 2, none⟩ := fun i => by rw [Addr.add0, Int.toNat_natCast]
    have rdj : ∀ (t : Nat) (u : Value), (qs[b].1)[t]? = some u → (dr w9 m).cell? (Addr.add (Addr.add ⟨g, 0, none⟩ (Int.toNat (b : Int) * 2)) t) = some u := fun t u ht => by rw [at0]; exact rec_at hql om hbl t u ht
    have rdi : ∀ (t : Nat) (u : Value), (qs[a].1)[t]? = some u → (dr w9 m).cell? (Addr.add (Addr.add ⟨g, 0, none⟩ (Int.toNat (a : Int) * 2)) t) = some u := fun t u ht => by rw [at0]; exact rec_at hql om hal t u ht
    have lj := hql _ (List.getElem_mem hbl)
    have li := hql _ (List.getElem_mem hal)
    have hfl : (qs.flatMap Prod.fst).length = qs.length * 2 := flat_len' hql
    have ej := hI.el _ (List.getElem_mem hbl)
    have ei := hI.el _ (List.getElem_mem hal)
    -- the two stores
    have st : ∃ cs : Array Value, (Value.agg qs[b].1.toArray) = Value.agg cs ∧ cs.size = 2 ∧ ∃ w2 : World, (storeCells (Addr.add ⟨g, 0, none⟩ (Int.toNat (a : Int) * 2)) cs.toList).run Try.prog (dr w9 m) = .ok () w2 ∧ ∃ (c : Addr) (n c' : Nat), Value.slice (some ⟨g, 0, none⟩) l.length cap = Value.slice (some c) n c' ∧ ((0 : Int) ≤ (b : Int) ∧ (b : Int) < (n : Int)) ∧ ∃ ds : Array Value, (Value.agg qs[a].1.toArray) = Value.agg ds ∧ ds.size = 2 ∧ ∃ w3 : World, (storeCells (Addr.add c (Int.toNat (b : Int) * 2)) ds.toList).run Try.prog w2 = .ok () w3 ∧ inR ((a : Int) + 1) ∧ inR ((b : Int) - 1) ∧ ((∃ qs, 0 ≤ (a : Int) + 1 ∧ (a : Int) + 1 + ((b : Int) - 1) = (l.length : Int) - 1 ∧ (a : Int) + 1 ≤ (b : Int) - 1 + 2 ∧ RvA T w B g l.length cap ps ((a : Int) + 1) ((b : Int) - 1) w3 qs) ∧ ((b : Int) - 1 - ((a : Int) + 1) + 3).toNat < ((b : Int) - (a : Int) + 3).toNat) := by
      obtain ⟨w2, hr2, hf2, ho2⟩ := Own.put (P := Try.prog) (o := a * 2) (vs := qs[b].1) om (by rw [lj]; omega) ej.one
      have e2 : (qs.set a qs[b]).flatMap Prod.fst = (qs.flatMap Prod.fst).take (a * 2) ++ qs[b].1 ++ (qs.flatMap Prod.fst).drop (a * 2 + qs[b].1.length) := flat_set hql hal lj
      rw [← e2] at ho2
      have hq2 : ∀ q ∈ qs.set a qs[b], q.1.length = 2 := fun q hq => by
        rcases List.mem_or_eq_of_mem_set hq with hq | rfl
        · exact hql q hq
        · exact lj
      obtain ⟨w3, hr3, hf3, ho3⟩ := Own.put (P := Try.prog) (o := b * 2) (vs := qs[a].1) ho2 (by rw [li]; omega) ei.one
      have e3 : ((qs.set a qs[b]).set b qs[a]).flatMap Prod.fst = ((qs.set a qs[b]).flatMap Prod.fst).take (b * 2) ++ qs[a].1 ++ ((qs.set a qs[b]).flatMap Prod.fst).drop (b * 2 + qs[a].1.length) := flat_set hq2 (by simpa using hbl) li
      rw [← e3] at ho3
      refine ⟨_, rfl, by simpa using lj, w2, by rw [at1]; simpa using hr2, _, _, _, rfl, ⟨by omega, by omega⟩, _, rfl, by simpa using li, w3, by rw [at1]; simpa using hr3, by unfold inR; omega, by unfold inR; omega, ⟨(qs.set a qs[b]).set b qs[a], by omega, by omega, by omega, ?_⟩, by omega⟩
      have f3 : Fr (fun b => b = g) w9 w3 := (Fr.of_grow gm).trans (hf2.trans hf3)
      refine ⟨by simpa using hqn, fun k hk => ?_, fun q hq => ?_, ho3, hI.fr.trans f3⟩
      · have hab : a ≠ b := by omega
        have ea := hI.at_ a (by omega)
        have eb := hI.at_ b (by omega)
        rw [if_neg (by omega), List.getElem?_eq_getElem hal] at ea
        rw [if_neg (by omega), List.getElem?_eq_getElem hbl] at eb
        by_cases h1 : k = b
        · subst h1
          rw [List.getElem?_set_self (by simpa using hbl), if_pos (by omega), ea]
          congr 1; omega
        · rw [List.getElem?_set_ne (by omega)]
          by_cases h2 : k = a
          · subst h2
            rw [List.getElem?_set_self hal, if_pos (by omega), eb]
            congr 1; omega
          · rw [List.getElem?_set_ne (by omega), hI.at_ k hk]
            by_cases h3 : (k : Int) < a ∨ (b : Int) < k
            · rw [if_pos h3, if_pos (by omega)]
            · rw [if_neg h3, if_neg (by omega)]
      · have hq' : q ∈ qs := by
          rcases List.mem_or_eq_of_mem_set hq with hq | rfl
          · rcases List.mem_or_eq_of_mem_set hq with hq | rfl
            · exact hq
            · exact List.getElem_mem hbl
          · exact List.getElem_mem hal
        exact (hI.el q hq').later (f3.mono fun b' _ e => .inr (by rw [e]; rfl))
    refine ⟨_, _, _, rfl, ⟨by omega, by omega⟩, _, _, _, rfl, ⟨by omega, by omega⟩, ?_, ?_⟩
    · exact ⟨_, lj, rdj, _, li, rdi, _, _, _, rfl, ⟨by omega, by omega⟩, st⟩
    · exact ⟨_, li, rdi, _, lj, rdj, _, _, _, rfl, ⟨by omega, by omega⟩, st⟩
  · refine ⟨rfl, ⟨qs, ?_, hI.el, ?_⟩, hI.fr.mono fun b' _ e => by rw [e]; rfl⟩
    · rw [← hps, ← List.map_reverse]
      congr 1
      apply List.ext_getElem?
      intro k
      rcases Nat.lt_or_ge k l.length with hk | hk
      · rw [hI.at_ k hk, List.getElem?_reverse (by omega), hpl]
        split
        · rfl
        · have : k = l.length - 1 - k := by omega
          rw [← this]
      · rw [List.getElem?_eq_none (by omega), List.getElem?_eq_none (by simp; omega)]
    · rw [List.length_reverse]
      exact hI.own
end Go.Proofs.Ytddpjdlhgggbkaa
