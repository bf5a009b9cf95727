/- Elimination orders, the plain laws: what is left shrinks; checking a permutation and checking as one goes agree. No program, no condition. -/
import Derived.Test.YtleiddajojgmmaaDoorCb
namespace Go.Proofs.YtleiddajojgmmaaDoor
open Go Go.RowKit VC
set_option linter.unusedSimpArgs false
set_option linter.unusedVariables false

theorem pc_le (s : Nat) : pc s ≤ 12 := by unfold pc els; exact Nat.le_trans (List.length_filter_le _ _) (by simp)
theorem nodup_els (s : Nat) : (els s).Nodup := List.Pairwise.filter _ List.nodup_range
theorem els_sub {s i : Nat} (h : s.testBit i = true) (hi : i < 12) : (els s).length = (els (nSub s (2 ^ i))).length + 1 := by
  have hp : (els s).Perm (i :: els (nSub s (2 ^ i))) := by
    refine (List.perm_ext_iff_of_nodup (nodup_els s) ?_).2 fun j => ?_
    · refine List.nodup_cons.2 ⟨fun hm => ?_, nodup_els _⟩
      have := (mem_els.1 hm).2
      rw [nSub_bit, two_bit] at this
      simp at this
    · rw [List.mem_cons, mem_els, mem_els, nSub_bit, two_bit]
      by_cases e : j = i
      · subst e; simp [h, hi]
      · have : ¬ i = j := fun x => e x.symm
        simp [e, this]
  rw [hp.length_eq]; rfl
theorem pc_sub {s i : Nat} (h : s.testBit i = true) (hi : i < 12) : pc s = pc (nSub s (2 ^ i)) + 1 := els_sub h hi
theorem pc_zero {s : Nat} (h : s < 4096) : pc s = 0 ↔ s = 0 := by
  constructor
  · intro hp
    have : els s = [] := List.length_eq_zero_iff.1 hp
    apply set_zero.2
    intro i
    cases hb : s.testBit i with
    | false => rfl
    | true =>
      have : i ∈ els s := mem_els.2 ⟨bit_lt (n := 12) h hb, hb⟩
      simp_all
  · rintro rfl; rfl
theorem pc_mono {s t : Nat} (h : ∀ i, i < 12 → s.testBit i = true → t.testBit i = true) : pc s ≤ pc t := by
  unfold pc
  refine (nodup_els s).length_le_of_subset fun i hi => ?_
  obtain ⟨h1, h2⟩ := mem_els.1 hi
  exact mem_els.2 ⟨h1, h i h1 h2⟩
theorem pc_lt {s t : Nat} (h : ∀ i, i < 12 → s.testBit i = true → t.testBit i = true) {k : Nat} (hk : k < 12) (hs : s.testBit k = false) (ht : t.testBit k = true) : pc s < pc t := by
  have h1 := pc_sub ht hk
  have h2 : pc s ≤ pc (nSub t (2 ^ k)) := pc_mono fun i hi hb => by
    rw [nSub_bit, two_bit, h i hi hb]
    by_cases e : k = i
    · subst e; rw [hs] at hb; cases hb
    · simp [e]
  omega
theorem pc_grow {s t : Nat} (ht : t < 4096) (h : ∀ i, s.testBit i = true → t.testBit i = true) (hne : t ≠ s) : pc s < pc t := by
  have : ∃ k, t.testBit k = true ∧ s.testBit k = false := Classical.byContradiction fun hn => hne (Nat.eq_of_testBit_eq fun i => by
    cases hs : s.testBit i with
    | true => exact h i hs
    | false =>
      cases ht' : t.testBit i with
      | false => rfl
      | true => exact absurd ⟨i, ht', hs⟩ hn)
  obtain ⟨k, h1, h2⟩ := this
  exact pc_lt (fun i _ hi => h i hi) (bit_lt (n := 12) ht h1) h2 h1
/-- Checking as one goes. -/
def elN (N : List Nat) : Nat → List Int → Bool
  | left, [] => left == 0
  | left, x :: r => decide (0 ≤ x) && decide (x < N.length) && left.testBit x.toNat && cliq N (nb N x.toNat &&& nSub left (2 ^ x.toNat)) && elN N (nSub left (2 ^ x.toNat)) r
def orAll : List Int → Nat
  | [] => 0
  | x :: r => 2 ^ x.toNat ||| orAll r
def inRange (N : List Nat) (l : List Int) : Bool := l.all fun x => decide (0 ≤ x) && decide (x < N.length)
theorem el_true {N : List Nat} (hN : VN N) : ∀ (l : List Int) (left : Nat), left < 2 ^ N.length → elN N left l = true → inRange N l = true ∧ l.length = pc left ∧ orAll l = left
  | [], left, hl, h => by
    have : left = 0 := by simpa [elN] using h
    subst this
    exact ⟨rfl, rfl, rfl⟩
  | x :: r, left, hl, h => by
    simp only [elN, Bool.and_eq_true, decide_eq_true_eq] at h
    obtain ⟨⟨⟨⟨h0, h1⟩, hb⟩, hc⟩, he⟩ := h
    have hN12 := hN.le
    obtain ⟨a, b, c⟩ := el_true hN r _ (nSub_lt hl) he
    refine ⟨?_, ?_, ?_⟩
    · simp only [inRange, List.all_cons, Bool.and_eq_true, decide_eq_true_eq]
      exact ⟨⟨h0, h1⟩, a⟩
    · rw [List.length_cons, b, pc_sub hb (by omega)]
    · apply Nat.eq_of_testBit_eq
      intro i
      simp only [orAll, c, Nat.testBit_or, nSub_bit, two_bit]
      by_cases e : x.toNat = i
      · subst e; simp [hb]
      · simp [e]
theorem pc_al {N : List Nat} (hN : VN N) : pc (al N) = N.length := by
  have h := hN.le
  have : els (al N) = List.range N.length := by
    unfold els
    have : List.range 12 = List.range N.length ++ (List.range' N.length (12 - N.length)) := by
      rw [List.range_eq_range', List.range_eq_range']
      have := List.range'_append (s := 0) (m := N.length) (n := 12 - N.length) (step := 1)
      simp at this
      rw [this]; congr 1; omega
    rw [this, List.filter_append]
    have h1 : (List.range N.length).filter (al N).testBit = List.range N.length := List.filter_eq_self.2 fun i hi => by
      rw [al_bit]; simpa using hi
    have h2 : (List.range' N.length (12 - N.length)).filter (al N).testBit = [] := List.filter_eq_nil_iff.2 fun i hi => by
      rw [al_bit]; simp at hi ⊢; omega
    rw [h1, h2, List.append_nil]
  unfold pc
  rw [this, List.length_range]
end Go.Proofs.YtleiddajojgmmaaDoor

/- Contracts of package chordal and of its reference, second part: orders, and what the laws of this layer share. The table of bits is laid (Tab). -/
namespace Go.Proofs.YtleiddajojgmmaaDoor
open Go Go.RowKit VC
set_option linter.unusedSimpArgs false
set_option linter.unusedVariables false

theorem and_expr {a b : Nat} (ha : a < 4096) (hb : b < 4096) : iAnd .i64 (a : Int) (b : Int) = ((a &&& b : Nat) : Int) := iAnd_nat (by omega) (by omega)
theorem without {a i : Nat} (ha : a < 4096) (hi : i < 12) : iAndNot .i64 (a : Int) (iShl .i64 1 (i : Int)) = ((nSub a (2 ^ i) : Nat) : Int) := by
  rw [iShl_one (by omega), iAndNot_nat (by omega) (p2 hi)]
theorem order_lit_c {w : World} {b1 b2 : Nat} {g : Value} {N : List Nat} {left : Nat} (h1 : w.cell? ⟨b1, 0, none⟩ = some g) (h2 : w.cell? ⟨b2, 0, none⟩ = some (.int .i64 (left : Int))) (hg : SlI w g (ofN N)) (hN : VN N) (hl : left < 2 ^ N.length) (hT : Tab w) {i : Nat} (hi : i < N.length) :
    Calls Tryd.prog 49 #[.int .i64 (i : Int), .pointer (some ⟨b1, 0, none⟩), .pointer (some ⟨b2, 0, none⟩)] w (Ret6 w (.bool (cliq N (nb N i &&& left)))) := by
  refine f49_calls _ _ _ ?_
  have hl4 : left < 4096 := Nat.lt_of_lt_of_le hl hN.pow
  refine ⟨g, h1, g, h1, hg.rd rfl (by simpa using hi) ⟨_, h2, cliq N (nb N i &&& left), fun w' hw' => ?_, fun w' hw' => ⟨rfl, hw'⟩⟩⟩
  rw [ofN_get, nb_get, and_expr (hN.nb_lt' i) hl4]
  exact clique_c (hg.grow hw') hN (and_lt (hN.nb_lt i)) (hT.grow hw')
theorem find_of_idx {l : List Nat} {q : Nat → Bool} : (match (ofN l).findIdx? (fun x => q x.toNat) with | some i => l[i]? | none => none) = l.find? q := by
  have h : (ofN l).findIdx? (fun x => q x.toNat) = l.findIdx? q := by
    unfold ofN
    rw [List.findIdx?_map]
    rfl
  rw [h]
  clear h
  induction l with
  | nil => rfl
  | cons a r ih =>
    rw [List.findIdx?_cons, List.find?_cons]
    cases hq : q a with
    | true => simp
    | false =>
      rw [← ih]
      cases hf : r.findIdx? q with
      | none => simp
      | some j => simp
theorem idxOf_neg {p : Int → Bool} {xs : List Int} : idxOf6 p xs < 0 ↔ xs.findIdx? p = none := by
  unfold idxOf6
  cases h : xs.findIdx? p with
  | none => simp
  | some i => simp
/-- Graph.order: the greedy order, and whether there is one. -/
theorem order_c {w : World} {v : Value} {N : List Nat} (hs : SlI w v (ofN N)) (hN : VN N) (hT : Tab w) : Calls Tryd.prog 29 #[v] w fun e w' => ∃ u, e = .returned (.tuple #[u, .bool (ordG N).isSome]) ∧ OwnI6 w' w.heap.size u (ofN ((ordG N).getD [])) ∧ Grow w w' := by
  refine f29_calls _ ?_
  have hle := hN.le
  refine ⟨hs.one, fun w1 hw1 => ⟨v, alloc_cell0 hw1, ?_⟩⟩
  have g1 := alloc_grow hw1
  refine (all_c (hs.grow g1) (by simpa using hN.le)).mono ?_
  rintro e w2 ⟨rfl, g2⟩
  refine ⟨_, rfl, fun w3 hw3 => ⟨⟨_, alloc_cell0 hw3⟩, alloc_free hw3 0, fun w4 hw4 => ?_⟩⟩
  have g3 := alloc_grow hw3
  have b4 : Box w4 w2.heap.size (.int .i64 ((al N : Nat) : Int)) := by
    have := (Box.new hw3).set hw4
    rw [show (ofN N).length = N.length by simp] at this
    exact this
  have f4 := set_fr hw4
  have g12 : Grow w w2 := g1.trans g2
  have g4 : Grow w w4 := (g12.trans g3).fr f4 fun i hi e => by have := g12.size; have : i = w2.heap.size := e; omega
  have c1 : w4.cell? ⟨w.heap.size, 0, none⟩ = some v := f4.cell (g3.cell (g2.cell (alloc_cell0 hw1))) (fun e => by
    have h1 := alloc_size hw1; have h2 := g2.size
    have : w.heap.size = w2.heap.size := e
    omega)
  have hlt : w.heap.size < w2.heap.size := by have h1 := alloc_size hw1; have h2 := g2.size; omega
  refine ⟨fun out w' => ∃ (left : Nat) (done : List Nat), left < 2 ^ N.length ∧ pc left + done.length ≤ 12 ∧ ordG N = (ordN N (12 - done.length) left).map (done ++ ·) ∧ Box w' w2.heap.size (.int .i64 (left : Int)) ∧ w'.cell? ⟨w.heap.size, 0, none⟩ = some v ∧
      OwnI6 w' (w2.heap.size + 1) out (ofN done) ∧ Grow w w',
    fun out _ => match out with | .slice _ n _ => 13 - n | _ => 0,
    ⟨al N, [], al_lt N, by have := pc_le (al N); simpa using this, by simp [ordG], b4, c1, Own.nil _ _ _ _, g4⟩, ?_⟩
  rintro - out w5 ⟨left, done, hl, hpc, hord, hb, hc, ho, hg⟩
  have hl4 : left < 4096 := Nat.lt_of_lt_of_le hl hN.pow
  have hN4 := hN.nb_lt'
  refine ⟨_, hb.cell, condP_i (fun hnz => ?_) (fun hz => ?_)⟩
  · have hnz : left ≠ 0 := by simpa using hnz
    have hpos : 0 < pc left := by
      rcases Nat.eq_zero_or_pos (pc left) with h | h
      · exact absurd ((pc_zero hl4).1 h) hnz
      · exact h
    have hfuel : 12 - done.length = (11 - done.length) + 1 := by omega
    refine ⟨_, hb.cell, (nodes_c hl4 (hT.grow hg)).mono ?_⟩
    rintro e w6 ⟨u, rfl, hu, g6⟩
    refine ⟨u, rfl, ?_⟩
    have hask : Asks6 w6 (.func (.func 49) #[] #[.pointer (some ⟨w.heap.size, 0, none⟩), .pointer (some ⟨w2.heap.size, 0, none⟩)]) (ofN (els left)) (fun x => (fun i => cliq N (nb N i &&& left)) x.toNat) := by
      refine ⟨_, _, _, rfl, rfl, fun x hx w' hw' => ?_⟩
      simp only [ofN, List.mem_map, mem_els] at hx
      obtain ⟨i, ⟨hi, hbit⟩, rfl⟩ := hx
      simp only [Int.toNat_natCast]
      exact order_lit_c (hw'.cell (g6.cell hc)) (hw'.cell (g6.cell hb.cell)) (hs.grow ((hg.trans g6).trans hw')) hN hl (hT.grow ((hg.trans g6).trans hw')) (bit_lt hl hbit)
    refine (indexFunc_c6 hu.slI hask).mono ?_
    rintro e w7 ⟨rfl, g7⟩
    have g67 : Grow w5 w7 := g6.trans g7
    refine ⟨_, rfl, condD (fun hneg => ?_) (fun hpos2 => ?_)⟩
    · -- no node can be eliminated
      have hnone := idxOf_neg.1 hneg
      have hfind : (els left).find? (fun i => cliq N (nb N i &&& left)) = none := by
        rw [← find_of_idx, hnone]
      have : ordG N = none := by
        rw [hord, hfuel]
        unfold ordN
        rw [if_neg hnz, hfind]
        rfl
      rw [this]
      exact ⟨_, rfl, Own.nil _ _ _ _, hg.trans g67⟩
    · cases hfi : (ofN (els left)).findIdx? (fun x => (fun i => cliq N (nb N i &&& left)) x.toNat) with
      | none => exact absurd (idxOf_neg.2 hfi) hpos2
      | some k =>
        have hk : k < (els left).length := by
          have := (List.findIdx?_eq_some_iff_getElem.1 hfi).1
          simpa using this
        have hval : idxOf6 (fun x => (fun i => cliq N (nb N i &&& left)) x.toNat) (ofN (els left)) = (k : Int) := by
          unfold idxOf6; rw [hfi]
        have hfind : (els left).find? (fun i => cliq N (nb N i &&& left)) = some (els left)[k] := by
          rw [← find_of_idx, hfi]; simp [hk]
        have hmem : (els left)[k] ∈ els left := List.getElem_mem hk
        obtain ⟨hi12, hibit⟩ := mem_els.1 hmem
        have hb7 := hb.grow g67
        refine ⟨_, hb7.cell, (nodes_c hl4 (hT.grow (hg.trans g67))).mono ?_⟩
        rintro e w8 ⟨u2, rfl, hu2, g8⟩
        refine ⟨u2, rfl, hu2.slI.rd hval (by simpa using hk) ?_⟩
        rw [ofN_get]
        intro w9 hw9
        have g58 : Grow w5 w8 := g67.trans g8
        have hsz := hb.lt
        refine pappI hw9 (ho.grow g58) (by have := g58.size; omega) (by simp; omega) ?_
        intro v' w10 ho' hf' m
        have g9 := alloc_grow hw9
        have hlow : ∀ k, k ≤ w2.heap.size → ¬ some k = out.ownBlock := fun k hk e => by have := ho.lt e.symm; omega
        have hb10 : Box (dr w10 m) w2.heap.size (.int .i64 (left : Int)) := (((hb.grow g58).grow g9).fr hf' (hlow _ (Nat.le_refl _))).dr m
        have hc10 : w10.cell? ⟨w.heap.size, 0, none⟩ = some v := hf'.cell (g9.cell (g58.cell hc)) (hlow w.heap.size (by omega))
        refine ⟨by omega, _, hb10.cell, ⟨_, hb10.cell⟩, hb10.free, fun w11 hw11 => ?_⟩
        have e1 : iAndNot .i64 (left : Int) (iShl .i64 1 (((els left)[k] : Nat) : Int)) = ((nSub left (2 ^ (els left)[k]) : Nat) : Int) := without hl4 hi12
        rw [e1] at hw11
        have f11 := set_fr hw11
        have g10 : Grow w (dr w10 m) := (own_grow (hg.trans g58) (ho.grow g58) (by omega) hw9 hf').dr m
        refine ⟨⟨nSub left (2 ^ (els left)[k]), done ++ [(els left)[k]], nSub_lt hl, ?_, ?_, hb10.set hw11, ?_, ?_, ?_⟩, ?_⟩
        · have := pc_sub hibit hi12
          simp; omega
        · rw [hord, hfuel]
          conv => lhs; unfold ordN
          rw [if_neg hnz, hfind]
          simp only [Option.map_map]
          have : 12 - (done ++ [(els left)[k]]).length = 11 - done.length := by rw [List.length_append, List.length_singleton]; omega
          rw [this]
          congr 1
          funext r
          simp
        · exact f11.cell hc10 fun e => absurd (show w.heap.size = w2.heap.size from e) (by omega)
        · rw [ofN_app]
          refine (Own.dr ho' m).fr f11 fun k hk e => ?_
          have := ho'.lt hk
          have : k = w2.heap.size := e
          omega
        · exact g10.fr f11 fun i hi e => absurd (show i = w2.heap.size from e) (by omega)
        · obtain ⟨a1, c1, rfl, _⟩ := ho.slC.ex
          obtain ⟨a2, c2, rfl, _⟩ := ho'.slC.ex
          simp; omega
  · have hz : left = 0 := by simpa using hz
    subst hz
    have : ordG N = some done := by
      rw [hord]
      cases 12 - done.length <;> simp [ordN]
    rw [this]
    exact ⟨out, rfl, ho.mono (by omega), hg⟩

/-! ## The exported functions -/
theorem chordal_c {w : World} {v : Value} {N : List Nat} (hs : SlI w v (ofN N)) (hN : VN N) (hT : Tab w) : Calls Tryd.prog 28 #[v] w (Ret6 w (.int .i64 (if (ordG N).isSome then 0 else 7))) := by
  refine f28_calls _ ?_
  refine (valid_c6 hs (b := true) (by simp [VG_ofN.2 hN])).mono ?_
  rintro e w1 ⟨rfl, g1⟩
  refine ⟨true, rfl, ?_⟩
  refine (order_c (hs.grow g1) hN (hT.grow g1)).mono ?_
  rintro e w2 ⟨u, rfl, _, g2⟩
  refine ⟨u, _, rfl, condP_i (fun h => ?_) (fun h => ?_)⟩
  · simp at h
    rw [h]
    exact ⟨rfl, g1.trans g2⟩
  · simp only [Bool.not_eq_false'] at h
    rw [h]
    exact ⟨rfl, g1.trans g2⟩
/-- Order of a valid graph: the greedy order, or ErrState. -/
theorem Order_c {w : World} {v : Value} {N : List Nat} (hs : SlI w v (ofN N)) (hN : VN N) (hT : Tab w) : Calls Tryd.prog 14 #[v] w fun e w' => ∃ u, e = .returned (.tuple #[u, .int .i64 (if (ordG N).isSome then 0 else 7)]) ∧ OwnI6 w' w.heap.size u (ofN ((ordG N).getD [])) ∧ Grow w w' := by
  refine f14_calls _ ?_
  refine (chordal_c hs hN hT).mono ?_
  rintro e w1 ⟨rfl, g1⟩
  refine ⟨_, rfl, ?_⟩
  cases ho : ordG N with
  | none => exact ⟨_, rfl, Own.nil _ _ _ _, g1⟩
  | some l =>
    refine (order_c (hs.grow g1) hN (hT.grow g1)).mono ?_
    rintro e w2 ⟨u, rfl, hu, g2⟩
    rw [ho] at hu
    exact ⟨u, _, rfl, u, rfl, hu.mono g1.size, g1.trans g2⟩
end Go.Proofs.YtleiddajojgmmaaDoor

/- Contracts of package chordal and of its reference, third part: CheckOrder, the reference's orders, the shared helpers of the laws. The table of bits is laid (Tab). -/
namespace Go.Proofs.YtleiddajojgmmaaDoor
open Go Go.RowKit VC
set_option linter.unusedSimpArgs false
set_option linter.unusedVariables false

/-! ## The reference -/
/-! ## The helpers of the laws -/
def N252 : List Nat := [2, 5, 2]
theorem vn252 : VN N252 := by
  refine ⟨by decide, by decide, ?_, ?_, ?_⟩
  · decide
  · decide
  · intro i j hi hj
    rw [nb_get hi, nb_get hj]
    have : ∀ i, i < 3 → ∀ j, j < 3 → (nb N252 i).testBit j = (nb N252 j).testBit i := by decide
    exact this i hi j hj
theorem ord252 : ordG N252 = some [0, 1, 2] := by decide +kernel
theorem awake_c6 {w : World} (hT : Tab w) : Calls Tryd.prog 9 #[] w (Ret6 w (.bool true)) := by
  refine f9_calls ?_
  intro w1 hw1
  have g1 := alloc_grow hw1
  have hs : SlI w1 (.slice (some ⟨w.heap.size, 0, none⟩) 3 3) (ofN N252) :=
    (Own.lit (B := w.heap.size) (n := 3) (sz := 1) hw1 (Nat.le_refl _) (by omega) (by simp)).slC
  refine (Order_c hs vn252 (hT.grow g1)).mono ?_
  rw [ord252]
  rintro e w2 ⟨u, rfl, hu, g2⟩
  refine ⟨u, _, rfl, condD (fun _ => ?_) fun h => absurd rfl h⟩
  intro w3 hw3
  have g3 := alloc_grow hw3
  have hy : SlI w3 (.slice (some ⟨w2.heap.size, 0, none⟩) 3 3) (ofN [0, 1, 2]) :=
    (Own.lit (B := w2.heap.size) (n := 3) (sz := 1) hw3 (Nat.le_refl _) (by omega) (by simp)).slC
  refine (equal_c6 (hu.slI.grow g3) hy).mono ?_
  rintro e w4 ⟨rfl, g4⟩
  exact ⟨_, rfl, by simp, ((g1.trans g2).trans g3).trans g4⟩
end Go.Proofs.YtleiddajojgmmaaDoor

/- Holes: what a list must be to be one, the search in depth, that it finds one if there is one. No program, no condition. -/
namespace Go.Proofs.YtleiddajojgmmaaDoor
open Go Go.RowKit VC
set_option linter.unusedSimpArgs false
set_option linter.unusedVariables false

def gi (l : List Int) (i : Nat) : Int := l.getD i 0
theorem gi_get {l : List Int} {i : Nat} (h : i < l.length) : l[i] = gi l i := by simp [gi, h]
def gn (l : List Nat) (i : Nat) : Nat := l.getD i 0
theorem gn_get {l : List Nat} {i : Nat} (h : i < l.length) : l[i] = gn l i := by simp [gn, h]
theorem gi_ofN (l : List Nat) (i : Nat) : gi (ofN l) i = ((gn l i : Nat) : Int) := by
  by_cases h : i < l.length
  · rw [← gi_get (by simpa using h), ofN_get, gn_get h]
  · simp [gi, gn, ofN, h]
def ed (N : List Nat) (x y : Int) : Bool := (nb N x.toNat).testBit y.toNat
structure HoleP (N : List Nat) (l : List Int) : Prop where
  four : 4 ≤ l.length
  rng : ∀ i, i < l.length → 0 ≤ gi l i ∧ gi l i < N.length
  least : ∀ i, i < l.length → gi l 0 ≤ gi l i
  ne : ∀ i j, i < l.length → j < i → gi l i ≠ gi l j
  adj : ∀ i j, i < l.length → j < i → (ed N (gi l i) (gi l j) = true ↔ i - j = 1 ∨ i - j = l.length - 1)
  turn : gi l 1 < gi l (l.length - 1)
theorem HoleP.le {N : List Nat} {l : List Int} (h : HoleP N l) : l.length ≤ N.length := by
  have hnd : l.Nodup := by
    rw [List.nodup_iff_pairwise_ne, List.pairwise_iff_getElem]
    intro i j hi hj hij
    rw [gi_get hi, gi_get hj]
    exact fun e => h.ne j i hj hij e.symm
  have : l.length ≤ ((List.range N.length).map fun n : Nat => (n : Int)).length := by
    refine hnd.length_le_of_subset fun x hx => ?_
    obtain ⟨i, hi, rfl⟩ := List.mem_iff_getElem.1 hx
    have := h.rng i hi
    rw [gi_get hi]
    exact List.mem_map.2 ⟨(gi l i).toNat, List.mem_range.2 (by omega), by omega⟩
  simpa using this
theorem HoleP.take {N : List Nat} (hN : VN N) {l : List Int} : HoleP N (l.take 14) ↔ HoleP N l := by
  have h12 := hN.le
  by_cases hl : l.length ≤ 14
  · rw [List.take_of_length_le hl]
  · constructor
    · intro h
      have := h.le
      simp at this; omega
    · intro h
      have := h.le; omega
open Classical in
/-! ## The search -/
end Go.Proofs.YtleiddajojgmmaaDoor

/- Independent sets, the greatest of a kind, the graph with all other edges: the plain laws. No program, no condition. -/
namespace Go.Proofs.YtleiddajojgmmaaDoor
open Go Go.RowKit VC
set_option linter.unusedSimpArgs false
set_option linter.unusedVariables false

/-- No two nodes are neighbours. -/
def free (N : List Nat) (s : Nat) : Bool := (List.range 12).all fun i => !s.testBit i || s &&& nb N i == 0
end Go.Proofs.YtleiddajojgmmaaDoor

/- Contracts of package chordal and of its reference: what is a hole. The table of bits is laid (Tab). -/
namespace Go.Proofs.YtleiddajojgmmaaDoor
open Go Go.RowKit VC
set_option linter.unusedSimpArgs false
set_option linter.unusedVariables false

/-- What the code asks of two places of a list. -/
def pairP (N : List Nat) (l : List Int) (i j : Nat) : Prop := gi l i ≠ gi l j ∧ (ed N (gi l i) (gi l j) = true ↔ i - j = 1 ∨ i - j = l.length - 1)
theorem HoleP.pair {N : List Nat} {l : List Int} (h : HoleP N l) {i j : Nat} (hi : i < l.length) (hj : j < i) : pairP N l i j := ⟨h.ne i j hi hj, h.adj i j hi hj⟩
end Go.Proofs.YtleiddajojgmmaaDoor

/- A graph without holes has an elimination order, and one with a hole has none (Dirac; Fulkerson and Gross). No program, no condition. -/
namespace Go.Proofs.YtleiddajojgmmaaDoor
open Go Go.RowKit VC
set_option linter.unusedSimpArgs false
set_option linter.unusedVariables false

/-- Two nodes are neighbours. -/
def E (N : List Nat) (i j : Nat) : Prop := (nb N i).testBit j = true
theorem E.symm {N : List Nat} (hN : VN N) {i j : Nat} (h : E N i j) : E N j i := by unfold E at *; rw [hN.sym']; exact h
theorem E.ne {N : List Nat} (hN : VN N) {i j : Nat} (h : E N i j) : i ≠ j := fun e => by subst e; unfold E at h; rw [hN.irr'] at h; cases h
theorem E.lt {N : List Nat} (hN : VN N) {i j : Nat} (h : E N i j) : j < N.length := bit_lt (hN.nb_lt i) h
/-! ## Sets out of predicates -/
open Classical in
noncomputable def mkS (p : Nat → Prop) : Nat := ((List.range 12).filter fun i => decide (p i)).foldr (fun i s => 2 ^ i ||| s) 0
theorem fold_bit : ∀ (l : List Nat) (i : Nat), (l.foldr (fun i s => 2 ^ i ||| s) 0).testBit i = true ↔ i ∈ l
  | [], i => by simp
  | a :: l, i => by
    simp only [List.foldr_cons, Nat.testBit_or, Bool.or_eq_true, two_bit, decide_eq_true_eq, List.mem_cons, fold_bit l i]
    constructor
    · rintro (h | h)
      · exact .inl h.symm
      · exact .inr h
    · rintro (h | h)
      · exact .inl h.symm
      · exact .inr h
theorem mkS_bit {p : Nat → Prop} {i : Nat} : (mkS p).testBit i = true ↔ i < 12 ∧ p i := by
  unfold mkS; rw [fold_bit]; simp
/-! ## Rings -/
/-- n nodes in a ring, with no other edges among them. -/
structure Ring (N : List Nat) (n : Nat) (f : Nat → Nat) : Prop where
  four : 4 ≤ n
  lt : ∀ i, i < n → f i < N.length
  inj : ∀ i j, i < n → j < n → f i = f j → i = j
  adj : ∀ i j, i < n → j < i → (E N (f i) (f j) ↔ i - j = 1 ∨ i - j = n - 1)
theorem Ring.adj' {N : List Nat} (hN : VN N) {n : Nat} {f : Nat → Nat} (h : Ring N n f) {i j : Nat} (hi : i < n) (hj : j < n) : E N (f i) (f j) ↔ i = j + 1 ∨ j = i + 1 ∨ (i = 0 ∧ j = n - 1) ∨ (j = 0 ∧ i = n - 1) := by
  have h4 := h.four
  rcases Nat.lt_trichotomy i j with hlt | rfl | hgt
  · have := h.adj j i hj hlt
    constructor
    · intro he
      have := this.1 (he.symm hN)
      omega
    · intro h1
      exact (this.2 (by omega)).symm hN
  · constructor
    · intro he; exact absurd rfl (he.ne hN)
    · intro h1; omega
  · have := h.adj i j hi hgt
    rw [this]; omega
theorem Ring.map {N : List Nat} (hN : VN N) {n : Nat} {f : Nat → Nat} (h : Ring N n f) (g : Nat → Nat) (hlt : ∀ i, i < n → g i < n) (hinj : ∀ i j, i < n → j < n → g i = g j → i = j)
    (hadj : ∀ i j, i < n → j < i → ((g i = g j + 1 ∨ g j = g i + 1 ∨ (g i = 0 ∧ g j = n - 1) ∨ (g j = 0 ∧ g i = n - 1)) ↔ i - j = 1 ∨ i - j = n - 1)) : Ring N n fun i => f (g i) :=
  ⟨h.four, fun i hi => h.lt _ (hlt i hi), fun i j hi hj e => hinj i j hi hj (h.inj _ _ (hlt i hi) (hlt j hj) e), fun i j hi hji => by
    rw [h.adj' hN (hlt i hi) (hlt j (by omega))]
    exact hadj i j hi hji⟩
def rot (n k i : Nat) : Nat := if k + i < n then k + i else k + i - n
def ref (n k i : Nat) : Nat := if i ≤ k then k - i else k + n - i
theorem Ring.rot {N : List Nat} (hN : VN N) {n : Nat} {f : Nat → Nat} (h : Ring N n f) {k : Nat} (hk : k < n) : Ring N n fun i => f (rot n k i) := by
  have h4 := h.four
  refine h.map hN _ (fun i hi => by unfold Proofs.YtleiddajojgmmaaDoor.rot; split <;> omega) (fun i j hi hj e => ?_) fun i j hi hji => ?_
  · unfold Proofs.YtleiddajojgmmaaDoor.rot at e; split at e <;> split at e <;> omega
  · unfold Proofs.YtleiddajojgmmaaDoor.rot; split <;> split <;> omega
theorem Ring.ref {N : List Nat} (hN : VN N) {n : Nat} {f : Nat → Nat} (h : Ring N n f) {k : Nat} (hk : k < n) : Ring N n fun i => f (ref n k i) := by
  have h4 := h.four
  refine h.map hN _ (fun i hi => by unfold Proofs.YtleiddajojgmmaaDoor.ref; split <;> omega) (fun i j hi hj e => ?_) fun i j hi hji => ?_
  · unfold Proofs.YtleiddajojgmmaaDoor.ref at e; split at e <;> split at e <;> omega
  · unfold Proofs.YtleiddajojgmmaaDoor.ref; split <;> split <;> omega
theorem exists_min (f : Nat → Nat) : ∀ n, 0 < n → ∃ k, k < n ∧ ∀ i, i < n → f k ≤ f i
  | 1, _ => ⟨0, by omega, fun i hi => by have : i = 0 := by omega
                                         subst this; omega⟩
  | n + 2, _ => by
    obtain ⟨k, hk, h⟩ := exists_min f (n + 1) (by omega)
    by_cases hc : f k ≤ f (n + 1)
    · exact ⟨k, by omega, fun i hi => by
        by_cases e : i = n + 1
        · subst e; exact hc
        · exact h i (by omega)⟩
    · exact ⟨n + 1, by omega, fun i hi => by
        by_cases e : i = n + 1
        · subst e; omega
        · have := h i (by omega); omega⟩
theorem hole_of_ring0 {N : List Nat} {n : Nat} {f : Nat → Nat} (h : Ring N n f) (hmin : ∀ i, i < n → f 0 ≤ f i) (ht : f 1 < f (n - 1)) : HoleP N (ofN ((List.range n).map f)) := by
  have h4 := h.four
  have hlen : (ofN ((List.range n).map f)).length = n := by simp
  have hg : ∀ i, i < n → gi (ofN ((List.range n).map f)) i = ((f i : Nat) : Int) := fun i hi => by
    rw [gi_ofN]; simp [gn, hi]
  refine ⟨by rw [hlen]; exact h4, fun i hi => ?_, fun i hi => ?_, fun i j hi hj => ?_, fun i j hi hj => ?_, ?_⟩
  · rw [hlen] at hi
    rw [hg i hi]
    have := h.lt i hi; omega
  · rw [hlen] at hi
    rw [hg i hi, hg 0 (by omega)]
    have := hmin i hi; omega
  · rw [hlen] at hi
    rw [hg i hi, hg j (by omega)]
    intro e
    have := h.inj i j hi (by omega) (by omega)
    omega
  · rw [hlen] at hi ⊢
    rw [hg i hi, hg j (by omega), ← h.adj i j hi hj]
    simp [ed, E]
  · rw [hlen, hg 1 (by omega), hg (n - 1) (by omega)]
    omega
theorem hole_of_ring {N : List Nat} (hN : VN N) {n : Nat} {f : Nat → Nat} (h : Ring N n f) : ∃ l, HoleP N l := by
  have h4 := h.four
  obtain ⟨k, hk, hmin⟩ := exists_min f n (by omega)
  have r1 := h.rot hN hk
  have m1 : ∀ i, i < n → f (rot n k 0) ≤ f (rot n k i) := fun i hi => by
    have e : rot n k 0 = k := by unfold rot; rw [if_pos (by omega)]; omega
    rw [e]
    exact hmin _ (by unfold rot; split <;> omega)
  by_cases hc : f (rot n k 1) < f (rot n k (n - 1))
  · exact ⟨_, hole_of_ring0 r1 m1 hc⟩
  · have r2 := h.ref hN hk
    refine ⟨_, hole_of_ring0 r2 (fun i hi => ?_) ?_⟩
    · have e : ref n k 0 = k := by unfold ref; rw [if_pos (by omega)]; omega
      rw [e]
      exact hmin _ (by unfold ref; split <;> omega)
    · have e1 : ref n k 1 = rot n k (n - 1) := by unfold ref rot; split <;> split <;> omega
      have e2 : ref n k (n - 1) = rot n k 1 := by unfold ref rot; split <;> split <;> omega
      rw [e1, e2]
      have := r1.inj 1 (n - 1) (by omega) (by omega)
      have hne : f (rot n k 1) ≠ f (rot n k (n - 1)) := fun e => by have := this e; omega
      omega

/-! ## Shortest ways -/
/-- A way of m steps from x to y with what lies between in C. -/
structure Way (N : List Nat) (C : Nat → Prop) (x y m : Nat) (p : Nat → Nat) : Prop where
  h0 : p 0 = x
  hm : p m = y
  inn : ∀ i, 0 < i → i < m → C (p i)
  adj : ∀ i, i < m → E N (p i) (p (i + 1))
theorem Way.cut {N : List Nat} {C : Nat → Prop} {x y m : Nat} {p : Nat → Nat} (h : Way N C x y m p) {i j : Nat} (hij : i + 1 < j) (hj : j ≤ m) (he : E N (p i) (p j)) : Way N C x y (m - (j - i - 1)) fun t => if t ≤ i then p t else p (t + (j - i - 1)) := by
  refine ⟨by simpa using h.h0, ?_, fun t h1 h2 => ?_, fun t ht => ?_⟩
  · have : ¬ m - (j - i - 1) ≤ i := by omega
    have e : m - (j - i - 1) + (j - i - 1) = m := by omega
    simp only [this, if_false, e]
    exact h.hm
  · skip
    split
    · exact h.inn t h1 (by omega)
    · exact h.inn _ (by omega) (by omega)
  · skip
    by_cases h1 : t + 1 ≤ i
    · rw [if_pos (by omega), if_pos h1]
      exact h.adj t (by omega)
    · by_cases h2 : t ≤ i
      · have e : t = i := by omega
        subst e
        have e2 : t + 1 + (j - t - 1) = j := by omega
        rw [if_pos (by omega), if_neg h1, e2]
        exact he
      · rw [if_neg h2, if_neg h1]
        have := h.adj (t + (j - i - 1)) (by omega)
        have e2 : t + 1 + (j - i - 1) = t + (j - i - 1) + 1 := by omega
        rw [e2]; exact this
theorem exists_least {P : Nat → Prop} : ∀ n, P n → ∃ m, P m ∧ ∀ k, k < m → ¬ P k := by
  intro n
  induction n using Nat.strongRecOn with
  | ind n ih =>
    intro hn
    by_cases h : ∃ k, k < n ∧ P k
    · obtain ⟨k, hk, hp⟩ := h
      exact ih k hk hp
    · exact ⟨n, hn, fun k hk hp => h ⟨k, hk, hp⟩⟩
/-- Reached from w within t. -/
inductive Rch (N : List Nat) (t : Nat → Prop) (w : Nat) : Nat → Prop
  | base : t w → Rch N t w w
  | step {a b : Nat} : Rch N t w a → E N a b → t b → Rch N t w b
theorem Rch.mem {N : List Nat} {t : Nat → Prop} {w a : Nat} (h : Rch N t w a) : t a := by
  cases h with
  | base h => exact h
  | step _ _ h => exact h
/-- A way within t from w. -/
theorem Rch.way {N : List Nat} {t : Nat → Prop} {w a : Nat} (h : Rch N t w a) : ∃ (m : Nat) (p : Nat → Nat), p 0 = w ∧ p m = a ∧ (∀ i, i ≤ m → Rch N t w (p i)) ∧ ∀ i, i < m → E N (p i) (p (i + 1)) := by
  induction h with
  | base h => exact ⟨0, fun _ => w, rfl, rfl, fun _ _ => .base h, fun i hi => by omega⟩
  | @step a b h1 h2 h3 ih =>
    obtain ⟨m, p, e1, e2, e3, e4⟩ := ih
    refine ⟨m + 1, fun i => if i ≤ m then p i else b, by simpa using e1, if_neg (by omega), fun i hi => ?_, fun i hi => ?_⟩
    · simp only
      split
      · exact e3 i (by omega)
      · exact .step h1 h2 h3
    · simp only
      by_cases hc : i + 1 ≤ m
      · rw [if_pos (by omega), if_pos hc]; exact e4 i (by omega)
      · have e : i = m := by omega
        subst e
        rw [if_pos (by omega), if_neg hc, e2]; exact h2
/-- From a neighbour of what is reached to another one, through what is reached. -/
theorem way_between {N : List Nat} (hN : VN N) {t : Nat → Prop} {w x y c d : Nat} (hc : Rch N t w c) (hd : Rch N t w d) (hx : E N x c) (hy : E N d y) : ∃ m p, Way N (Rch N t w) x y m p := by
  obtain ⟨m1, p1, a1, a2, a3, a4⟩ := hc.way
  obtain ⟨m2, p2, b1, b2, b3, b4⟩ := hd.way
  obtain ⟨P, P0, P1, P2, P3⟩ : ∃ P : Nat → Nat, P 0 = x ∧ (∀ i, 1 ≤ i → i ≤ m1 + 1 → P i = p1 (m1 + 1 - i)) ∧ (∀ i, m1 + 1 < i → i ≤ m1 + m2 + 1 → P i = p2 (i - (m1 + 1))) ∧ P (m1 + m2 + 2) = y := by
    refine ⟨fun i => if i = 0 then x else if i ≤ m1 + 1 then p1 (m1 + 1 - i) else if i ≤ m1 + m2 + 1 then p2 (i - (m1 + 1)) else y, rfl, fun i h1 h2 => ?_, fun i h1 h2 => ?_, ?_⟩
    · exact (if_neg (by omega)).trans (if_pos h2)
    · exact (if_neg (by omega)).trans ((if_neg (by omega)).trans (if_pos h2))
    · exact (if_neg (by omega)).trans ((if_neg (by omega)).trans (if_neg (by omega)))
  refine ⟨m1 + m2 + 2, P, ⟨P0, P3, fun i h1 h2 => ?_, fun i hi => ?_⟩⟩
  · by_cases h : i ≤ m1 + 1
    · rw [P1 i h1 h]; exact a3 _ (by omega)
    · rw [P2 i (by omega) (by omega)]; exact b3 _ (by omega)
  · by_cases h0 : i = 0
    · subst h0
      rw [P0, P1 (0 + 1) (by omega) (by omega), show m1 + 1 - (0 + 1) = m1 by omega, a2]
      exact hx
    · by_cases h1 : i + 1 ≤ m1 + 1
      · rw [P1 i (by omega) (by omega), P1 (i + 1) (by omega) h1]
        have := a4 (m1 + 1 - (i + 1)) (by omega)
        have e : m1 + 1 - (i + 1) + 1 = m1 + 1 - i := by omega
        rw [e] at this
        exact this.symm hN
      · by_cases h2 : i ≤ m1 + 1
        · have e : i = m1 + 1 := by omega
          subst e
          rw [P1 _ (by omega) (Nat.le_refl _), show m1 + 1 - (m1 + 1) = 0 by omega, a1]
          by_cases h3 : m2 = 0
          · subst h3
            rw [show m1 + 1 + 1 = m1 + 0 + 2 by omega, P3]
            rw [b1] at b2
            rw [b2]; exact hy
          · rw [P2 _ (by omega) (by omega), show m1 + 1 + 1 - (m1 + 1) = 1 by omega, ← b1]
            exact b4 0 (by omega)
        · rw [P2 i (by omega) (by omega)]
          by_cases h3 : i + 1 ≤ m1 + m2 + 1
          · rw [P2 (i + 1) (by omega) h3]
            have := b4 (i - (m1 + 1)) (by omega)
            have e : i - (m1 + 1) + 1 = i + 1 - (m1 + 1) := by omega
            rw [e] at this; exact this
          · have e : i = m1 + m2 + 1 := by omega
            subst e
            rw [show m1 + m2 + 1 + 1 = m1 + m2 + 2 by omega, P3, show m1 + m2 + 1 - (m1 + 1) = m2 by omega, b2]
            exact hy
/-- Two neighbours of v that are no neighbours, with a way between them that avoids v's neighbours: a hole. -/
theorem hole_of_way {N : List Nat} (hN : VN N) {C : Nat → Prop} {v x y : Nat} (hCv : ∀ c, C c → ¬ E N v c ∧ c ≠ v) (hx : E N v x) (hy : E N v y) (hne : x ≠ y) (hxy : ¬ E N x y) (hw : ∃ m p, Way N C x y m p) : ∃ l, HoleP N l := by
  obtain ⟨m0, hm0⟩ := hw
  obtain ⟨m, ⟨p, hp⟩, hmin⟩ := exists_least (P := fun m => ∃ p, Way N C x y m p) m0 hm0
  have hm2 : 2 ≤ m := by
    rcases m with _ | _ | m
    · exact absurd (hp.h0.symm.trans hp.hm) hne
    · have := hp.adj 0 (by omega)
      rw [hp.h0] at this
      have e : p (0 + 1) = y := hp.hm
      rw [e] at this; exact absurd this hxy
    · omega
  have hchord : ∀ i j, i < j → j ≤ m → E N (p i) (p j) → j = i + 1 := fun i j hij hj he => by
    rcases Nat.lt_or_ge (i + 1) j with h | h
    · exact absurd ⟨_, hp.cut h hj he⟩ (hmin _ (by omega))
    · omega
  have hvp : ∀ i, i ≤ m → (E N v (p i) ↔ i = 0 ∨ i = m) ∧ p i ≠ v := fun i hi => by
    by_cases h0 : i = 0
    · subst h0; rw [hp.h0]; exact ⟨⟨fun _ => .inl rfl, fun _ => hx⟩, (hx.ne hN).symm⟩
    · by_cases hm : i = m
      · subst hm; rw [hp.hm]; exact ⟨⟨fun _ => .inr rfl, fun _ => hy⟩, (hy.ne hN).symm⟩
      · have := hCv _ (hp.inn i (by omega) (by omega))
        exact ⟨⟨fun h => absurd h this.1, fun h => by omega⟩, this.2⟩
  have hinj : ∀ i j, i < j → j ≤ m → p i ≠ p j := fun i j hij hj e => by
    by_cases hjm : j = m
    · subst hjm
      by_cases h0 : i = 0
      · subst h0; rw [hp.h0, hp.hm] at e; exact hne e
      · have h1 := (hvp i (by omega)).1
        have h2 := (hvp j (by omega)).1
        rw [← e] at h2
        have := h1.1 (h2.2 (.inr rfl))
        omega
    · -- then p i is a neighbour of p (j+1)
      have := hp.adj j (by omega)
      rw [← e] at this
      have := hchord i (j + 1) (by omega) (by omega) this
      omega
  refine hole_of_ring hN (n := m + 2) (f := fun i => if i = 0 then v else p (i - 1)) ⟨by omega, fun i hi => ?_, fun i j hi hj e => ?_, fun i j hi hj => ?_⟩
  · skip
    split
    · exact (hx.symm hN).lt hN
    · by_cases h : i - 1 = 0
      · rw [h, hp.h0]; exact hx.lt hN
      · have := hp.adj (i - 1 - 1) (by omega)
        have e : i - 1 - 1 + 1 = i - 1 := by omega
        rw [e] at this
        exact this.lt hN
  · by_cases h1 : i = 0
    · by_cases h2 : j = 0
      · omega
      · rw [if_pos h1, if_neg h2] at e
        exact absurd e.symm (hvp (j - 1) (by omega)).2
    · by_cases h2 : j = 0
      · rw [if_neg h1, if_pos h2] at e
        exact absurd e (hvp (i - 1) (by omega)).2
      · rw [if_neg h1, if_neg h2] at e
        rcases Nat.lt_trichotomy i j with h | h | h
        · exact absurd e (hinj (i - 1) (j - 1) (by omega) (by omega))
        · exact h
        · exact absurd e.symm (hinj (j - 1) (i - 1) (by omega) (by omega))
  · skip
    rw [if_neg (by omega)]
    by_cases h2 : j = 0
    · rw [if_pos h2]
      have := (hvp (i - 1) (by omega)).1
      constructor
      · intro h
        have := this.1 (h.symm hN)
        omega
      · intro h
        exact (this.2 (by omega)).symm hN
    · rw [if_neg h2]
      constructor
      · intro h
        have := hchord (j - 1) (i - 1) (by omega) (by omega) (h.symm hN)
        omega
      · intro h
        have e : i - 1 = j - 1 + 1 := by omega
        have := hp.adj (j - 1) (by omega)
        rw [e]; exact this.symm hN

/-! ## Dirac's lemma -/
theorem Clq_sub {N : List Nat} {s t : Nat} (h : Clq N t) (hs : ∀ i, s.testBit i = true → t.testBit i = true) : Clq N s := fun i hi j hj hne => h i (hs i hi) j (hs j hj) hne
theorem dirac {N : List Nat} (hN : VN N) (hno : ∀ l, ¬ HoleP N l) : ∀ (k s : Nat), s < 2 ^ N.length → pc s ≤ k → ∀ v w, s.testBit v = true → s.testBit w = true → w ≠ v → ¬ E N v w →
    ∃ z, s.testBit z = true ∧ z ≠ v ∧ ¬ E N v z ∧ Clq N (nb N z &&& s)
  | 0, s, hs, hk, v, w, hv, _, _, _ => by
    have : 0 < pc s := by
      have h4 : s < 4096 := Nat.lt_of_lt_of_le hs hN.pow
      rcases Nat.eq_zero_or_pos (pc s) with h | h
      · rw [(pc_zero h4).1 h] at hv; simp at hv
      · exact h
    omega
  | k + 1, s, hs, hk, v, w, hv, hw, hwv, hE => by
    have h12 := hN.le
    have hlt12 : ∀ i, s.testBit i = true → i < 12 := fun i hi => by have := bit_lt hs hi; omega
    let t := fun x => s.testBit x = true ∧ x ≠ v ∧ ¬ E N v x
    let C := Rch N t w
    let B := fun x => s.testBit x = true ∧ E N v x ∧ ∃ c, C c ∧ E N x c
    have hCt : ∀ c, C c → t c := fun c hc => hc.mem
    have hCw : C w := .base ⟨hw, hwv, hE⟩
    have hout : ∀ x c, s.testBit x = true → C c → E N c x → C x ∨ B x := fun x c hx hc he => by
      by_cases hvx : E N v x
      · exact .inr ⟨hx, hvx, c, hc, he.symm hN⟩
      · refine .inl (.step hc he ⟨hx, fun e => ?_, hvx⟩)
        subst e
        exact (hCt c hc).2.2 (he.symm hN)
    have hB : ∀ x y, B x → B y → x ≠ y → E N x y := fun x y hx hy hne => by
      obtain ⟨_, hx2, c, hc, hxc⟩ := hx
      obtain ⟨_, hy2, d, hd, hyd⟩ := hy
      refine Classical.byContradiction fun hxy => ?_
      obtain ⟨l, hl⟩ := hole_of_way hN (C := C) (fun c hc => ⟨(hCt c hc).2.2, (hCt c hc).2.1⟩) hx2 hy2 hne hxy (way_between hN hc hd hxc (hyd.symm hN))
      exact hno l hl
    let H := mkS fun x => C x ∨ B x
    have hH : ∀ i, H.testBit i = true ↔ C i ∨ B i := fun i => by
      rw [mkS_bit]
      refine ⟨fun h => h.2, fun h => ⟨?_, h⟩⟩
      rcases h with h | h
      · exact hlt12 i (hCt i h).1
      · exact hlt12 i h.1
    have hHs : ∀ i, H.testBit i = true → s.testBit i = true := fun i hi => by
      rcases (hH i).1 hi with h | h
      · exact (hCt i h).1
      · exact h.1
    have hvH : H.testBit v = false := by
      cases h : H.testBit v with
      | false => rfl
      | true =>
        rcases (hH v).1 h with h | h
        · exact absurd rfl (hCt v h).2.1
        · exact absurd rfl (h.2.1.ne hN)
    have hlt : pc H < pc s := pc_lt (fun i _ hi => hHs i hi) (hlt12 v hv) hvH hv
    have hHlt : H < 2 ^ N.length := sub_al.2 fun i hi => bit_lt hs (hHs i hi)
    -- what is simplicial in H and lies in C is simplicial in s
    have up : ∀ z, C z → Clq N (nb N z &&& H) → ∃ z, s.testBit z = true ∧ z ≠ v ∧ ¬ E N v z ∧ Clq N (nb N z &&& s) := fun z hz hq => by
      refine ⟨z, (hCt z hz).1, (hCt z hz).2.1, (hCt z hz).2.2, Clq_sub hq fun i hi => ?_⟩
      rw [Nat.testBit_and, Bool.and_eq_true] at hi ⊢
      exact ⟨hi.1, (hH i).2 (hout i z hi.2 hz hi.1)⟩
    by_cases h1 : ∃ u u', B u ∧ H.testBit u' = true ∧ u' ≠ u ∧ ¬ E N u u'
    · obtain ⟨u, u', hu, hu', hne, he⟩ := h1
      obtain ⟨z, hz, hzu, hze, hq⟩ := dirac hN hno k H hHlt (by omega) u u' ((hH u).2 (.inr hu)) hu' hne he
      rcases (hH z).1 hz with h | h
      · exact up z h hq
      · exact absurd (hB u z hu h hzu.symm) hze
    · by_cases h2 : ∃ c c', C c ∧ C c' ∧ c' ≠ c ∧ ¬ E N c c'
      · obtain ⟨c, c', hc, hc', hne, he⟩ := h2
        obtain ⟨z, hz, hzu, hze, hq⟩ := dirac hN hno k H hHlt (by omega) c c' ((hH c).2 (.inl hc)) ((hH c').2 (.inl hc')) hne he
        rcases (hH z).1 hz with h | h
        · exact up z h hq
        · refine absurd ⟨z, c, h, (hH c).2 (.inl hc), fun e => hzu e.symm, fun e => hze (e.symm hN)⟩ h1
      · refine up w hCw fun i hi j hj hne => ?_
        rw [Nat.testBit_and, Bool.and_eq_true] at hi hj
        refine Classical.byContradiction fun hij => ?_
        rcases (hH i).1 hi.2 with h | h
        · rcases (hH j).1 hj.2 with h' | h'
          · exact h2 ⟨i, j, h, h', hne, hij⟩
          · exact h1 ⟨j, i, h', hi.2, hne.symm, fun e => hij (E.symm hN e)⟩
        · exact h1 ⟨i, j, h, hj.2, hne, hij⟩
theorem simplicial {N : List Nat} (hN : VN N) (hno : ∀ l, ¬ HoleP N l) {s : Nat} (hs : s < 2 ^ N.length) (h0 : s ≠ 0) : ∃ z, s.testBit z = true ∧ Clq N (nb N z &&& s) := by
  by_cases h : ∃ v w, s.testBit v = true ∧ s.testBit w = true ∧ w ≠ v ∧ ¬ E N v w
  · obtain ⟨v, w, hv, hw, hne, he⟩ := h
    obtain ⟨z, hz, _, _, hq⟩ := dirac hN hno (pc s) s hs (Nat.le_refl _) v w hv hw hne he
    exact ⟨z, hz, hq⟩
  · have : ∃ z, s.testBit z = true := Classical.byContradiction fun hn => h0 (set_zero.2 fun i => by
      cases hb : s.testBit i with
      | false => rfl
      | true => exact absurd ⟨i, hb⟩ hn)
    obtain ⟨z, hz⟩ := this
    refine ⟨z, hz, fun i hi j hj hne => ?_⟩
    rw [Nat.testBit_and, Bool.and_eq_true] at hi hj
    exact Classical.byContradiction fun hij => h ⟨i, j, hi.2, hj.2, hne, hij⟩
end Go.Proofs.YtleiddajojgmmaaDoor

/- Three nodes that are apart. No program, no condition. -/
namespace Go.Proofs.YtleiddajojgmmaaDoor
open Go Go.RowKit VC
set_option linter.unusedSimpArgs false
set_option linter.unusedVariables false

/-- Not a node, nor a neighbour of it. -/
def away (N : List Nat) (z : Nat) : Nat := nSub (nSub (al N) (nb N z)) (2 ^ z)
theorem away_bit {N : List Nat} {z j : Nat} : (away N z).testBit j = true ↔ j < N.length ∧ ¬ E N z j ∧ j ≠ z := by
  unfold away E
  rw [nSub_bit, nSub_bit, al_bit, two_bit]
  cases h : (nb N z).testBit j <;> simp
  intro _
  constructor
  · intro h e; exact h e.symm
  · intro h e; exact h e.symm
/-- A way from x to y that avoids z and its neighbours. -/
def Link (N : List Nat) (z x y : Nat) : Prop := Rch N (fun j => (away N z).testBit j = true) x y
/-- Three nodes are apart. -/
structure AT (N : List Nat) (a b c : Nat) : Prop where
  ab : a ≠ b
  ac : a ≠ c
  bc : b ≠ c
  nab : ¬ E N a b
  nac : ¬ E N a c
  nbc : ¬ E N b c
  la : Link N a b c
  lb : Link N b a c
  lc : Link N c a b
theorem Rch.symm {N : List Nat} (hN : VN N) {t : Nat → Prop} {x y : Nat} (h : Rch N t x y) : Rch N t y x := by
  have key : ∀ {a}, Rch N t x a → ∀ {b}, Rch N t a b → Rch N t x b := fun h1 => by
    intro b h2
    induction h2 with
    | base _ => exact h1
    | step _ he ht ih => exact .step ih he ht
  have pre : ∀ {a b c}, t a → E N a b → Rch N t b c → Rch N t a c := fun ha he h => by
    induction h with
    | base hb => exact .step (.base ha) he hb
    | step _ he' ht ih => exact .step ih he' ht
  induction h with
  | base hx => exact .base hx
  | step h1 he ht ih => exact pre ht (he.symm hN) ih
theorem Rch.start {N : List Nat} {t : Nat → Prop} {x y : Nat} (h : Rch N t x y) : t x := by
  induction h with
  | base h => exact h
  | step _ _ _ ih => exact ih
open Classical in
theorem AT.lt {N : List Nat} {a b c : Nat} (h : AT N a b c) : a < N.length ∧ b < N.length ∧ c < N.length :=
  ⟨(away_bit.1 h.lc.start).1, (away_bit.1 h.la.start).1, (away_bit.1 h.la.mem).1⟩
end Go.Proofs.YtleiddajojgmmaaDoor
