/- Elimination orders, the plain laws: what is left shrinks; checking a permutation and checking as one goes agree. No program, no condition. -/
import Derived.Test.YtleiddajojgmmaaDoorCb
namespace Go.Proofs.YtleiddajojgmmaaDoor
open Go Go.RowKit VC
set_option linter.unusedSimpArgs false
set_option linter.unusedVariables false

theorem pc_le (s : Nat) : pc s ≤ 12 := by unfold pc els; exact Nat.le_trans (List.length_filter_le _ _) (by simp)
theorem nodup_els (s : Nat) : (els s).Nodup := List.Pairwise.filter _ List.nodup_range
theorem els_sub {s i : Nat} (h : s.testBit i = true) (hi : i < 12) : (els s).length = (els (nSub s (2 ^ i))).length + 1 := by
  have hp : (els s).Perm (i :: els (nSub s (2 ^ i))) := by
    refine (List.perm_ext_iff_of_nodup (nodup_els s) ?_).2 fun j => ?_
    · refine List.nodup_cons.2 ⟨fun hm => ?_, nodup_els _⟩
      have := (mem_els.1 hm).2
      rw [nSub_bit, two_bit] at this
      simp at this
    · rw [List.mem_cons, mem_els, mem_els, nSub_bit, two_bit]
      by_cases e : j = i
      · subst e; simp [h, hi]
      · have : ¬ i = j := fun x => e x.symm
        simp [e, this]
  rw [hp.length_eq]; rfl
theorem pc_sub {s i : Nat} (h : s.testBit i = true) (hi : i < 12) : pc s = pc (nSub s (2 ^ i)) + 1 := els_sub h hi
theorem pc_zero {s : Nat} (h : s < 4096) : pc s = 0 ↔ s = 0 := by
  constructor
  · intro hp
    have : els s = [] := List.length_eq_zero_iff.1 hp
    apply set_zero.2
    intro i
    cases hb : s.testBit i with
    | false => rfl
    | true =>
      have : i ∈ els s := mem_els.2 ⟨bit_lt (n := 12) h hb, hb⟩
      simp_all
  · rintro rfl; rfl
theorem pc_mono {s t : Nat} (h : ∀ i, i < 12 → s.testBit i = true → t.testBit i = true) : pc s ≤ pc t := by
  unfold pc
  refine (nodup_els s).length_le_of_subset fun i hi => ?_
  obtain ⟨h1, h2⟩ := mem_els.1 hi
  exact mem_els.2 ⟨h1, h i h1 h2⟩
theorem pc_lt {s t : Nat} (h : ∀ i, i < 12 → s.testBit i = true → t.testBit i = true) {k : Nat} (hk : k < 12) (hs : s.testBit k = false) (ht : t.testBit k = true) : pc s < pc t := by
  have h1 := pc_sub ht hk
  have h2 : pc s ≤ pc (nSub t (2 ^ k)) := pc_mono fun i hi hb => by
    rw [nSub_bit, two_bit, h i hi hb]
    by_cases e : k = i
    · subst e; rw [hs] at hb; cases hb
    · simp [e]
  omega
theorem pc_grow {s t : Nat} (ht : t < 4096) (h : ∀ i, s.testBit i = true → t.testBit i = true) (hne : t ≠ s) : pc s < pc t := by
  have : ∃ k, t.testBit k = true ∧ s.testBit k = false := Classical.byContradiction fun hn => hne (Nat.eq_of_testBit_eq fun i => by
    cases hs : s.testBit i with
    | true => exact h i hs
    | false =>
      cases ht' : t.testBit i with
      | false => rfl
      | true => exact absurd ⟨i, ht', hs⟩ hn)
  obtain ⟨k, h1, h2⟩ := this
  exact pc_lt (fun i _ hi => h i hi) (bit_lt (n := 12) ht h1) h2 h1
/-- Checking as one goes. -/
def elN (N : List Nat) : Nat → List Int → Bool
  | left, [] => left == 0
  | left, x :: r => decide (0 ≤ x) && decide (x < N.length) && left.testBit x.toNat && cliq N (nb N x.toNat &&& nSub left (2 ^ x.toNat)) && elN N (nSub left (2 ^ x.toNat)) r
def orAll : List Int → Nat
  | [] => 0
  | x :: r => 2 ^ x.toNat ||| orAll r
def inRange (N : List Nat) (l : List Int) : Bool := l.all fun x => decide (0 ≤ x) && decide (x < N.length)
theorem orAll_bit {l : List Int} {i : Nat} : (orAll l).testBit i = true ↔ ∃ x ∈ l, x.toNat = i := by
  induction l with
  | nil => simp [orAll]
  | cons x r ih => simp [orAll, ih, two_bit]
theorem el_true {N : List Nat} (hN : VN N) : ∀ (l : List Int) (left : Nat), left < 2 ^ N.length → elN N left l = true → inRange N l = true ∧ l.length = pc left ∧ orAll l = left
  | [], left, hl, h => by
    have : left = 0 := by simpa [elN] using h
    subst this
    exact ⟨rfl, rfl, rfl⟩
  | x :: r, left, hl, h => by
    simp only [elN, Bool.and_eq_true, decide_eq_true_eq] at h
    obtain ⟨⟨⟨⟨h0, h1⟩, hb⟩, hc⟩, he⟩ := h
    have hN12 := hN.le
    obtain ⟨a, b, c⟩ := el_true hN r _ (nSub_lt hl) he
    refine ⟨?_, ?_, ?_⟩
    · simp only [inRange, List.all_cons, Bool.and_eq_true, decide_eq_true_eq]
      exact ⟨⟨h0, h1⟩, a⟩
    · rw [List.length_cons, b, pc_sub hb (by omega)]
    · apply Nat.eq_of_testBit_eq
      intro i
      simp only [orAll, c, Nat.testBit_or, nSub_bit, two_bit]
      by_cases e : x.toNat = i
      · subst e; simp [hb]
      · simp [e]
theorem pc_al {N : List Nat} (hN : VN N) : pc (al N) = N.length := by
  have h := hN.le
  have : els (al N) = List.range N.length := by
    unfold els
    have : List.range 12 = List.range N.length ++ (List.range' N.length (12 - N.length)) := by
      rw [List.range_eq_range', List.range_eq_range']
      have := List.range'_append (s := 0) (m := N.length) (n := 12 - N.length) (step := 1)
      simp at this
      rw [this]; congr 1; omega
    rw [this, List.filter_append]
    have h1 : (List.range N.length).filter (al N).testBit = List.range N.length := List.filter_eq_self.2 fun i hi => by
      rw [al_bit]; simpa using hi
    have h2 : (List.range' N.length (12 - N.length)).filter (al N).testBit = [] := List.filter_eq_nil_iff.2 fun i hi => by
      rw [al_bit]; simp at hi ⊢; omega
    rw [h1, h2, List.append_nil]
  unfold pc
  rw [this, List.length_range]
end Go.Proofs.YtleiddajojgmmaaDoor

/- Contracts of package chordal and of its reference, second part: orders, and what the laws of this layer share. The table of bits is laid (Tab). -/
namespace Go.Proofs.YtleiddajojgmmaaDoor
open Go Go.RowKit VC
set_option linter.unusedSimpArgs false
set_option linter.unusedVariables false

theorem and_expr {a b : Nat} (ha : a < 4096) (hb : b < 4096) : iAnd .i64 (a : Int) (b : Int) = ((a &&& b : Nat) : Int) := iAnd_nat (by omega) (by omega)
theorem without {a i : Nat} (ha : a < 4096) (hi : i < 12) : iAndNot .i64 (a : Int) (iShl .i64 1 (i : Int)) = ((nSub a (2 ^ i) : Nat) : Int) := by
  rw [iShl_one (by omega), iAndNot_nat (by omega) (p2 hi)]
theorem order_lit_c {w : World} {b1 b2 : Nat} {g : Value} {N : List Nat} {left : Nat} (h1 : w.cell? ⟨b1, 0, none⟩ = some g) (h2 : w.cell? ⟨b2, 0, none⟩ = some (.int .i64 (left : Int))) (hg : SlI w g (ofN N)) (hN : VN N) (hl : left < 2 ^ N.length) (hT : Tab w) {i : Nat} (hi : i < N.length) :
    Calls Tryd.prog 49 #[.int .i64 (i : Int), .pointer (some ⟨b1, 0, none⟩), .pointer (some ⟨b2, 0, none⟩)] w (Ret6 w (.bool (cliq N (nb N i &&& left)))) := by
  refine f49_calls _ _ _ ?_
  have hl4 : left < 4096 := Nat.lt_of_lt_of_le hl hN.pow
  refine ⟨g, h1, g, h1, hg.rd rfl (by simpa using hi) ⟨_, h2, cliq N (nb N i &&& left), fun w' hw' => ?_, fun w' hw' => ⟨rfl, hw'⟩⟩⟩
  rw [ofN_get, nb_get, and_expr (hN.nb_lt' i) hl4]
  exact clique_c (hg.grow hw') hN (and_lt (hN.nb_lt i)) (hT.grow hw')
theorem find_of_idx {l : List Nat} {q : Nat → Bool} : (match (ofN l).findIdx? (fun x => q x.toNat) with | some i => l[i]? | none => none) = l.find? q := by
  have h : (ofN l).findIdx? (fun x => q x.toNat) = l.findIdx? q := by
    unfold ofN
    rw [List.findIdx?_map]
    rfl
  rw [h]
  clear h
  induction l with
  | nil => rfl
  | cons a r ih =>
    rw [List.findIdx?_cons, List.find?_cons]
    cases hq : q a with
    | true => simp
    | false =>
      rw [← ih]
      cases hf : r.findIdx? q with
      | none => simp
      | some j => simp
theorem idxOf_neg {p : Int → Bool} {xs : List Int} : idxOf6 p xs < 0 ↔ xs.findIdx? p = none := by
  unfold idxOf6
  cases h : xs.findIdx? p with
  | none => simp
  | some i => simp
/-- Graph.order: the greedy order, and whether there is one. -/
theorem order_c {w : World} {v : Value} {N : List Nat} (hs : SlI w v (ofN N)) (hN : VN N) (hT : Tab w) : Calls Tryd.prog 29 #[v] w fun e w' => ∃ u, e = .returned (.tuple #[u, .bool (ordG N).isSome]) ∧ OwnI6 w' w.heap.size u (ofN ((ordG N).getD [])) ∧ Grow w w' := by
  refine f29_calls _ ?_
  have hle := hN.le
  refine ⟨hs.one, fun w1 hw1 => ⟨v, alloc_cell0 hw1, ?_⟩⟩
  have g1 := alloc_grow hw1
  refine (all_c (hs.grow g1) (by simpa using hN.le)).mono ?_
  rintro e w2 ⟨rfl, g2⟩
  refine ⟨_, rfl, fun w3 hw3 => ⟨⟨_, alloc_cell0 hw3⟩, alloc_free hw3 0, fun w4 hw4 => ?_⟩⟩
  have g3 := alloc_grow hw3
  have b4 : Box w4 w2.heap.size (.int .i64 ((al N : Nat) : Int)) := by
    have := (Box.new hw3).set hw4
    rw [show (ofN N).length = N.length by simp] at this
    exact this
  have f4 := set_fr hw4
  have g12 : Grow w w2 := g1.trans g2
  have g4 : Grow w w4 := (g12.trans g3).fr f4 fun i hi e => by have := g12.size; have : i = w2.heap.size := e; omega
  have c1 : w4.cell? ⟨w.heap.size, 0, none⟩ = some v := f4.cell (g3.cell (g2.cell (alloc_cell0 hw1))) (fun e => by
    have h1 := alloc_size hw1; have h2 := g2.size
    have : w.heap.size = w2.heap.size := e
    omega)
  have hlt : w.heap.size < w2.heap.size := by have h1 := alloc_size hw1; have h2 := g2.size; omega
  refine ⟨fun out w' => ∃ (left : Nat) (done : List Nat), left < 2 ^ N.length ∧ pc left + done.length ≤ 12 ∧ ordG N = (ordN N (12 - done.length) left).map (done ++ ·) ∧ Box w' w2.heap.size (.int .i64 (left : Int)) ∧ w'.cell? ⟨w.heap.size, 0, none⟩ = some v ∧
      OwnI6 w' (w2.heap.size + 1) out (ofN done) ∧ Grow w w',
    fun out _ => match out with | .slice _ n _ => 13 - n | _ => 0,
    ⟨al N, [], al_lt N, by have := pc_le (al N); simpa using this, by simp [ordG], b4, c1, Own.nil _ _ _ _, g4⟩, ?_⟩
  rintro - out w5 ⟨left, done, hl, hpc, hord, hb, hc, ho, hg⟩
  have hl4 : left < 4096 := Nat.lt_of_lt_of_le hl hN.pow
  have hN4 := hN.nb_lt'
  refine ⟨_, hb.cell, condP_i (fun hnz => ?_) (fun hz => ?_)⟩
  · have hnz : left ≠ 0 := by simpa using hnz
    have hpos : 0 < pc left := by
      rcases Nat.eq_zero_or_pos (pc left) with h | h
      · exact absurd ((pc_zero hl4).1 h) hnz
      · exact h
    have hfuel : 12 - done.length = (11 - done.length) + 1 := by omega
    refine ⟨_, hb.cell, (nodes_c hl4 (hT.grow hg)).mono ?_⟩
    rintro e w6 ⟨u, rfl, hu, g6⟩
    refine ⟨u, rfl, ?_⟩
    have hask : Asks6 w6 (.func (.func 49) #[] #[.pointer (some ⟨w.heap.size, 0, none⟩), .pointer (some ⟨w2.heap.size, 0, none⟩)]) (ofN (els left)) (fun x => (fun i => cliq N (nb N i &&& left)) x.toNat) := by
      refine ⟨_, _, _, rfl, rfl, fun x hx w' hw' => ?_⟩
      simp only [ofN, List.mem_map, mem_els] at hx
      obtain ⟨i, ⟨hi, hbit⟩, rfl⟩ := hx
      simp only [Int.toNat_natCast]
      exact order_lit_c (hw'.cell (g6.cell hc)) (hw'.cell (g6.cell hb.cell)) (hs.grow ((hg.trans g6).trans hw')) hN hl (hT.grow ((hg.trans g6).trans hw')) (bit_lt hl hbit)
    refine (indexFunc_c6 hu.slI hask).mono ?_
    rintro e w7 ⟨rfl, g7⟩
    have g67 : Grow w5 w7 := g6.trans g7
    refine ⟨_, rfl, condD (fun hneg => ?_) (fun hpos2 => ?_)⟩
    · -- no node can be eliminated
      have hnone := idxOf_neg.1 hneg
      have hfind : (els left).find? (fun i => cliq N (nb N i &&& left)) = none := by
        rw [← find_of_idx, hnone]
      have : ordG N = none := by
        rw [hord, hfuel]
        unfold ordN
        rw [if_neg hnz, hfind]
        rfl
      rw [this]
      exact ⟨_, rfl, Own.nil _ _ _ _, hg.trans g67⟩
    · cases hfi : (ofN (els left)).findIdx? (fun x => (fun i => cliq N (nb N i &&& left)) x.toNat) with
      | none => exact absurd (idxOf_neg.2 hfi) hpos2
      | some k =>
        have hk : k < (els left).length := by
          have := (List.findIdx?_eq_some_iff_getElem.1 hfi).1
          simpa using this
        have hval : idxOf6 (fun x => (fun i => cliq N (nb N i &&& left)) x.toNat) (ofN (els left)) = (k : Int) := by
          unfold idxOf6; rw [hfi]
        have hfind : (els left).find? (fun i => cliq N (nb N i &&& left)) = some (els left)[k] := by
          rw [← find_of_idx, hfi]; simp [hk]
        have hmem : (els left)[k] ∈ els left := List.getElem_mem hk
        obtain ⟨hi12, hibit⟩ := mem_els.1 hmem
        have hb7 := hb.grow g67
        refine ⟨_, hb7.cell, (nodes_c hl4 (hT.grow (hg.trans g67))).mono ?_⟩
        rintro e w8 ⟨u2, rfl, hu2, g8⟩
        refine ⟨u2, rfl, hu2.slI.rd hval (by simpa using hk) ?_⟩
        rw [ofN_get]
        intro w9 hw9
        have g58 : Grow w5 w8 := g67.trans g8
        have hsz := hb.lt
        refine pappI hw9 (ho.grow g58) (by have := g58.size; omega) (by simp; omega) ?_
        intro v' w10 ho' hf' m
        have g9 := alloc_grow hw9
        have hlow : ∀ k, k ≤ w2.heap.size → ¬ some k = out.ownBlock := fun k hk e => by have := ho.lt e.symm; omega
        have hb10 : Box (dr w10 m) w2.heap.size (.int .i64 (left : Int)) := (((hb.grow g58).grow g9).fr hf' (hlow _ (Nat.le_refl _))).dr m
        have hc10 : w10.cell? ⟨w.heap.size, 0, none⟩ = some v := hf'.cell (g9.cell (g58.cell hc)) (hlow w.heap.size (by omega))
        refine ⟨by omega, _, hb10.cell, ⟨_, hb10.cell⟩, hb10.free, fun w11 hw11 => ?_⟩
        have e1 : iAndNot .i64 (left : Int) (iShl .i64 1 (((els left)[k] : Nat) : Int)) = ((nSub left (2 ^ (els left)[k]) : Nat) : Int) := without hl4 hi12
        rw [e1] at hw11
        have f11 := set_fr hw11
        have g10 : Grow w (dr w10 m) := (own_grow (hg.trans g58) (ho.grow g58) (by omega) hw9 hf').dr m
        refine ⟨⟨nSub left (2 ^ (els left)[k]), done ++ [(els left)[k]], nSub_lt hl, ?_, ?_, hb10.set hw11, ?_, ?_, ?_⟩, ?_⟩
        · have := pc_sub hibit hi12
          simp; omega
        · rw [hord, hfuel]
          conv => lhs; unfold ordN
          rw [if_neg hnz, hfind]
          simp only [Option.map_map]
          have : 12 - (done ++ [(els left)[k]]).length = 11 - done.length := by rw [List.length_append, List.length_singleton]; omega
          rw [this]
          congr 1
          funext r
          simp
        · exact f11.cell hc10 fun e => absurd (show w.heap.size = w2.heap.size from e) (by omega)
        · rw [ofN_app]
          refine (Own.dr ho' m).fr f11 fun k hk e => ?_
          have := ho'.lt hk
          have : k = w2.heap.size := e
          omega
        · exact g10.fr f11 fun i hi e => absurd (show i = w2.heap.size from e) (by omega)
        · obtain ⟨a1, c1, rfl, _⟩ := ho.slC.ex
          obtain ⟨a2, c2, rfl, _⟩ := ho'.slC.ex
          simp; omega
  · have hz : left = 0 := by simpa using hz
    subst hz
    have : ordG N = some done := by
      rw [hord]
      cases 12 - done.length <;> simp [ordN]
    rw [this]
    exact ⟨out, rfl, ho.mono (by omega), hg⟩

/-! ## The exported functions -/
theorem chordal_c {w : World} {v : Value} {N : List Nat} (hs : SlI w v (ofN N)) (hN : VN N) (hT : Tab w) : Calls Tryd.prog 28 #[v] w (Ret6 w (.int .i64 (if (ordG N).isSome then 0 else 7))) := by
  refine f28_calls _ ?_
  refine (valid_c6 hs (b := true) (by simp [VG_ofN.2 hN])).mono ?_
  rintro e w1 ⟨rfl, g1⟩
  refine ⟨true, rfl, ?_⟩
  refine (order_c (hs.grow g1) hN (hT.grow g1)).mono ?_
  rintro e w2 ⟨u, rfl, _, g2⟩
  refine ⟨u, _, rfl, condP_i (fun h => ?_) (fun h => ?_)⟩
  · simp at h
    rw [h]
    exact ⟨rfl, g1.trans g2⟩
  · simp only [Bool.not_eq_false'] at h
    rw [h]
    exact ⟨rfl, g1.trans g2⟩
/-- Order of a valid graph: the greedy order, or ErrState. -/
theorem Order_c {w : World} {v : Value} {N : List Nat} (hs : SlI w v (ofN N)) (hN : VN N) (hT : Tab w) : Calls Tryd.prog 14 #[v] w fun e w' => ∃ u, e = .returned (.tuple #[u, .int .i64 (if (ordG N).isSome then 0 else 7)]) ∧ OwnI6 w' w.heap.size u (ofN ((ordG N).getD [])) ∧ Grow w w' := by
  refine f14_calls _ ?_
  refine (chordal_c hs hN hT).mono ?_
  rintro e w1 ⟨rfl, g1⟩
  refine ⟨_, rfl, ?_⟩
  cases ho : ordG N with
  | none => exact ⟨_, rfl, Own.nil _ _ _ _, g1⟩
  | some l =>
    refine (order_c (hs.grow g1) hN (hT.grow g1)).mono ?_
    rintro e w2 ⟨u, rfl, hu, g2⟩
    rw [ho] at hu
    exact ⟨u, _, rfl, u, rfl, hu.mono g1.size, g1.trans g2⟩
end Go.Proofs.YtleiddajojgmmaaDoor

/- Contracts of package chordal and of its reference, third part: CheckOrder, the reference's orders, the shared helpers of the laws. The table of bits is laid (Tab). -/
namespace Go.Proofs.YtleiddajojgmmaaDoor
open Go Go.RowKit VC
set_option linter.unusedSimpArgs false
set_option linter.unusedVariables false

/-! ## The reference -/
/-! ## The helpers of the laws -/
def N252 : List Nat := [2, 5, 2]
theorem vn252 : VN N252 := by
  refine ⟨by decide, by decide, ?_, ?_, ?_⟩
  · decide
  · decide
  · intro i j hi hj
    rw [nb_get hi, nb_get hj]
    have : ∀ i, i < 3 → ∀ j, j < 3 → (nb N252 i).testBit j = (nb N252 j).testBit i := by decide
    exact this i hi j hj
theorem ord252 : ordG N252 = some [0, 1, 2] := by decide +kernel
theorem awake_c6 {w : World} (hT : Tab w) : Calls Tryd.prog 9 #[] w (Ret6 w (.bool true)) := by
  refine f9_calls ?_
  intro w1 hw1
  have g1 := alloc_grow hw1
  have hs : SlI w1 (.slice (some ⟨w.heap.size, 0, none⟩) 3 3) (ofN N252) :=
    (Own.lit (B := w.heap.size) (n := 3) (sz := 1) hw1 (Nat.le_refl _) (by omega) (by simp)).slC
  refine (Order_c hs vn252 (hT.grow g1)).mono ?_
  rw [ord252]
  rintro e w2 ⟨u, rfl, hu, g2⟩
  refine ⟨u, _, rfl, condD (fun _ => ?_) fun h => absurd rfl h⟩
  intro w3 hw3
  have g3 := alloc_grow hw3
  have hy : SlI w3 (.slice (some ⟨w2.heap.size, 0, none⟩) 3 3) (ofN [0, 1, 2]) :=
    (Own.lit (B := w2.heap.size) (n := 3) (sz := 1) hw3 (Nat.le_refl _) (by omega) (by simp)).slC
  refine (equal_c6 (hu.slI.grow g3) hy).mono ?_
  rintro e w4 ⟨rfl, g4⟩
  exact ⟨_, rfl, by simp, ((g1.trans g2).trans g3).trans g4⟩
end Go.Proofs.YtleiddajojgmmaaDoor

/- Holes: what a list must be to be one, the search in depth, that it finds one if there is one. No program, no condition. -/
namespace Go.Proofs.YtleiddajojgmmaaDoor
open Go Go.RowKit VC
set_option linter.unusedSimpArgs false
set_option linter.unusedVariables false

def gi (l : List Int) (i : Nat) : Int := l.getD i 0
theorem gi_get {l : List Int} {i : Nat} (h : i < l.length) : l[i] = gi l i := by simp [gi, h]
def gn (l : List Nat) (i : Nat) : Nat := l.getD i 0
theorem gn_get {l : List Nat} {i : Nat} (h : i < l.length) : l[i] = gn l i := by simp [gn, h]
theorem gi_ofN (l : List Nat) (i : Nat) : gi (ofN l) i = ((gn l i : Nat) : Int) := by
  by_cases h : i < l.length
  · rw [← gi_get (by simpa using h), ofN_get, gn_get h]
  · simp [gi, gn, ofN, h]
def ed (N : List Nat) (x y : Int) : Bool := (nb N x.toNat).testBit y.toNat
structure HoleP (N : List Nat) (l : List Int) : Prop where
  four : 4 ≤ l.length
  rng : ∀ i, i < l.length → 0 ≤ gi l i ∧ gi l i < N.length
  least : ∀ i, i < l.length → gi l 0 ≤ gi l i
  ne : ∀ i j, i < l.length → j < i → gi l i ≠ gi l j
  adj : ∀ i j, i < l.length → j < i → (ed N (gi l i) (gi l j) = true ↔ i - j = 1 ∨ i - j = l.length - 1)
  turn : gi l 1 < gi l (l.length - 1)
theorem HoleP.le {N : List Nat} {l : List Int} (h : HoleP N l) : l.length ≤ N.length := by
  have hnd : l.Nodup := by
    rw [List.nodup_iff_pairwise_ne, List.pairwise_iff_getElem]
    intro i j hi hj hij
    rw [gi_get hi, gi_get hj]
    exact fun e => h.ne j i hj hij e.symm
  have : l.length ≤ ((List.range N.length).map fun n : Nat => (n : Int)).length := by
    refine hnd.length_le_of_subset fun x hx => ?_
    obtain ⟨i, hi, rfl⟩ := List.mem_iff_getElem.1 hx
    have := h.rng i hi
    rw [gi_get hi]
    exact List.mem_map.2 ⟨(gi l i).toNat, List.mem_range.2 (by omega), by omega⟩
  simpa using this
theorem HoleP.take {N : List Nat} (hN : VN N) {l : List Int} : HoleP N (l.take 14) ↔ HoleP N l := by
  have h12 := hN.le
  by_cases hl : l.length ≤ 14
  · rw [List.take_of_length_le hl]
  · constructor
    · intro h
      have := h.le
      simp at this; omega
    · intro h
      have := h.le; omega
open Classical in
noncomputable def holeB (N : List Nat) (l : List Int) : Bool := decide (HoleP N l)
theorem holeB_iff {N : List Nat} {l : List Int} : holeB N l = true ↔ HoleP N l := by simp [holeB]

/-! ## The search -/
/-- x may follow the way l. -/
def extB (N : List Nat) (long : Nat) (l : List Nat) (x : Nat) : Bool :=
  (nb N (gn l (l.length - 1))).testBit x && decide (gn l 0 < x) && (List.range (l.length - 1)).all fun k => decide (x ≠ gn l k) && (!(nb N (gn l k)).testBit x || (decide (k = 0) && decide (long ≤ l.length + 1)))
noncomputable def dfs (N : List Nat) (long : Nat) : Nat → List Nat → Option (List Nat)
  | 0, l => if holeB N (ofN l) then some l else none
  | f + 1, l => (List.range 12).findSome? fun x => if extB N long l x then dfs N long f (l ++ [x]) else none
noncomputable def holeS (N : List Nat) (long : Nat) : Option (List Nat) := (List.range N.length).findSome? fun s => dfs N long (long - 1) [s]
theorem dfs_sound {N : List Nat} {long : Nat} : ∀ {f : Nat} {l r : List Nat}, dfs N long f l = some r → HoleP N (ofN r) ∧ r.length = l.length + f
  | 0, l, r, h => by
    unfold dfs at h
    split at h
    · rename_i hh
      simp at h; subst h
      exact ⟨holeB_iff.1 hh, rfl⟩
    · cases h
  | f + 1, l, r, h => by
    unfold dfs at h
    obtain ⟨x, hx, h⟩ := List.exists_of_findSome?_eq_some h
    split at h
    · have := dfs_sound h
      refine ⟨this.1, ?_⟩
      rw [this.2]; simp; omega
    · cases h
theorem ext_of_hole {N : List Nat} (hN : VN N) {l : List Nat} (h : HoleP N (ofN l)) {k : Nat} (hk : 1 ≤ k) (hkl : k < l.length) : extB N l.length (l.take k) (gn l k) = true := by
  have hlen : (l.take k).length = k := by simp; omega
  have hgn : ∀ j, j < k → gn (l.take k) j = gn l j := fun j hj => by simp [gn, hj]
  have hl : (ofN l).length = l.length := by simp
  have key : ∀ i j, i < l.length → j < i → ((nb N (gn l i)).testBit (gn l j) = true ↔ i - j = 1 ∨ i - j = l.length - 1) := fun i j hi hj => by
    have := h.adj i j (by simpa using hi) hj
    rw [gi_ofN, gi_ofN, hl] at this
    simpa [ed] using this
  have hne : ∀ i j, i < l.length → j < i → gn l i ≠ gn l j := fun i j hi hj e => h.ne i j (by simpa using hi) hj (by rw [gi_ofN, gi_ofN, e])
  unfold extB
  rw [hlen, hgn _ (by omega), hgn _ (by omega)]
  simp only [Bool.and_eq_true, decide_eq_true_eq, List.all_eq_true, List.mem_range, Bool.or_eq_true, Bool.not_eq_true']
  refine ⟨⟨?_, ?_⟩, fun j hj => ?_⟩
  · rw [hN.sym']
    exact (key k (k - 1) hkl (by omega)).2 (.inl (by omega))
  · have h1 := h.least k (by simpa using hkl)
    rw [gi_ofN, gi_ofN] at h1
    have h2 := hne k 0 hkl (by omega)
    omega
  · rw [hgn j (by omega)]
    refine ⟨hne k j hkl (by omega), ?_⟩
    cases hb : (nb N (gn l j)).testBit (gn l k) with
    | false => exact .inl rfl
    | true =>
      rw [hN.sym'] at hb
      rcases (key k j hkl (by omega)).1 hb with h1 | h1
      · omega
      · exact .inr ⟨by omega, by omega⟩
theorem gn_lt {N : List Nat} {l : List Nat} (h : HoleP N (ofN l)) {k : Nat} (hk : k < l.length) : gn l k < N.length := by
  have := (h.rng k (by simpa using hk)).2
  rw [gi_ofN] at this; omega
theorem dfs_complete {N : List Nat} (hN : VN N) {l : List Nat} (h : HoleP N (ofN l)) : ∀ f, f + 1 ≤ l.length → (dfs N l.length f (l.take (l.length - f))).isSome = true
  | 0, _ => by
    rw [Nat.sub_zero, List.take_length]
    unfold dfs
    rw [if_pos (holeB_iff.2 h)]
    rfl
  | f + 1, hf => by
    have ih := dfs_complete hN h f (by omega)
    have hk : l.length - (f + 1) < l.length := by omega
    have he := ext_of_hole hN h (k := l.length - (f + 1)) (by omega) hk
    have h12 := hN.le
    unfold dfs
    cases hs : (List.range 12).findSome? (fun x => if extB N l.length (l.take (l.length - (f + 1))) x then dfs N l.length f (l.take (l.length - (f + 1)) ++ [x]) else none) with
    | some r => rfl
    | none =>
      rw [List.findSome?_eq_none_iff] at hs
      have := hs (gn l (l.length - (f + 1))) (List.mem_range.2 (by have := gn_lt h hk; omega))
      rw [if_pos he] at this
      have e : l.take (l.length - (f + 1)) ++ [gn l (l.length - (f + 1))] = l.take (l.length - f) := by
        have e2 : l.length - f = l.length - (f + 1) + 1 := by omega
        rw [e2, List.take_succ_eq_append_getElem hk, gn_get hk]
      rw [e] at this
      rw [this] at ih
      cases ih
theorem holeS_sound {N : List Nat} {long : Nat} {r : List Nat} (h1 : 1 ≤ long) (h : holeS N long = some r) : HoleP N (ofN r) ∧ r.length = long := by
  unfold holeS at h
  obtain ⟨x, hx, h⟩ := List.exists_of_findSome?_eq_some h
  have := dfs_sound h
  refine ⟨this.1, ?_⟩
  rw [this.2]; simp; omega
theorem holeS_complete {N : List Nat} (hN : VN N) {l : List Nat} (h : HoleP N (ofN l)) : (holeS N l.length).isSome = true := by
  have h4 : 4 ≤ l.length := by simpa using h.four
  have hc := dfs_complete hN h (l.length - 1) (by omega)
  unfold holeS
  cases hs : (List.range N.length).findSome? (fun s => dfs N l.length (l.length - 1) [s]) with
  | some r => rfl
  | none =>
    rw [List.findSome?_eq_none_iff] at hs
    have := hs (gn l 0) (List.mem_range.2 (gn_lt h (by omega)))
    have e : l.take (l.length - (l.length - 1)) = [gn l 0] := by
      have e2 : l.length - (l.length - 1) = 0 + 1 := by omega
      rw [e2, List.take_succ_eq_append_getElem (by omega), gn_get (by omega)]
      rfl
    rw [e, this] at hc
    cases hc
/-- The first length from 4 on that has a hole. -/
noncomputable def firstH (N : List Nat) : Option (List Nat) := (List.range (N.length + 1)).findSome? fun k => if 4 ≤ k then holeS N k else none
theorem ofN_toNat {l : List Int} (h : ∀ i, i < l.length → 0 ≤ gi l i) : ofN (l.map Int.toNat) = l := by
  apply List.ext_getElem
  · simp [ofN]
  · intro i h1 h2
    have := h i h2
    rw [← gi_get h2] at this
    simp [ofN]; omega
theorem firstH_none {N : List Nat} (hN : VN N) : firstH N = none ↔ ∀ l, ¬ HoleP N l := by
  constructor
  · intro h l hl
    unfold firstH at h
    rw [List.findSome?_eq_none_iff] at h
    have e : ofN (l.map Int.toNat) = l := ofN_toNat fun i hi => (hl.rng i hi).1
    have h1 := h l.length (List.mem_range.2 (by have := hl.le; omega))
    rw [if_pos hl.four] at h1
    have h2 := holeS_complete hN (l := l.map Int.toNat) (by rw [e]; exact hl)
    rw [List.length_map, h1] at h2
    cases h2
  · intro h
    unfold firstH
    rw [List.findSome?_eq_none_iff]
    intro k _
    split
    · cases hs : holeS N k with
      | none => rfl
      | some r => exact absurd (holeS_sound (by omega) hs).1 (h _)
    · rfl
end Go.Proofs.YtleiddajojgmmaaDoor

/- Independent sets, the greatest of a kind, the graph with all other edges: the plain laws. No program, no condition. -/
namespace Go.Proofs.YtleiddajojgmmaaDoor
open Go Go.RowKit VC
set_option linter.unusedSimpArgs false
set_option linter.unusedVariables false

/-- No two nodes are neighbours. -/
def free (N : List Nat) (s : Nat) : Bool := (List.range 12).all fun i => !s.testBit i || s &&& nb N i == 0
end Go.Proofs.YtleiddajojgmmaaDoor

/- Contracts of package chordal and of its reference: what is a hole. The table of bits is laid (Tab). -/
namespace Go.Proofs.YtleiddajojgmmaaDoor
open Go Go.RowKit VC
set_option linter.unusedSimpArgs false
set_option linter.unusedVariables false

/-- What the code asks of two places of a list. -/
def pairP (N : List Nat) (l : List Int) (i j : Nat) : Prop := gi l i ≠ gi l j ∧ (ed N (gi l i) (gi l j) = true ↔ i - j = 1 ∨ i - j = l.length - 1)
theorem HoleP.pair {N : List Nat} {l : List Int} (h : HoleP N l) {i j : Nat} (hi : i < l.length) (hj : j < i) : pairP N l i j := ⟨h.ne i j hi hj, h.adj i j hi hj⟩
end Go.Proofs.YtleiddajojgmmaaDoor

/- The greatest cliques, in rising order. No program, no condition. -/
namespace Go.Proofs.YtleiddajojgmmaaDoor
open Go Go.RowKit VC
set_option linter.unusedSimpArgs false
set_option linter.unusedVariables false

/-- A clique that no node can join. -/
def maxq (N : List Nat) (s : Nat) : Bool := cliq N s && (els (nSub (al N) s)).all fun i => !decide (nSub s (nb N i) = 0)
def mclT (N : List Nat) (k : Nat) : List Nat := (List.range k).filter fun s => decide (1 ≤ s) && maxq N s
def mcl (N : List Nat) : List Nat := mclT N (2 ^ N.length)
theorem mclT_succ (N : List Nat) {k : Nat} (hk : 1 ≤ k) : mclT N (k + 1) = mclT N k ++ (if maxq N k then [k] else []) := by
  unfold mclT
  rw [List.range_succ, List.filter_append]
  congr 1
  rw [List.filter_cons]
  have : decide (1 ≤ k) = true := by simpa using hk
  rw [this, Bool.true_and]
  cases maxq N k <;> simp
theorem mclT_one (N : List Nat) : mclT N 1 = [] := by simp [mclT]
theorem mclT_len (N : List Nat) (k : Nat) : (mclT N k).length ≤ k := by
  unfold mclT
  exact Nat.le_trans (List.length_filter_le _ _) (by simp)
theorem mem_mcl {N : List Nat} {s : Nat} : s ∈ mcl N ↔ s < 2 ^ N.length ∧ 1 ≤ s ∧ maxq N s = true := by
  unfold mcl mclT
  rw [List.mem_filter, List.mem_range]; simp
theorem sub_zero {s t : Nat} : nSub s t = 0 ↔ ∀ j, s.testBit j = true → t.testBit j = true := by
  rw [set_zero]
  constructor
  · intro h j hj
    have := h j
    rw [nSub_bit, hj] at this
    simpa using this
  · intro h j
    rw [nSub_bit]
    cases hj : s.testBit j with
    | false => rfl
    | true => simp [h j hj]
/-- A node joins a clique exactly if all of the clique are its neighbours. -/
theorem cliq_join {N : List Nat} (hN : VN N) {s i : Nat} (hs : s < 2 ^ N.length) (hi : i < N.length) (hq : cliq N s = true) (hb : s.testBit i = false) : cliq N (s ||| 2 ^ i) = decide (nSub s (nb N i) = 0) := by
  have h4 : s < 4096 := Nat.lt_of_lt_of_le hs hN.pow
  have hlt : s ||| 2 ^ i < 4096 := Nat.lt_of_lt_of_le (Nat.or_lt_two_pow hs (Nat.pow_lt_pow_right (by omega) hi)) hN.pow
  rw [Bool.eq_iff_iff, cliq_iff hlt, decide_eq_true_eq, sub_zero]
  rw [cliq_iff h4] at hq
  have bit : ∀ j, (s ||| 2 ^ i).testBit j = true ↔ s.testBit j = true ∨ j = i := fun j => by
    rw [Nat.testBit_or, two_bit, Bool.or_eq_true, decide_eq_true_eq]
    constructor
    · rintro (h | h)
      · exact .inl h
      · exact .inr h.symm
    · rintro (h | h)
      · exact .inl h
      · exact .inr h.symm
  constructor
  · intro h j hj
    have hne : j ≠ i := fun e => by subst e; rw [hb] at hj; cases hj
    exact h i ((bit i).2 (.inr rfl)) j ((bit j).2 (.inl hj)) hne
  · intro h a ha b hb' hne
    rcases (bit a).1 ha with ha1 | ha1
    · rcases (bit b).1 hb' with hb1 | hb1
      · exact hq a ha1 b hb1 hne
      · rw [hN.sym', hb1]; exact h a ha1
    · rcases (bit b).1 hb' with hb1 | hb1
      · rw [ha1]; exact h b hb1
      · exact absurd (hb1.trans ha1.symm) hne
theorem maxq_ref {N : List Nat} (hN : VN N) {s : Nat} (hs : s < 2 ^ N.length) : maxq N s = (cliq N s && (List.range N.length).all fun i => s.testBit i || !cliq N (s ||| 2 ^ i)) := by
  unfold maxq
  cases hq : cliq N s with
  | false => rfl
  | true =>
    have h12 := hN.le
    rw [Bool.true_and, Bool.true_and, Bool.eq_iff_iff]
    simp only [List.all_eq_true, mem_els, List.mem_range, Bool.or_eq_true, Bool.not_eq_true', decide_eq_false_iff_not]
    constructor
    · intro h i hi
      cases hb : s.testBit i with
      | true => exact .inl rfl
      | false =>
        have := h i ⟨by omega, by rw [nSub_bit, al_bit, hb]; simpa using hi⟩
        exact .inr (by rw [cliq_join hN hs hi hq hb]; simpa using this)
    · rintro h i ⟨hi, hb⟩
      rw [nSub_bit, al_bit, Bool.and_eq_true, Bool.not_eq_true', decide_eq_true_eq] at hb
      rcases h i hb.1 with h1 | h1
      · rw [hb.2] at h1; cases h1
      · rw [cliq_join hN hs hb.1 hq hb.2] at h1
        simpa using h1
end Go.Proofs.YtleiddajojgmmaaDoor

/- Contracts of package chordal and of its reference: the greatest cliques. The table of bits is laid (Tab). -/
namespace Go.Proofs.YtleiddajojgmmaaDoor
open Go Go.RowKit VC
set_option linter.unusedSimpArgs false
set_option linter.unusedVariables false

/-- The next round's own variable of a loop whose variable is captured. -/
theorem inc {e : TypeId} {set : Addr} {w : World} {k : Int} {K : World → Prop} (hc : w.cell? set = some (.int .i64 k)) (hr : inR (k + 1)) (hk : ∀ w', Grow w w' → Box w' w.heap.size (.int .i64 (k + 1)) → K w') :
    ∃ t : Int, w.cell? set = some (.int .i64 t) ∧ ∀ wa, wa = w.alloc (.cells #[.int .i64 0] e) → (∃ old, wa.cell? ⟨w.heap.size, 0, none⟩ = some old) ∧ wa.frozen? ⟨w.heap.size, 0, none⟩ = false ∧ ∀ wb, wb = wa.setCell ⟨w.heap.size, 0, none⟩ (.int .i64 t) →
      ∃ t2 : Int, wb.cell? ⟨w.heap.size, 0, none⟩ = some (.int .i64 t2) ∧ inR (t2 + 1) ∧ (∃ old, wb.cell? ⟨w.heap.size, 0, none⟩ = some old) ∧ wb.frozen? ⟨w.heap.size, 0, none⟩ = false ∧ ∀ wc, wc = wb.setCell ⟨w.heap.size, 0, none⟩ (.int .i64 (t2 + 1)) → K wc := by
  refine ⟨k, hc, fun wa ha => ?_⟩
  have ga := alloc_grow ha
  have ba := Box.new ha
  refine ⟨⟨_, ba.cell⟩, ba.free, fun wb hb => ?_⟩
  have bb := ba.set hb
  have fb := set_fr hb
  refine ⟨k, bb.cell, hr, ⟨_, bb.cell⟩, bb.free, fun wc hc' => ?_⟩
  have fc := set_fr hc'
  exact hk wc ((ga.fr fb fun i hi e => absurd (show i = w.heap.size from e) (by omega)).fr fc fun i hi e => absurd (show i = w.heap.size from e) (by omega)) (bb.set hc')
theorem cliques_lit_c {w : World} {b2 : Nat} {a : Addr} {g : Value} {N : List Nat} {s : Nat} (h1 : w.cell? a = some (.int .i64 (s : Int))) (h2 : w.cell? ⟨b2, 0, none⟩ = some g) (hg : SlI w g (ofN N)) (hN : VN N) (hs : s < 4096) {i : Nat} (hi : i < N.length) :
    Calls Tryd.prog 51 #[.int .i64 (i : Int), .pointer (some a), .pointer (some ⟨b2, 0, none⟩)] w (Ret6 w (.bool (decide (nSub s (nb N i) = 0)))) := by
  refine f51_calls _ _ _ ?_
  refine ⟨_, h1, _, h2, hg.rd rfl (by simpa using hi) fun m => ⟨?_, (Grow.refl w).dr m⟩⟩
  rw [ofN_get, nb_get, iAndNot_nat (by omega) (lt63 (hN.nb_lt' i))]
  have : decide (((nSub s (nb N i) : Nat) : Int) = 0) = decide (nSub s (nb N i) = 0) := by rw [Bool.eq_iff_iff]; simp
  rw [this]
theorem maxq_any {N : List Nat} {s : Nat} : maxq N s = (cliq N s && !((ofN (els (nSub (al N) s))).any fun x => decide (nSub s (nb N x.toNat) = 0))) := by
  unfold maxq
  congr 1
  rw [Bool.eq_iff_iff, Bool.not_eq_true', List.any_eq_false, List.all_eq_true]
  simp only [ofN, List.mem_map, forall_exists_index, and_imp, forall_apply_eq_imp_iff₂, Int.toNat_natCast]
  simp
theorem cliques_c {w : World} {v : Value} {N : List Nat} (hs : SlI w v (ofN N)) (hN : VN N) (hT : Tab w) : Calls Tryd.prog 31 #[v] w fun e w' => ∃ u, e = .returned u ∧ OwnI6 w' w.heap.size u (ofN (mcl N)) ∧ Grow w w' := by
  refine f31_calls _ ?_
  have h12 := hN.le
  have hp := hN.pow
  have h0 : 1 ≤ 2 ^ N.length := Nat.pow_pos (by omega)
  refine ⟨hs.one, fun w1 hw1 w2 hw2 => ?_⟩
  have g1 := alloc_grow hw1
  have g2 := alloc_grow hw2
  have s1 := alloc_size hw1
  have hb2 := Box.new hw2
  refine ⟨⟨_, hb2.cell⟩, hb2.free, fun w3 hw3 => ?_⟩
  have hb3 := hb2.set hw3
  have f3 := set_fr hw3
  have g13 : Grow w1 w3 := g2.fr f3 fun i hi e => absurd (show i = w1.heap.size from e) (by omega)
  refine ⟨fun out set w' => ∃ (k bs : Nat), set = ⟨bs, 0, none⟩ ∧ 1 ≤ k ∧ k ≤ 2 ^ N.length ∧ Box w' bs (.int .i64 (k : Int)) ∧ OwnI6 w' w1.heap.size out (ofN (mclT N k)) ∧ out.ownBlock ≠ some bs ∧ w1.heap.size ≤ bs ∧ Grow w1 w',
    fun _ set w' => 4097 - (match w'.cell? set with | some (.int .i64 k) => k.toNat | _ => 0), ⟨1, w1.heap.size, rfl, by omega, h0, hb3, by rw [mclT_one]; exact Own.nil _ _ _ _, by simp [Value.ownBlock], Nat.le_refl _, g13⟩, ?_⟩
  rintro - out set w4 ⟨k, bs, rfl, hk1, hk, hb, ho, hne, hbs, g4⟩
  have cg : ∀ {w'}, Grow w4 w' → w'.cell? ⟨w.heap.size, 0, none⟩ = some v := fun hg => hg.cell (g4.cell (alloc_cell0 hw1))
  have cs : ∀ {w'}, Grow w4 w' → w'.cell? ⟨bs, 0, none⟩ = some (.int .i64 (k : Int)) := fun hg => hg.cell hb.cell
  have hsl : ∀ {w'}, Grow w4 w' → SlI w' v (ofN N) := fun hg => hs.grow ((g1.trans g4).trans hg)
  have hTb : ∀ {w'}, Grow w4 w' → Tab w' := fun hg => hT.grow ((g1.trans g4).trans hg)
  refine ⟨_, hb.cell, v, cg (Grow.refl w4), _, fun w' g' => all_c (hsl g') (by simpa using h12), fun w5 g5 => ?_⟩
  rw [ofN_len]
  refine condD (fun hlt m => ?_) (fun hge => ?_)
  · have hkl : k < 2 ^ N.length := by omega
    have hk4 : k < 4096 := by omega
    have g6 := g5.dr m
    -- the next round
    have next : ∀ {w' : World} {out' : Value}, Fr (fun j => some j = out.ownBlock) w4 w' → OwnI6 w' w1.heap.size out' (ofN (mclT N (k + 1))) → ∀ w'', Grow w' w'' → Box w'' w'.heap.size (.int .i64 ((k : Int) + 1)) →
        (∃ (k' bs' : Nat), (⟨w'.heap.size, 0, none⟩ : Addr) = ⟨bs', 0, none⟩ ∧ 1 ≤ k' ∧ k' ≤ 2 ^ N.length ∧ Box w'' bs' (.int .i64 (k' : Int)) ∧ OwnI6 w'' w1.heap.size out' (ofN (mclT N k')) ∧ out'.ownBlock ≠ some bs' ∧ w1.heap.size ≤ bs' ∧ Grow w1 w'') ∧
        4097 - (match w''.cell? ⟨w'.heap.size, 0, none⟩ with | some (.int .i64 k) => k.toNat | _ => 0) < 4097 - (match w4.cell? ⟨bs, 0, none⟩ with | some (.int .i64 k) => k.toNat | _ => 0) := fun {w' out'} hf ho' w'' g'' hb'' => by
      have gw : Grow w1 w' := g4.fr hf fun i hi e => by have := (ho.lt e.symm).1; omega
      refine ⟨⟨k + 1, w'.heap.size, rfl, by omega, by omega, by simpa using hb'', ho'.grow g'', fun e => by have := (ho'.lt e).2; omega, gw.size, gw.trans g''⟩, ?_⟩
      rw [hb''.cell, hb.cell]
      simp only
      omega
    have e1 : iAndNot .i64 ((2 ^ N.length - 1 : Nat) : Int) (k : Int) = ((nSub (al N) k : Nat) : Int) := by
      have := al_lt N
      show iAndNot .i64 ((al N : Nat) : Int) (k : Int) = _
      rw [iAndNot_nat (by omega) (by omega)]
    have skip : ∀ {w' : World}, Grow w4 w' → maxq N k = false → ∀ w'', Grow w' w'' → Box w'' w'.heap.size (.int .i64 ((k : Int) + 1)) → _ := fun {w'} g' hq w'' g'' hb'' => next (out' := out) (Fr.of_grow g') (by rw [mclT_succ N hk1, hq, if_neg (by simp), List.append_nil]; exact ho.grow g') w'' g'' hb''
    -- what follows the clique
    have rest : ∀ {w6 : World}, Grow w4 w6 → Calls Tryd.prog 50 #[v, .int .i64 (k : Int)] w6 (Ret6 w6 (.bool (cliq N k))) := fun g => clique_c (hsl g) hN hkl (hTb g)
    have inr : inR ((k : Int) + 1) := by unfold inR; omega
    repeat' first
      | refine And.intro ?_ ?_
      | refine ⟨_, cg g6, ?_⟩
      | refine ⟨_, cs g6, ?_⟩
      | fail
    all_goals
      refine (rest g6).mono ?_
      rintro e w7 ⟨rfl, g7⟩
      have g07 := g6.trans g7
      refine ⟨_, rfl, condP_i (fun hq => ?_) (fun hq => ?_)⟩
    all_goals repeat' first
      | exact inc (cs g07) inr (skip g07 (by unfold maxq; rw [hq]; rfl))
      | refine And.intro ?_ ?_
      | refine ⟨_, cg g07, ?_⟩
      | refine ⟨_, cs g07, ?_⟩
      | fail
    all_goals
      refine (all_c (hsl g07) (by simpa using h12)).mono ?_
      rintro e w8 ⟨rfl, g8⟩
      have g08 := g07.trans g8
      refine ⟨_, rfl, ?_⟩
      try refine ⟨_, cs g08, ?_⟩
      rw [ofN_len, e1]
      refine (nodes_c (Nat.lt_of_lt_of_le (nSub_lt (al_lt N)) hp) (hTb g08)).mono ?_
      rintro e w9 ⟨n9, rfl, h9, g9⟩
      have g09 := g08.trans g9
      have hask : Asks6 w9 (.func (.func 51) #[] #[.pointer (some ⟨bs, 0, none⟩), .pointer (some ⟨w.heap.size, 0, none⟩)]) (ofN (els (nSub (al N) k))) (fun x => decide (nSub k (nb N x.toNat) = 0)) := by
        refine ⟨_, _, _, rfl, rfl, fun x hx w' hw' => ?_⟩
        obtain ⟨i, hi, rfl⟩ := List.mem_map.1 hx
        have hi2 := (mem_els.1 hi).2
        rw [nSub_bit, al_bit, Bool.and_eq_true, decide_eq_true_eq] at hi2
        simp only [Int.toNat_natCast]
        exact cliques_lit_c (cs (g09.trans hw')) (cg (g09.trans hw')) (hsl (g09.trans hw')) hN hk4 hi2.1
      refine ⟨n9, rfl, (containsFunc_c6 h9.slI hask).mono ?_⟩
      rintro e w10 ⟨rfl, g10⟩
      have g010 := g09.trans g10
      have hmq := maxq_any (N := N) (s := k)
      rw [hq, Bool.true_and] at hmq
      refine ⟨_, rfl, condP_i (fun hm => ?_) (fun hm => inc (cs g010) inr (skip g010 (by rw [hmq]; exact hm)))⟩
      rw [hm] at hmq
      refine ⟨_, cs g010, fun w11 hw11 => ?_⟩
      have ho10 := ho.grow g010
      refine pappI hw11 ho10 (by have := (g4.trans g010).size; omega) (by have := mclT_len N k; simp; omega) ?_
      intro v' w12 ho12 hf12
      have g11 := alloc_grow hw11
      have hfr : Fr (fun j => some j = out.ownBlock) w4 w12 := (Fr.of_grow (g010.trans g11)).trans hf12
      refine inc (k := (k : Int)) (hf12.cell ((g010.trans g11).cell hb.cell) fun e => hne e.symm) inr (next hfr ?_)
      rw [mclT_succ N hk1, hmq, if_pos rfl, ofN_app]
      exact ho12
  · have hkl : k = 2 ^ N.length := by omega
    subst hkl
    refine ⟨out, rfl, ?_, (g1.trans g4).trans g5⟩
    exact (ho.grow g5).mono (by omega)
theorem Cliques_c {w : World} {v : Value} {N : List Nat} (hs : SlI w v (ofN N)) (hN : VN N) (hT : Tab w) : Calls Tryd.prog 15 #[v] w fun e w' => ∃ u, e = .returned (.tuple #[u, .int .i64 0]) ∧ OwnI6 w' w.heap.size u (ofN (mcl N)) ∧ Grow w w' := by
  refine f15_calls _ ?_
  refine (valid_c6 hs (b := true) (by simp [VG_ofN.2 hN])).mono ?_
  rintro e w1 ⟨rfl, g1⟩
  refine ⟨true, rfl, (cliques_c (hs.grow g1) hN (hT.grow g1)).mono ?_⟩
  rintro e w2 ⟨u, rfl, hu, g2⟩
  exact ⟨u, rfl, u, rfl, hu.mono g1.size, g1.trans g2⟩
end Go.Proofs.YtleiddajojgmmaaDoor
