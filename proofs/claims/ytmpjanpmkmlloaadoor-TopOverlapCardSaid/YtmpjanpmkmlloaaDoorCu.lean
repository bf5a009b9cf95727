/- Contracts of the law's conversions of spans, of CheckModel and of its reference. -/
import Derived.Test.YtmpjanpmkmlloaaDoorCs
import Derived.Test.YtmpjanpmkmlloaaDoorGn
namespace Go.Proofs.YtmpjanpmkmlloaaDoor
open Go Go.RowKit VC
set_option linter.unusedSimpArgs false
set_option linter.unusedVariables false

theorem SlP.slR {w : World} {v : Value} {ps : List (Int × Int)} (h : SlP w v ps) : SlR spF w v ps := h
theorem el_cspan : ElT Tryd.prog 39 72 2 16 (.agg #[.int .i64 0, .int .i64 0]) := ⟨by kernel_rfl, ⟨Tryd.t72, by kernel_rfl, by kernel_rfl, by kernel_rfl, by kernel_rfl⟩, rfl⟩
theorem el_rspan : ElT Tryd.prog 44 91 2 16 (.agg #[.int .i64 0, .int .i64 0]) := ⟨by kernel_rfl, ⟨Tryd.t91, by kernel_rfl, by kernel_rfl, by kernel_rfl, by kernel_rfl⟩, rfl⟩
theorem take_next {α : Type} {xs : List α} {k : Nat} (h : k < xs.length) : xs.take (k + 1) = xs.take k ++ [xs[k]] := List.take_succ_eq_append_getElem h
theorem spans_c {w : World} {v : Value} {ps : List (Int × Int)} (hs : SlP w v ps) : Calls Tryd.prog 34 #[v] w fun e w' => ∃ u, e = .returned u ∧ SlP w' u (ps.take 14) ∧ Grow w w' := by
  refine f34_calls _ ?_
  have hle := hs.len_le
  refine hs.slR.ln ⟨fun out t w' => ∃ k : Nat, t = k ∧ k ≤ ps.length ∧ k ≤ 14 ∧ Own w' w.heap.size 72 2 out (ps.take k).length ((ps.take k).flatMap spF) ∧ Grow w w', fun _ t _ => ps.length - t.toNat, ⟨0, rfl, by omega, by omega, by rw [List.take_zero]; exact Own.nil _ _ _ _, Grow.refl w⟩, ?_⟩
  rintro - out t w1 ⟨k, rfl, hk, hk14, ho, g1⟩
  refine condD (fun hlt => ?_) (fun hge => ?_)
  · have hkl : k < ps.length := by omega
    refine SlR.rd (hs.slR.grow g1) spF_len rfl hkl fun w2 hw2 => ?_
    refine setR (cs := spF _) hw2 rfl (spF_one _) fun w3 g3 _ c3 => condD (fun h14 => ?_) (fun h14 => ?_)
    · have : k = 14 := by omega
      subst this
      exact ⟨_, rfl, Own.slC (ho.grow g3), g1.trans g3⟩
    · refine ⟨_, c3 0 _ rfl, _, c3 1 _ rfl, bs1 el_cspan (by omega) (by omega) (by rfl) w3 fun w4 hw4 => ?_⟩
      refine pappR el_cspan (by omega) spF_len spF_one (x := ps[k]) hw4 (ho.grow g3) (by have := (g1.trans g3).size; omega) (by simp; omega) (by omega) fun v' w5 ho5 hf5 => ?_
      refine ⟨by unfold inR; omega, ⟨k + 1, by omega, by omega, by omega, by rw [take_next hkl]; exact ho5, ?_⟩, by dsimp only; omega⟩
      refine ((g1.trans g3).trans (alloc_grow hw4)).fr hf5 fun i hi e => ?_
      have := (Own.lt (ho.grow g3) e.symm).1
      omega
  · have e : ps.take k = ps.take 14 := by rw [List.take_of_length_le (by omega), List.take_of_length_le (by omega)]
    rw [e] at ho
    exact ⟨_, rfl, Own.slC ho, g1⟩
theorem own_c {w : World} {v : Value} {ps : List (Int × Int)} (hs : SlP w v ps) (hlen : ps.length ≤ 1000000) : Calls Tryd.prog 38 #[v] w fun e w' => ∃ u, e = .returned u ∧ SlP w' u ps ∧ Grow w w' := by
  refine f38_calls _ ?_
  refine hs.slR.ln ⟨fun out t w' => ∃ k : Nat, t = k ∧ k ≤ ps.length ∧ Own w' w.heap.size 91 2 out (ps.take k).length ((ps.take k).flatMap spF) ∧ Grow w w', fun _ t _ => ps.length - t.toNat, ⟨0, rfl, by omega, by rw [List.take_zero]; exact Own.nil _ _ _ _, Grow.refl w⟩, ?_⟩
  rintro - out t w1 ⟨k, rfl, hk, ho, g1⟩
  refine condD (fun hlt => ?_) (fun hge => ?_)
  · have hkl : k < ps.length := by omega
    refine SlR.rd (hs.slR.grow g1) spF_len rfl hkl fun w2 hw2 => ?_
    refine setR (cs := spF _) hw2 rfl (spF_one _) fun w3 g3 _ c3 => ?_
    refine ⟨_, c3 0 _ rfl, _, c3 1 _ rfl, bs1 el_rspan (by omega) (by omega) (by rfl) w3 fun w4 hw4 => ?_⟩
    refine pappR el_rspan (by omega) spF_len spF_one (x := ps[k]) hw4 (ho.grow g3) (by have := (g1.trans g3).size; omega) (by simp; omega) (by omega) fun v' w5 ho5 hf5 => ?_
    refine ⟨by unfold inR; omega, ⟨k + 1, by omega, by omega, by rw [take_next hkl]; exact ho5, ?_⟩, by dsimp only; omega⟩
    refine ((g1.trans g3).trans (alloc_grow hw4)).fr hf5 fun i hi e => ?_
    have := (Own.lt (ho.grow g3) e.symm).1
    omega
  · have e : ps.take k = ps := List.take_of_length_le (by omega)
    rw [e] at ho
    exact ⟨_, rfl, Own.slC ho, g1⟩
/-! ## Models, as they are asked for -/
def gp (ps : List (Int × Int)) (i : Nat) : Int × Int := ps.getD i (0, 0)
theorem gp_get {ps : List (Int × Int)} {i : Nat} (h : i < ps.length) : ps[i] = gp ps i := by simp [gp, h]
def okP (p : Int × Int) : Prop := 0 ≤ p.1 ∧ p.1 ≤ p.2 ∧ p.2 ≤ 1000
def meetP (N : List Nat) (ps : List (Int × Int)) (i j : Nat) : Prop := ((gp ps i).1 ≤ (gp ps j).2 ∧ (gp ps j).1 ≤ (gp ps i).2) ↔ (nb N i).testBit j = true
structure MdP (N : List Nat) (ps : List (Int × Int)) : Prop where
  len : ps.length = N.length
  ok : ∀ i, i < ps.length → okP (gp ps i)
  meet : ∀ i j, i < ps.length → j < i → meetP N ps i j
theorem MdP.take {N : List Nat} (hN : VN N) {ps : List (Int × Int)} : MdP N (ps.take 14) ↔ MdP N ps := by
  have h12 := hN.le
  by_cases h : ps.length ≤ 14
  · rw [List.take_of_length_le h]
  · constructor
    · intro hm
      have := hm.len
      rw [List.length_take] at this; omega
    · intro hm
      have := hm.len
      omega
theorem MdP.mdl {N : List Nat} (hN : VN N) {ps : List (Int × Int)} (h : MdP N ps) : Mdl N (fun i => (gp ps i).1) (fun i => (gp ps i).2) := by
  refine ⟨fun i hi => (h.ok i (by rw [h.len]; exact hi)).2.1, fun i j hi hj hne => ?_⟩
  have hl := h.len
  rcases Nat.lt_or_ge j i with hlt | hge
  · exact (h.meet i j (by omega) hlt).symm
  · have := h.meet j i (by omega) (by omega)
    unfold meetP at this
    have e : E N i j ↔ (nb N j).testBit i = true := by unfold E; rw [hN.sym']
    rw [e, ← this]
    constructor
    · rintro ⟨a, b⟩; exact ⟨b, a⟩
    · rintro ⟨a, b⟩; exact ⟨b, a⟩
theorem spansOf_mdp {N : List Nat} (hN : VN N) (h : ∃ P, Good N P) : MdP N (spansOf N) := by
  have h12 := hN.le
  have hg := rowOf_good h
  obtain ⟨hm, hr⟩ := hg.mdl hN
  have hlen : (spansOf N).length = N.length := by simp [spansOf]
  have hget : ∀ i, i < N.length → gp (spansOf N) i = (frm (rowOf N) i, (tto (rowOf N) i : Int)) := fun i hi => by
    rw [← gp_get (by rw [hlen]; exact hi)]
    simp [spansOf]
  have hfew : (rowOf N).length ≤ 12 := by
    have := mcl_few hN ((good_iff hN).1 h).1
    rw [hg.few]; omega
  refine ⟨hlen, fun i hi => ?_, fun i j hi hj => ?_⟩
  · rw [hlen] at hi
    rw [hget i hi]
    obtain ⟨a, b, c⟩ := hr i hi
    exact ⟨a, b, by simp only; omega⟩
  · rw [hlen] at hi
    unfold meetP
    rw [hget i hi, hget j (by omega)]
    exact (hm.meet i j hi (by omega) (by omega)).symm
theorem bne_of {A B : Prop} [Decidable A] [Decidable B] {x y : Prop} (h1 : ¬ (A ↔ B) → x) (h2 : (A ↔ B) → y) : condP ((decide A) != (decide B)) x y := by
  by_cases a : A <;> by_cases b : B <;> simp only [a, b, decide_true, decide_false] <;> first
    | exact h2 (by simp [a, b])
    | exact h1 (by simp [a, b])
theorem fls_of {B : Prop} [Decidable B] {x y : Prop} (h1 : B → x) (h2 : ¬ B → y) : condP (false != (decide B)) x y := by
  by_cases b : B <;> simp only [b, decide_true, decide_false] <;> first
    | exact h2 b
    | exact h1 b
theorem modelled_c {w : World} {v u : Value} {N : List Nat} {ps : List (Int × Int)} (hs : SlI w v (ofN N)) (hu : SlP w u ps) (hN : VN N) {b : Bool} (hb : b = true ↔ MdP N ps) : Calls Tryd.prog 36 #[v, u] w (Ret w (.bool b)) := by
  refine f36_calls _ _ ?_
  have h12 := hN.le
  have no : ∀ {w'}, Grow w w' → ¬ MdP N ps → Ret w (.bool b) (.returned (.bool false)) w' := fun hg h => by
    have : b = false := by cases b with | false => rfl | true => exact absurd (hb.1 rfl) h
    subst this
    exact ⟨rfl, hg⟩
  have hur := hu.slR
  refine hur.ln (hs.ln (condP_i (fun h => no (Grow.refl w) fun hm => ?_) fun h => hur.ln ?_))
  · rw [ofN_len, hm.len] at h; simp at h
  have hlen : ps.length = N.length := by rw [ofN_len] at h; simp at h; omega
  refine ⟨fun t w' => ∃ k : Nat, t = k ∧ k ≤ ps.length ∧ Grow w w' ∧ (∀ i, i < k → okP (gp ps i)) ∧ ∀ i j, i < k → j < i → meetP N ps i j, fun t _ => ps.length - t.toNat, ⟨0, rfl, by omega, Grow.refl w, fun i h => by omega, fun i j h => by omega⟩, ?_⟩
  rintro - t w1 ⟨k, rfl, hk, g1, hok, hmt⟩
  refine condD (fun hlt => ?_) (fun hge => ?_)
  · have hkl : k < ps.length := by omega
    refine (hur.grow g1).rd spF_len rfl hkl fun w2 hw2 => ?_
    refine setR (cs := spF _) hw2 rfl (spF_one _) fun w3 g3 _ c3 => ?_
    rw [gp_get hkl] at c3
    have g03 := g1.trans g3
    refine ⟨_, c3 0 _ rfl, condD (fun h => no g03 fun hm => ?_) fun h0 => ⟨_, c3 0 _ rfl, _, c3 1 _ rfl, condD (fun h => no g03 fun hm => ?_) fun h1 => ⟨_, c3 1 _ rfl, condD (fun h => no g03 fun hm => ?_) fun h2 => ?_⟩⟩⟩
    · have := (hm.ok k hkl).1; omega
    · have := (hm.ok k hkl).2.1; omega
    · have := (hm.ok k hkl).2.2; omega
    have hokk : okP (gp ps k) := ⟨by omega, by omega, by omega⟩
    obtain ⟨a0, n0, c0, e0, l0, hh0, m0, hsb, hv'⟩ := (hur.grow g1).upto (K := fun v' => SlR spF w1 v' (ps.take k)) spF_len (ik := .i64) rfl (show k ≤ ps.length by omega) (fun _ h => h)
    refine ⟨a0, n0, c0, e0, l0, hh0, m0, hsb, ?_⟩
    have hv3 := hv'.grow g3
    refine hv'.ln ?_
    have hl' : (ps.take k).length = k := by simp; omega
    rw [hl']
    refine ⟨fun t w' => ∃ j : Nat, t = j ∧ j ≤ k ∧ Grow w3 w' ∧ ∀ i, i < j → meetP N ps k i, fun t _ => k - t.toNat, ⟨0, rfl, by omega, Grow.refl w3, fun i h => by omega⟩, ?_⟩
    rintro - t w4 ⟨j, rfl, hj, g4, hmj⟩
    refine condD (fun hlt2 => ?_) (fun hge2 => ?_)
    · have hjk : j < k := by omega
      refine (hv3.grow g4).rd spF_len rfl (by rw [hl']; exact hjk) fun w5 hw5 => ?_
      refine setR (cs := spF _) hw5 rfl (spF_one _) fun w6 g6 _ c6 => ?_
      have e : (ps.take k)[j]'(by rw [hl']; exact hjk) = gp ps j := by rw [List.getElem_take, gp_get]
      rw [e] at c6
      have g36 := g4.trans g6
      have g06 := g03.trans g36
      have next : ∀ m, meetP N ps k j → inR ((j : Int) + 1) ∧ (∃ j' : Nat, (j : Int) + 1 = j' ∧ j' ≤ k ∧ Grow w3 (dr w6 m) ∧ ∀ i, i < j' → meetP N ps k i) ∧ k - Int.toNat ((j : Int) + 1) < k - Int.toNat (j : Int) := fun m hmm => ⟨by unfold inR; omega, ⟨j + 1, by omega, by omega, g36.dr m, fun i hi => by
        by_cases e : i = j
        · subst e; exact hmm
        · exact hmj i (by omega)⟩, by omega⟩
      refine ⟨_, g36.cell (c3 0 _ rfl), _, c6 1 _ rfl, condD (fun ha => ⟨_, c6 0 _ rfl, _, g36.cell (c3 1 _ rfl), (hs.grow g06).rd rfl (by simpa using (show k < N.length by omega)) ?_⟩) (fun ha => (hs.grow g06).rd rfl (by simpa using (show k < N.length by omega)) ?_)⟩
      · rw [ofN_get, nb_get]
        refine ⟨by omega, fun m => bne_of (fun h => no (g06.dr m) fun hm => h ?_) fun h => next m ?_⟩
        · rw [bitN (by omega), ← show _ ↔ _ from hm.meet k j hkl hjk]
          exact ⟨fun h => ⟨ha, h⟩, fun h => h.2⟩
        · unfold meetP
          rw [← bitN (by omega), ← h]
          exact ⟨fun h => h.2, fun h => ⟨ha, h⟩⟩
      · rw [ofN_get, nb_get]
        refine ⟨by omega, fun m => fls_of (fun h => no (g06.dr m) fun hm => ha ?_) fun h => next m ?_⟩
        · rw [bitN (by omega), ← show _ ↔ _ from hm.meet k j hkl hjk] at h
          exact h.1
        · unfold meetP
          rw [← bitN (by omega)]
          exact ⟨fun h => absurd h.1 ha, fun h' => absurd h' h⟩
    · have : j = k := by omega
      subst this
      refine ⟨by unfold inR; omega, ⟨j + 1, by omega, by omega, g03.trans g4, fun i hi => ?_, fun i i' hi hi' => ?_⟩, by dsimp only; omega⟩
      · by_cases e : i = j
        · subst e; exact hokk
        · exact hok i (by omega)
      · by_cases e : i = j
        · subst e; exact hmj i' hi'
        · exact hmt i i' (by omega) hi'
  · have : k = ps.length := by omega
    subst this
    have : b = true := hb.2 ⟨hlen, hok, hmt⟩
    subst this
    exact ⟨rfl, g1⟩
/-! ## CheckModel -/
theorem idxSpan_c {w : World} {v : Value} {ps : List (Int × Int)} (hs : SlP w v ps) : Calls Tryd.prog 108 #[v, .func (.func 84) #[] #[]] w fun e w' => ∃ r : Int, e = .returned (.int .i64 r) ∧ (0 ≤ r ↔ ∃ i, i < ps.length ∧ ¬ okP (gp ps i)) ∧ Grow w w' := by
  refine f108_calls _ _ ?_
  have hle := hs.len_le
  have hur := hs.slR
  refine hur.ln ⟨fun t w' => ∃ k : Nat, t = k ∧ k ≤ ps.length ∧ Grow w w' ∧ ∀ i, i < k → okP (gp ps i), fun t _ => ps.length - t.toNat, ⟨0, rfl, by omega, Grow.refl w, fun i h => by omega⟩, ?_⟩
  rintro - t w1 ⟨k, rfl, hk, g1, hok⟩
  refine condD (fun hlt => ?_) (fun hge => ?_)
  · have hkl : k < ps.length := by omega
    refine (hur.grow g1).rd spF_len rfl hkl ⟨_, _, _, rfl, rfl, ?_⟩
    rw [gp_get hkl]
    have lit : Calls Tryd.prog 84 #[.agg (spF (gp ps k)).toArray] w1 fun e w2 => ∃ t : Bool, e = .returned (.bool t) ∧ (t = true ↔ ¬ okP (gp ps k)) ∧ Grow w1 w2 := by
      refine f84_calls _ ?_
      refine ⟨_, rfl, fun w2 hw2 => ?_⟩
      have g2 := alloc_grow hw2
      have hrow : w2.heap[w1.heap.size]? = some (.cells (spF (gp ps k)).toArray 72 (0, 0)) := by subst hw2; exact heap_alloc_new w1 _
      have c := row_cells hrow
      refine ⟨_, c 0 _ rfl, condD (fun h => ⟨true, rfl, ⟨fun _ ho => by have := ho.1; omega, fun _ => rfl⟩, g2⟩) fun h0 => ⟨_, c 1 _ rfl, condD (fun h => ⟨true, rfl, ⟨fun _ ho => by have := ho.2.2; omega, fun _ => rfl⟩, g2⟩) fun h1 => ⟨_, c 0 _ rfl, _, c 1 _ rfl, _, rfl, ?_, g2⟩⟩⟩
      rw [decide_eq_true_eq]
      exact ⟨fun h ho => by have := ho.2.1; omega, fun h => by
        refine Int.lt_of_not_ge fun hge => h ⟨by omega, hge, by omega⟩⟩
    refine lit.mono ?_
    rintro e w2 ⟨t, rfl, ht, g2⟩
    refine ⟨t, rfl, condP_i (fun h => ?_) (fun h => ?_)⟩
    · exact ⟨_, rfl, ⟨fun _ => ⟨k, hkl, ht.1 h⟩, fun _ => by omega⟩, g1.trans g2⟩
    · refine ⟨by unfold inR; omega, ⟨k + 1, by omega, by omega, g1.trans g2, fun i hi => ?_⟩, by dsimp only; omega⟩
      by_cases e : i = k
      · subst e
        exact Classical.byContradiction fun hn => by rw [ht.2 hn] at h; cases h
      · exact hok i (by omega)
  · refine ⟨_, rfl, ⟨fun h => by omega, fun ⟨i, hi, hn⟩ => absurd (hok i (by omega)) hn⟩, g1⟩
theorem checkModel_no {w : World} {v u : Value} {G : List Int} (hs : SlI w v G) (hv : ¬ VG G) : Calls Tryd.prog 33 #[v, u] w (Ret w (.tuple #[.bool false, .int .i64 2])) := by
  refine f33_calls _ _ ?_
  refine (valid_c hs (b := false) (by simp [hv])).mono ?_
  rintro e w1 ⟨rfl, g1⟩
  exact ⟨false, rfl, cT rfl ⟨rfl, g1⟩⟩
theorem checkModel_c {w : World} {v u : Value} {N : List Nat} {ps : List (Int × Int)} (hs : SlI w v (ofN N)) (hu : SlP w u ps) (hN : VN N) {b : Bool} (hb : b = true ↔ MdP N ps) : Calls Tryd.prog 33 #[v, u] w (Ret w (.tuple #[.bool b, .int .i64 0])) := by
  refine f33_calls _ _ ?_
  have h12 := hN.le
  have no : ∀ {w'}, Grow w w' → ¬ MdP N ps → Ret w (.tuple #[.bool b, .int .i64 0]) (.returned (.tuple #[.bool false, .int .i64 0])) w' := fun hg h => by
    have : b = false := by cases b with | false => rfl | true => exact absurd (hb.1 rfl) h
    subst this
    exact ⟨rfl, hg⟩
  have hur := hu.slR
  refine (valid_c hs (b := true) (by simp [VG_ofN.2 hN])).mono ?_
  rintro e w0 ⟨rfl, g0⟩
  refine ⟨true, rfl, cF rfl (hur.ln (hs.ln (condP_i (fun h => no g0 fun hm => ?_) fun h => ?_)))⟩
  · rw [ofN_len, hm.len] at h; simp at h
  have hlen : ps.length = N.length := by rw [ofN_len] at h; simp at h; omega
  have cont : Calls Tryd.prog 83 #[u, .func (.func 84) #[] #[]] w0 fun e w' => ∃ t : Bool, e = .returned (.bool t) ∧ (t = true ↔ ∃ i, i < ps.length ∧ ¬ okP (gp ps i)) ∧ Grow w0 w' := by
    refine f83_calls _ _ ?_
    refine (idxSpan_c (SlC.grow hu g0)).mono ?_
    rintro e w' ⟨r, rfl, hr, g⟩
    exact ⟨r, rfl, _, rfl, by rw [decide_eq_true_eq]; exact hr, g⟩
  refine cont.mono ?_
  rintro e w1 ⟨t, rfl, ht, g01⟩
  have g1 := g0.trans g01
  refine ⟨t, rfl, condP_i (fun h => no g1 fun hm => ?_) fun h => hur.ln ?_⟩
  · obtain ⟨i, hi, hn⟩ := ht.1 h
    exact hn (hm.ok i hi)
  have hok : ∀ i, i < ps.length → okP (gp ps i) := fun i hi => Classical.byContradiction fun hn => by rw [ht.2 ⟨i, hi, hn⟩] at h; cases h
  refine ⟨fun t w' => ∃ k : Nat, t = k ∧ k ≤ ps.length ∧ Grow w w' ∧ ∀ i j, i < k → j < i → meetP N ps i j, fun t _ => ps.length - t.toNat, ⟨0, rfl, by omega, g1, fun i j h => by omega⟩, ?_⟩
  rintro - t w1 ⟨k, rfl, hk, g1, hmt⟩
  refine condD (fun hlt => ?_) (fun hge => ?_)
  · have hkl : k < ps.length := by omega
    refine (hur.grow g1).rd spF_len rfl hkl fun w2 hw2 => ?_
    refine setR (cs := spF _) hw2 rfl (spF_one _) fun w3 g3 _ c3 => ?_
    rw [gp_get hkl] at c3
    have g03 := g1.trans g3
    obtain ⟨a0, n0, c0, e0, l0, hh0, m0, hsb, hv'⟩ := (hur.grow g1).upto (K := fun v' => SlR spF w1 v' (ps.take k)) spF_len (ik := .i64) rfl (show k ≤ ps.length by omega) (fun _ h => h)
    refine ⟨a0, n0, c0, e0, l0, hh0, m0, hsb, ?_⟩
    have hv3 := hv'.grow g3
    refine hv'.ln ?_
    have hl' : (ps.take k).length = k := by simp; omega
    rw [hl']
    refine ⟨fun t w' => ∃ j : Nat, t = j ∧ j ≤ k ∧ Grow w3 w' ∧ ∀ i, i < j → meetP N ps k i, fun t _ => k - t.toNat, ⟨0, rfl, by omega, Grow.refl w3, fun i h => by omega⟩, ?_⟩
    rintro - t w4 ⟨j, rfl, hj, g4, hmj⟩
    refine condD (fun hlt2 => ?_) (fun hge2 => ?_)
    · have hjk : j < k := by omega
      refine (hv3.grow g4).rd spF_len rfl (by rw [hl']; exact hjk) fun w5 hw5 => ?_
      refine setR (cs := spF _) hw5 rfl (spF_one _) fun w6 g6 _ c6 => ?_
      have e : (ps.take k)[j]'(by rw [hl']; exact hjk) = gp ps j := by rw [List.getElem_take, gp_get]
      rw [e] at c6
      have g36 := g4.trans g6
      have g06 := g03.trans g36
      have next : meetP N ps k j → inR ((j : Int) + 1) ∧ (∃ j' : Nat, (j : Int) + 1 = j' ∧ j' ≤ k ∧ Grow w3 w6 ∧ ∀ i, i < j' → meetP N ps k i) ∧ k - Int.toNat ((j : Int) + 1) < k - Int.toNat (j : Int) := fun hmm => ⟨by unfold inR; omega, ⟨j + 1, by omega, by omega, g36, fun i hi => by
        by_cases e : i = j
        · subst e; exact hmm
        · exact hmj i (by omega)⟩, by omega⟩
      refine ⟨_, g36.cell (c3 0 _ rfl), _, c6 1 _ rfl, condD (fun ha => ⟨_, c6 0 _ rfl, _, g36.cell (c3 1 _ rfl), (hs.grow g06).rd rfl (by simpa using (show k < N.length by omega)) ?_⟩) (fun ha => (hs.grow g06).rd rfl (by simpa using (show k < N.length by omega)) ?_)⟩
      · rw [ofN_get, nb_get]
        refine ⟨by omega, bne_of (fun h => no g06 fun hm => h ?_) fun h => next ?_⟩
        · rw [bitN (by omega), ← show _ ↔ _ from hm.meet k j hkl hjk]
          exact ⟨fun h => ⟨ha, h⟩, fun h => h.2⟩
        · unfold meetP
          rw [← bitN (by omega), ← h]
          exact ⟨fun h => h.2, fun h => ⟨ha, h⟩⟩
      · rw [ofN_get, nb_get]
        refine ⟨by omega, fls_of (fun h => no g06 fun hm => ha ?_) fun h => next ?_⟩
        · rw [bitN (by omega), ← show _ ↔ _ from hm.meet k j hkl hjk] at h
          exact h.1
        · unfold meetP
          rw [← bitN (by omega)]
          exact ⟨fun h => absurd h.1 ha, fun h' => absurd h' h⟩
    · have : j = k := by omega
      subst this
      refine ⟨by unfold inR; omega, ⟨j + 1, by omega, by omega, g03.trans g4, fun i i' hi hi' => ?_⟩, by dsimp only; omega⟩
      by_cases e : i = j
      · subst e; exact hmj i' hi'
      · exact hmt i i' (by omega) hi'
  · have : k = ps.length := by omega
    subst this
    have : b = true := hb.2 ⟨hlen, hok, hmt⟩
    subst this
    exact ⟨rfl, g1⟩
end Go.Proofs.YtmpjanpmkmlloaaDoor
