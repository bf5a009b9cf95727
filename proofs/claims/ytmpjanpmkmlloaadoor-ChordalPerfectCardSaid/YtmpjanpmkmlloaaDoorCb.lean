/- Contracts of package chordal and of its reference, first part: validity, cliques, orders. The table of bits is laid (Tab). -/
import Derived.Test.YtmpjanpmkmlloaaDoorCa
namespace Go.Proofs.YtmpjanpmkmlloaaDoor
open Go Go.RowKit VC
set_option linter.unusedSimpArgs false
set_option linter.unusedVariables false

abbrev OwnI (w : World) (B : Nat) (v : Value) (xs : List Int) : Prop := Own w B 3 1 v xs.length (xs.map encI)
theorem OwnI.slI {w : World} {B : Nat} {v : Value} {xs : List Int} (h : OwnI w B v xs) : SlI w v xs := Own.slI h
theorem lt63 {s : Nat} (h : s < 4096) : s < 9223372036854775808 := by omega
theorem p2 {i : Nat} (h : i < 12) : 2 ^ i < 9223372036854775808 := by
  have := Nat.pow_lt_pow_right (a := 2) (by omega) h
  omega
/-- append of one int onto a slice of the call's own. -/
theorem pappI {w w1 : World} {B : Nat} {v : Value} {x : Int} {xs : List Int} (hw : w1 = w.alloc (.cells #[.int .i64 x] 3)) (hown : OwnI w B v xs) (hB : B ≤ w.heap.size) (hlen : xs.length ≤ 1000000) {K : Value → World → Prop}
    (hk : ∀ v' w', OwnI w' B v' (xs ++ [x]) → Fr (fun k => some k = v.ownBlock) w1 w' → K v' w') : PApp Tryd.prog 22 22 v (.slice (some ⟨w.heap.size, 0, none⟩) 1 1) w1 K := by
  refine papp1 el_int hw hown rfl hB (by omega) (by omega) ?_
  intro v' w' ho hf _
  refine hk v' w' ?_ hf
  have e : (xs ++ [x]).length = xs.length + 1 := by simp
  have e2 : (xs ++ [x]).map encI = xs.map encI ++ [.int .i64 x] := by simp [encI]
  unfold OwnI
  rw [e, e2]
  exact ho
theorem own_grow {w0 w w1 w' : World} {B : Nat} {v : Value} {xs : List Int} {o : Obj} (hg : Grow w0 w) (hown : OwnI w B v xs) (hB : w0.heap.size ≤ B) (hw : w1 = w.alloc o) (hf : Fr (fun k => some k = v.ownBlock) w1 w') : Grow w0 w' :=
  (hg.trans (alloc_grow hw)).fr hf fun i hi e => by have := hown.lt e.symm; omega
theorem VC.Box.dr {w : World} {b : Nat} {v : Value} (h : Box w b v) (m : Nat) : Box (dr w m) b v := h.grow ((Grow.refl w).dr m)

/-! ## Sets -/
theorem nodes_c {s : Nat} (h : s < 4096) {w : World} (hT : Tab w) : Calls Tryd.prog 75 #[.int .i64 (s : Int)] w fun e w' => ∃ v, e = .returned v ∧ OwnI w' w.heap.size v (ofN (els s)) ∧ Grow w w' := by
  refine f75_calls _ ?_
  refine ⟨fun t out w' => ∃ (s' : Nat) (done : List Nat), t = (s' : Int) ∧ s' < 4096 ∧ els s = done ++ els s' ∧ OwnI w' w.heap.size out (ofN done) ∧ Grow w w', fun t _ _ => t.toNat, ⟨s, [], rfl, h, rfl, Own.nil _ _ _ _, Grow.refl w⟩, ?_⟩
  rintro - t out w1 ⟨s', done, rfl, hs', he, ho, hg⟩
  have hlen : done.length ≤ 12 := by
    have h1 : (els s).length ≤ 12 := by unfold els; exact Nat.le_trans (List.length_filter_le _ _) (by simp)
    rw [he] at h1; simp at h1; omega
  refine condP_i (fun hb => ?_) (fun hb => ?_)
  · have h0 : s' ≠ 0 := by simpa using hb
    obtain ⟨e1, e2, e3⟩ := els_step hs' h0
    rw [wrapU (by omega)]
    refine (tz_c hs' h0 (hT.grow hg)).mono ?_
    rintro e w2 ⟨rfl, hg2⟩
    refine ⟨_, rfl, fun w3 hw3 => ?_⟩
    refine pappI hw3 (ho.grow hg2) (by have := (hg.trans hg2).size; omega) (by simp; omega) ?_
    intro v' w' ho' hf'
    have h1 : ((s' : Int) - 1) = ((s' - 1 : Nat) : Int) := by omega
    refine ⟨by unfold inR; omega, ⟨s' &&& (s' - 1), done ++ [tz s'], ?_, by omega, by rw [he, e1]; simp, ?_, ?_⟩, ?_⟩
    · rw [h1, iAnd_nat (by omega) (by omega)]
    · rw [ofN_app]; exact ho'
    · exact own_grow (hg.trans hg2) (ho.grow hg2) (Nat.le_refl _) hw3 hf'
    · dsimp only
      rw [h1, iAnd_nat (by omega) (by omega)]; omega
  · have h0 : s' = 0 := by simpa using hb
    subst h0
    rw [els_zero, List.append_nil] at he
    rw [he]
    exact ⟨out, rfl, ho, hg⟩
theorem all_c {w : World} {v : Value} {G : List Int} (hs : SlI w v G) (hl : G.length ≤ 12) : Calls Tryd.prog 66 #[v] w (Ret w (.int .i64 ((2 ^ G.length - 1 : Nat) : Int))) := by
  refine f66_calls _ ?_
  have h1 := pow12 hl
  have h2 : 0 < 2 ^ G.length := Nat.pow_pos (by omega)
  have e : (iShl .i64 1 (G.length : Int)) - 1 = ((2 ^ G.length - 1 : Nat) : Int) := by rw [iShl_one (by omega)]; omega
  refine hs.ln ⟨by omega, by rw [e]; unfold inR; omega, ?_, Grow.refl w⟩
  rw [e]
theorem clq_expr {s a k : Nat} (hs : s < 4096) (ha : a < 4096) (hk : k < 12) : iAndNot .i64 (iAndNot .i64 (s : Int) (a : Int)) (iShl .i64 1 (k : Int)) = ((nSub (nSub s a) (2 ^ k) : Nat) : Int) := by
  have h1 : nSub s a < 2 ^ 12 := nSub_lt (n := 12) hs
  rw [iShl_one (by omega), iAndNot_nat (by omega) (by omega), iAndNot_nat (by omega) (p2 hk)]
theorem clq_any {N : List Nat} {s : Nat} : ((ofN (els s)).any fun x => !decide ((iAndNot .i64 (iAndNot .i64 (s : Int) ((nb N x.toNat : Nat) : Int)) (iShl .i64 1 x)) = 0)) = !cliq N s ∨ ¬ (s < 4096 ∧ ∀ i, nb N i < 4096) := by
  by_cases h : s < 4096 ∧ ∀ i, nb N i < 4096
  · refine .inl ?_
    obtain ⟨hs, hn⟩ := h
    rw [Bool.eq_iff_iff]
    simp only [List.any_eq_true, Bool.not_eq_true', cliq, List.all_eq_false, List.mem_range, decide_eq_false_iff_not, ofN, List.mem_map, mem_els]
    constructor
    · rintro ⟨x, ⟨i, ⟨hi, hb⟩, rfl⟩, h⟩
      refine ⟨i, hi, ?_⟩
      rw [Int.toNat_natCast, clq_expr hs (hn i) hi] at h
      simp [hb]
      omega
    · rintro ⟨i, hi, h⟩
      simp at h
      refine ⟨_, ⟨i, ⟨hi, h.1⟩, rfl⟩, ?_⟩
      rw [Int.toNat_natCast, clq_expr hs (hn i) hi]
      omega
  · exact .inr h
/-- The closure of 'clique' in a world in which its boxes stand. -/
theorem clique_lit_c {w : World} {b1 b2 : Nat} {g : Value} {N : List Nat} {s : Nat} (h1 : w.cell? ⟨b1, 0, none⟩ = some (.int .i64 (s : Int))) (h2 : w.cell? ⟨b2, 0, none⟩ = some g) (hg : SlI w g (ofN N)) (hN : VN N) {i : Nat} (hi : i < N.length) :
    Calls Tryd.prog 102 #[.int .i64 (i : Int), .pointer (some ⟨b1, 0, none⟩), .pointer (some ⟨b2, 0, none⟩)] w
      (Ret w (.bool (!decide ((iAndNot .i64 (iAndNot .i64 (s : Int) ((nb N i : Nat) : Int)) (iShl .i64 1 (i : Int))) = 0)))) := by
  refine f102_calls _ _ _ ?_
  refine ⟨_, h1, _, h2, hg.rd rfl (by simpa using hi) ⟨by omega, fun m => ⟨?_, (Grow.refl w).dr m⟩⟩⟩
  rw [ofN_get, nb_get]
theorem clique_c {w : World} {v : Value} {N : List Nat} (hs : SlI w v (ofN N)) (hN : VN N) {s : Nat} (hl : s < 2 ^ N.length) (hT : Tab w) : Calls Tryd.prog 67 #[v, .int .i64 (s : Int)] w (Ret w (.bool (cliq N s))) := by
  refine f67_calls _ _ ?_
  have hs4 : s < 4096 := Nat.lt_of_lt_of_le hl hN.pow
  refine ⟨hs.one, fun w1 hw1 w2 hw2 => ?_⟩
  have g1 := alloc_grow hw1
  have g2 := alloc_grow hw2
  refine ⟨_, alloc_cell0 hw2, ?_⟩
  refine (nodes_c hs4 (hT.grow (g1.trans g2))).mono ?_
  rintro e w3 ⟨u, rfl, ho, g3⟩
  refine ⟨u, rfl, ?_⟩
  have hask : Asks w3 (.func (.func 102) #[] #[.pointer (some ⟨w1.heap.size, 0, none⟩), .pointer (some ⟨w.heap.size, 0, none⟩)]) (ofN (els s))
      (fun x => !decide ((iAndNot .i64 (iAndNot .i64 (s : Int) ((nb N x.toNat : Nat) : Int)) (iShl .i64 1 x)) = 0)) := by
    refine ⟨_, _, _, rfl, rfl, fun x hx w' hw' => ?_⟩
    simp only [ofN, List.mem_map, mem_els] at hx
    obtain ⟨i, ⟨hi, hb⟩, rfl⟩ := hx
    simp only [Int.toNat_natCast]
    exact clique_lit_c (hw'.cell (g3.cell (alloc_cell0 hw2))) (hw'.cell (g3.cell (g2.cell (alloc_cell0 hw1)))) (hs.grow (((g1.trans g2).trans g3).trans hw')) hN (bit_lt hl hb)
  refine (containsFunc_c ho.slI hask).mono ?_
  rintro e w4 ⟨rfl, g4⟩
  refine ⟨_, rfl, ?_, ((g1.trans g2).trans g3).trans g4⟩
  rcases clq_any (N := N) (s := s) with h | h
  · rw [h]; simp
  · exact absurd ⟨hs4, hN.nb_lt'⟩ h

/-! ## Validity -/
theorem shl_le {n : Nat} {x : Int} (hn : n ≤ 12) : iShl .i64 1 (n : Int) ≤ x ↔ 2 ^ n ≤ x := by
  have := pow12 hn
  rw [iShl_one (by omega)]
  have e : ((2 ^ n : Nat) : Int) = (2 : Int) ^ n := by simp
  rw [e]
theorem valid_c {w : World} {v : Value} {G : List Int} (hs : SlI w v G) {b : Bool} (hb : b = true ↔ VG G) : Calls Tryd.prog 64 #[v] w (Ret w (.bool b)) := by
  refine f64_calls _ ?_
  have no : ∀ {w'}, Grow w w' → ¬ VG G → Ret w (.bool b) (.returned (.bool false)) w' := fun hg h => by
    have : b = false := by cases b with | false => rfl | true => exact absurd (hb.1 rfl) h
    subst this
    exact ⟨rfl, hg⟩
  refine hs.ln (condD (fun h => no (Grow.refl w) fun hv => by have := hv.1; omega) fun h1 => condD (fun h => no (Grow.refl w) fun hv => by have := hv.2.1; omega) fun h2 => hs.ln ?_)
  refine ⟨fun t w' => ∃ k : Nat, t = k ∧ k ≤ G.length ∧ Grow w w' ∧ ∀ i (hi : i < G.length), i < k → 0 ≤ G[i] ∧ G[i] < 2 ^ G.length ∧ ibit G[i] i = 0 ∧ ∀ j (hj : j < G.length), ibit G[i] j = ibit G[j] i, fun t _ => G.length - t.toNat,
    ⟨0, rfl, by omega, Grow.refl w, fun i _ h => by omega⟩, ?_⟩
  rintro - t w1 ⟨k, rfl, hk, hg, hall⟩
  refine condD (fun hlt => ?_) (fun hge => ?_)
  · have hkl : k < G.length := by omega
    refine (hs.grow hg).rd rfl hkl ?_
    refine condD (fun h => no hg fun hv => by have := (hv.2.2 k hkl).1; omega) fun h3 => ⟨by omega, condD (fun h => no hg fun hv => ?_) fun h4 => ⟨by omega, condD (fun h => no hg fun hv => ?_) fun h5 => ?_⟩⟩
    · rw [shl_le (by omega)] at h
      have := (hv.2.2 k hkl).2.1; omega
    · rw [iBit _ (by omega), (hv.2.2 k hkl).2.2.1] at h; omega
    · rw [shl_le (by omega)] at h4
      rw [iBit _ (by omega)] at h5
      refine ⟨fun t w' => ∃ m : Nat, t = m ∧ m ≤ G.length ∧ Grow w w' ∧ ∀ j (hj : j < G.length), j < m → ibit G[k] j = ibit G[j] k, fun t _ => G.length - t.toNat, ⟨0, rfl, by omega, hg, fun j _ h => by omega⟩, ?_⟩
      rintro - t w2 ⟨m, rfl, hm, hg2, hrow⟩
      refine condD (fun hlt2 => ?_) (fun hge2 => ?_)
      · have hml : m < G.length := by omega
        refine ⟨by omega, (hs.grow hg2).rd rfl hml ⟨by omega, fun d => ?_⟩⟩
        rw [iBit _ (by omega), iBit _ (by omega)]
        refine condP_i (fun h => no (hg2.dr d) fun hv => ?_) fun h => ?_
        · have := (hv.2.2 k hkl).2.2.2 m hml
          simp [this] at h
        · refine ⟨by unfold inR; omega, ⟨m + 1, by omega, by omega, hg2.dr d, fun j hj hjm => ?_⟩, by dsimp only; omega⟩
          by_cases e : j = m
          · subst e; simpa using h
          · exact hrow j hj (by omega)
      · refine ⟨by unfold inR; omega, ⟨k + 1, by omega, by omega, hg2, fun i hi hik => ?_⟩, by dsimp only; omega⟩
        by_cases e : i = k
        · subst e
          refine ⟨by omega, by omega, ?_, fun j hj => hrow j hj (by omega)⟩
          rcases ibit_01 G[i] i with h | h
          · exact h
          · exact absurd h h5
        · exact hall i hi (by omega)
  · have : b = true := hb.2 ⟨by omega, by omega, fun i hi => hall i hi (by omega)⟩
    subst this
    exact ⟨rfl, hg⟩
theorem refValid_c {w : World} {v : Value} {G : List Int} (hs : SlI w v G) {b : Bool} (hb : b = true ↔ VG G) : Calls Tryd.prog 20 #[v] w (Ret w (.bool b)) := by
  refine f20_calls _ ?_
  have hle := hs.len_le
  have no : ∀ {w'}, Grow w w' → ¬ VG G → Ret w (.bool b) (.returned (.bool false)) w' := fun hg h => by
    have : b = false := by cases b with | false => rfl | true => exact absurd (hb.1 rfl) h
    subst this
    exact ⟨rfl, hg⟩
  refine hs.ln (condD (fun h => no (Grow.refl w) fun hv => by have := hv.1; omega) fun h1 => hs.ln (condD (fun h => no (Grow.refl w) fun hv => by have := hv.2.1; omega) fun h2 => hs.ln ?_))
  refine ⟨fun t w' => ∃ k : Nat, t = k ∧ k ≤ G.length ∧ Grow w w' ∧ ∀ i (hi : i < G.length), i < k → 0 ≤ G[i] ∧ G[i] < 2 ^ G.length ∧ ibit G[i] i = 0 ∧ ∀ j (hj : j < G.length), ibit G[i] j = 1 → 0 ≤ G[j] ∧ ibit G[j] i = 1, fun t _ => G.length - t.toNat,
    ⟨0, rfl, by omega, Grow.refl w, fun i _ h => by omega⟩, ?_⟩
  rintro - t w1 ⟨k, rfl, hk, hg, hall⟩
  refine condD (fun hlt => ?_) (fun hge => ?_)
  · have hkl : k < G.length := by omega
    refine (hs.grow hg).rd rfl hkl ?_
    refine condD (fun h => no hg fun hv => by have := (hv.2.2 k hkl).1; omega) fun h3 => hs.ln ⟨by omega, condD (fun h => no hg fun hv => ?_) fun h4 => ⟨by omega, condD (fun h => no hg fun hv => ?_) fun h5 => hs.ln ?_⟩⟩
    · rw [shl_le (by omega)] at h
      have := (hv.2.2 k hkl).2.1; omega
    · rw [iBit _ (by omega), (hv.2.2 k hkl).2.2.1] at h; omega
    · rw [shl_le (by omega)] at h4
      rw [iBit _ (by omega)] at h5
      refine ⟨fun t w' => ∃ m : Nat, t = m ∧ m ≤ G.length ∧ Grow w w' ∧ ∀ j (hj : j < G.length), j < m → ibit G[k] j = 1 → 0 ≤ G[j] ∧ ibit G[j] k = 1, fun t _ => G.length - t.toNat, ⟨0, rfl, by omega, hg, fun j _ h => by omega⟩, ?_⟩
      rintro - t w2 ⟨m, rfl, hm, hg2, hrow⟩
      refine condD (fun hlt2 => ?_) (fun hge2 => ?_)
      · have hml : m < G.length := by omega
        refine ⟨by omega, ?_⟩
        rw [iBit _ (by omega)]
        refine condD (fun h => ?_) fun h => ?_
        · refine (hs.grow hg2).rd rfl hml (condD (fun h6 => no hg2 fun hv => by have := (hv.2.2 m hml).1; omega) fun h6 => (hs.grow hg2).rd rfl hml ⟨by omega, ?_⟩)
          rw [iBit _ (by omega)]
          refine condD (fun h7 => no hg2 fun hv => ?_) fun h7 => ?_
          · have := (hv.2.2 k hkl).2.2.2 m hml; omega
          · refine ⟨by unfold inR; omega, ⟨m + 1, by omega, by omega, hg2, fun j hj hjm hb => ?_⟩, by dsimp only; omega⟩
            by_cases e : j = m
            · subst e
              rcases ibit_01 G[j] k with h8 | h8
              · exact absurd h8 h7
              · exact ⟨by omega, h8⟩
            · exact hrow j hj (by omega) hb
        · refine ⟨by unfold inR; omega, ⟨m + 1, by omega, by omega, hg2, fun j hj hjm hb => ?_⟩, by dsimp only; omega⟩
          by_cases e : j = m
          · subst e; exact absurd hb h
          · exact hrow j hj (by omega) hb
      · refine ⟨by unfold inR; omega, ⟨k + 1, by omega, by omega, hg2, fun i hi hik => ?_⟩, by dsimp only; omega⟩
        by_cases e : i = k
        · subst e
          refine ⟨by omega, by omega, ?_, fun j hj => hrow j hj (by omega)⟩
          rcases ibit_01 G[i] i with h | h
          · exact h
          · exact absurd h h5
        · exact hall i hi (by omega)
  · have hv : VG G := by
      refine ⟨by omega, by omega, fun i hi => ?_⟩
      have h1 := hall i hi (by omega)
      refine ⟨h1.1, h1.2.1, h1.2.2.1, fun j hj => ?_⟩
      have h2 := hall j hj (by omega)
      rcases ibit_01 G[i] j with h3 | h3 <;> rcases ibit_01 G[j] i with h4 | h4
      · omega
      · have := (h2.2.2.2 i hi h4).2; omega
      · have := (h1.2.2.2 j hj h3).2; omega
      · omega
    have : b = true := hb.2 hv
    subst this
    exact ⟨rfl, hg⟩
/-- The reference's IsClique. -/
theorem isClique_c {w : World} {v : Value} {N : List Nat} (hs : SlI w v (ofN N)) (hN : VN N) {s : Nat} (hl : s < 2 ^ N.length) : Calls Tryd.prog 69 #[v, .int .i64 (s : Int)] w (Ret w (.bool (cliq N s))) := by
  refine f69_calls _ _ ?_
  have hs4 : s < 4096 := Nat.lt_of_lt_of_le hl hN.pow
  have hle := hN.le
  refine hs.ln ⟨fun t w' => ∃ k : Nat, t = k ∧ k ≤ N.length ∧ Grow w w' ∧ ∀ i, i < k → s.testBit i = true → nSub (nSub s (nb N i)) (2 ^ i) = 0, fun t _ => N.length - t.toNat, ⟨0, rfl, by omega, Grow.refl w, fun i h => by omega⟩, ?_⟩
  rintro - t w1 ⟨k, rfl, hk, hg, hall⟩
  have swap : ∀ a, nSub (nSub s (2 ^ k)) a = nSub (nSub s a) (2 ^ k) := fun a => by
    apply Nat.eq_of_testBit_eq; intro i
    simp only [nSub_bit]
    cases s.testBit i <;> cases (2 ^ k).testBit i <;> cases a.testBit i <;> rfl
  refine condD (fun hlt => ?_) (fun hge => ?_)
  · have hkl : k < N.length := by simpa using hlt
    refine ⟨by omega, ?_⟩
    rw [iBit _ (by omega), ibit_nat]
    have hex : iAndNot .i64 (iAndNot .i64 (s : Int) (iShl .i64 1 (k : Int))) ((nb N k : Nat) : Int) = ((nSub (nSub s (nb N k)) (2 ^ k) : Nat) : Int) := by
      have h1 : nSub s (2 ^ k) < 2 ^ 12 := nSub_lt (n := 12) hs4
      rw [iShl_one (by omega), iAndNot_nat (by omega) (p2 (by omega)), iAndNot_nat (by omega) (lt63 (hN.nb_lt' k)), swap]
    refine condD (fun hb => ⟨by omega, (hs.grow hg).rd rfl (by simpa using hkl) fun m => ?_⟩) fun hb m => ?_
    · have hbit : s.testBit k = true := by cases h : s.testBit k with | true => rfl | false => simp [h] at hb
      rw [ofN_get, nb_get, hex]
      refine condP_i (fun h => ⟨?_, hg.dr m⟩) fun h => ?_
      · have : cliq N s = false := by
          simp only [cliq, List.all_eq_false, List.mem_range]
          refine ⟨k, by omega, ?_⟩
          simp [hbit]
          simp at h
          omega
        rw [this]
      · refine ⟨by unfold inR; omega, ⟨k + 1, by omega, by omega, hg.dr m, fun i hi hb => ?_⟩, by dsimp only; omega⟩
        by_cases e : i = k
        · subst e; simp at h; omega
        · exact hall i (by omega) hb
    · have hbit : s.testBit k = false := by cases h : s.testBit k with | true => simp [h] at hb | false => rfl
      refine ⟨by unfold inR; omega, ⟨k + 1, by omega, by omega, hg.dr m, fun i hi hb2 => ?_⟩, by dsimp only; omega⟩
      by_cases e : i = k
      · subst e; rw [hbit] at hb2; cases hb2
      · exact hall i (by omega) hb2
  · refine ⟨?_, hg⟩
    have : cliq N s = true := by
      simp only [cliq, List.all_eq_true, List.mem_range, Bool.or_eq_true, Bool.not_eq_true', beq_iff_eq]
      intro i _
      cases hb : s.testBit i with
      | false => exact .inl rfl
      | true =>
        have hil := bit_lt hl hb
        have : k = N.length := by have h1 : ¬ (k : Int) < ((ofN N).length : Int) := hge; simp at h1; omega
        exact .inr (hall i (by omega) hb)
    rw [this]
end Go.Proofs.YtmpjanpmkmlloaaDoor
