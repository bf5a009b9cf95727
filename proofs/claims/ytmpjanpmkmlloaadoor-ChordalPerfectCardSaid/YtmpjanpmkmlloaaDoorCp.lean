/- Contracts of package chordal: what is reached, three nodes that are apart. The table of bits is laid (Tab). -/
import Derived.Test.YtmpjanpmkmlloaaDoorCe
import Derived.Test.YtmpjanpmkmlloaaDoorCi
import Derived.Test.YtmpjanpmkmlloaaDoorGa
import Derived.Test.YtmpjanpmkmlloaaDoorVp
namespace Go.Proofs.YtmpjanpmkmlloaaDoor
open Go Go.RowKit VC
set_option linter.unusedSimpArgs false
set_option linter.unusedVariables false

theorem reached_c {w : World} {v : Value} {N : List Nat} (hs : SlI w v (ofN N)) (hN : VN N) {x T : Nat} (hx : x < N.length) (hT2 : T < 2 ^ N.length) (hxT : T.testBit x = true) (hT : Tab w) :
    Calls Tryd.prog 107 #[v, .int .i64 (x : Int), .int .i64 (T : Int)] w fun e w' => ∃ r : Nat, e = .returned (.int .i64 (r : Int)) ∧ r < 2 ^ N.length ∧ (∀ j, r.testBit j = true ↔ Rch N (fun j => T.testBit j = true) x j) ∧ Grow w w' := by
  refine f107_calls _ _ _ ?_
  have h12 := hN.le
  have hp := hN.pow
  have hx12 : 2 ^ x < 2 ^ N.length := Nat.pow_lt_pow_right (by omega) hx
  refine ⟨by omega, ?_⟩
  rw [iShl_one (by omega)]
  refine ⟨fun set w' => ∃ s : Nat, set = (s : Int) ∧ s < 2 ^ N.length ∧ s.testBit x = true ∧ (∀ j, s.testBit j = true → Rch N (fun j => T.testBit j = true) x j) ∧ Grow w w',
    fun set _ => 13 - pc set.toNat, ⟨2 ^ x, rfl, hx12, by rw [two_bit]; simp, fun j hj => ?_, Grow.refl w⟩, ?_⟩
  · rw [two_bit, decide_eq_true_eq] at hj
    subst hj
    exact .base hxT
  rintro - set w1 ⟨s, rfl, hs2, hsx, hsR, g1⟩
  have hs4 : s < 4096 := by omega
  refine (nodes_c hs4 (hT.grow g1)).mono ?_
  rintro e w2 ⟨u, rfl, hu, g2⟩
  have g02 := g1.trans g2
  refine ⟨u, rfl, hu.slI.ln ?_⟩
  rw [ofN_len]
  refine ⟨fun next t w' => ∃ (k m : Nat), t = k ∧ k ≤ (els s).length ∧ next = (m : Int) ∧ m < 2 ^ N.length ∧ (∀ j, s.testBit j = true → m.testBit j = true) ∧ (∀ j, m.testBit j = true → Rch N (fun j => T.testBit j = true) x j) ∧ (∀ i (hi : i < (els s).length), i < k → ∀ j, E N (els s)[i] j → T.testBit j = true → m.testBit j = true) ∧ w' = w2,
    fun _ t _ => (els s).length - t.toNat, ⟨0, s, rfl, by omega, rfl, hs2, fun _ h => h, hsR, fun i hi h => by omega, rfl⟩, ?_⟩
  rintro - next t w' ⟨k, m, rfl, hk, rfl, hm, hsm, hmR, hcl, rfl⟩
  have hm4 : m < 4096 := by omega
  refine condD (fun hlt => ?_) (fun hge => ?_)
  · have hkl : k < (els s).length := by omega
    have hmem := mem_els.1 (List.getElem_mem hkl)
    have hil := bit_lt hs2 hmem.2
    refine hu.slI.rd rfl (by simpa using hkl) ?_
    rw [ofN_get]
    refine (hs.grow g02).rd rfl (by simpa using hil) ?_
    rw [ofN_get, nb_get (N := N), and_expr (hN.nb_lt' _) (by omega)]
    have ha : nb N (els s)[k] &&& T < 2 ^ N.length := Nat.lt_of_le_of_lt Nat.and_le_left (hN.nb_lt _)
    rw [iOr_nat (by omega) (by omega)]
    refine ⟨by unfold inR; have : (els s).length ≤ 12 := pc_le s; omega, ⟨k + 1, _, by omega, by omega, rfl, Nat.or_lt_two_pow hm ha, fun j hj => ?_, fun j hj => ?_, fun i hi hik j he hj => ?_, rfl⟩, by dsimp only; omega⟩
    · rw [Nat.testBit_or, hsm j hj]; rfl
    · rw [Nat.testBit_or, Bool.or_eq_true, Nat.testBit_and, Bool.and_eq_true] at hj
      rcases hj with hj | ⟨h1, h2⟩
      · exact hmR j hj
      · exact .step (hsR _ hmem.2) h1 h2
    · rw [Nat.testBit_or, Bool.or_eq_true, Nat.testBit_and, Bool.and_eq_true]
      by_cases e : i = k
      · subst e; exact .inr ⟨he, hj⟩
      · exact .inl (hcl i hi (by omega) j he hj)
  · have hkl : k = (els s).length := by omega
    subst hkl
    refine condD (fun heq => ?_) (fun hne => ?_)
    · have heq : m = s := by omega
      subst heq
      refine ⟨m, rfl, hs2, fun j => ⟨hsR j, fun h => ?_⟩, g02⟩
      induction h with
      | base _ => exact hsx
      | @step a b h1 he ht ih =>
        obtain ⟨i, hi, e⟩ := List.mem_iff_getElem.1 (mem_els.2 ⟨bit_lt (n := 12) hs4 ih, ih⟩ : a ∈ els m)
        exact hcl i hi hi b (by rw [e]; exact he) ht
    · have hne : m ≠ s := fun e => hne (by omega)
      refine ⟨⟨m, rfl, hm, hsm x hsx, hmR, g02⟩, ?_⟩
      have := pc_grow hm4 hsm hne
      have := pc_le m
      dsimp only
      simp only [Int.toNat_natCast]
      omega
/-! ## Arrays of three -/
def v3 (a b c : Nat) : Array Value := #[.int .i64 (a : Int), .int .i64 (b : Int), .int .i64 (c : Int)]
theorem v3_one (a b c : Nat) : ∀ v ∈ (v3 a b c).toList, v.oneCell' = true := by
  intro v hv
  simp [v3] at hv
  rcases hv with rfl | rfl | rfl <;> rfl
theorem apart_c {w : World} {v : Value} {N : List Nat} (hs : SlI w v (ofN N)) (hN : VN N) {a b c : Nat} (ha : a < N.length) (hb : b < N.length) (hc : c < N.length) (hT : Tab w) {r : Bool} (hr : r = true ↔ AT N a b c) : Calls Tryd.prog 82 #[v, .agg (v3 a b c)] w (Ret w (.bool r)) := by
  refine f82_calls _ _ ?_
  have h12 := hN.le
  have hp := hN.pow
  rw [← ap_AT hN ha hb hc] at hr
  have no : ∀ {w'}, Grow w w' → ¬ (apP N a b c ∧ apP N b c a ∧ apP N c a b) → Ret w (.bool r) (.returned (.bool false)) w' := fun hg h => by
    have : r = false := by cases r with | false => rfl | true => exact absurd (hr.1 rfl) h
    subst this
    exact ⟨rfl, hg⟩
  refine ⟨v3 a b c, rfl, fun w1 hw1 => ?_⟩
  have g1 := alloc_grow hw1
  have hrow : w1.heap[w.heap.size]? = some (.cells (v3 a b c) 45 (0, 0)) := by subst hw1; exact heap_alloc_new w _
  have hcell := row_cells hrow
  refine ⟨(v3 a b c).toList, rfl, hcell, ?_⟩
  refine ⟨fun t w' => ∃ k : Nat, t = k ∧ k ≤ 3 ∧ Grow w1 w' ∧ (0 < k → apP N a b c) ∧ (1 < k → apP N b c a) ∧ (2 < k → apP N c a b), fun t _ => 3 - t.toNat, ⟨0, rfl, by omega, Grow.refl w1, fun h => by omega, fun h => by omega, fun h => by omega⟩, ?_⟩
  rintro - t w2 ⟨k, rfl, hk, g2, p0, p1, p2'⟩
  have g02 := g1.trans g2
  have cell : ∀ (j : Nat) (u : Value), (v3 a b c).toList[j]? = some u → w2.cell? (Addr.add ⟨w.heap.size, 0, none⟩ j) = some u := fun j u h => g2.cell (hcell j u h)
  refine condD (fun hlt => ?_) (fun hge => ?_)
  · have step : ∀ (z x y : Nat), z < N.length → x < N.length → y < N.length → (¬ apP N z x y → ¬ (apP N a b c ∧ apP N b c a ∧ apP N c a b)) → ∀ m w3, Grow (dr w2 m) w3 → ∀ {K : World → Prop}, (apP N z x y → ∀ w4, Grow w1 w4 → K w4) →
        condP (decide ((x : Int) = (y : Int))) (Ret w (.bool r) (.returned (.bool false)) w3) (∃ (a_v23 : Addr) (n_v24 c_v25 : Nat), v = Value.slice (some a_v23) n_v24 c_v25 ∧ ((0 : Int) ≤ (x : Int) ∧ (x : Int) < (n_v24 : Int)) ∧ ∃ t26 : Int, w3.cell? (a_v23.add (Int.toNat (x : Int) * 1)) = some (.int .i64 t26) ∧ (0 : Int) ≤ (y : Int) ∧ condP (decide ((iAnd .i64 (iShr .i64 t26 (y : Int)) 1) = (1 : Int))) (Ret w (.bool r) (.returned (.bool false)) w3) ((0 : Int) ≤ (x : Int) ∧ condP (decide ((iAnd .i64 (iShr .i64 (iAndNot .i64 (iAndNot .i64 ((al N : Nat) : Int) ((nb N z : Nat) : Int)) (iShl .i64 1 (z : Int))) (x : Int)) 1) = (0 : Int))) (Ret w (.bool r) (.returned (.bool false)) w3) (Calls Tryd.prog 107 #[v, (.int .i64 (x : Int)), (.int .i64 (iAndNot .i64 (iAndNot .i64 ((al N : Nat) : Int) ((nb N z : Nat) : Int)) (iShl .i64 1 (z : Int))))] w3 fun e_v28 w4 => ∃ t29 : Int, e_v28 = .returned (.int .i64 t29) ∧ (0 : Int) ≤ (y : Int) ∧ condP (decide ((iAnd .i64 (iShr .i64 t29 (y : Int)) 1) = (0 : Int))) (Ret w (.bool r) (.returned (.bool false)) w4) (K w4)))) := fun z x y hz hx hy hbad m w3 g3 K hK => by
      have g03 := (g02.dr m).trans g3
      have g13 := (g2.dr m).trans g3
      have haw : iAndNot .i64 (iAndNot .i64 ((al N : Nat) : Int) ((nb N z : Nat) : Int)) (iShl .i64 1 (z : Int)) = ((away N z : Nat) : Int) := by
        have := al_lt N
        rw [clq_expr (by omega) (hN.nb_lt' z) (by omega)]; rfl
      have haw4 := Nat.lt_of_lt_of_le (away_lt N z) hp
      rw [haw]
      refine condD (fun h => no g03 (hbad fun hq => hq.1 (by omega))) fun hne => (hs.grow g03).rd rfl (by simpa using hx) ?_
      rw [ofN_get, nb_get]
      refine ⟨by omega, condD (fun h => no g03 (hbad fun hq => hq.2.1 ((bit_ed (by omega)).1 h))) fun hne2 => ⟨by omega, ?_⟩⟩
      rw [bit_ed (by omega)] at hne2
      rw [iBit _ (by omega), ibit_nat]
      refine condD (fun h => no g03 (hbad fun hq => ?_)) fun hin => ?_
      · rw [hq.2.2.1] at h; simp at h
      have hin : (away N z).testBit x = true := by cases h : (away N z).testBit x with | true => rfl | false => simp [h] at hin
      refine (reached_c (hs.grow g03) hN hx (away_lt N z) hin (hT.grow g03)).mono ?_
      rintro e w4 ⟨q, rfl, hq2, hqR, g4⟩
      refine ⟨_, rfl, by omega, ?_⟩
      rw [iBit _ (by omega), ibit_nat]
      refine condD (fun h => no (g03.trans g4) (hbad fun hq => ?_)) fun h => ?_
      · rw [(hqR y).2 hq.2.2.2] at h; simp at h
      · have : q.testBit y = true := by cases h2 : q.testBit y with | true => rfl | false => simp [h2] at h
        exact hK ⟨fun e => hne (by omega), hne2, hin, (hqR y).1 this⟩ w4 (g13.trans g4)
    have hall : ∀ m w', Grow (dr w2 m) w' → Calls Tryd.prog 66 #[v] w' fun e w'' => e = .returned (.int .i64 ((al N : Nat) : Int)) ∧ Grow w' w'' := fun m w' g' => by
      have := all_c (hs.grow ((g02.dr m).trans g')) (by simpa using h12)
      rw [ofN_len] at this
      exact this
    have hrd : ∀ m z, z < N.length → ∀ {K : Int → Prop}, K ((nb N z : Nat) : Int) → ∃ (a : Addr) (n c : Nat), v = Value.slice (some a) n c ∧ ((0 : Int) ≤ (z : Int) ∧ (z : Int) < (n : Int)) ∧ ∃ t : Int, (dr w2 m).cell? (a.add (Int.toNat (z : Int) * 1)) = some (.int .i64 t) ∧ K t := fun m z hz {K} hK =>
      (hs.grow (g02.dr m)).rd rfl (by simpa using hz) (by rw [ofN_get, nb_get]; exact hK)
    rcases (show k = 0 ∨ k = 1 ∨ k = 2 by omega) with rfl | rfl | rfl
    · refine ⟨⟨by omega, by omega⟩, _, ⟨_, rfl, rfl⟩, by unfold inR; omega, by omega, ⟨by decide, by decide⟩, _, cell 1 _ rfl, by unfold inR; omega, by omega, ⟨by decide, by decide⟩, _, cell 2 _ rfl, fun m => ⟨_, hall m, hrd m a ha ⟨by omega, fun w3 g3 => step a b c ha hb hc (fun h hh => h hh.1) m w3 g3 fun hq w4 g4 => ?_⟩⟩⟩
      exact ⟨by unfold inR; omega, ⟨1, rfl, by omega, g4, fun _ => hq, fun h => by omega, fun h => by omega⟩, by dsimp only; omega⟩
    · refine ⟨⟨by omega, by omega⟩, _, ⟨_, rfl, rfl⟩, by unfold inR; omega, by omega, ⟨by decide, by decide⟩, _, cell 2 _ rfl, by unfold inR; omega, by omega, ⟨by decide, by decide⟩, _, cell 0 _ rfl, fun m => ⟨_, hall m, hrd m b hb ⟨by omega, fun w3 g3 => step b c a hb hc ha (fun h hh => h hh.2.1) m w3 g3 fun hq w4 g4 => ?_⟩⟩⟩
      exact ⟨by unfold inR; omega, ⟨2, rfl, by omega, g4, fun _ => p0 (by omega), fun _ => hq, fun h => by omega⟩, by dsimp only; omega⟩
    · refine ⟨⟨by omega, by omega⟩, _, ⟨_, rfl, rfl⟩, by unfold inR; omega, by omega, ⟨by decide, by decide⟩, _, cell 0 _ rfl, by unfold inR; omega, by omega, ⟨by decide, by decide⟩, _, cell 1 _ rfl, fun m => ⟨_, hall m, hrd m c hc ⟨by omega, fun w3 g3 => step c a b hc ha hb (fun h hh => h hh.2.2) m w3 g3 fun hq w4 g4 => ?_⟩⟩⟩
      exact ⟨by unfold inR; omega, ⟨3, rfl, by omega, g4, fun _ => p0 (by omega), fun _ => p1 (by omega), fun _ => hq⟩, by dsimp only; omega⟩
  · have hk3 : k = 3 := by omega
    subst hk3
    have : r = true := hr.2 ⟨p0 (by omega), p1 (by omega), p2' (by omega)⟩
    subst this
    exact ⟨rfl, g02⟩
end Go.Proofs.YtmpjanpmkmlloaaDoor
