/- Contract: CheckTree. No condition. -/
import Derived.Test.YtddpjdlhgggbkaaTh
namespace Go.Proofs.Ytddpjdlhgggbkaa
open Go Go.RowKit VC
set_option linter.unusedSimpArgs false
set_option linter.unusedVariables false

theorem iter_stay {p : List Int} {a : Int} {t : Nat} (h : iterP p t a < 0) : ∀ {n : Nat}, t ≤ n → iterP p n a = iterP p t a
  | 0, hn => by
    have : t = 0 := by omega
    rw [this]
  | n + 1, hn => by
    by_cases e : t = n + 1
    · rw [e]
    · have h2 := iter_stay h (n := n) (by omega)
      rw [iterP_succ, h2, stepP, if_neg (by omega)]
theorem badP_c {w : World} {a : Addr} {n : Nat} (hc : w.cell? a = some (.int .i64 (n : Int))) {x : Int} : Calls Try.prog 31 #[.int .i64 x, .pointer (some a)] w (Ret w (.bool (decide (x < -1) || decide ((n : Int) ≤ x)))) := by
  refine f31_calls _ _ ?_
  refine condD (fun h => ⟨?_, Grow.refl w⟩) fun h => ⟨_, hc, ?_, Grow.refl w⟩
  · rw [decide_eq_true h, Bool.true_or]
  · rw [decide_eq_false h, Bool.false_or]
theorem checkTree_c {w : World} {hv bv pv : Value} {h p : List Int} {b : List Atm} (sh : SlI w hv h) (sb : SlA w bv b) (sp : SlI w pv p) :
    Calls Try.prog 15 #[.agg #[hv, bv], pv] w fun e w' => (okQ h b = false ∧ e = .returned (.tuple #[.bool false, .int .i64 2]) ∨ okQ h b = true ∧ ∃ c : Bool, e = .returned (.tuple #[.bool c, .int .i64 0]) ∧ (c = true ↔ TreeS (hasV b) b.length p)) ∧ Grow w w' := by
  refine f15_calls _ _ ?_
  refine ⟨_, rfl, fun w1 hw1 => ?_⟩
  have g1 := alloc_grow hw1
  have p0 := boxc hw1 0 hv rfl
  have p1 := boxc hw1 1 bv rfl
  refine ⟨[_, _], rfl, two p0 p1, (valid_c (sh.grow g1) (sb.gr g1)).mono ?_⟩
  rintro e w4 ⟨rfl, g4⟩
  have g04 := g1.trans g4
  refine ⟨_, rfl, condP_i (fun hn => ⟨.inl ⟨by simpa using hn, rfl⟩, g04⟩) fun hk => ?_⟩
  have ok : okQ h b = true := by simpa using hk
  have hbl := okQ_len ok
  have oa : ∀ a ∈ b, okA a = true := fun a ha => by
    simp only [okQ, Bool.and_eq_true, List.all_eq_true] at ok
    exact ok.1.2 a ha
  have bT : ∀ a ∈ b, ∀ x ∈ a.2, -9 ≤ x ∧ x ≤ 7 := fun a ha => (okA_iff.1 (oa a ha)).2.2.2.2
  have no : ∀ {w'}, Grow w w' → ¬ TreeS (hasV b) b.length p → (okQ h b = false ∧ Ending.returned (.tuple #[.bool false, .int .i64 0]) = .returned (.tuple #[.bool false, .int .i64 2]) ∨ okQ h b = true ∧ ∃ c : Bool, Ending.returned (.tuple #[.bool false, .int .i64 0]) = .returned (.tuple #[.bool c, .int .i64 0]) ∧ (c = true ↔ TreeS (hasV b) b.length p)) ∧ Grow w w' := fun g hn => ⟨.inr ⟨ok, false, rfl, by simp [hn]⟩, g⟩
  refine ⟨_, g4.cell p1, SlX.ln (sb.gr g04) fun w11 hw11 => ⟨⟨_, (Box.new hw11).cell⟩, (Box.new hw11).free, fun w12 hw12 => ?_⟩⟩
  obtain ⟨n, hn⟩ : ∃ n, n = b.length := ⟨_, rfl⟩
  rw [← hn] at hw12 hbl no ⊢
  have g11 := alloc_grow hw11
  have hbox := (Box.new hw11).set hw12
  have g12 : Grow w4 w12 := g11.fr (set_fr hw12) fun i hi e => by
    have e : i = w4.heap.size := e
    omega
  have g012 := g04.trans g12
  refine sp.ln ⟨_, hbox.cell, condP_i (fun hl => no g012 fun hT => by have := hT.len; simp at hl; omega) fun hl => ?_⟩
  have hl : p.length = n := by simp at hl; omega
  refine (containsFunc_c (p := fun x => decide (x < -1) || decide ((n : Int) ≤ x)) (sp.grow g012) ⟨_, #[], #[_], rfl, by kernel_rfl, fun x hx w' g => badP_c (g.cell hbox.cell)⟩).mono ?_
  rintro e w17 ⟨rfl, g17⟩
  have g017 := g012.trans g17
  refine ⟨_, rfl, condP_i (fun hb => no g017 fun hT => ?_) fun hgood => ?_⟩
  · obtain ⟨x, hx, hb⟩ := List.any_eq_true.1 hb
    obtain ⟨i, hi, rfl⟩ := List.getElem_of_mem hx
    have := hT.rng i (by omega)
    simp only [List.getD, List.getElem?_eq_getElem hi, Option.getD_some] at this
    simp only [Bool.or_eq_true, decide_eq_true_eq] at hb
    omega
  have hr : ∀ i, i < n → -1 ≤ p.getD i 0 ∧ p.getD i 0 < n := fun i hi => by
    have h1 := List.any_eq_false.1 hgood p[i] (List.getElem_mem (by omega))
    simp only [Bool.or_eq_true, decide_eq_true_eq, not_or] at h1
    simp only [List.getD, List.getElem?_eq_getElem (by omega : i < p.length), Option.getD_some]
    omega
  have gi : ∀ i (hi : i < p.length), p[i] = p.getD i 0 := fun i hi => by simp [List.getD, hi]
  refine sp.ln ⟨fun roots t w' => ∃ k : Nat, t = k ∧ k ≤ n ∧ roots = ((topsK p (fun _ => true) k : Nat) : Int) ∧ (∀ i, i < k → iterP p n (i : Int) = -1) ∧ w' = w17, fun _ t _ => n - t.toNat, ⟨0, rfl, by omega, rfl, fun i hi => by omega, rfl⟩, ?_⟩
  rw [hl]
  rintro - roots t w28 ⟨k, rfl, hk, rfl, hends, rfl⟩
  have tb : ∀ (P : Nat → Bool) (k : Nat), topsK p P k ≤ k := fun P k => by
    have := List.length_filter_le (isTop p P) (List.range k)
    rwa [List.length_range] at this
  refine condD (fun hlt => ?_) fun hge => ?_
  · have hkn : k < n := by omega
    have hkp : k < p.length := by omega
    have htk := tb (fun _ => true) k
    refine (sp.grow g017).rd rfl hkp ?_
    rw [gi k hkp]
    refine ⟨fun r w' => r = ((topsK p (fun _ => true) (k + 1) : Nat) : Int) ∧ w' = w28, ?_, ?_⟩
    · refine condD (fun hneg => ⟨by unfold inR; omega, ?_, rfl⟩) fun hpos => ⟨?_, rfl⟩
      · rw [topsK_succ, if_pos (by simp only [isTop, decide_eq_true hneg]; rfl)]
        omega
      · rw [topsK_succ, if_neg (by simp only [isTop, decide_eq_false hpos]; decide)]
        omega
    · rintro - r w36 ⟨rfl, rfl⟩
      have next : iterP p n (k : Int) = -1 → inR ((k : Int) + 1) ∧ ((∃ k' : Nat, (k : Int) + 1 = k' ∧ k' ≤ n ∧ ((topsK p (fun _ => true) (k + 1) : Nat) : Int) = ((topsK p (fun _ => true) k' : Nat) : Int) ∧ (∀ i, i < k' → iterP p n (i : Int) = -1) ∧ w36 = w36) ∧ n - Int.toNat ((k : Int) + 1) < n - Int.toNat (k : Int)) := fun he => ⟨by unfold inR; omega, ⟨k + 1, by omega, by omega, rfl, fun i hi => by
        by_cases e : i = k
        · rw [e]; exact he
        · exact hends i (by omega), rfl⟩, by omega⟩
      refine ⟨_, g17.cell hbox.cell, fun at' t w' => ∃ j : Nat, t = j ∧ j ≤ n ∧ at' = iterP p j (k : Int) ∧ 0 ≤ at' ∧ at' < n ∧ w' = w36, fun _ t _ => n - t.toNat, ⟨0, rfl, by omega, rfl, by omega, by omega, rfl⟩, ?_⟩
      rintro - at' t w43 ⟨j, rfl, hj, hat, ha0, han, rfl⟩
      refine condD (fun hlt2 => ?_) fun hge2 => ?_
      · have hap : at'.toNat < p.length := by omega
        refine (sp.grow g017).rd (i := at'.toNat) (by omega) hap ?_
        rw [gi _ hap]
        have hst : iterP p (j + 1) (k : Int) = p.getD at'.toNat 0 := by rw [iterP_succ, ← hat, stepP, if_pos ha0]
        have hra := hr at'.toNat (by omega)
        refine condD (fun hneg => cF (decide_eq_false (by omega)) (next ?_)) fun hpos => ⟨by unfold inR; omega, ⟨j + 1, by omega, by omega, hst.symm, by omega, hra.2, rfl⟩, by dsimp only; omega⟩
        rw [iter_stay (t := j + 1) (by rw [hst]; exact hneg) (by omega), hst]
        omega
      · have hjn : j = n := by omega
        subst hjn
        refine cT (decide_eq_true ha0) (no g017 fun hT => ?_)
        have := hT.ends k hkn
        omega
  · have hkn : k = n := by omega
    subst hkn
    refine condP_i (fun hroot => no g017 fun hT => ?_) fun hroot => ?_
    · have := hT.root
      simp at hroot
      omega
    have hroot : topsK p (fun _ => true) k = 1 := by simp at hroot; omega
    refine ⟨fun t w' => ∃ x : Nat, t = x ∧ x ≤ 8 ∧ (∀ y, y < x → topsK p (fun i => hasV b i y) k ≤ 1) ∧ Grow w28 w', fun t _ => 8 - t.toNat, ⟨0, rfl, by omega, fun y hy => by omega, Grow.refl _⟩, ?_⟩
    rintro - t w52 ⟨x, rfl, hx, hthr, g52⟩
    have g052 := g017.trans g52
    refine condD (fun hlt => ?_) fun hge2 => ⟨.inr ⟨ok, true, rfl, ⟨fun _ => ⟨hl, hr, hends, hroot, fun y hy => hthr y (by omega)⟩, fun _ => rfl⟩⟩, g052⟩
    refine ⟨_, (((g4.trans g12).trans g17).trans g52).cell p1, SlX.ln (sb.gr g052) ?_⟩
    rw [← hn]
    refine ⟨fun tops t w' => ∃ i : Nat, t = i ∧ i ≤ k ∧ tops = ((topsK p (fun i => hasV b i x) i : Nat) : Int) ∧ Grow w52 w', fun _ t _ => k - t.toNat, ⟨0, rfl, by omega, rfl, Grow.refl _⟩, ?_⟩
    rintro - tops t w62 ⟨i, rfl, hi, rfl, g62⟩
    have g062 := g052.trans g62
    have htk := tb (fun i => hasV b i x) i
    have bit : ∀ j (hj : j < b.length), (iAnd .i64 (iShr .i64 ((varsL b[j].2 : Nat) : Int) (x : Int)) 1 = 1) ↔ hasV b j x = true := fun j hj => by
      rw [bit_oneT (by omega)]
      simp [hasV, varsOf, List.getD, hj]
    have bit0 : ∀ j (hj : j < b.length), (iAnd .i64 (iShr .i64 ((varsL b[j].2 : Nat) : Int) (x : Int)) 1 = 0) ↔ hasV b j x = false := fun j hj => by
      rw [bit_zero (by omega)]
      simp [hasV, varsOf, List.getD, hj]
    refine condD (fun hlt2 => ?_) fun hge3 => ?_
    · have hib : i < b.length := by omega
      have hip : i < p.length := by omega
      have hri := hr i (by omega)
      have gp1 := ((((g4.trans g12).trans g17).trans g52).trans g62).cell p1
      refine SlX.loc (sb.gr g062) rfl hib rfl fun w68 u g68 s68 hu c0 c1 => ?_
      have yes : ∀ {w'}, isTop p (fun i => hasV b i x) i = true → Grow w68 w' → inR (((topsK p (fun i => hasV b i x) i : Nat) : Int) + 1) ∧ inR ((i : Int) + 1) ∧ ((∃ i' : Nat, (i : Int) + 1 = i' ∧ i' ≤ k ∧ ((topsK p (fun i => hasV b i x) i : Nat) : Int) + 1 = ((topsK p (fun i => hasV b i x) i' : Nat) : Int) ∧ Grow w52 w') ∧ k - Int.toNat ((i : Int) + 1) < k - Int.toNat (i : Int)) := fun ht g => ⟨by unfold inR; omega, by unfold inR; omega, ⟨i + 1, by omega, by omega, by rw [topsK_succ, if_pos ht]; omega, (g62.trans g68).trans g⟩, by omega⟩
      have nop : ∀ {w'}, isTop p (fun i => hasV b i x) i = false → Grow w68 w' → inR ((i : Int) + 1) ∧ ((∃ i' : Nat, (i : Int) + 1 = i' ∧ i' ≤ k ∧ ((topsK p (fun i => hasV b i x) i : Nat) : Int) = ((topsK p (fun i => hasV b i x) i' : Nat) : Int) ∧ Grow w52 w') ∧ k - Int.toNat ((i : Int) + 1) < k - Int.toNat (i : Int)) := fun ht g => ⟨by unfold inR; omega, ⟨i + 1, by omega, by omega, by rw [topsK_succ, ht]; rfl, (g62.trans g68).trans g⟩, by omega⟩
      refine ⟨[_, _], rfl, two c0 c1, _, fun w71 g71 => (atomVars_c (hu.grow g71) (bT _ (List.getElem_mem hib))).mono fun e w72 hh => hh, by omega, condD (fun hbit => ?_) fun hbit w94 g94 => nop ?_ g94⟩
      · have hbit := (bit i hib).1 hbit
        have spr := sp.grow (g062.trans g68)
        refine spr.rd rfl hip ?_
        rw [gi i hip]
        refine condD (fun hneg w79 g79 => yes ?_ g79) fun hpos => ?_
        · simp only [isTop, hbit, decide_eq_true hneg]
          rfl
        · have hpb : (p.getD i 0).toNat < b.length := by omega
          refine ⟨bv, g68.cell gp1, spr.rd rfl hip ?_⟩
          rw [gi i hip]
          obtain ⟨a', n', c', e, hb, cs, hl', hcs, u2, rfl, hu2⟩ := SlX.rd (sb.gr (g062.trans g68)) (j := p.getD i 0) (i := (p.getD i 0).toNat) (by omega) hpb (K := fun cs => ∃ u, cs = [.int .i64 b[(p.getD i 0).toNat].1, u] ∧ SlI w68 u b[(p.getD i 0).toNat].2) fun cs _ hr => hr
          refine ⟨a', n', c', e, hb, [_, _], rfl, hcs, _, fun w89 g89 => (atomVars_c (hu2.grow g89) (bT _ (List.getElem_mem hpb))).mono fun e w72 hh => hh, by omega, fun w93 g93 => condD (fun hz => yes ?_ g93) fun hz => nop ?_ g93⟩
          · have hz := (bit0 _ hpb).1 hz
            simp only [isTop, hbit, hz]
            simp
          · have hz : hasV b (p.getD i 0).toNat x = true := by
              rw [← Bool.not_eq_false]
              exact fun h => hz ((bit0 _ hpb).2 h)
            simp only [isTop, hbit, hz, decide_eq_false hpos]
            rfl
      · have hbit : hasV b i x = false := by
          rw [← Bool.not_eq_true]
          exact fun h => hbit ((bit i hib).2 h)
        simp only [isTop, hbit, Bool.false_and]
    · have hik : i = k := by omega
      subst hik
      refine condD (fun hbig => no g062 fun hT => ?_) fun hsm => ⟨by unfold inR; omega, ⟨x + 1, by omega, by omega, fun y hy => ?_, g52.trans g62⟩, by dsimp only; omega⟩
      · have := hT.thr x (by omega)
        omega
      · by_cases e : y = x
        · rw [e]; omega
        · exact hthr y (by omega)
end Go.Proofs.Ytddpjdlhgggbkaa
