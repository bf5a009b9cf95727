/- Contracts: variables, plain questions, why the attacks can't be found, by the program. No condition. -/
import Derived.Test.YtmjpnfapjcfejaaRf
import Derived.Test.YtmjpnfapjcfejaaTh
namespace Go.Proofs.Ytmjpnfapjcfejaa
open Go Go.RowKit VC
set_option linter.unusedSimpArgs false
set_option linter.unusedVariables false

theorem vars7_c {w : World} {v : Value} {xs : List Int} (hs : SlI w v xs) (hx : ∀ x ∈ xs, -9 ≤ x ∧ x ≤ 7) : Calls Try.prog 41 #[v] w (Ret w (.int .i64 (varsL xs : Nat))) := by
  refine f41_calls _ ?_
  have hle := hs.len_le
  have hb := varsL_take hx
  refine hs.ln ⟨fun set t w' => ∃ k : Nat, t = k ∧ k ≤ xs.length ∧ set = ((varsL (xs.take k) : Nat) : Int) ∧ w' = w, fun _ t _ => xs.length - t.toNat, ⟨0, rfl, by omega, rfl, rfl⟩, ?_⟩
  rintro - - t w2 ⟨k, rfl, hk, rfl, rfl⟩
  refine condD (fun hlt => ?_) (fun hge => ?_)
  · have hkl : k < xs.length := by omega
    have hxk := hx _ (List.getElem_mem hkl)
    have ht := List.take_succ_eq_append_getElem hkl
    have hb1 := hb k
    refine hs.rd rfl hkl (condD (fun h0 => ?_) fun h0 => ?_)
    · obtain ⟨n, hn⟩ : ∃ n : Nat, xs[k] = (n : Int) := ⟨xs[k].toNat, by first | omega | (dsimp only; omega)⟩
      have h2 : 2 ^ n < 256 := Nat.pow_lt_pow_right (a := 2) (n := 8) (by omega) (by omega)
      refine ⟨by omega, by unfold inR; omega, ⟨k + 1, by omega, by omega, ?_, rfl⟩, by first | omega | (dsimp only; omega)⟩
      rw [ht, varsL_app, if_pos h0, hn, iShl_one (by omega), iOr_nat (by omega) (by omega), Int.toNat_natCast]
    · refine ⟨by unfold inR; omega, ⟨k + 1, by omega, by omega, ?_, rfl⟩, by first | omega | (dsimp only; omega)⟩
      rw [ht, varsL_app, if_neg h0, Nat.or_zero]
  · have hkl : k = xs.length := by omega
    subst hkl
    exact ⟨by rw [List.take_length], Grow.refl _⟩
/-! ## Plain -/
def plnB (b : List Atm) : Bool := decide (b.map Prod.fst).Nodup
theorem plnB_succ {b : List Atm} {k : Nat} (hk : k < b.length) : plnB (b.take (k + 1)) = (plnB (b.take k) && !((b.take k).any fun a => decide (a.1 = b[k].1))) := by
  rw [Bool.eq_iff_iff]
  unfold plnB
  rw [List.take_succ_eq_append_getElem hk, List.map_append, Bool.and_eq_true, decide_eq_true_eq, decide_eq_true_eq, List.nodup_append, Bool.not_eq_true', ← Bool.not_eq_true, List.any_eq_true]
  constructor
  · rintro ⟨h1, -, h2⟩
    refine ⟨h1, ?_⟩
    rintro ⟨a, ha, e⟩
    exact h2 a.1 (List.mem_map.2 ⟨a, ha, rfl⟩) b[k].1 (by simp) (of_decide_eq_true e)
  · rintro ⟨h1, h2⟩
    refine ⟨h1, by simp, fun x hx y hy e => ?_⟩
    obtain ⟨a, ha, rfl⟩ := List.mem_map.1 hx
    have hy : y = b[k].1 := by simpa using hy
    exact h2 ⟨a, ha, decide_eq_true (e.trans hy)⟩
theorem plnB_bad {b : List Atm} : ∀ {k : Nat}, plnB (b.take k) = false → plnB b = false := fun {k} h => by
  unfold plnB at h ⊢
  rw [decide_eq_false_iff_not] at h ⊢
  intro h2
  apply h
  rw [List.map_take]
  exact h2.sublist (List.take_sublist _ _)
theorem plain1_c {w : World} {r r' : Int} {u : Value} {p : Addr} (c0 : w.cell? (p.add 0) = some (.int .i64 r')) : Calls Try.prog 59 #[.agg #[.int .i64 r, u], .pointer (some p)] w (Ret w (.bool (decide (r = r')))) := by
  refine f59_calls _ _ ⟨_, rfl, fun w1 hw1 => ?_⟩
  have g1 := alloc_grow hw1
  exact ⟨_, boxc hw1 0 _ rfl, _, g1.cell c0, rfl, g1⟩
theorem plain_c {w : World} {hv bv : Value} {b : List Atm} (sb : SlA w bv b) : Calls Try.prog 40 #[.agg #[hv, bv]] w (Ret w (.bool (plnB b))) := by
  refine f40_calls _ ⟨_, rfl, fun w1 hw1 => ?_⟩
  have g1 := alloc_grow hw1
  have hQ := RecV.new hw1
  have hle := SlX.len_le sb
  refine ⟨_, boxc hw1 1 _ rfl, SlX.ln (sb.gr g1) ?_⟩
  refine ⟨fun t w' => ∃ k : Nat, t = k ∧ k ≤ b.length ∧ plnB (b.take k) = true ∧ Grow w1 w', fun t _ => b.length - t.toNat, ⟨0, rfl, by omega, rfl, Grow.refl _⟩, ?_⟩
  rintro - t w11 ⟨k, rfl, hk, hok, g11⟩
  refine condD (fun hlt => ?_) fun hge => ?_
  · have hkl : k < b.length := by omega
    refine locR sb (g1.trans g11) rfl hkl rfl fun w17 u g17 s17 hu hc => ⟨_, ((hQ.grow g11).grow g17).cell (j := 1) rfl, ?_⟩
    have g017 := (g1.trans g11).trans g17
    obtain ⟨ua, un, uc, ue, ul, uh, um, ub, hv'⟩ := SlX.upto (sb.gr g017) (ik := .i64) (K := fun x => SlA w17 x (b.take k)) rfl (Nat.le_of_lt hkl) fun v' hv' => hv'
    refine ⟨ua, un, uc, ue, ul, uh, um, ub, ?_⟩
    refine (containsAtom_c (p := fun a => decide (a.1 = b[k].1)) hv' ⟨59, #[], _, rfl, rfl, fun a ha w' u' g hu' => ?_⟩).mono ?_
    · rw [app1]
      exact plain1_c (g.cell (hc.cell (j := 0) rfl))
    · rintro e w26 ⟨rfl, g26⟩
      refine ⟨_, rfl, condP_i (fun hb => ⟨?_, g017.trans g26⟩) fun hb => ⟨by unfold inR; omega, ⟨k + 1, by omega, by omega, ?_, (g11.trans g17).trans g26⟩, by first | omega | (dsimp only; omega)⟩⟩
      · rw [plnB_bad (k := k + 1) (by rw [plnB_succ hkl, hb]; simp)]
      · rw [plnB_succ hkl, hok, hb]
        rfl
  · have hkl : k = b.length := by omega
    subst hkl
    rw [List.take_length] at hok
    exact ⟨by rw [hok], g1.trans g11⟩
/-! ## Why the attacks can't be found -/
/-- Every atom has its key. -/
def keyB (s : List Int) (b : List Atm) : Bool := b.all fun a => decide (klS s a.1 ≤ a.2.length)
def askN (s h : List Int) (b : List Atm) : Int := if okS s && okQ h b && keyB s b then (if plnB b then 0 else 7) else 2
theorem askN_ok {s h : List Int} {b : List Atm} (h0 : askN s h b = 0) : okS s = true ∧ okQ h b = true ∧ keyB s b = true ∧ plnB b = true := by
  unfold askN at h0
  split at h0
  · rename_i hc
    simp only [Bool.and_eq_true] at hc
    split at h0
    · rename_i hp
      exact ⟨hc.1.1, hc.1.2, hc.2, hp⟩
    · cases h0
  · cases h0
theorem okQ_all {h : List Int} {b : List Atm} (ok : okQ h b = true) : ∀ a ∈ b, okA a = true := fun a ha => by
  simp only [okQ, Bool.and_eq_true, List.all_eq_true] at ok
  exact ok.1.2 a ha
theorem askedN_c {w : World} {sv hv bv : Value} {s h : List Int} {b : List Atm} (hs : SlI w sv s) (hh : SlI w hv h) (hb : SlA w bv b) : Calls Try.prog 22 #[sv, .agg #[hv, bv]] w (Ret w (.int .i64 (askN s h b))) := by
  refine f22_calls _ _ ⟨_, rfl, fun w1 hw1 => ?_⟩
  have g1 := alloc_grow hw1
  have hQ := RecV.new hw1
  have no : ∀ {w'}, Grow w1 w' → (okS s && okQ h b && keyB s b) = false → Ret w (.int .i64 (askN s h b)) (.returned (.int .i64 2)) w' := fun g hn => ⟨by rw [askN, hn]; rfl, g1.trans g⟩
  refine hs.ln (condP_i (fun h6 => no (Grow.refl _) ?_) fun h6 => ?_)
  · have h6 : ¬ s.length = 6 := by simp at h6; omega
    rw [okS, decide_eq_false h6]; simp
  have h6 : s.length = 6 := by simp at h6; omega
  refine (minI_c (hs.grow g1) (by omega)).mono ?_
  rintro e w6 ⟨mn, rfl, hmn, hmin, g6⟩
  refine ⟨_, rfl, condD (fun h9 => no g6 ?_) fun h9 => ?_⟩
  · have : s.all (fun x => decide (0 ≤ x) && decide (x ≤ 3)) = false := by
      rw [← Bool.not_eq_true, List.all_eq_true]
      intro h2
      have := h2 mn hmn
      simp at this
      omega
    rw [okS, this]; simp
  refine (maxI_c (hs.grow (g1.trans g6)) (by omega)).mono ?_
  rintro e w9 ⟨mx, rfl, hmx, hmax, g9⟩
  have g19 := g6.trans g9
  have g09 := g1.trans g19
  refine ⟨_, rfl, condD (fun h => no g19 ?_) fun h3 => ?_⟩
  · have : s.all (fun x => decide (0 ≤ x) && decide (x ≤ 3)) = false := by
      rw [← Bool.not_eq_true, List.all_eq_true]
      intro h2
      have := h2 mx hmx
      simp at this
      omega
    rw [okS, this]; simp
  have hS : okS s = true := by
    rw [okS, decide_eq_true h6, Bool.true_and, List.all_eq_true]
    intro x hx
    have := hmin x hx
    have := hmax x hx
    simp
    omega
  refine ⟨[_, _], rfl, (hQ.grow g19).all, (rest_c (hh.grow g09) (hb.gr g09)).mono ?_⟩
  rintro e w13 ⟨hr, g13⟩
  have g113 := g19.trans g13
  have g013 := g1.trans g113
  rcases hr with ⟨hq, rfl⟩ | ⟨hq, l2, p2, rfl, -, -⟩
  · exact ⟨_, _, rfl, cT rfl (no g113 (by rw [hq]; simp))⟩
  refine ⟨_, _, rfl, cF rfl ⟨_, (hQ.grow g113).cell (j := 1) rfl, SlX.ln (hb.gr g013) ?_⟩⟩
  have oa := okQ_all hq
  refine ⟨fun t w' => ∃ k : Nat, t = k ∧ k ≤ b.length ∧ keyB s (b.take k) = true ∧ Grow w1 w', fun t _ => b.length - t.toNat, ⟨0, rfl, by omega, rfl, g113⟩, ?_⟩
  rintro - t w25 ⟨k, rfl, hk, hok, g25⟩
  have hle := SlX.len_le hb
  refine condD (fun hlt => ?_) fun hge => ?_
  · have hkl : k < b.length := by omega
    refine locR hb (g1.trans g25) rfl hkl rfl fun w31 u g31 s31 hu hc => ?_
    have g131 := g25.trans g31
    have oA := okA_iff.1 (oa _ (List.getElem_mem hkl))
    obtain ⟨hi, e, h3⟩ := okS_get hS oA.1 oA.2.1
    refine ⟨_, hc.cell (j := 1) rfl, hu.ln ⟨_, hc.cell (j := 0) rfl, (hs.grow (g1.trans g131)).rd (by omega) hi fun d => ?_⟩⟩
    have gd : Grow w31 (dr w31 d.1) := (Grow.refl w31).dr d.1
    rw [e]
    refine condD (fun hlt2 => no (g131.trans gd) ?_) fun hge2 => ⟨by unfold inR; omega, ⟨k + 1, by omega, by omega, ?_, g131.trans gd⟩, by first | omega | (dsimp only; omega)⟩
    · have : keyB s b = false := by
        rw [← Bool.not_eq_true, keyB, List.all_eq_true]
        intro h2
        have := h2 _ (List.getElem_mem hkl)
        rw [decide_eq_true_eq] at this
        omega
      rw [this, Bool.and_false]
    · rw [keyB, List.take_succ_eq_append_getElem hkl, List.all_append, Bool.and_eq_true]
      exact ⟨hok, by simp; omega⟩
  · have hkl : k = b.length := by omega
    subst hkl
    rw [List.take_length] at hok
    refine ⟨[_, _], rfl, (hQ.grow g25).all, (plain_c (hb.gr (g1.trans g25))).mono ?_⟩
    rintro e w44 ⟨rfl, g44⟩
    have hc : (okS s && okQ h b && keyB s b) = true := by rw [hS, hq, hok]; rfl
    refine ⟨_, rfl, condP_i (fun hp => ⟨?_, (g1.trans g25).trans g44⟩) fun hp => ⟨?_, (g1.trans g25).trans g44⟩⟩
    · have hp : plnB b = false := by simpa using hp
      rw [askN, hc, hp]; rfl
    · have hp : plnB b = true := by simpa using hp
      rw [askN, hc, hp]; rfl
end Go.Proofs.Ytmjpnfapjcfejaa
