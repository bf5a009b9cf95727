/- Contracts: the reference's valid books, blocks, repairs. No condition. -/
import Derived.Test.YtmjpnfapjcfejaaDoorRi
import Derived.Test.YtmjpnfapjcfejaaDoorSh
import Derived.Test.YtmjpnfapjcfejaaDoorRv
import Derived.Test.YtmjpnfapjcfejaaDoorVr
import Derived.Test.YtmjpnfapjcfejaaDoorMm
namespace Go.Proofs.YtmjpnfapjcfejaaDoor
open Go Go.RowKit VC
set_option linter.unusedSimpArgs false
set_option linter.unusedVariables false

theorem bitR {s i : Nat} (h : i < 63) : (iAnd .i64 (iShr .i64 (s : Int) (i : Int)) 1 = 1) ↔ s.testBit i = true := by
  rw [iBit _ (by omega), ibit_nat]
  cases s.testBit i <;> simp
theorem refSchema_c {w : World} {sv : Value} {s : List Int} (hs : SlI w sv s) : Calls Tryd.prog 35 #[sv] w (Ret w (.bool (okS s))) := by
  refine f35_calls _ ?_
  have hle := hs.len_le
  refine hs.ln ⟨fun t w' => ∃ k : Nat, t = k ∧ k ≤ s.length ∧ w' = w ∧ ∀ j (hj : j < s.length), j < k → 0 ≤ s[j] ∧ s[j] ≤ 3, fun t _ => s.length - t.toNat, ⟨0, rfl, by omega, rfl, fun j _ h => by omega⟩, ?_⟩
  rintro - t w8 ⟨k, rfl, hk, rfl, hok⟩
  have bad : ∀ (hkl : k < s.length), ¬ (0 ≤ s[k] ∧ s[k] ≤ 3) → okS s = false := fun hkl h => by
    rw [← Bool.not_eq_true]
    exact fun h2 => h ((okS_out h2).2 _ (List.getElem_mem hkl))
  refine condD (fun hlt => ?_) fun hge => ?_
  · have hkl : k < s.length := by omega
    refine hs.rd rfl hkl (condD (fun h => ⟨by rw [bad hkl (by omega)], Grow.refl _⟩) fun h0 => condD (fun h => ⟨by rw [bad hkl (by omega)], Grow.refl _⟩) fun h3 => ⟨by unfold inR; omega, ⟨k + 1, by omega, by omega, rfl, fun j hj hlt2 => ?_⟩, by dsimp only; omega⟩)
    by_cases e : j = k
    · subst e; omega
    · exact hok j hj (by omega)
  · refine hs.ln ⟨?_, Grow.refl _⟩
    have hall : (s.all fun x => decide (0 ≤ x) && decide (x ≤ 3)) = true := List.all_eq_true.2 fun x hx => by
      obtain ⟨j, hj, rfl⟩ := List.getElem_of_mem hx
      have := hok j hj (by omega)
      simp [this]
    have e : decide ((s.length : Int) = 6) = decide (s.length = 6) := by
      rw [decide_eq_decide]; omega
    rw [okS, hall, Bool.and_true, e]
theorem okP_snoc (L : List Atm) (f : Atm) : okP (L ++ [f]) = true ↔ okP L = true ∧ ∀ g ∈ L, g.1 = f.1 → g.2.length = f.2.length ∧ g.2 ≠ f.2 := by
  rw [okP_iff, okP_iff, List.pairwise_append]
  simp [List.pairwise_singleton]
theorem okP_bad {L : List Atm} {j k : Nat} (hj : j < k) (hk : k < L.length) (e : L[k].1 = L[j].1) (h : L[k].2.length ≠ L[j].2.length ∨ L[k].2 = L[j].2) : okP L = false := by
  rw [← Bool.not_eq_true, okP_iff]
  intro hp
  have := List.pairwise_iff_getElem.1 hp j k (by omega) hk hj e.symm
  rcases h with h | h
  · exact h this.1.symm
  · exact this.2 h.symm
theorem okR_ref (s : List Int) (L : List Atm) (hP : okP L = true) : (okS s && okFs L && decide (L.length ≤ 12)) = okR s L := by
  unfold okR okFs
  rw [hP, Bool.and_true, Bool.eq_iff_iff]
  simp only [Bool.and_eq_true, decide_eq_true_eq]
  constructor
  · rintro ⟨⟨h1, h2, h3⟩, h4⟩
    exact ⟨⟨h1, h4⟩, h3⟩
  · rintro ⟨⟨h1, h4⟩, h3⟩
    exact ⟨⟨h1, by omega, h3⟩, h4⟩
theorem refValidR_c {w : World} {sv fv : Value} {s : List Int} {L : List Atm} (hs : SlI w sv s) (hl : SlA w fv L) : Calls Tryd.prog 10 #[sv, fv] w (Ret w (.bool (okR s L))) := by
  refine f10_calls _ _ ?_
  have hle := SlX.len_le hl
  refine SlX.ln hl ⟨fun t w' => ∃ k : Nat, t = k ∧ k ≤ L.length ∧ okP (L.take k) = true ∧ Grow w w', fun t _ => L.length - t.toNat, ⟨0, rfl, by omega, rfl, Grow.refl _⟩, ?_⟩
  rintro - t w8 ⟨k, rfl, hk, hok, g8⟩
  refine condD (fun hlt => ?_) fun hge => ?_
  · have hkl : k < L.length := by omega
    refine locR hl g8 rfl hkl rfl fun w14 u g14 s14 hu hc => ?_
    have g014 := g8.trans g14
    obtain ⟨ua, un, uc, ue, ul, uh, um, ub, hv'⟩ := SlX.upto hl (ik := .i64) (K := fun x => SlA w x (L.take k)) rfl (Nat.le_of_lt hkl) fun v' hv' => hv'
    have hlk : (L.take k).length = k := by rw [List.length_take]; omega
    refine ⟨ua, un, uc, ue, ul, uh, um, ub, SlX.ln hv' ?_⟩
    rw [hlk]
    refine ⟨fun t w' => ∃ j : Nat, t = j ∧ j ≤ k ∧ (∀ i (hi : i < L.length), i < j → L[i].1 = L[k].1 → L[i].2.length = L[k].2.length ∧ L[i].2 ≠ L[k].2) ∧ Grow w14 w', fun t _ => k - t.toNat, ⟨0, rfl, by omega, fun i _ h => by omega, Grow.refl _⟩, ?_⟩
    rintro - t w29 ⟨j, rfl, hj, hin, g29⟩
    refine condD (fun hlt2 => ?_) fun hge2 => ?_
    · have hjk : j < k := by omega
      have hjl : j < L.length := by omega
      refine locR hv' (g014.trans g29) rfl (by rw [hlk]; exact hjk) rfl fun w35 u2 g35 s35 hu2 hc2 => ?_
      rw [List.getElem_take] at hu2 hc2
      have hc35 := hc.grow (g29.trans g35)
      have g035 := (g014.trans g29).trans g35
      have next : ∀ {w'}, (L[j].1 = L[k].1 → L[j].2.length = L[k].2.length ∧ L[j].2 ≠ L[k].2) → Grow w35 w' → inR ((j : Int) + 1) ∧ ((∃ j' : Nat, (j : Int) + 1 = j' ∧ j' ≤ k ∧ (∀ i (hi : i < L.length), i < j' → L[i].1 = L[k].1 → L[i].2.length = L[k].2.length ∧ L[i].2 ≠ L[k].2) ∧ Grow w14 w') ∧ k - Int.toNat ((j : Int) + 1) < k - Int.toNat (j : Int)) := fun {w'} h g => ⟨by unfold inR; omega, ⟨j + 1, by omega, by omega, fun i hi hlt3 => by
        by_cases e : i = j
        · subst e; exact h
        · exact hin i hi (by omega), (g29.trans g35).trans g⟩, by omega⟩
      refine ⟨_, hc35.cell (j := 0) rfl, _, hc2.cell (j := 0) rfl, condD (fun he => ?_) fun hne => next (fun e => absurd e.symm hne) (Grow.refl _)⟩
      refine ⟨_, hc35.cell (j := 1) rfl, hu.ln ⟨_, hc2.cell (j := 1) rfl, hu2.ln (condP_i (fun hl2 => ⟨?_, g035⟩) fun hl2 => ?_)⟩⟩
      · have : ¬ L[k].2.length = L[j].2.length := by simp at hl2; omega
        rw [okR, okP_bad hjk hkl he (.inl this), Bool.and_false]
      · have hll : L[k].2.length = L[j].2.length := by simp at hl2; omega
        refine ⟨_, hc35.cell (j := 1) rfl, _, hc2.cell (j := 1) rfl, (refEqual_c (hu.grow g035) (hu2.grow g035)).mono ?_⟩
        rintro e w49 ⟨rfl, rfl⟩
        refine ⟨_, rfl, condD (fun he2 => ⟨?_, g035⟩) fun hne2 => next (fun _ => ⟨hll.symm, fun h => hne2 h.symm⟩) (Grow.refl _)⟩
        rw [okR, okP_bad hjk hkl he (.inr he2), Bool.and_false]
    · have hjk : j = k := by omega
      subst hjk
      refine ⟨by unfold inR; omega, ⟨j + 1, by omega, by omega, ?_, g014.trans g29⟩, by dsimp only; omega⟩
      rw [List.take_succ_eq_append_getElem hkl, okP_snoc]
      refine ⟨hok, fun g hg e => ?_⟩
      obtain ⟨i, hi, rfl⟩ := List.getElem_of_mem hg
      rw [List.getElem_take] at e ⊢
      rw [hlk] at hi
      exact hin i (by omega) hi e
  · have hkl : k = L.length := by omega
    subst hkl
    rw [List.take_length] at hok
    refine (refSchema_c (hs.grow g8)).mono ?_
    rintro e w52 ⟨rfl, g52⟩
    have e0 := okR_ref s L hok
    refine ⟨_, rfl, condP_i (fun h1 => ?_) fun h1 => ⟨?_, g8.trans g52⟩⟩
    · refine (refFacts_c (hl.gr (g8.trans g52))).mono ?_
      rintro e w55 ⟨rfl, g55⟩
      refine ⟨_, rfl, condP_i (fun h2 => SlX.ln hl ⟨?_, (g8.trans g52).trans g55⟩) fun h2 => ⟨?_, (g8.trans g52).trans g55⟩⟩
      · rw [h1, h2, Bool.true_and, Bool.true_and] at e0
        rw [← e0, decide_eq_decide.2 (show ((L.length : Int) ≤ 12) ↔ L.length ≤ 12 by omega)]
      · rw [h2, Bool.and_false, Bool.false_and] at e0
        rw [← e0]
    · rw [h1, Bool.false_and, Bool.false_and] at e0
      rw [← e0]
theorem together_c {w : World} {sv u u' : Value} {s : List Int} {r r' : Int} {xs ys : List Int} (hs : SlI w sv s) (hS : okS s = true) (h0 : 0 ≤ r) (h5 : r ≤ 5) (hu : SlI w u xs) (hu' : SlI w u' ys) (hlen : r = r' → xs.length = ys.length) :
    Calls Tryd.prog 42 #[sv, .agg #[.int .i64 r, u], .agg #[.int .i64 r', u']] w (Ret w (.bool (decide (kF (klS s) (r, xs) = kF (klS s) (r', ys))))) := by
  refine f42_calls _ _ _ ?_
  refine ⟨_, rfl, fun w1 hw1 => ⟨_, rfl, fun w3 hw3 => ?_⟩⟩
  have g1 := alloc_grow hw1
  have g3 := alloc_grow hw3
  have g03 := g1.trans g3
  have hF := (RecV.new hw1).grow g3
  have hG := RecV.new hw3
  refine ⟨_, hF.cell (j := 0) rfl, _, hG.cell (j := 0) rfl, condP_i (fun hne => ⟨?_, g03⟩) fun heq => ?_⟩
  · have hne : ¬ r = r' := by simpa using hne
    rw [decide_eq_false fun e => hne (kF_rel e)]
  have heq : r = r' := by simpa using heq
  subst heq
  have hlen := hlen rfl
  obtain ⟨hi, e, h3⟩ := okS_get hS h0 h5
  refine ⟨_, hF.cell (j := 0) rfl, (hs.grow g03).rd (by omega) hi ⟨_, hF.cell (j := 1) rfl, (hu.grow g03).ln fun d => ?_⟩⟩
  have gd : Grow w3 (dr w3 d.1) := (Grow.refl w3).dr d.1
  have ez : (if (xs.length : Int) < s[r.toNat] then (xs.length : Int) else s[r.toNat]) = ((min (klS s r) xs.length : Nat) : Int) := by
    rw [e]
    split <;> omega
  rw [ez]
  have iff : (kF (klS s) (r, xs) = kF (klS s) (r, ys)) ↔ xs.take (klS s r) = ys.take (klS s r) := by
    unfold kF
    rw [Prod.mk.injEq]
    exact ⟨fun h => h.2, fun h2 => ⟨rfl, h2⟩⟩
  rw [decide_eq_decide.2 iff]
  refine ⟨fun t w' => ∃ k : Nat, t = k ∧ k ≤ min (klS s r) xs.length ∧ xs.take k = ys.take k ∧ Grow w3 w', fun t _ => min (klS s r) xs.length - t.toNat, ⟨0, rfl, by omega, rfl, gd⟩, ?_⟩
  rintro - t w21 ⟨k, rfl, hk, hpre, g21⟩
  have g021 := g03.trans g21
  refine condD (fun hlt => ?_) fun hge => ?_
  · have hkx : k < xs.length := by omega
    have hky : k < ys.length := by omega
    refine ⟨_, (hF.grow g21).cell (j := 1) rfl, (hu.grow g021).rd rfl hkx ⟨_, (hG.grow g21).cell (j := 1) rfl, (hu'.grow g021).rd rfl hky fun d2 => condP_i (fun hne => ⟨?_, g021.dr d2.1⟩) fun heq => ?_⟩⟩
    · have hne : ¬ xs[k] = ys[k] := by simpa using hne
      rw [decide_eq_false]
      intro h
      have h1 : (xs.take (klS s r))[k]? = (ys.take (klS s r))[k]? := by rw [h]
      rw [List.getElem?_take, List.getElem?_take, if_pos (by omega), if_pos (by omega), List.getElem?_eq_getElem hkx, List.getElem?_eq_getElem hky] at h1
      exact hne (Option.some.inj h1)
    · have heq : xs[k] = ys[k] := by simpa using heq
      refine ⟨by unfold inR; omega, ⟨k + 1, by omega, by omega, ?_, g21.dr d2.1⟩, by dsimp only; omega⟩
      rw [List.take_succ_eq_append_getElem hkx, List.take_succ_eq_append_getElem hky, hpre, heq]
  · have hkk : k = min (klS s r) xs.length := by omega
    refine ⟨?_, g021⟩
    rw [decide_eq_true]
    have := hpre
    rw [hkk, take_min, hlen, take_min] at this
    exact this
end Go.Proofs.YtmjpnfapjcfejaaDoor

/- Contracts: the reference's questions. No condition. -/
namespace Go.Proofs.YtmjpnfapjcfejaaDoor
open Go Go.RowKit VC
set_option linter.unusedSimpArgs false
set_option linter.unusedVariables false

section
variable {w : World} {sv fv hv bv : Value} {s h : List Int} {b L : List Atm}
/-- The least and the greatest of a list, if it is not empty. -/
def LowHigh (l : List Int) (lo hi : Int) : Prop := lo ∈ l ∧ hi ∈ l ∧ ∀ x ∈ l, lo ≤ x ∧ x ≤ hi
theorem LowHigh.uniq {l : List Int} {lo hi lo' hi' : Int} (h : LowHigh l lo hi) (h' : LowHigh l lo' hi') : lo = lo' ∧ hi = hi' := by
  have a := h.2.2 _ h'.1
  have b := h.2.2 _ h'.2.1
  have c := h'.2.2 _ h.1
  have d := h'.2.2 _ h.2.1
  exact ⟨by omega, by omega⟩
end
end Go.Proofs.YtmjpnfapjcfejaaDoor

/- Contracts: what the statements about repairs have in common. The table of bits is laid where it is asked (Tab). -/
namespace Go.Proofs.YtmjpnfapjcfejaaDoor
open Go Go.RowKit VC
set_option linter.unusedSimpArgs false
set_option linter.unusedVariables false

theorem few7_c {w : World} {v : Value} {xs : List Int} (hs : SlI w v xs) : Calls Tryd.prog 7 #[v] w fun e w' => ∃ v', e = .returned v' ∧ OwnI w' w.heap.size v' (xs.take 9) ∧ Grow w w' := by
  refine f7_calls _ ?_
  have hle := hs.len_le
  have e : (if 9 < (xs.length : Int) then (9 : Int) else xs.length) = ((min 9 xs.length : Nat) : Int) := by split <;> omega
  refine hs.ln ?_
  rw [e]
  obtain ⟨a, n, c, e1, l, h, m, h2, hv'⟩ := hs.upto (i := min 9 xs.length) (k := .i64) (K := fun x => SlI w x (xs.take 9)) rfl (by omega) fun v' hv' => by rwa [take_min] at hv'
  refine ⟨a, n, c, e1, l, h, m, h2, (clone_c hv' (by simp; omega)).mono ?_⟩
  rintro e w1 ⟨u, rfl, ho, g1⟩
  exact ⟨u, rfl, u, rfl, ho, g1⟩
theorem fill_three {A : Array Value} (h : A.size = 6) {a0 a1 b0 b1 c0 c1 : Value} : Instr.fill (fun i => some (i * 2, 2)) A [(0, .agg #[a0, a1]), (1, .agg #[b0, b1]), (2, .agg #[c0, c1])] = some #[a0, a1, b0, b1, c0, c1] := by
  obtain ⟨l⟩ := A
  match l, h with
  | [x0, x1, x2, x3, x4, x5], _ => rfl
theorem bs3 {P : Program} {t e : TypeId} {bytes : Nat} {z : Value} (hT : ElT P t e 2 bytes z) {a0 a1 b0 b1 c0 c1 : Value} (w : World) {K : Value → World → Prop}
    (hk : ∀ w', w' = w.alloc (.cells #[a0, a1, b0, b1, c0, c1] e) → K (.slice (some ⟨w.heap.size, 0, none⟩) 3 3) w') : ∃ v : Value, ∃ w' : World, (Instr.buildSlice t 3 #[(0, .agg #[a0, a1]), (1, .agg #[b0, b1]), (2, .agg #[c0, c1])]).run P w = .ok v w' ∧ K v w' := by
  obtain ⟨i, hi, hz, hsize, hby⟩ := hT.info
  refine ⟨_, _, ?_, hk _ rfl⟩
  have hs : (sizeOf e).run P w = .ok 2 w := by simp [sizeOf, typeInfo, hi, hsize]
  have hzr : (zeroValue e).run P w = .ok z w := by simp [zeroValue, typeInfo, hi, hz]
  simp only [Instr.buildSlice, Sem.run_bind, underlying_run hT.und, Result.andThen_ok, hs]
  rw [if_neg (by omega), if_neg (by omega)]
  have hf := fill_three (A := (Array.range (3 * 2)).map fun j => z.cells[j % z.cells.size]!) (by simp) (a0 := a0) (a1 := a1) (b0 := b0) (b1 := b1) (c0 := c0) (c1 := c1)
  simp only [Sem.run_bind, hzr, Result.andThen_ok, Sem.run_pure, hf, newRow, run_newObj]
  rfl
theorem awake7_val : okR [1, 1, 1, 1, 1, 1] [(0, [1, 2]), (0, [1, 3]), (0, [2, 3])] = true ∧ blksL [1, 1, 1, 1, 1, 1] [(0, [1, 2]), (0, [1, 3]), (0, [2, 3])] = [0, 0, 2] := by decide +kernel
theorem awake7_c {w : World} : Calls Tryd.prog 13 #[] w (Ret w (.bool true)) := by
  refine f13_calls ?_
  intro w1 hw1 w2 hw2
  have g1 := alloc_grow hw1
  have g2 := alloc_grow hw2
  have hs := slI_lit (xs := [1, 1, 1, 1, 1, 1]) hw1 rfl (by simp)
  have h1 := slI_lit (xs := [1, 2]) hw2 rfl (by simp)
  refine ⟨SlI.one h1, fun w3 hw3 => ?_⟩
  have g3 := alloc_grow hw3
  have h2 := slI_lit (xs := [1, 3]) hw3 rfl (by simp)
  refine ⟨SlI.one h2, fun w4 hw4 => ?_⟩
  have g4 := alloc_grow hw4
  have h3 := slI_lit (xs := [2, 3]) hw4 rfl (by simp)
  refine ⟨SlI.one h3, bs3 el_fact w4 fun w5 hw5 => ?_⟩
  have g5 := alloc_grow hw5
  have hl : SlA w5 (.slice (some ⟨w4.heap.size, 0, none⟩) 3 3) [(0, [1, 2]), (0, [1, 3]), (0, [2, 3])] := by
    have h := Own.lit (B := w4.heap.size) (n := 3) (sz := 2) hw5 (Nat.le_refl _) (by omega) (by simp)
    have := SlX.of_cells (k := 2) (rep := repA) (w := w5) (v := .slice (some ⟨w4.heap.size, 0, none⟩) 3 3) (ps := [([.int .i64 0, .slice (some ⟨w1.heap.size, 0, none⟩) 2 2], (0, [1, 2])), ([.int .i64 0, .slice (some ⟨w2.heap.size, 0, none⟩) 2 2], (0, [1, 3])), ([.int .i64 0, .slice (some ⟨w3.heap.size, 0, none⟩) 2 2], (0, [2, 3]))]) (fun p hp => by
      simp only [List.mem_cons, List.not_mem_nil, or_false] at hp
      rcases hp with rfl | rfl | rfl
      · exact ⟨rfl, _, rfl, SlI.grow h1 ((g3.trans g4).trans g5)⟩
      · exact ⟨rfl, _, rfl, SlI.grow h2 (g4.trans g5)⟩
      · exact ⟨rfl, _, rfl, SlI.grow h3 g5⟩) (by simpa using h.slC)
    simpa using this
  have g05 := (((g1.trans g2).trans g3).trans g4).trans g5
  refine (blocks_c (SlI.grow hs (((g2.trans g3).trans g4).trans g5)) hl).mono ?_
  rintro e w7 ⟨v, rfl, hv, g7⟩
  rw [if_pos awake7_val.1, awake7_val.2] at hv
  refine ⟨_, _, rfl, cT (by rw [if_pos awake7_val.1]; rfl) fun w11 hw11 => ?_⟩
  have g11 := alloc_grow hw11
  have hr := slI_lit (xs := [0, 0, 2]) hw11 rfl (by simp)
  refine (equal_c (hv.grow g11) hr).mono ?_
  rintro e w12 ⟨rfl, g12⟩
  exact ⟨_, rfl, by simp, ((g05.trans g7).trans g11).trans g12⟩
section
variable {w : World} {sv fv hv bv : Value} {s h : List Int} {b L : List Atm}
end
end Go.Proofs.YtmjpnfapjcfejaaDoor

/- Why a question has no answer; the arguments of a statement, one after the other. No condition. -/
namespace Go.Proofs.YtmjpnfapjcfejaaDoor
open Go Go.RowKit VC
set_option linter.unusedSimpArgs false
set_option linter.unusedVariables false

section
variable {w : World} {sv fv hv bv : Value} {s h : List Int} {b L : List Atm}
/-- few(s), Facts(facts), Of(q), the loads taken first. -/
theorem argsG {aq : Addr} (hs : SlI w sv s) (hl : SlA w fv L) (hh : SlI w hv h) (hb : SlA w bv b) (hQ : ∀ {E}, Grow w E → ∀ (j : Nat) (v : Value), [hv, bv][j]? = some v → E.cell? (Addr.add aq j) = some v) {F : Value → Value → Value → World → Prop}
    (hk : ∀ s1 f1 h1 b1 w', SlI w' s1 (s.take 9) → SlA w' f1 (trF L) → SlI w' h1 (h.take 9) → SlA w' b1 (trB b) → Grow w w' → F s1 f1 (.agg #[h1, b1]) w') :
    ∀ m_v3 : DM w, ∃ cs_v4 : List Value, cs_v4.length = 2 ∧ (∀ (j : Nat) (v : Value), cs_v4[j]? = some v → (dr w m_v3.1).cell? (Addr.add aq j) = some v) ∧ Calls Tryd.prog 7 #[sv] (dr w m_v3.1) fun e_v6 w_v5 => ∃ t_v7 : Value, e_v6 = .returned t_v7 ∧ Grow (dr w m_v3.1) w_v5 ∧ Calls Tryd.prog 8 #[fv] w_v5 fun e_v9 w_v8 => ∃ t_v10 : Value, e_v9 = .returned t_v10 ∧ Grow w_v5 w_v8 ∧ Calls Tryd.prog 9 #[(Value.agg cs_v4.toArray)] w_v8 fun e_v12 w_v11 => ∃ t_v13 : Value, e_v12 = .returned t_v13 ∧ Grow w_v8 w_v11 ∧ F t_v7 t_v10 t_v13 w_v11 := by
  intro d
  have gd : Grow w (dr w d.1) := (Grow.refl w).dr d.1
  refine ⟨[_, _], rfl, hQ gd, (few7_c (hs.grow gd)).mono ?_⟩
  rintro e w5 ⟨s1, rfl, o1, g5⟩
  refine ⟨_, rfl, g5, (factsS_c (hl.gr (gd.trans g5))).mono ?_⟩
  rintro e w8 ⟨f1, rfl, o2, g8⟩
  refine ⟨_, rfl, g8, (ofS_c (hh.grow ((gd.trans g5).trans g8)) (hb.gr ((gd.trans g5).trans g8))).mono ?_⟩
  rintro e w11 ⟨h1, b1, rfl, o3, o4, g11⟩
  exact ⟨_, rfl, g11, hk _ _ _ _ _ ((Own.slI o1).grow (g8.trans g11)) (o2.gr g11) o3 o4 (((gd.trans g5).trans g8).trans g11)⟩
end
end Go.Proofs.YtmjpnfapjcfejaaDoor

/- Questions answered atom by atom, with numbers for the variables that are known (0: none): what the rule says, and that it says whether a question is certain. Of no program. No condition. -/
namespace Go.Proofs.YtmjpnfapjcfejaaDoor
open VC
set_option linter.unusedSimpArgs false
set_option linter.unusedVariables false

/-! ## Numbers for variables -/
def mg (m : List Int) (x : Nat) : Int := m.getD x 0
def domM (m : List Int) (x : Nat) : Prop := mg m x ≠ 0
def goneK (m : List Int) (k : Nat) : Nat := (List.range k).foldl (fun s x => if mg m x ≠ 0 then s ||| 2 ^ x else s) 0
def goneN (m : List Int) : Nat := goneK m 8
theorem goneK_succ (m : List Int) (k : Nat) : goneK m (k + 1) = if mg m k ≠ 0 then goneK m k ||| 2 ^ k else goneK m k := by
  unfold goneK
  rw [List.range_succ, List.foldl_append]
  rfl
theorem goneK_bit {m : List Int} {x : Nat} : ∀ k, (goneK m k).testBit x = true ↔ x < k ∧ mg m x ≠ 0
  | 0 => by simp [goneK]
  | k + 1 => by
    rw [goneK_succ]
    have ih := goneK_bit (m := m) (x := x) k
    by_cases h : mg m k ≠ 0
    · rw [if_pos h, bit_or_pow, ih]
      constructor
      · rintro (h1 | rfl)
        · exact ⟨by omega, h1.2⟩
        · exact ⟨by omega, h⟩
      · rintro ⟨h1, h2⟩
        by_cases e : x = k
        · exact .inr e
        · exact .inl ⟨by omega, h2⟩
    · rw [if_neg h, ih]
      constructor
      · rintro ⟨h1, h2⟩
        exact ⟨by omega, h2⟩
      · rintro ⟨h1, h2⟩
        by_cases e : x = k
        · subst e
          exact absurd h2 h
        · exact ⟨by omega, h2⟩
theorem goneK_lt (m : List Int) (k : Nat) : goneK m k < 2 ^ k := Nat.lt_pow_two_of_testBit _ fun x hx => by
  rw [← Bool.not_eq_true, goneK_bit]
  exact fun h => by omega
theorem goneN_lt (m : List Int) : goneN m < 256 := goneK_lt m 8
theorem mg_out {m : List Int} (hm : m.length = 8) {x : Nat} (h : mg m x ≠ 0) : x < 8 := by
  rcases Nat.lt_or_ge x 8 with h1 | h1
  · exact h1
  · exact absurd (by simp [mg, List.getD, List.getElem?_eq_none (by omega : m.length ≤ x)]) h
theorem goneN_bit {m : List Int} (hm : m.length = 8) {x : Nat} : (goneN m).testBit x = true ↔ domM m x := by
  rw [goneN, goneK_bit]
  exact ⟨fun h => h.2, fun h => ⟨mg_out hm h, h⟩⟩
/-- The variables of an atom, and of its key, that have no number. -/
def VM (m : List Int) (a : Atm) : Nat := nSub (varsL a.2) (goneN m)
def KM (kl : Int → Nat) (m : List Int) (a : Atm) : Nat := nSub (varsL (a.2.take (kl a.1))) (goneN m)
section
variable {kl : Int → Nat} {atoms : List Atm} {m : List Int}
theorem getD_map {α : Type} (f : α → Nat) {l : List α} {i : Nat} (hi : i < l.length) : (l.map f).getD i 0 = f l[i] := by simp [List.getD, hi]
theorem vk_of (hm : m.length = 8) (hA : ∀ a ∈ atoms, okA a = true) : VK_ kl atoms (domM m) (atoms.map (VM m)) (atoms.map (KM kl m)) := by
  refine ⟨by simp, by simp, fun i hi x => ?_, fun i hi x => ?_, fun a ha x hx => ?_⟩
  · rw [getD_map _ hi]
    unfold VM
    rw [nSub_bit, Bool.and_eq_true, Bool.not_eq_true', ← Bool.not_eq_true, goneN_bit hm, varsL_bit]
  · rw [getD_map _ hi]
    unfold KM
    rw [nSub_bit, Bool.and_eq_true, Bool.not_eq_true', ← Bool.not_eq_true, goneN_bit hm, varsL_bit]
    rfl
  · have := (okA_iff.1 (hA a ha)).2.2.2.2 _ hx
    omega
/-! ## The atom that is answered first -/
def freeN (V K : List Nat) : Nat := ((List.range V.length).find? fun g => (List.range V.length).all fun f => !attN V K f g).getD V.length
def freeA (kl : Int → Nat) (atoms : List Atm) (m : List Int) : Nat := freeN (atoms.map (VM m)) (atoms.map (KM kl m))
theorem freeN_spec {V K : List Nat} {g0 : Nat} (hg : g0 < V.length) (h : ∀ f, f < V.length → attN V K f g0 = false) : freeN V K < V.length ∧ (∀ f, f < V.length → attN V K f (freeN V K) = false) ∧ ∀ j, j < freeN V K → ∃ f, f < V.length ∧ attN V K f j = true := by
  unfold freeN
  cases hf : (List.range V.length).find? fun g => (List.range V.length).all fun f => !attN V K f g with
  | none =>
    have := List.find?_eq_none.1 hf g0 (List.mem_range.2 hg)
    refine absurd ?_ this
    rw [List.all_eq_true]
    intro f hf
    rw [h f (List.mem_range.1 hf)]
    rfl
  | some g =>
    have h1 := List.find?_some hf
    have h2 := List.mem_of_find?_eq_some hf
    rw [List.all_eq_true] at h1
    refine ⟨List.mem_range.1 h2, fun f hf => by simpa using h1 f (List.mem_range.2 hf), fun j hj => ?_⟩
    have hj : j < g := hj
    have hgl := List.mem_range.1 h2
    obtain ⟨_, as1, bs1, hsplit, hno⟩ := List.find?_eq_some_iff_append.1 hf
    have hlen : as1.length = g := by
      have h3 : (List.range V.length)[as1.length]? = some g := by rw [hsplit]; simp
      have h4 := (List.getElem?_eq_some_iff.1 h3)
      obtain ⟨h5, h6⟩ := h4
      rw [List.getElem_range] at h6
      exact h6
    have hja : j ∈ as1 := by
      have h3 : (List.range V.length)[j]? = some j := by rw [List.getElem?_range (by omega)]
      rw [hsplit, List.getElem?_append_left (by omega)] at h3
      exact List.mem_of_getElem? h3
    have := hno j hja
    have h7 : ¬ ((List.range V.length).all fun f => !attN V K f j) = true := by simpa using this
    refine Classical.byContradiction fun hn => h7 ?_
    rw [List.all_eq_true]
    intro f hf
    cases hc : attN V K f j with
    | false => rfl
    | true => exact absurd ⟨f, List.mem_range.1 hf, hc⟩ hn
/-- Of atoms without a cycle of attacks: one that nothing attacks. -/
theorem freeA_spec (hm : m.length = 8) (hA : ∀ a ∈ atoms, okA a = true) (hpl : PlainA atoms) (hnd : atoms.Nodup) (hac : Acy kl atoms (domM m)) (hne : atoms ≠ []) : ∃ h : freeA kl atoms m < atoms.length, (∀ F ∈ atoms, ¬ Att kl atoms (domM m) F atoms[freeA kl atoms m]) ∧ (∀ f, f < atoms.length → attN (atoms.map (VM m)) (atoms.map (KM kl m)) f (freeA kl atoms m) = false) ∧ ∀ j, j < freeA kl atoms m → ∃ f, f < atoms.length ∧ attN (atoms.map (VM m)) (atoms.map (KM kl m)) f j = true := by
  have hvk := vk_of (kl := kl) hm hA
  obtain ⟨F0, hF0, hun⟩ := hac.free hne
  obtain ⟨g0, hg0, rfl⟩ := List.getElem_of_mem hF0
  have hl : (atoms.map (VM m)).length = atoms.length := by simp
  have h := freeN_spec (V := atoms.map (VM m)) (K := atoms.map (KM kl m)) (g0 := g0) (by rw [hl]; exact hg0) fun f hf => by
    rw [hl] at hf
    rw [← Bool.not_eq_true, attN_iff hvk hpl hnd hf hg0]
    exact hun _ (List.getElem_mem hf)
  rw [hl] at h
  obtain ⟨h1, h2, h3⟩ := h
  refine ⟨h1, fun F hF ha => ?_, h2, h3⟩
  obtain ⟨f, hf, rfl⟩ := List.getElem_of_mem hF
  have := h2 f hf
  rw [← Bool.not_eq_true, attN_iff hvk hpl hnd hf h1] at this
  exact this ha
end
/-! ## An atom and a fact -/
def fitP (m : Option (List Int)) (p : Int × Int) : Option (List Int) := m.bind fun m => if p.1 < 0 then (if p.2 = -p.1 then some m else none) else if mg m p.1.toNat ≠ 0 ∧ mg m p.1.toNat ≠ p.2 then none else some (m.set p.1.toNat p.2)
def fitR (xs ys m : List Int) : Option (List Int) := (xs.zip ys).foldl fitP (some m)
theorem fit_none : ∀ l : List (Int × Int), l.foldl fitP none = none
  | [] => rfl
  | p :: l => fit_none l
theorem fitR_nil (ys m : List Int) : fitR [] ys m = some m := rfl
theorem fitR_cons (x y : Int) (xs ys m : List Int) : fitR (x :: xs) (y :: ys) m = (fitP (some m) (x, y)).bind (fitR xs ys) := by
  show (xs.zip ys).foldl fitP (fitP (some m) (x, y)) = _
  cases fitP (some m) (x, y) with
  | none => exact fit_none _
  | some m1 => rfl
theorem mg_set {m : List Int} {x y : Nat} {z : Int} (hx : x < m.length) : mg (m.set x z) y = if y = x then z else mg m y := by
  unfold mg
  simp only [List.getD_eq_getElem?_getD, List.getElem?_set]
  by_cases h : x = y
  · subst h
    simp [hx]
  · rw [if_neg h, if_neg (fun e => h e.symm)]
theorem fitR_sound : ∀ {xs ys m m' : List Int}, (∀ x ∈ xs, x ≤ 7) → (∀ y ∈ ys, 1 ≤ y) → m.length = 8 → xs.length ≤ ys.length → fitR xs ys m = some m' →
    m'.length = 8 ∧ (∀ x, mg m x ≠ 0 → mg m' x = mg m x) ∧ xs.map (tV (mg m')) = ys.take xs.length ∧ ∀ x, mg m' x ≠ 0 ↔ mg m x ≠ 0 ∨ ((x : Nat) : Int) ∈ xs
  | [], ys, m, m', _, _, hm, _, h => by
    rw [fitR_nil] at h
    obtain rfl := Option.some.inj h
    exact ⟨hm, fun _ _ => rfl, rfl, fun x => by simp⟩
  | x :: xs, [], _, _, _, _, _, hl, _ => by simp at hl
  | x :: xs, y :: ys, m, m', hx, hy, hm, hl, h => by
    rw [fitR_cons] at h
    have hx0 := hx x (List.mem_cons_self ..)
    have hy0 := hy y (List.mem_cons_self ..)
    have step : ∀ m1, fitP (some m) (x, y) = some m1 → (m1.length = 8 ∧ (∀ z, mg m z ≠ 0 → mg m1 z = mg m z) ∧ (∀ z, mg m1 z ≠ 0 ↔ mg m z ≠ 0 ∨ (z : Int) = x)) ∧ ((x < 0 ∧ y = -x) ∨ (0 ≤ x ∧ mg m1 x.toNat = y)) := fun m1 h1 => by
      have h1 : (if x < 0 then (if y = -x then some m else none) else if mg m x.toNat ≠ 0 ∧ mg m x.toNat ≠ y then none else some (m.set x.toNat y)) = some m1 := h1
      by_cases hneg : x < 0
      · rw [if_pos hneg] at h1
        by_cases hyx : y = -x
        · rw [if_pos hyx] at h1
          obtain rfl := Option.some.inj h1
          refine ⟨⟨hm, fun _ _ => rfl, fun z => ?_⟩, .inl ⟨hneg, hyx⟩⟩
          constructor
          · exact .inl
          · rintro (h2 | h2)
            · exact h2
            · omega
        · rw [if_neg hyx] at h1; cases h1
      · rw [if_neg hneg] at h1
        by_cases hc : mg m x.toNat ≠ 0 ∧ mg m x.toNat ≠ y
        · rw [if_pos hc] at h1; cases h1
        · rw [if_neg hc] at h1
          obtain rfl := Option.some.inj h1
          have hxl : x.toNat < m.length := by omega
          refine ⟨⟨by rw [List.length_set]; exact hm, fun z hz => ?_, fun z => ?_⟩, .inr ⟨by omega, by rw [mg_set hxl, if_pos rfl]⟩⟩
          · rw [mg_set hxl]
            split
            · rename_i e
              subst e
              exact (Classical.byContradiction fun h => hc ⟨hz, h⟩ : mg m x.toNat = y).symm
            · rfl
          · rw [mg_set hxl]
            split
            · rename_i e
              subst e
              exact ⟨fun _ => .inr (by omega), fun _ => by omega⟩
            · rename_i e
              exact ⟨.inl, fun h => h.elim id fun h => absurd (by omega) e⟩
    cases h1 : fitP (some m) (x, y) with
    | none => rw [h1] at h; cases h
    | some m1 =>
      rw [h1] at h
      obtain ⟨⟨a1, a2, a3⟩, a4⟩ := step m1 h1
      obtain ⟨b1, b2, b3, b4⟩ := fitR_sound (fun z hz => hx z (List.mem_cons_of_mem _ hz)) (fun z hz => hy z (List.mem_cons_of_mem _ hz)) a1 (by simpa using hl) (show fitR xs ys m1 = some m' from h)
      refine ⟨b1, fun z hz => ?_, ?_, fun z => ?_⟩
      · rw [b2 z (by rw [a2 z hz]; exact hz), a2 z hz]
      · rw [List.map_cons, List.length_cons, List.take_succ_cons, b3]
        congr 1
        rcases a4 with ⟨c1, c2⟩ | ⟨c1, c2⟩
        · unfold tV
          rw [if_pos c1, c2]
        · unfold tV
          rw [if_neg (by omega), b2 _ (by rw [c2]; omega), c2]
      · rw [b4, a3, List.mem_cons, or_assoc]
/-! ## The rule -/
section
variable (kl : Int → Nat) (L : List Atm)
def rewR : Nat → List Atm → List Int → Bool
  | 0, _, _ => true
  | n + 1, atoms, m =>
    L.any fun f => decide (f.1 = (fa atoms (freeA kl atoms m)).1) && decide (f.2.length = (fa atoms (freeA kl atoms m)).2.length) && (fitR ((fa atoms (freeA kl atoms m)).2.take (kl (fa atoms (freeA kl atoms m)).1)) f.2 m).isSome &&
      L.all fun g => !decide (kF kl g = kF kl f) || (match fitR (fa atoms (freeA kl atoms m)).2 g.2 m with | none => false | some m' => rewR n (atoms.eraseIdx (freeA kl atoms m)) m')
variable {kl} {L}
theorem erase_mem {atoms : List Atm} (hnd : atoms.Nodup) {i : Nat} (hi : i < atoms.length) (a : Atm) : a ∈ atoms.eraseIdx i ↔ a ∈ atoms ∧ a ≠ atoms[i] := by
  rw [List.mem_eraseIdx_iff_getElem]
  constructor
  · rintro ⟨j, hj, hne, rfl⟩
    exact ⟨List.getElem_mem hj, fun e => hne (List.getElem_inj hnd |>.1 e)⟩
  · rintro ⟨h1, h2⟩
    obtain ⟨j, hj, rfl⟩ := List.getElem_of_mem h1
    exact ⟨j, hj, fun e => h2 (by subst e; rfl), rfl⟩
theorem Cert.congr {db atoms : List Atm} {D D' : Nat → Prop} {m m' : Nat → Int} (h : Cert kl db atoms D m) (hD : ∀ x, D' x → D x) (hD2 : ∀ x, D x → D' x) (hm : ∀ x, D x → m' x = m x) : Cert kl db atoms D' m' := fun r hr => by
  obtain ⟨θ, h1, h2⟩ := h r hr
  exact ⟨θ, fun x hx => (h1 x (hD x hx)).trans (hm x (hD x hx)).symm, h2⟩
theorem Acy.congr {atoms : List Atm} {D D' : Nat → Prop} (h : Acy kl atoms D) (hD : ∀ x, D' x ↔ D x) : Acy kl atoms D' := by
  have : D' = D := funext fun x => propext (hD x)
  rw [this]
  exact h
end
end Go.Proofs.YtmjpnfapjcfejaaDoor

/- Ears and elimination (Graham): what can be eliminated can be eliminated in every way. Of no program. No condition. -/
namespace Go.Proofs.YtmjpnfapjcfejaaDoor
set_option linter.unusedVariables false

section
variable (vs : Nat → Nat → Prop)
/-- i is an ear of S: what it shares with any other is in k. -/
def Ear (S : Nat → Prop) (i k : Nat) : Prop := S i ∧ S k ∧ i ≠ k ∧ ∀ j, S j → j ≠ i → ∀ x, vs i x → vs j x → vs k x
/-- S without i. -/
def Wo (S : Nat → Prop) (i : Nat) : Nat → Prop := fun j => S j ∧ j ≠ i
/-- n atoms can be eliminated down to one. -/
inductive Elim : (Nat → Prop) → Nat → Prop
  | one {S : Nat → Prop} {i : Nat} : (∀ j, S j ↔ j = i) → Elim S 1
  | step {S : Nat → Prop} {i k n : Nat} : Ear vs S i k → Elim (Wo S i) n → Elim S (n + 1)
variable {vs}
theorem Elim.congr {S S' : Nat → Prop} {n : Nat} (h : Elim vs S n) (e : ∀ j, S j ↔ S' j) : Elim vs S' n := by
  have : S = S' := funext fun j => propext (e j)
  exact this ▸ h
/-- Atoms may be renamed, if what any two share stays. -/
theorem Elim.map {f : Nat → Nat} {S : Nat → Prop} {n : Nat} (h : Elim vs S n) : (∀ a b, S a → S b → f a = f b → a = b) → (∀ a b, S a → S b → a ≠ b → ∀ x, (vs a x ∧ vs b x ↔ vs (f a) x ∧ vs (f b) x)) → ∀ {S' : Nat → Prop}, (∀ j', S' j' ↔ ∃ j, S j ∧ f j = j') → Elim vs S' n := by
  induction h with
  | @one S i hi =>
    intro _ _ S' hS'
    refine .one (i := f i) fun j' => ?_
    rw [hS']
    constructor
    · rintro ⟨j, hj, rfl⟩
      rw [(hi j).1 hj]
    · rintro rfl
      exact ⟨i, (hi i).2 rfl, rfl⟩
  | @step S i k n he hr ih =>
    intro hinj hsh S' hS'
    obtain ⟨h1, h2, h3, h4⟩ := he
    refine .step (i := f i) (k := f k) ⟨(hS' _).2 ⟨i, h1, rfl⟩, (hS' _).2 ⟨k, h2, rfl⟩, fun e => h3 (hinj _ _ h1 h2 e), fun j' hj' hne x hx hy => ?_⟩ ?_
    · obtain ⟨j, hj, rfl⟩ := (hS' _).1 hj'
      have hji : j ≠ i := fun e => hne (by rw [e])
      have h5 := (hsh i j h1 hj (Ne.symm hji) x).2 ⟨hx, hy⟩
      exact ((hsh i k h1 h2 h3 x).1 ⟨h5.1, h4 j hj hji x h5.1 h5.2⟩).2
    · refine ih (fun a b ha hb => hinj a b ha.1 hb.1) (fun a b ha hb => hsh a b ha.1 hb.1) fun j' => ?_
      unfold Wo
      rw [hS']
      constructor
      · rintro ⟨⟨j, hj, rfl⟩, hne⟩
        exact ⟨j, ⟨hj, fun e => hne (by rw [e])⟩, rfl⟩
      · rintro ⟨j, ⟨hj, hne⟩, rfl⟩
        exact ⟨⟨j, hj, rfl⟩, fun e => hne (hinj _ _ hj h1 e)⟩
/-- What can be eliminated has an ear. -/
theorem Elim.ear {n : Nat} {S : Nat → Prop} (h : Elim vs S (n + 2)) : ∃ i k, Ear vs S i k := by
  cases h with
  | step h1 h2 => exact ⟨_, _, h1⟩
end
end Go.Proofs.YtmjpnfapjcfejaaDoor

/- The deletion of ears with sets of variables as numbers: what it finds are ears. Of no program. No condition. -/
namespace Go.Proofs.YtmjpnfapjcfejaaDoor
set_option linter.unusedVariables false

/-- What the others that are left have. -/
def othG (left : Nat) (V : List Nat) (i : Nat) : List Nat → Nat := List.foldl (fun acc k => if k ≠ i ∧ left.testBit k = true then acc ||| V.getD k 0 else acc) 0
def othN (n left : Nat) (V : List Nat) (i : Nat) : Nat := othG left V i (List.range n)
theorem oth_go (left : Nat) (V : List Nat) (i x : Nat) : ∀ (l : List Nat) (acc : Nat), (l.foldl (fun acc k => if k ≠ i ∧ left.testBit k = true then acc ||| V.getD k 0 else acc) acc).testBit x = true ↔ acc.testBit x = true ∨ ∃ k ∈ l, k ≠ i ∧ left.testBit k = true ∧ (V.getD k 0).testBit x = true
  | [], acc => by simp
  | a :: r, acc => by
    rw [List.foldl_cons, oth_go left V i x r]
    by_cases h : a ≠ i ∧ left.testBit a = true
    · rw [if_pos h, Nat.testBit_or, Bool.or_eq_true]
      constructor
      · rintro ((h1 | h1) | ⟨k, h1, h2⟩)
        · exact .inl h1
        · exact .inr ⟨a, List.mem_cons_self .., h.1, h.2, h1⟩
        · exact .inr ⟨k, List.mem_cons_of_mem _ h1, h2⟩
      · rintro (h1 | ⟨k, h1, h2⟩)
        · exact .inl (.inl h1)
        · rcases List.mem_cons.1 h1 with rfl | h1
          · exact .inl (.inr h2.2.2)
          · exact .inr ⟨k, h1, h2⟩
    · rw [if_neg h]
      constructor
      · rintro (h1 | ⟨k, h1, h2⟩)
        · exact .inl h1
        · exact .inr ⟨k, List.mem_cons_of_mem _ h1, h2⟩
      · rintro (h1 | ⟨k, h1, h2⟩)
        · exact .inl h1
        · rcases List.mem_cons.1 h1 with rfl | h1
          · exact absurd ⟨h2.1, h2.2.1⟩ h
          · exact .inr ⟨k, h1, h2⟩
theorem oth_bit {n left : Nat} {V : List Nat} {i x : Nat} : (othN n left V i).testBit x = true ↔ ∃ k, k < n ∧ k ≠ i ∧ left.testBit k = true ∧ (V.getD k 0).testBit x = true := by
  unfold othN othG
  rw [oth_go]
  simp only [Nat.zero_testBit, Bool.false_eq_true, false_or, List.mem_range]
def cutN (n left : Nat) (V : List Nat) (i : Nat) : List Nat := V.set i (V.getD i 0 &&& othN n left V i)
def cutK (n left : Nat) (V : List Nat) (k : Nat) : List Nat := (List.range k).foldl (cutN n left) V
theorem cutK_succ (n left : Nat) (V : List Nat) (k : Nat) : cutK n left V (k + 1) = cutN n left (cutK n left V k) k := by
  unfold cutK
  rw [List.range_succ, List.foldl_append]
  rfl
/-- What is kept between the rounds. -/
structure EarI (vs : Nat → Nat → Prop) (n left : Nat) (V : List Nat) : Prop where
  len : V.length = n
  sub : ∀ i, i < n → left.testBit i = true → ∀ x, (V.getD i 0).testBit x = true → vs i x
  has : ∀ i k, i < n → k < n → i ≠ k → left.testBit i = true → left.testBit k = true → ∀ x, vs i x → vs k x → (V.getD i 0).testBit x = true
/-- Nothing but what is shared is kept of atom i. -/
def Tight (vs : Nat → Nat → Prop) (n left : Nat) (V : List Nat) (i : Nat) : Prop := ∀ x, (V.getD i 0).testBit x = true → ∃ k, k < n ∧ k ≠ i ∧ left.testBit k = true ∧ vs k x
section
variable {vs : Nat → Nat → Prop} {n left : Nat} {V : List Nat}
theorem getD_setN {l : List Nat} {k : Nat} (hk : k < l.length) (y i : Nat) : (l.set k y).getD i 0 = if i = k then y else l.getD i 0 := by
  simp only [List.getD, List.getElem?_set]
  by_cases h : k = i
  · subst h
    rw [if_pos rfl, if_pos rfl, if_pos hk]
    rfl
  · rw [if_neg h, if_neg (Ne.symm h)]
theorem cut_get (hl : V.length = n) {i : Nat} (hi : i < n) (k : Nat) : (cutN n left V i).getD k 0 = if k = i then V.getD i 0 &&& othN n left V i else V.getD k 0 := getD_setN (by omega) _ _
theorem EarI.cut (h : EarI vs n left V) {i : Nat} (hi : i < n) : EarI vs n left (cutN n left V i) := by
  refine ⟨by unfold cutN; rw [List.length_set]; exact h.len, fun j hj hlj x hx => ?_, fun j k hj hk hjk hlj hlk x hx hy => ?_⟩
  · rw [cut_get h.len hi] at hx
    split at hx
    · rename_i e
      subst e
      rw [Nat.testBit_and, Bool.and_eq_true] at hx
      exact h.sub j hj hlj x hx.1
    · exact h.sub j hj hlj x hx
  · rw [cut_get h.len hi]
    split
    · rename_i e
      subst e
      rw [Nat.testBit_and, Bool.and_eq_true]
      exact ⟨h.has j k hj hk hjk hlj hlk x hx hy, oth_bit.2 ⟨k, hk, Ne.symm hjk, hlk, h.has k j hk hj (Ne.symm hjk) hlk hlj x hy hx⟩⟩
    · exact h.has j k hj hk hjk hlj hlk x hx hy
theorem EarI.cutK (h : EarI vs n left V) : ∀ {k : Nat}, k ≤ n → EarI vs n left (cutK n left V k) ∧ ∀ i, i < k → Tight vs n left (cutK n left V k) i
  | 0, _ => ⟨h, fun i hi => by omega⟩
  | k + 1, hk => by
    obtain ⟨h1, h2⟩ := EarI.cutK h (k := k) (by omega)
    rw [cutK_succ]
    refine ⟨h1.cut (by omega), fun i hi x hx => ?_⟩
    rw [cut_get h1.len (by omega)] at hx
    split at hx
    · rename_i e
      subst e
      rw [Nat.testBit_and, Bool.and_eq_true] at hx
      obtain ⟨k, a1, a2, a3, a4⟩ := oth_bit.1 hx.2
      exact ⟨k, a1, a2, a3, h1.sub k a1 a3 x a4⟩
    · exact h2 i (by omega) x hx
end
/-! ## The pair that is taken: the last -/
def earT (left : Nat) (V : List Nat) (i k : Nat) : Bool := decide (k ≠ i) && left.testBit i && left.testBit k && decide (V.getD i 0 &&& V.getD k 0 = V.getD i 0)
theorem sub_bits {a b : Nat} : a &&& b = a ↔ ∀ x, a.testBit x = true → b.testBit x = true := by
  constructor
  · intro h x hx
    rw [← h, Nat.testBit_and, Bool.and_eq_true] at hx
    exact hx.2
  · intro h
    refine Nat.eq_of_testBit_eq fun x => ?_
    rw [Nat.testBit_and]
    cases hx : a.testBit x with
    | false => rfl
    | true => rw [h x hx]; rfl
def pickIn (left : Nat) (V : List Nat) (i m : Nat) (acc : Option (Nat × Nat)) : Option (Nat × Nat) := (List.range m).foldl (fun acc k => if earT left V i k = true then some (i, k) else acc) acc
def pickN (n left : Nat) (V : List Nat) (m : Nat) : Option (Nat × Nat) := (List.range m).foldl (fun acc i => pickIn left V i n acc) none
theorem pickIn_succ (left : Nat) (V : List Nat) (i m : Nat) (acc : Option (Nat × Nat)) : pickIn left V i (m + 1) acc = if earT left V i m = true then some (i, m) else pickIn left V i m acc := by
  unfold pickIn
  rw [List.range_succ, List.foldl_append]
  rfl
theorem pickN_succ (n left : Nat) (V : List Nat) (m : Nat) : pickN n left V (m + 1) = pickIn left V m n (pickN n left V m) := by
  unfold pickN
  rw [List.range_succ, List.foldl_append]
  rfl
theorem pick_some {n left : Nat} {V : List Nat} : ∀ {m : Nat} {i k : Nat}, m ≤ n → pickN n left V m = some (i, k) → i < n ∧ k < n ∧ earT left V i k = true := by
  have inn : ∀ {j : Nat}, j < n → ∀ m, m ≤ n → ∀ acc : Option (Nat × Nat), (∀ i k, acc = some (i, k) → i < n ∧ k < n ∧ earT left V i k = true) → ∀ i k, pickIn left V j m acc = some (i, k) → i < n ∧ k < n ∧ earT left V i k = true := fun {j} hj m => by
    induction m with
    | zero => intro _ acc h; exact h
    | succ m ih =>
      intro hm acc h i k he
      rw [pickIn_succ] at he
      split at he
      · rename_i ht
        obtain ⟨rfl, rfl⟩ : j = i ∧ m = k := by simpa using he
        exact ⟨hj, by omega, ht⟩
      · exact ih (by omega) acc h i k he
  intro m
  induction m with
  | zero => intro i k _ h; simp [pickN] at h
  | succ m ih =>
    intro i k hm h
    rw [pickN_succ] at h
    exact inn (by omega) n (Nat.le_refl _) _ (fun i k he => ih (by omega) he) i k h
end Go.Proofs.YtmjpnfapjcfejaaDoor

/- The deletion of ears as a relation between its states; what is left is one atom exactly if all can be eliminated. Of no program. No condition. -/
namespace Go.Proofs.YtmjpnfapjcfejaaDoor
set_option linter.unusedVariables false

/-- A set of bits without one. -/
def clr (left i : Nat) : Nat := VC.nSub left (2 ^ i)
/-- From what is left, with the sets and the parents so far, to what is left at the end. -/
inductive EarsR (n : Nat) : Nat → List Nat → List Int → Nat → List Int → Prop
  | stop {left : Nat} {V : List Nat} {p : List Int} : pickN n left (cutK n left V n) n = none → EarsR n left V p left p
  | go {left : Nat} {V : List Nat} {p : List Int} {i k l2 : Nat} {p2 : List Int} : pickN n left (cutK n left V n) n = some (i, k) → EarsR n (clr left i) (cutK n left V n) (p.set i (k : Int)) l2 p2 → EarsR n left V p l2 p2
/-- The parents do not matter for what is left. -/
theorem EarsR.left {n left : Nat} {V : List Nat} {p : List Int} {l2 : Nat} {p2 : List Int} (h : EarsR n left V p l2 p2) : ∀ (q : List Int), ∃ q2, EarsR n left V q l2 q2 := by
  induction h with
  | stop h1 => exact fun q => ⟨q, .stop h1⟩
  | go h1 _ ih =>
    intro q
    obtain ⟨q2, h2⟩ := ih (q.set _ _)
    exact ⟨q2, .go h1 h2⟩
def InS (n left : Nat) : Nat → Prop := fun j => j < n ∧ left.testBit j = true
theorem earT_iff {left : Nat} {V : List Nat} {i k : Nat} : earT left V i k = true ↔ k ≠ i ∧ left.testBit i = true ∧ left.testBit k = true ∧ ∀ x, (V.getD i 0).testBit x = true → (V.getD k 0).testBit x = true := by
  unfold earT
  simp only [Bool.and_eq_true, decide_eq_true_eq, sub_bits, and_assoc]
theorem clr_bit {left i j : Nat} : (clr left i).testBit j = true ↔ left.testBit j = true ∧ j ≠ i := by
  unfold clr
  rw [VC.nSub_bit, Nat.testBit_two_pow]
  simp only [Bool.and_eq_true, Bool.not_eq_true', decide_eq_false_iff_not]
  exact ⟨fun h => ⟨h.1, fun e => h.2 e.symm⟩, fun h => ⟨h.1, fun e => h.2 e.symm⟩⟩
end Go.Proofs.YtmjpnfapjcfejaaDoor

/- The parents that the deletion of ears leaves: a join tree. Of no program. No condition. -/
namespace Go.Proofs.YtmjpnfapjcfejaaDoor
set_option linter.unusedVariables false

def cnt (n left : Nat) : Nat := ((List.range n).filter fun i => left.testBit i).length
theorem cnt_clr {n left i : Nat} (h : InS n left i) : cnt n (clr left i) + 1 = cnt n left := by
  have e : ((List.range n).filter fun j => (clr left i).testBit j) = ((List.range n).filter fun j => left.testBit j).filter fun j => decide (j ≠ i) := by
    rw [List.filter_filter]
    refine List.filter_congr fun j _ => ?_
    rw [Bool.eq_iff_iff, clr_bit]
    simp [and_comm]
  have hm : i ∈ (List.range n).filter fun j => left.testBit j := List.mem_filter.2 ⟨List.mem_range.2 h.1, h.2⟩
  have hn : ((List.range n).filter fun j => left.testBit j).Nodup := List.nodup_range.filter _
  have e2 : (((List.range n).filter fun j => left.testBit j).filter fun j => decide (j ≠ i)) = ((List.range n).filter fun j => left.testBit j).erase i := by
    rw [hn.erase_eq_filter]
    refine List.filter_congr fun j _ => ?_
    simp [bne, Bool.beq_eq_decide_eq]
  unfold cnt
  rw [e, e2, List.length_erase_of_mem hm]
  have := List.length_pos_of_mem hm
  omega
theorem getD_setI {l : List Int} {k : Nat} (hk : k < l.length) (y : Int) (i : Nat) : (l.set k y).getD i 0 = if i = k then y else l.getD i 0 := by
  simp only [List.getD, List.getElem?_set]
  by_cases h : k = i
  · subst h
    rw [if_pos rfl, if_pos rfl, if_pos hk]
    rfl
  · rw [if_neg h, if_neg (Ne.symm h)]
end Go.Proofs.YtmjpnfapjcfejaaDoor

/- The list of the attacks; a cycle of attacks is two atoms that attack each other. Of no program. No condition. -/
namespace Go.Proofs.YtmjpnfapjcfejaaDoor
open VC
set_option linter.unusedSimpArgs false
set_option linter.unusedVariables false

abbrev At3 := Int × Int × Int
/-- The attacks of atom f, on atoms below g; and those of the atoms below f. -/
def atS (V K : List Nat) (f g : Nat) : At3 := ((f : Int), (g : Int), if strN V K f g = true then 1 else 0)
def atG (V K : List Nat) (f k : Nat) : List At3 := ((List.range k).filter (attN V K f)).map (atS V K f)
def atF (V K : List Nat) (k : Nat) : List At3 := (List.range k).flatMap fun f => atG V K f V.length
def attR (V K : List Nat) : List At3 := atF V K V.length
theorem atG_succ (V K : List Nat) (f k : Nat) : atG V K f (k + 1) = if attN V K f k = true then atG V K f k ++ [atS V K f k] else atG V K f k := by
  unfold atG
  rw [List.range_succ, List.filter_append, List.map_append]
  by_cases h : attN V K f k = true
  · rw [if_pos h]
    simp [h]
  · rw [if_neg h]
    simp [h]
theorem atF_succ (V K : List Nat) (k : Nat) : atF V K (k + 1) = atF V K k ++ atG V K k V.length := by
  unfold atF
  rw [List.range_succ, List.flatMap_append]
  simp
theorem atG_le (V K : List Nat) (f k : Nat) : (atG V K f k).length ≤ k := by
  unfold atG
  rw [List.length_map]
  have := List.length_filter_le (attN V K f) (List.range k)
  rwa [List.length_range] at this
theorem atF_le (V K : List Nat) : ∀ k, (atF V K k).length ≤ k * V.length
  | 0 => by simp [atF]
  | k + 1 => by
    rw [atF_succ, List.length_append, Nat.add_mul]
    have := atF_le V K k
    have := atG_le V K k V.length
    omega
theorem mem_attR {V K : List Nat} {e : At3} : e ∈ attR V K ↔ ∃ f g : Nat, f < V.length ∧ g < V.length ∧ attN V K f g = true ∧ e = atS V K f g := by
  unfold attR atF atG
  rw [List.mem_flatMap]
  constructor
  · rintro ⟨f, hf, h⟩
    obtain ⟨g, hg, rfl⟩ := List.mem_map.1 h
    obtain ⟨h1, h2⟩ := List.mem_filter.1 hg
    exact ⟨f, g, List.mem_range.1 hf, List.mem_range.1 h1, h2, rfl⟩
  · rintro ⟨f, g, hf, hg, h, rfl⟩
    exact ⟨f, List.mem_range.2 hf, List.mem_map.2 ⟨g, List.mem_filter.2 ⟨List.mem_range.2 hg, h⟩, rfl⟩⟩
def mutN (V K : List Nat) : Prop := ∃ f g, f < V.length ∧ g < V.length ∧ attN V K f g = true ∧ attN V K g f = true
section
variable {kl : Int → Nat} {atoms : List Atm} {D : Nat → Prop} {V K : List Nat}
theorem acy_mut (h : VK_ kl atoms D V K) (hpl : PlainA atoms) (hnd : atoms.Nodup) : Acy kl atoms D ↔ ¬ mutN V K := by
  constructor
  · rintro ⟨rk, hrk⟩ ⟨f, g, hf, hg, h1, h2⟩
    rw [h.lV] at hf hg
    have a := hrk _ (List.getElem_mem hf) _ (List.getElem_mem hg) ((attN_iff h hpl hnd hf hg).1 h1)
    have b := hrk _ (List.getElem_mem hg) _ (List.getElem_mem hf) ((attN_iff h hpl hnd hg hf).1 h2)
    omega
  · intro hn
    refine acy_of_two hpl fun F hF G hG h1 h2 => hn ?_
    obtain ⟨f, hf, rfl⟩ := List.getElem_of_mem hF
    obtain ⟨g, hg, rfl⟩ := List.getElem_of_mem hG
    exact ⟨f, g, by rw [h.lV]; exact hf, by rw [h.lV]; exact hg, (attN_iff h hpl hnd hf hg).2 h1, (attN_iff h hpl hnd hg hf).2 h2⟩
/-- Numbers that rise along the attacks, or two atoms that attack each other. -/
theorem rank_or (h : VK_ kl atoms D V K) (hpl : PlainA atoms) (hnd : atoms.Nodup) (hn : ¬ mutN V K) : ∃ rk : Nat → Nat, ∀ f g, f < V.length → g < V.length → attN V K f g = true → rk f < rk g := by
  obtain ⟨rk, hrk⟩ := (acy_mut h hpl hnd).2 hn
  refine ⟨fun i => rk (fa atoms i).1, fun f g hf hg ha => ?_⟩
  rw [h.lV] at hf hg
  dsimp only
  rw [fa_get hf, fa_get hg]
  exact hrk _ (List.getElem_mem hf) _ (List.getElem_mem hg) ((attN_iff h hpl hnd hf hg).1 ha)
end
/-! ## Deletion of the atoms that nothing attacks (the program's way) -/
/-- Atom i is left, and no atom that is left attacks it. -/
def freeT (V K : List Nat) (left i : Nat) : Prop := left.testBit i = true ∧ ∀ f, f < V.length → attN V K f i = true → left.testBit f = false
theorem least_bit {n left : Nat} (rk : Nat → Nat) (hne : left ≠ 0) (hl : left < 2 ^ n) : ∃ i, i < n ∧ left.testBit i = true ∧ ∀ j, j < n → left.testBit j = true → rk i ≤ rk j := by
  have hex : (List.range n).filter left.testBit ≠ [] := fun e => hne (Nat.eq_of_testBit_eq fun x => by
    rw [Nat.zero_testBit]
    rcases Nat.lt_or_ge x n with hx | hx
    · have := List.filter_eq_nil_iff.1 e x (List.mem_range.2 hx)
      simpa using this
    · exact Nat.testBit_lt_two_pow (Nat.lt_of_lt_of_le hl (Nat.pow_le_pow_right (by omega) hx)))
  obtain ⟨i, hi, hm⟩ := least_of rk hex
  obtain ⟨h1, h2⟩ := List.mem_filter.1 hi
  exact ⟨i, List.mem_range.1 h1, h2, fun j hj hb => hm j (List.mem_filter.2 ⟨List.mem_range.2 hj, hb⟩)⟩
theorem stuck_mut {V K : List Nat} {left : Nat} (hr : ¬ mutN V K → ∃ rk : Nat → Nat, ∀ f g, f < V.length → g < V.length → attN V K f g = true → rk f < rk g) (hne : left ≠ 0) (hl : left < 2 ^ V.length) (hno : ∀ i, i < V.length → ¬ freeT V K left i) : mutN V K := by
  refine Classical.byContradiction fun hn => ?_
  obtain ⟨rk, hrk⟩ := hr hn
  obtain ⟨i, hi, hb, hm⟩ := least_bit rk hne hl
  refine hno i hi ⟨hb, fun f hf ha => ?_⟩
  rw [← Bool.not_eq_true]
  intro hfb
  have := hrk f i hf hi ha
  have := hm f hf hfb
  omega
/-- Atoms that attack each other are left. -/
def MutIn (V K : List Nat) (left : Nat) : Prop := ∀ f g, f < V.length → g < V.length → attN V K f g = true → attN V K g f = true → left.testBit f = true
theorem MutIn.clr {V K : List Nat} {left i : Nat} (h : MutIn V K left) (hi : freeT V K left i) : MutIn V K (clr left i) := fun f g hf hg h1 h2 => by
  have e := h f g hf hg h1 h2
  refine clr_bit.2 ⟨e, ?_⟩
  rintro rfl
  have := hi.2 g hg h2
  rw [h g f hg hf h2 h1] at this
  cases this
theorem MutIn.zero {V K : List Nat} (h : MutIn V K 0) : ¬ mutN V K := fun ⟨f, g, hf, hg, h1, h2⟩ => by
  have := h f g hf hg h1 h2
  rw [Nat.zero_testBit] at this
  cases this
theorem MutIn.init {V K : List Nat} : MutIn V K (2 ^ V.length - 1) := fun f g hf hg _ _ => by
  rw [Nat.testBit_two_pow_sub_one]
  exact decide_eq_true hf
/-! ## What can be reached (the reference's way) -/
structure RchI (V K : List Nat) (c : List Nat) : Prop where
  len : c.length = 5
  lt : ∀ f, c.getD f 0 < 2 ^ V.length
  has : ∀ f g, f < V.length → g < V.length → attN V K f g = true → (c.getD f 0).testBit g = true
  rise : ∀ rk : Nat → Nat, (∀ f g, f < V.length → g < V.length → attN V K f g = true → rk f < rk g) → ∀ f g, f < V.length → (c.getD f 0).testBit g = true → rk f < rk g
theorem RchI.step {V K : List Nat} {c : List Nat} {f g : Nat} (h : RchI V K c) (hf : f < V.length) (hV : V.length ≤ 5) (hg : g < V.length) (hb : (c.getD f 0).testBit g = true) : RchI V K (c.set f (c.getD f 0 ||| c.getD g 0)) := by
  have get : ∀ i, (c.set f (c.getD f 0 ||| c.getD g 0)).getD i 0 = if i = f then c.getD f 0 ||| c.getD g 0 else c.getD i 0 := fun i => by
    simp only [List.getD_eq_getElem?_getD, List.getElem?_set]
    by_cases e : f = i
    · subst e
      have := h.len
      rw [if_pos rfl, if_pos (by omega), if_pos rfl]
      simp
    · rw [if_neg e, if_neg fun e2 => e e2.symm]
  refine ⟨by rw [List.length_set]; exact h.len, fun i => ?_, fun i j hi hj ha => ?_, fun rk hrk i j hi hb2 => ?_⟩
  · rw [get]
    split
    · exact Nat.or_lt_two_pow (h.lt f) (h.lt g)
    · exact h.lt i
  · rw [get]
    split
    · rename_i e
      subst e
      rw [Nat.testBit_or, h.has i j hi hj ha, Bool.true_or]
    · exact h.has i j hi hj ha
  · rw [get] at hb2
    split at hb2
    · rename_i e
      subst e
      rw [Nat.testBit_or, Bool.or_eq_true] at hb2
      rcases hb2 with h1 | h1
      · exact h.rise rk hrk i j hi h1
      · have a := h.rise rk hrk i g hi hb
        have b := h.rise rk hrk g j hg h1
        omega
    · exact h.rise rk hrk i j hi hb2
/-- Of atoms that attack each other: those whose turn has come reach themselves. -/
def SelfB (V K : List Nat) (c : List Nat) (p : Nat → Nat → Prop) : Prop := ∀ f g, f < V.length → g < V.length → attN V K f g = true → attN V K g f = true → p f g → (c.getD f 0).testBit f = true
theorem SelfB.mono {V K c : List Nat} {p q : Nat → Nat → Prop} (h : SelfB V K c p) (hpq : ∀ f g, f < V.length → g < V.length → q f g → p f g) : SelfB V K c q := fun f g hf hg h1 h2 hq => h f g hf hg h1 h2 (hpq f g hf hg hq)
theorem SelfB.step {V K : List Nat} {c : List Nat} {f g : Nat} {p : Nat → Nat → Prop} (h : RchI V K c) (hs : SelfB V K c p) (hf : f < V.length) (hV : V.length ≤ 5) (hg : g < V.length) : SelfB V K (c.set f (c.getD f 0 ||| c.getD g 0)) fun i j => p i j ∨ (i = f ∧ j = g) := fun i j hi hj h1 h2 hp => by
  have get : ∀ i, (c.set f (c.getD f 0 ||| c.getD g 0)).getD i 0 = if i = f then c.getD f 0 ||| c.getD g 0 else c.getD i 0 := fun i => by
    simp only [List.getD_eq_getElem?_getD, List.getElem?_set]
    by_cases e : f = i
    · subst e
      have := h.len
      rw [if_pos rfl, if_pos (by omega), if_pos rfl]
      simp
    · rw [if_neg e, if_neg fun e2 => e e2.symm]
  rw [get]
  rcases hp with hp | ⟨rfl, rfl⟩
  · have := hs i j hi hj h1 h2 hp
    split
    · rename_i e
      subst e
      rw [Nat.testBit_or, this, Bool.true_or]
    · exact this
  · rw [if_pos rfl, Nat.testBit_or, h.has j i hj hi h2, Bool.or_true]
end Go.Proofs.YtmjpnfapjcfejaaDoor
